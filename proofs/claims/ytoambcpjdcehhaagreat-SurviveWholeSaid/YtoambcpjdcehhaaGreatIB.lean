/- Texts: I6, I7, I8, I9. -/
import Derived.Test.YtoambcpjdcehhaaGreatIA
import Derived.Test.YtoambcpjdcehhaaGreatP0
/- What an operation makes of a cursor; Close, SetMode. -/
set_option linter.unusedVariables false
set_option linter.unusedSimpArgs false
namespace Go.Proofs.YtoambcpjdcehhaaGreat.Id
open Go Go.RowKit Go.Shelf Go.Proofs.YtoambcpjdcehhaaGreat.Can Go.Proofs.YtoambcpjdcehhaaGreat.Base Go.Proofs.YtoambcpjdcehhaaGreat.Tb
open Go.Proofs.YtoambcpjdcehhaaGreat.Fn hiding get_calls
attribute [local go_sem] clsB AB.cell

theorem blk_eight {w : World} {g : Nat} {t : TypeId} {fr : Nat × Nat} {a0 a1 a2 a3 a4 a5 a6 a7 : Value} (h : w.heap[g]? = some (.cells #[a0, a1, a2, a3, a4, a5, a6, a7] t fr)) (b0 b1 b2 b3 b4 b5 b6 b7 : Value) :
    ((((((((w.setCell ⟨g, 0, none⟩ b0).setCell ⟨g, 1, none⟩ b1).setCell ⟨g, 2, none⟩ b2).setCell ⟨g, 3, none⟩ b3).setCell ⟨g, 4, none⟩ b4).setCell ⟨g, 5, none⟩ b5).setCell ⟨g, 6, none⟩ b6).setCell ⟨g, 7, none⟩ b7).heap[g]? = some (.cells #[b0, b1, b2, b3, b4, b5, b6, b7] t fr) := by
  have h0 := blk_set h 0 b0 #[b0, a1, a2, a3, a4, a5, a6, a7] rfl
  have h1 := blk_set h0 1 b1 #[b0, b1, a2, a3, a4, a5, a6, a7] rfl
  have h2 := blk_set h1 2 b2 #[b0, b1, b2, a3, a4, a5, a6, a7] rfl
  have h3 := blk_set h2 3 b3 #[b0, b1, b2, b3, a4, a5, a6, a7] rfl
  have h4 := blk_set h3 4 b4 #[b0, b1, b2, b3, b4, a5, a6, a7] rfl
  have h5 := blk_set h4 5 b5 #[b0, b1, b2, b3, b4, b5, a6, a7] rfl
  have h6 := blk_set h5 6 b6 #[b0, b1, b2, b3, b4, b5, b6, a7] rfl
  have h7 := blk_set h6 7 b7 #[b0, b1, b2, b3, b4, b5, b6, b7] rfl
  exact h7
theorem eight_same {w : World} {g k : Nat} (hne : ¬ k = g) (b0 b1 b2 b3 b4 b5 b6 b7 : Value) : ((((((((w.setCell ⟨g, 0, none⟩ b0).setCell ⟨g, 1, none⟩ b1).setCell ⟨g, 2, none⟩ b2).setCell ⟨g, 3, none⟩ b3).setCell ⟨g, 4, none⟩ b4).setCell ⟨g, 5, none⟩ b5).setCell ⟨g, 6, none⟩ b6).setCell ⟨g, 7, none⟩ b7).heap[k]? = w.heap[k]? := by
  rw [Below.heap_setCell _ _ _ k hne, Below.heap_setCell _ _ _ k hne, Below.heap_setCell _ _ _ k hne, Below.heap_setCell _ _ _ k hne, Below.heap_setCell _ _ _ k hne, Below.heap_setCell _ _ _ k hne, Below.heap_setCell _ _ _ k hne, Below.heap_setCell _ _ _ k hne]
theorem fr_eight {X : Nat → Prop} {v w : World} (h : Fr X v w) {g : Nat} (hg : X g ∨ v.heap.size ≤ g) (b0 b1 b2 b3 b4 b5 b6 b7 : Value) : Fr X v ((((((((w.setCell ⟨g, 0, none⟩ b0).setCell ⟨g, 1, none⟩ b1).setCell ⟨g, 2, none⟩ b2).setCell ⟨g, 3, none⟩ b3).setCell ⟨g, 4, none⟩ b4).setCell ⟨g, 5, none⟩ b5).setCell ⟨g, 6, none⟩ b6).setCell ⟨g, 7, none⟩ b7) :=
  ((((((((h.set hg 0 b0).set hg 1 b1).set hg 2 b2).set hg 3 b3).set hg 4 b4).set hg 5 b5).set hg 6 b6).set hg 7 b7)
/-- What an operation makes of a cursor. -/
inductive Step (C : Cf) (l : Lx) : Cu → Opn → Res → Cu → Prop
  | fail (s : Cu) (o : Opn) (r : Res) : r.e ≠ 0 → r.n = 0 → Step C l s o r s
  | feed (s : Cu) (o : Opn) (j : Nat) (x : Tok) : o.k = 1 → s.cl = false → ((s.text.length : Int) + j ≤ lowC s + C.P.bytes) → j ≤ o.data.size → Step C l s o ⟨0, j, x⟩ { s with text := s.text ++ (bl o.data).take j }
  | shut (s : Cu) (o : Opn) (n : Int) (x : Tok) : o.k = 2 → s.cl = false → n = 0 → Step C l s o ⟨0, n, x⟩ { s with cl := true }
  | peek (s : Cu) (o : Opn) (n : Int) (x : Tok) : o.k = 3 → n = 0 → Step C l s o ⟨0, n, x⟩ s
  | last (s : Cu) (o : Opn) (n : Int) (x : Tok) : o.k = 4 → x.k = 3 → n = 0 → Step C l s o ⟨0, n, x⟩ s
  | take (s : Cu) (o : Opn) (n : Int) (x : Tok) (y : Sv) : o.k = 4 → x.k ≠ 3 → nextM l s.text s.cl s.now.at_ = some x → y.at_ = ⟨x.t, x.m⟩ → n = 0 → Step C l s o ⟨0, n, x⟩ { s with now := y, tr := pushL s.tr s.now.at_ (depthOf C) }
  | back (s : Cu) (o : Opn) (n : Int) (x : Tok) (y : Sv) (tr : List Spot) : o.k = 5 → s.tr = tr ++ [y.at_] → n = 0 → Step C l s o ⟨0, n, x⟩ { s with now := y, tr := tr }
  | mark (s : Cu) (o : Opn) (i : Nat) (q : Slot × List Spot) (x : Tok) : o.k = 6 → s.ls[i]? = some q → q.1.taken = false → Step C l s o ⟨0, (numb s.ls.length i q.1 : Nat), x⟩ { s with ls := s.ls.set i (took q.1 s.now (lowS s), s.tr) }
  | rewind (s : Cu) (o : Opn) (i : Nat) (q : Slot × List Spot) (n : Int) (x : Tok) : o.k = 7 → findL s.L o.n = some i → s.ls[i]? = some q → q.1.taken = true → n = 0 → Step C l s o ⟨0, n, x⟩ { s with now := q.1.v, tr := q.2 }
  | release (s : Cu) (o : Opn) (i : Nat) (q : Slot × List Spot) (n : Int) (x : Tok) : o.k = 8 → findL s.L o.n = some i → s.ls[i]? = some q → q.1.taken = true → n = 0 → Step C l s o ⟨0, n, x⟩ { s with ls := s.ls.set i (freed q.1, []) }
  | mode (s : Cu) (o : Opn) (n : Int) (x : Tok) (y : Sv) : o.k = 9 → 0 ≤ o.n → o.n < l.modes.length → y.at_ = ⟨s.now.at_.at_, o.n⟩ → n = 0 → Step C l s o ⟨0, n, x⟩ { s with now := y }
/-- What it touches. -/
structure CG (w w' : World) (C : Cf) (v v' : Value) (F F' : Nat → Prop) : Prop where
  fr : Fr (fun b => b = C.p ∨ b = C.T ∨ b = C.R ∨ v.ownBlock = some b) w w'
  own : v'.ownBlock = v.ownBlock ∨ ∃ g, v'.ownBlock = some g ∧ w.heap.size ≤ g
  new : ∀ k, F' k → F k ∨ w.heap.size ≤ k
/-- How an operation ends. -/
def Done (w w' : World) (C : Cf) (B : Nat) (v : Value) (F : Nat → Prop) (l : Lx) (s : Cu) (o : Opn) (e : Ending) : Prop :=
  ∃ r s' v' F', e = .returned (resV r) ∧ Step C l s o r s' ∧ CW w' C (B + 1) s' v' F' ∧ CG w w' C v v' F F'
section
variable {w U w' : World} {C : Cf} {B : Nat} {s s' : Cu} {v : Value} {F F' : Nat → Prop} {l : Lx} {o : Opn} {e : Ending}
theorem Done.stay (h : CW w C B s v F) (hb : Below w.heap.size w w') (r : Res) (he : e = .returned (resV r)) (hs : Step C l s o r s) : Done w w' C B v F l s o e :=
  ⟨r, s, v, F, he, hs, (h.below hb).more (Nat.le_succ B), Fr.of_below hb, .inl rfl, fun _ h => .inl h⟩
theorem Done.fail (h : CW w C B s v F) (hb : Below w.heap.size w w') (k : Int) (hk : k ≠ 0) (he : e = .returned (resV ⟨k, 0, tok0⟩)) : Done w w' C B v F l s o e :=
  Done.stay h hb _ he (.fail _ _ _ hk rfl)
theorem _root_.Go.Proofs.YtoambcpjdcehhaaGreat.Base.Fr.trans_lt {X Y : Nat → Prop} {a b c : World} (h : Fr X a b) (k : Fr Y b c) (hz : a.heap.size ≤ b.heap.size) (hY : ∀ q, q < a.heap.size → Y q → X q) : Fr X a c :=
  ⟨h.zero.trans k.zero, fun q hq hx => (k.same q (Nat.lt_of_lt_of_le hq hz) (fun hy => hx (hY q hq hy))).trans (h.same q hq hx)⟩
/-- The cursor's own cells are written: all but text and marks may be new. -/
theorem CW.turn {X : Nat → Prop} (h : CW w C B s v F) (hb : Below w.heap.size w U) (hf : Fr X U w') (hX : ∀ b, X b → b = C.p ∨ (w.heap.size ≤ b ∧ ¬ F' b)) (ho : w'.heap[C.p]? = some (.cells (cuC C s' v) 74 (0, 0))) (ht : s'.text = s.text) (hl : s'.ls = s.ls) (hF : ∀ k, F k → F' k) (hF2 : ∀ k, F' k → F k ∨ (w.heap.size ≤ k ∧ k < U.heap.size)) (hn : SvOk U F' (depthOf C) s'.now s'.tr) : CW w' C (B + 1) s' v F' ∧ CG w w' C v v F F' := by
  have h1 := h.below hb
  have hz := hb.size
  have hp := h.cells
  have hTl := blk_lt h.tab.str
  have hRl := h.tab.row.lt
  have hFp : ∀ k, F' k → k < U.heap.size ∧ C.base ≤ k ∧ k ≠ C.p ∧ k ≠ C.T ∧ k ≠ C.R ∧ v.ownBlock ≠ some k := fun k hk => by
    rcases hF2 k hk with h9 | h9
    · exact h1.frz k h9
    · refine ⟨h9.2, ?_, by omega, by omega, by omega, h.txt.ne_new h9.1⟩
      have := h.bp; omega
  have hL : s'.L = s.L := by unfold Cu.L; rw [hl]
  refine ⟨⟨ho, ?_, ?_, ?_, ?_, fun k hk => ⟨Nat.lt_of_lt_of_le (hFp k hk).1 hf.size, (hFp k hk).2⟩, h.np, h.nT, h.nR, h.pT, h.pR, h.bp, h.bT', h.bR⟩, ⟨?_, .inl rfl, fun k hk => (hF2 k hk).imp id And.left⟩⟩
  · rw [ht]
    refine Base.Own.move h1.txt (fun k hk => ?_) hf.size
    have hk' : v.ownBlock = some k := by rcases hk with hk | hk; exact hk.elim; exact hk
    refine hf.same k (h1.txt.lt hk').1 (fun he => ?_)
    rcases hX k he with he | he
    · exact h.np (by rw [← he]; exact hk')
    · exact h.txt.ne_new he.1 hk'
  · rw [hL]
    refine (h1.tab.more (Nat.le_succ B)).by hf (fun he => ?_) (fun he => ?_)
    · rcases hX _ he with he | he
      · exact h.pT he.symm
      · omega
    · rcases hX _ he with he | he
      · exact h.pR he.symm
      · omega
  · refine hn.move fun b hb9 => hf.same b (hFp b hb9).1 (fun he => ?_)
    rcases hX b he with he | he
    · exact (hFp b hb9).2.2.1 he
    · exact he.2 hb9
  · rw [hl]
    intro x hx htk
    refine ((h1.slots x hx htk).mono hF).move fun b hb9 => hf.same b (hFp b hb9).1 (fun he => ?_)
    rcases hX b he with he | he
    · exact (hFp b hb9).2.2.1 he
    · exact he.2 hb9
  · exact ((Fr.of_below hb).mono (X := fun b => b = C.p) (fun _ h => .inl h)).trans_lt hf hz (fun b hb he => by rcases hX b he with he | he; exact .inl he; omega)
theorem turn_more {w1 : World} {B' : Nat} {v' : Value} (h : CW w1 C B' s' v' F' ∧ CG w w1 C v v' F F') (hb : Below w1.heap.size w1 w') : CW w' C B' s' v' F' ∧ CG w w' C v v' F F' :=
  ⟨h.1.below hb, h.2.fr.trans (Fr.of_below hb), h.2.own, h.2.new⟩
set_option maxRecDepth 20000 in
theorem ishut_calls (h : CW w C B s v F) (hk : o.k = 2) : Calls Tryz.prog 51 #[.pointer (some ⟨C.p, 0, none⟩), opV o] w fun e w' => Done w w' C B v F l s o e := by
  have HH := Hd.mk h
  have HK := Hd.mk hk
  have ho := h.obj
  unfold cuC at ho
  unfold opV
  have hoc0 := blk_cell ho 0 _ rfl; have hof0 := blk_frozen ho 0; have hoc1 := blk_cell ho 1 _ rfl; have hof1 := blk_frozen ho 1; have hoc2 := blk_cell ho 2 _ rfl; have hof2 := blk_frozen ho 2; have hoc3 := blk_cell ho 3 _ rfl; have hof3 := blk_frozen ho 3; have hoc4 := blk_cell ho 4 _ rfl; have hof4 := blk_frozen ho 4; have hoc5 := blk_cell ho 5 _ rfl; have hof5 := blk_frozen ho 5; have hoc6 := blk_cell ho 6 _ rfl; have hof6 := blk_frozen ho 6; have hoc7 := blk_cell ho 7 _ rfl; have hof7 := blk_frozen ho 7; have hoc8 := blk_cell ho 8 _ rfl; have hof8 := blk_frozen ho 8; have hoc9 := blk_cell ho 9 _ rfl; have hof9 := blk_frozen ho 9; have hoc10 := blk_cell ho 10 _ rfl; have hof10 := blk_frozen ho 10; have hoc11 := blk_cell ho 11 _ rfl; have hof11 := blk_frozen ho 11; have hoc12 := blk_cell ho 12 _ rfl; have hof12 := blk_frozen ho 12; have hoc13 := blk_cell ho 13 _ rfl; have hof13 := blk_frozen ho 13; have hoc14 := blk_cell ho 14 _ rfl; have hof14 := blk_frozen ho 14; have hoc15 := blk_cell ho 15 _ rfl; have hof15 := blk_frozen ho 15; have hoc16 := blk_cell ho 16 _ rfl; have hof16 := blk_frozen ho 16; have hol := blk_lt ho
  have hp := h.cells
  have HO := Hd.mk ho
  have hv0 := blk_alloc (blk_new w (.cells #[.int .i64 o.k, .int .i64 o.n, .string o.data] 41 (0, 0)) _ rfl) (.cells #[.int .i64 0, .int .i64 0, .int .i64 0, .int .i64 0, .int .i64 0, .int .i64 0, .int .i64 0, .int .i64 0] 45 (0, 0))
  have hv1 := blk_new (w.alloc (.cells #[.int .i64 o.k, .int .i64 o.n, .string o.data] 41 (0, 0))) (.cells #[.int .i64 0, .int .i64 0, .int .i64 0, .int .i64 0, .int .i64 0, .int .i64 0, .int .i64 0, .int .i64 0] 45 (0, 0)) (w.heap.size + 1) (by rw [size_alloc])
  have HV0 := Hd.mk hv0; have HV1 := Hd.mk hv1
  clear h ho hk hv0 hv1
  cases hcl : s.cl with
  | true =>
    rw [hcl] at hoc11
    go_enter Tryz.func51, Tryz.ntmps51
    go_wp2_with (go_at_call 22; go_must (refine Calls.mono (fail_calls _ _) ?_; rintro e w1 ⟨rfl, hb1⟩; have hv1 := blk_below HV1.out hb1; have HX := Hd.mk hv1; have hv1c0 := blk_cell hv1 0 _ rfl; have hv1f0 := blk_frozen hv1 0; have hv1c1 := blk_cell hv1 1 _ rfl; have hv1f1 := blk_frozen hv1 1; have hv1c2 := blk_cell hv1 2 _ rfl; have hv1f2 := blk_frozen hv1 2; have hv1c3 := blk_cell hv1 3 _ rfl; have hv1f3 := blk_frozen hv1 3; have hv1c4 := blk_cell hv1 4 _ rfl; have hv1f4 := blk_frozen hv1 4; have hv1c5 := blk_cell hv1 5 _ rfl; have hv1f5 := blk_frozen hv1 5; have hv1c6 := blk_cell hv1 6 _ rfl; have hv1f6 := blk_frozen hv1 6; have hv1c7 := blk_cell hv1 7 _ rfl; have hv1f7 := blk_frozen hv1 7; have hv1l := blk_lt hv1; have HB1 := Hd.mk (below_seq (a := w) (by repeat (first | (with_reducible assumption) | (with_reducible exact Below.refl _ _) | (with_reducible apply below_drewL) | (with_reducible apply below_alloc) | (with_reducible apply below_drew1) | (with_reducible apply below_drewN) | (refine below_set ?_ (by first | omega | (simp only [size_alloc, size_drew, size_set]; omega)) _ _))) hb1); clear hv1 hb1))
    refine bodyPost_ret (results_cell_row rfl _ _ (w.heap.size + 1) 45 #[.int .i64 16, .int .i64 0, .int .i64 0, .int .i64 0, .int .i64 0, .int .i64 0, .int .i64 0, .int .i64 0] (0,0) _ rfl (blk_eight HX.out _ _ _ _ _ _ _ _) Tryz.underlying45 rfl (by kernel_rfl)) rfl ?_
    exact Done.fail HH.out ((fr_eight (Fr.of_below (X := fun _ => False) HB1.out) (.inr (by omega)) _ _ _ _ _ _ _ _).below (Nat.le_refl _) (fun _ _ h => h)) 16 (by first | assumption | decide) rfl
  | false =>
    rw [hcl] at hoc11
    go_enter Tryz.func51, Tryz.ntmps51
    go_wp2
    refine bodyPost_ret (results_cell_row rfl _ _ (w.heap.size + 1) 45 #[.int .i64 0, .int .i64 0, .int .i64 0, .int .i64 0, .int .i64 0, .int .i64 0, .int .i64 0, .int .i64 0] (0,0) _ rfl (blk_new _ _ _ (by simp only [size_alloc, size_set])) Tryz.underlying45 rfl (by kernel_rfl)) rfl ?_
    obtain ⟨h1, h2⟩ := turn_more (CW.turn (s' := { s with cl := true }) (F' := F) HH.out (Below.refl _ _) ((Fr.refl (fun b => b = C.p) w).set (.inl rfl) 11 (.bool true)) (fun _ h => .inl h) (blk_set HO.out 11 _ _ rfl) rfl rfl (fun _ h => h) (fun _ h => .inl h) HH.out.now) (below_alloc (below_alloc (Below.refl _ _) (.cells #[.int .i64 o.k, .int .i64 o.n, .string o.data] 41 (0, 0))) (.cells #[.int .i64 0, .int .i64 0, .int .i64 0, .int .i64 0, .int .i64 0, .int .i64 0, .int .i64 0, .int .i64 0] 45 (0, 0)))
    exact ⟨⟨0, 0, tok0⟩, _, v, F, rfl, .shut s o 0 tok0 HK.out hcl rfl, h1, h2⟩
set_option maxRecDepth 20000 in
set_option maxHeartbeats 2000000 in
theorem imode_calls {S : Nat → Prop} (h : CW w C B s v F) (hk : o.k = 9) (hL : LXC w S C l) : Calls Tryz.prog 58 #[.pointer (some ⟨C.p, 0, none⟩), opV o] w fun e w' => Done w w' C B v F l s o e := by
  have hm := hL.modes.1
  have hz := hL.modes.le
  clear hL
  have HM := Hd.mk hm
  clear hm
  have HH := Hd.mk h
  have HK := Hd.mk hk
  have ho := h.obj
  unfold cuC at ho
  unfold opV
  have hoc0 := blk_cell ho 0 _ rfl; have hof0 := blk_frozen ho 0; have hoc1 := blk_cell ho 1 _ rfl; have hof1 := blk_frozen ho 1; have hoc2 := blk_cell ho 2 _ rfl; have hof2 := blk_frozen ho 2; have hoc3 := blk_cell ho 3 _ rfl; have hof3 := blk_frozen ho 3; have hoc4 := blk_cell ho 4 _ rfl; have hof4 := blk_frozen ho 4; have hoc5 := blk_cell ho 5 _ rfl; have hof5 := blk_frozen ho 5; have hoc6 := blk_cell ho 6 _ rfl; have hof6 := blk_frozen ho 6; have hoc7 := blk_cell ho 7 _ rfl; have hof7 := blk_frozen ho 7; have hoc8 := blk_cell ho 8 _ rfl; have hof8 := blk_frozen ho 8; have hoc9 := blk_cell ho 9 _ rfl; have hof9 := blk_frozen ho 9; have hoc10 := blk_cell ho 10 _ rfl; have hof10 := blk_frozen ho 10; have hoc11 := blk_cell ho 11 _ rfl; have hof11 := blk_frozen ho 11; have hoc12 := blk_cell ho 12 _ rfl; have hof12 := blk_frozen ho 12; have hoc13 := blk_cell ho 13 _ rfl; have hof13 := blk_frozen ho 13; have hoc14 := blk_cell ho 14 _ rfl; have hof14 := blk_frozen ho 14; have hoc15 := blk_cell ho 15 _ rfl; have hof15 := blk_frozen ho 15; have hoc16 := blk_cell ho 16 _ rfl; have hof16 := blk_frozen ho 16; have hol := blk_lt ho
  have hp := h.cells
  have HO := Hd.mk ho
  have hv0 := blk_alloc (blk_new w (.cells #[.int .i64 o.k, .int .i64 o.n, .string o.data] 41 (0, 0)) _ rfl) (.cells #[.int .i64 0, .int .i64 0, .int .i64 0, .int .i64 0, .int .i64 0, .int .i64 0, .int .i64 0, .int .i64 0] 45 (0, 0))
  have hv1 := blk_new (w.alloc (.cells #[.int .i64 o.k, .int .i64 o.n, .string o.data] 41 (0, 0))) (.cells #[.int .i64 0, .int .i64 0, .int .i64 0, .int .i64 0, .int .i64 0, .int .i64 0, .int .i64 0, .int .i64 0] 45 (0, 0)) (w.heap.size + 1) (by rw [size_alloc])
  have HV0 := Hd.mk hv0; have HV1 := Hd.mk hv1
  clear h ho hk hv0 hv1
  by_cases h1 : o.n < 0
  · go_enter Tryz.func58, Tryz.ntmps58
    go_wp2
    generalize hV : World.alloc _ _ = V
    have HBV : Below w.heap.size w V := below_of hV (by repeat (first | (with_reducible assumption) | (with_reducible exact Below.refl _ _) | (with_reducible apply below_drewL) | (with_reducible apply below_alloc) | (with_reducible apply below_drew1) | (with_reducible apply below_drewN) | (refine below_set ?_ (by first | omega | (simp only [size_alloc, size_drew, size_set]; omega)) _ _)))
    have zV : Hd (V.heap.size = w.heap.size + 1 + 1) := ⟨by rw [← hV]; simp only [size_alloc]⟩
    have V0 := at_of hV (blk_alloc (blk_new _ _ _ rfl) _)
    have V0l := blk_lt V0
    have V1 := at_of hV (blk_new _ _ _ rfl)
    simp only [size_alloc] at V1
    have V1l := blk_lt V1
    clear hV
    have ho := blk_below HO.out HBV
    have hoc0 := blk_cell ho 0 _ rfl; have hof0 := blk_frozen ho 0; have hoc1 := blk_cell ho 1 _ rfl; have hof1 := blk_frozen ho 1; have hoc2 := blk_cell ho 2 _ rfl; have hof2 := blk_frozen ho 2; have hoc3 := blk_cell ho 3 _ rfl; have hof3 := blk_frozen ho 3; have hoc4 := blk_cell ho 4 _ rfl; have hof4 := blk_frozen ho 4; have hoc5 := blk_cell ho 5 _ rfl; have hof5 := blk_frozen ho 5; have hoc6 := blk_cell ho 6 _ rfl; have hof6 := blk_frozen ho 6; have hoc7 := blk_cell ho 7 _ rfl; have hof7 := blk_frozen ho 7; have hoc8 := blk_cell ho 8 _ rfl; have hof8 := blk_frozen ho 8; have hoc9 := blk_cell ho 9 _ rfl; have hof9 := blk_frozen ho 9; have hoc10 := blk_cell ho 10 _ rfl; have hof10 := blk_frozen ho 10; have hoc11 := blk_cell ho 11 _ rfl; have hof11 := blk_frozen ho 11; have hoc12 := blk_cell ho 12 _ rfl; have hof12 := blk_frozen ho 12; have hoc13 := blk_cell ho 13 _ rfl; have hof13 := blk_frozen ho 13; have hoc14 := blk_cell ho 14 _ rfl; have hof14 := blk_frozen ho 14; have hoc15 := blk_cell ho 15 _ rfl; have hof15 := blk_frozen ho 15; have hoc16 := blk_cell ho 16 _ rfl; have hof16 := blk_frozen ho 16; have hol := blk_lt ho
    have V0c0 := blk_cell V0 0 _ rfl
    have V0f0 := blk_frozen V0 0
    have V0c1 := blk_cell V0 1 _ rfl
    have V0f1 := blk_frozen V0 1
    have V0c2 := blk_cell V0 2 _ rfl
    have V0f2 := blk_frozen V0 2
    refine wp_region_can (.q [0, 1, 2, 3, 4, 5, 6, 7, 8, 9, 10, 11, 12, 13] (.done)) (clsB _) (by kernel_rfl) (by kernel_rfl) (by intro _ _ d _ _ h; cases d <;> exact h) (clsB_drew _) ?_
    refine can_q (l := [⟨_,_,_,_,_,_⟩, ⟨_,_,_,_,_,_⟩, ⟨_,_,_,_,_,_⟩, ⟨_,_,_,_,_,_⟩, ⟨_,_,_,_,_,_⟩, ⟨_,_,_,_,_,_⟩, ⟨_,_,_,_,_,_⟩, ⟨_,_,_,_,_,_⟩, ⟨_,_,_,_,_,_⟩, ⟨_,_,_,_,_,_⟩, ⟨_,_,_,_,_,_⟩, ⟨_,_,_,_,_,_⟩, ⟨_,_,_,_,_,_⟩, ⟨_,_,_,_,_,_⟩]) rfl ?_
    repeat (go_big_quiet_step (fail))
    refine wpQuiet_nil ?_
    refine can_done ?_
    generalize hU : V.drew = U
    have HU : Hd (Below w.heap.size w U) := ⟨by rw [← hU]; exact below_drew1 HBV⟩
    have HU1 : Hd (U.heap[w.heap.size + 1]? = some (.cells #[.int .i64 0, .int .i64 0, .int .i64 0, .int .i64 0, .int .i64 0, .int .i64 0, .int .i64 0, .int .i64 0] 45 (0, 0))) := ⟨by rw [← hU]; exact V1⟩
    go_wp2_with (go_at_call 22; go_must (refine Calls.mono (fail_calls _ _) ?_; rintro e w1 ⟨rfl, hb1⟩; have hv1 := blk_below HU1.out hb1; have HX := Hd.mk hv1; have hv1c0 := blk_cell hv1 0 _ rfl; have hv1f0 := blk_frozen hv1 0; have hv1c1 := blk_cell hv1 1 _ rfl; have hv1f1 := blk_frozen hv1 1; have hv1c2 := blk_cell hv1 2 _ rfl; have hv1f2 := blk_frozen hv1 2; have hv1c3 := blk_cell hv1 3 _ rfl; have hv1f3 := blk_frozen hv1 3; have hv1c4 := blk_cell hv1 4 _ rfl; have hv1f4 := blk_frozen hv1 4; have hv1c5 := blk_cell hv1 5 _ rfl; have hv1f5 := blk_frozen hv1 5; have hv1c6 := blk_cell hv1 6 _ rfl; have hv1f6 := blk_frozen hv1 6; have hv1c7 := blk_cell hv1 7 _ rfl; have hv1f7 := blk_frozen hv1 7; have hv1l := blk_lt hv1; have HB1 := Hd.mk (below_seq HU.out hb1); clear hv1 hb1))
    refine bodyPost_ret (results_cell_row rfl _ _ (w.heap.size + 1) 45 #[.int .i64 11, .int .i64 0, .int .i64 0, .int .i64 0, .int .i64 0, .int .i64 0, .int .i64 0, .int .i64 0] (0,0) _ rfl (blk_eight HX.out _ _ _ _ _ _ _ _) Tryz.underlying45 rfl (by kernel_rfl)) rfl ?_
    exact Done.fail HH.out ((fr_eight (Fr.of_below (X := fun _ => False) HB1.out) (.inr (by omega)) _ _ _ _ _ _ _ _).below (Nat.le_refl _) (fun _ _ h => h)) 11 (by first | assumption | decide) rfl
  · have hd1 : decide (o.n < 0) = false := by simpa using h1
    by_cases h2 : (C.n1 : Int) ≤ o.n
    all_goals
      go_enter Tryz.func58, Tryz.ntmps58
      go_wp2
      generalize hV : World.alloc _ _ = V
      have HBV : Below w.heap.size w V := below_of hV (by repeat (first | (with_reducible assumption) | (with_reducible exact Below.refl _ _) | (with_reducible apply below_drewL) | (with_reducible apply below_alloc) | (with_reducible apply below_drew1) | (with_reducible apply below_drewN) | (refine below_set ?_ (by first | omega | (simp only [size_alloc, size_drew, size_set]; omega)) _ _)))
      have zV : Hd (V.heap.size = w.heap.size + 1 + 1) := ⟨by rw [← hV]; simp only [size_alloc]⟩
      have V0 := at_of hV (blk_alloc (blk_new _ _ _ rfl) _)
      have V0l := blk_lt V0
      have V1 := at_of hV (blk_new _ _ _ rfl)
      simp only [size_alloc] at V1
      have V1l := blk_lt V1
      clear hV
      have ho := blk_below HO.out HBV
      have hoc0 := blk_cell ho 0 _ rfl; have hof0 := blk_frozen ho 0; have hoc1 := blk_cell ho 1 _ rfl; have hof1 := blk_frozen ho 1; have hoc2 := blk_cell ho 2 _ rfl; have hof2 := blk_frozen ho 2; have hoc3 := blk_cell ho 3 _ rfl; have hof3 := blk_frozen ho 3; have hoc4 := blk_cell ho 4 _ rfl; have hof4 := blk_frozen ho 4; have hoc5 := blk_cell ho 5 _ rfl; have hof5 := blk_frozen ho 5; have hoc6 := blk_cell ho 6 _ rfl; have hof6 := blk_frozen ho 6; have hoc7 := blk_cell ho 7 _ rfl; have hof7 := blk_frozen ho 7; have hoc8 := blk_cell ho 8 _ rfl; have hof8 := blk_frozen ho 8; have hoc9 := blk_cell ho 9 _ rfl; have hof9 := blk_frozen ho 9; have hoc10 := blk_cell ho 10 _ rfl; have hof10 := blk_frozen ho 10; have hoc11 := blk_cell ho 11 _ rfl; have hof11 := blk_frozen ho 11; have hoc12 := blk_cell ho 12 _ rfl; have hof12 := blk_frozen ho 12; have hoc13 := blk_cell ho 13 _ rfl; have hof13 := blk_frozen ho 13; have hoc14 := blk_cell ho 14 _ rfl; have hof14 := blk_frozen ho 14; have hoc15 := blk_cell ho 15 _ rfl; have hof15 := blk_frozen ho 15; have hoc16 := blk_cell ho 16 _ rfl; have hof16 := blk_frozen ho 16; have hol := blk_lt ho
      have V0c0 := blk_cell V0 0 _ rfl
      have V0f0 := blk_frozen V0 0
      have V0c1 := blk_cell V0 1 _ rfl
      have V0f1 := blk_frozen V0 1
      have V0c2 := blk_cell V0 2 _ rfl
      have V0f2 := blk_frozen V0 2
      refine wp_region_can (.q [0, 1, 2, 3, 4, 5, 6, 7, 8, 9, 10, 11, 12, 13] (.done)) (clsB _) (by kernel_rfl) (by kernel_rfl) (by intro _ _ d _ _ h; cases d <;> exact h) (clsB_drew _) ?_
      refine can_q (l := [⟨_,_,_,_,_,_⟩, ⟨_,_,_,_,_,_⟩, ⟨_,_,_,_,_,_⟩, ⟨_,_,_,_,_,_⟩, ⟨_,_,_,_,_,_⟩, ⟨_,_,_,_,_,_⟩, ⟨_,_,_,_,_,_⟩, ⟨_,_,_,_,_,_⟩, ⟨_,_,_,_,_,_⟩, ⟨_,_,_,_,_,_⟩, ⟨_,_,_,_,_,_⟩, ⟨_,_,_,_,_,_⟩, ⟨_,_,_,_,_,_⟩, ⟨_,_,_,_,_,_⟩]) rfl ?_
      repeat (go_big_quiet_step (fail))
      refine wpQuiet_nil ?_
      refine can_done ?_
      generalize hU : V.drew = U
      have HU : Hd (Below w.heap.size w U) := ⟨by rw [← hU]; exact below_drew1 HBV⟩
      have HU1 : Hd (U.heap[w.heap.size + 1]? = some (.cells #[.int .i64 0, .int .i64 0, .int .i64 0, .int .i64 0, .int .i64 0, .int .i64 0, .int .i64 0, .int .i64 0] 45 (0, 0))) := ⟨by rw [← hU]; exact V1⟩
    · go_wp2_with (go_at_call 22; go_must (refine Calls.mono (fail_calls _ _) ?_; rintro e w1 ⟨rfl, hb1⟩; have hv1 := blk_below HU1.out hb1; have HX := Hd.mk hv1; have hv1c0 := blk_cell hv1 0 _ rfl; have hv1f0 := blk_frozen hv1 0; have hv1c1 := blk_cell hv1 1 _ rfl; have hv1f1 := blk_frozen hv1 1; have hv1c2 := blk_cell hv1 2 _ rfl; have hv1f2 := blk_frozen hv1 2; have hv1c3 := blk_cell hv1 3 _ rfl; have hv1f3 := blk_frozen hv1 3; have hv1c4 := blk_cell hv1 4 _ rfl; have hv1f4 := blk_frozen hv1 4; have hv1c5 := blk_cell hv1 5 _ rfl; have hv1f5 := blk_frozen hv1 5; have hv1c6 := blk_cell hv1 6 _ rfl; have hv1f6 := blk_frozen hv1 6; have hv1c7 := blk_cell hv1 7 _ rfl; have hv1f7 := blk_frozen hv1 7; have hv1l := blk_lt hv1; have HB1 := Hd.mk (below_seq HU.out hb1); clear hv1 hb1))
      refine bodyPost_ret (results_cell_row rfl _ _ (w.heap.size + 1) 45 #[.int .i64 11, .int .i64 0, .int .i64 0, .int .i64 0, .int .i64 0, .int .i64 0, .int .i64 0, .int .i64 0] (0,0) _ rfl (blk_eight HX.out _ _ _ _ _ _ _ _) Tryz.underlying45 rfl (by kernel_rfl)) rfl ?_
      exact Done.fail HH.out ((fr_eight (Fr.of_below (X := fun _ => False) HB1.out) (.inr (by omega)) _ _ _ _ _ _ _ _).below (Nat.le_refl _) (fun _ _ h => h)) 11 (by first | assumption | decide) rfl
    · have hoU := blk_below HO.out HU.out
      have hv0U : U.heap[w.heap.size]? = some (.cells #[.int .i64 o.k, .int .i64 o.n, .string o.data] 41 (0, 0)) := by rw [← hU]; exact V0
      have hv1U := HU1.out
      have HOU := Hd.mk hoU
      clear hoc0 hof0 hoc1 hof1 hoc2 hof2 hoc3 hof3 hoc4 hof4 hoc5 hof5 hoc6 hof6 hoc7 hof7 hoc8 hof8 hoc9 hof9 hoc10 hof10 hoc11 hof11 hoc12 hof12 hoc13 hof13 hoc14 hof14 hoc15 hof15 hoc16 hof16 hol
      clear V0c0 V0f0 V0c1 V0f1 V0c2 V0f2 V0l
      clear V0 V1 V1l hU ho HBV
      have hoUc0 := blk_cell hoU 0 _ rfl; have hoUf0 := blk_frozen hoU 0; have hoUc1 := blk_cell hoU 1 _ rfl; have hoUf1 := blk_frozen hoU 1; have hoUc2 := blk_cell hoU 2 _ rfl; have hoUf2 := blk_frozen hoU 2; have hoUc3 := blk_cell hoU 3 _ rfl; have hoUf3 := blk_frozen hoU 3; have hoUc4 := blk_cell hoU 4 _ rfl; have hoUf4 := blk_frozen hoU 4; have hoUc5 := blk_cell hoU 5 _ rfl; have hoUf5 := blk_frozen hoU 5; have hoUc6 := blk_cell hoU 6 _ rfl; have hoUf6 := blk_frozen hoU 6; have hoUc7 := blk_cell hoU 7 _ rfl; have hoUf7 := blk_frozen hoU 7; have hoUc8 := blk_cell hoU 8 _ rfl; have hoUf8 := blk_frozen hoU 8; have hoUc9 := blk_cell hoU 9 _ rfl; have hoUf9 := blk_frozen hoU 9; have hoUc10 := blk_cell hoU 10 _ rfl; have hoUf10 := blk_frozen hoU 10; have hoUc11 := blk_cell hoU 11 _ rfl; have hoUf11 := blk_frozen hoU 11; have hoUc12 := blk_cell hoU 12 _ rfl; have hoUf12 := blk_frozen hoU 12; have hoUc13 := blk_cell hoU 13 _ rfl; have hoUf13 := blk_frozen hoU 13; have hoUc14 := blk_cell hoU 14 _ rfl; have hoUf14 := blk_frozen hoU 14; have hoUc15 := blk_cell hoU 15 _ rfl; have hoUf15 := blk_frozen hoU 15; have hoUc16 := blk_cell hoU 16 _ rfl; have hoUf16 := blk_frozen hoU 16; have hoUl := blk_lt hoU
      have hv0Uc0 := blk_cell hv0U 0 _ rfl; have hv0Uf0 := blk_frozen hv0U 0; have hv0Uc1 := blk_cell hv0U 1 _ rfl; have hv0Uf1 := blk_frozen hv0U 1; have hv0Uc2 := blk_cell hv0U 2 _ rfl; have hv0Uf2 := blk_frozen hv0U 2; have hv0Ul := blk_lt hv0U
      have hv1Uc0 := blk_cell hv1U 0 _ rfl; have hv1Uf0 := blk_frozen hv1U 0; have hv1Uc1 := blk_cell hv1U 1 _ rfl; have hv1Uf1 := blk_frozen hv1U 1; have hv1Uc2 := blk_cell hv1U 2 _ rfl; have hv1Uf2 := blk_frozen hv1U 2; have hv1Uc3 := blk_cell hv1U 3 _ rfl; have hv1Uf3 := blk_frozen hv1U 3; have hv1Uc4 := blk_cell hv1U 4 _ rfl; have hv1Uf4 := blk_frozen hv1U 4; have hv1Uc5 := blk_cell hv1U 5 _ rfl; have hv1Uf5 := blk_frozen hv1U 5; have hv1Uc6 := blk_cell hv1U 6 _ rfl; have hv1Uf6 := blk_frozen hv1U 6; have hv1Uc7 := blk_cell hv1U 7 _ rfl; have hv1Uf7 := blk_frozen hv1U 7; have hv1Ul := blk_lt hv1U
      clear hoU hv0U hv1U
      have hd2 : decide ((C.n1 : Int) ≤ o.n) = false := by simpa using h2
      go_wp2
      have hpw : C.p ≠ w.heap.size + 1 := by omega
      refine bodyPost_ret (results_cell_row rfl _ _ (w.heap.size + 1) 45 #[.int .i64 0, .int .i64 0, .int .i64 0, .int .i64 0, .int .i64 0, .int .i64 0, .int .i64 0, .int .i64 0] (0,0) _ rfl (blk_eight ((Below.heap_setCell _ _ _ _ hpw.symm).trans HU1.out) _ _ _ _ _ _ _ _) Tryz.underlying45 rfl (by kernel_rfl)) rfl ?_
      obtain ⟨g1, g2⟩ := CW.turn (s' := { s with now := { s.now with at_ := ⟨s.now.at_.at_, o.n⟩ } }) (F' := F) HH.out HU.out (fr_eight ((Fr.refl (fun b => b = C.p ∨ b = w.heap.size + 1) U).set (g := C.p) (.inl (.inl rfl)) 13 (.int .i64 o.n)) (g := w.heap.size + 1) (.inl (.inr rfl)) (.int .i64 0) (.int .i64 0) (.int .i64 0) (.int .i64 0) (.int .i64 0) (.int .i64 0) (.int .i64 0) (.int .i64 0))
        (fun b hb => hb.imp id (fun hb => ⟨by omega, fun hF => by have := (HH.out.frz b hF).1; omega⟩)) ((eight_same hpw _ _ _ _ _ _ _ _).trans (blk_set HOU.out 13 _ _ rfl)) rfl rfl (fun _ h => h) (fun _ h => .inl h) (by have hn := (HH.out.below HU.out).now; exact ⟨hn.row, hn.cap, hn.nil, hn.dep, hn.len⟩)
      exact ⟨⟨0, 0, tok0⟩, _, v, F, rfl, .mode s o 0 tok0 { s.now with at_ := ⟨s.now.at_.at_, o.n⟩ } HK.out (by omega) (by rw [HM.out]; omega) rfl rfl, g1, g2⟩
end
end Go.Proofs.YtoambcpjdcehhaaGreat.Id

/- Peek. -/
set_option linter.unusedVariables false
set_option linter.unusedSimpArgs false
namespace Go.Proofs.YtoambcpjdcehhaaGreat.Id
open Go Go.RowKit Go.Shelf Go.Proofs.YtoambcpjdcehhaaGreat.Can Go.Proofs.YtoambcpjdcehhaaGreat.Base Go.Proofs.YtoambcpjdcehhaaGreat.Tb
open Go.Proofs.YtoambcpjdcehhaaGreat.Fn hiding get_calls
attribute [local go_sem] clsB AB.cell
section
variable {w U w' : World} {C : Cf} {B : Nat} {s s' : Cu} {v : Value} {F F' : Nat → Prop} {l : Lx} {o : Opn} {e : Ending}

set_option maxRecDepth 20000 in
set_option maxHeartbeats 4000000 in
theorem ipeek_calls {S : Nat → Prop} (h : CW w C B s v F) (hk : o.k = 3) (hK : Ok C l s) (hr : rightB l = true) (hL : LXC w S C l) (ha : C.P.ahead ≤ 16) : Calls Tryz.prog 52 #[.pointer (some ⟨C.p, 0, none⟩), opV o] w fun e w' => Done w w' C B v F l s o e := by
  have HNX := Hd.mk (fun q (hq : Pin l s.text.length q) W (hW : Below w.heap.size w W) => inext_calls (h.below hW) hK hr (hL.below hW) q hq)
  have HP0 := Hd.mk hK.pin
  clear hL
  have HH := Hd.mk h
  have HK := Hd.mk hk
  have ho := h.obj
  unfold cuC at ho
  unfold opV
  have hoc0 := blk_cell ho 0 _ rfl; have hof0 := blk_frozen ho 0; have hoc1 := blk_cell ho 1 _ rfl; have hof1 := blk_frozen ho 1; have hoc2 := blk_cell ho 2 _ rfl; have hof2 := blk_frozen ho 2; have hoc3 := blk_cell ho 3 _ rfl; have hof3 := blk_frozen ho 3; have hoc4 := blk_cell ho 4 _ rfl; have hof4 := blk_frozen ho 4; have hoc5 := blk_cell ho 5 _ rfl; have hof5 := blk_frozen ho 5; have hoc6 := blk_cell ho 6 _ rfl; have hof6 := blk_frozen ho 6; have hoc7 := blk_cell ho 7 _ rfl; have hof7 := blk_frozen ho 7; have hoc8 := blk_cell ho 8 _ rfl; have hof8 := blk_frozen ho 8; have hoc9 := blk_cell ho 9 _ rfl; have hof9 := blk_frozen ho 9; have hoc10 := blk_cell ho 10 _ rfl; have hof10 := blk_frozen ho 10; have hoc11 := blk_cell ho 11 _ rfl; have hof11 := blk_frozen ho 11; have hoc12 := blk_cell ho 12 _ rfl; have hof12 := blk_frozen ho 12; have hoc13 := blk_cell ho 13 _ rfl; have hof13 := blk_frozen ho 13; have hoc14 := blk_cell ho 14 _ rfl; have hof14 := blk_frozen ho 14; have hoc15 := blk_cell ho 15 _ rfl; have hof15 := blk_frozen ho 15; have hoc16 := blk_cell ho 16 _ rfl; have hof16 := blk_frozen ho 16; have hol := blk_lt ho
  have hp := h.cells
  have HO := Hd.mk ho
  have hv0 := blk_alloc (blk_new w (.cells #[.int .i64 o.k, .int .i64 o.n, .string o.data] 41 (0, 0)) _ rfl) (.cells #[.int .i64 0, .int .i64 0, .int .i64 0, .int .i64 0, .int .i64 0, .int .i64 0, .int .i64 0, .int .i64 0] 45 (0, 0))
  have hv1 := blk_new (w.alloc (.cells #[.int .i64 o.k, .int .i64 o.n, .string o.data] 41 (0, 0))) (.cells #[.int .i64 0, .int .i64 0, .int .i64 0, .int .i64 0, .int .i64 0, .int .i64 0, .int .i64 0, .int .i64 0] 45 (0, 0)) (w.heap.size + 1) (by rw [size_alloc])
  have HV0 := Hd.mk hv0; have HV1 := Hd.mk hv1
  clear h ho hk hv0 hv1
  by_cases h1 : o.n < 1
  · skip
    go_enter Tryz.func52, Tryz.ntmps52
    go_wp2
    generalize hV : World.alloc _ _ = V
    have HBV : Below w.heap.size w V := below_of hV (by repeat (first | (with_reducible assumption) | (with_reducible exact Below.refl _ _) | (with_reducible apply below_drewL) | (with_reducible apply below_alloc) | (with_reducible apply below_drew1) | (with_reducible apply below_drewN) | (refine below_set ?_ (by first | omega | (simp only [size_alloc, size_drew, size_set]; omega)) _ _)))
    have zV : Hd (V.heap.size = w.heap.size + 1 + 1) := ⟨by rw [← hV]; simp only [size_alloc]⟩
    have V0 := at_of hV (blk_alloc (blk_new _ _ _ rfl) _)
    have V0l := blk_lt V0
    have V1 := at_of hV (blk_new _ _ _ rfl)
    simp only [size_alloc] at V1
    have V1l := blk_lt V1
    clear hV
    have ho := blk_below HO.out HBV
    have hoc0 := blk_cell ho 0 _ rfl; have hof0 := blk_frozen ho 0; have hoc1 := blk_cell ho 1 _ rfl; have hof1 := blk_frozen ho 1; have hoc2 := blk_cell ho 2 _ rfl; have hof2 := blk_frozen ho 2; have hoc3 := blk_cell ho 3 _ rfl; have hof3 := blk_frozen ho 3; have hoc4 := blk_cell ho 4 _ rfl; have hof4 := blk_frozen ho 4; have hoc5 := blk_cell ho 5 _ rfl; have hof5 := blk_frozen ho 5; have hoc6 := blk_cell ho 6 _ rfl; have hof6 := blk_frozen ho 6; have hoc7 := blk_cell ho 7 _ rfl; have hof7 := blk_frozen ho 7; have hoc8 := blk_cell ho 8 _ rfl; have hof8 := blk_frozen ho 8; have hoc9 := blk_cell ho 9 _ rfl; have hof9 := blk_frozen ho 9; have hoc10 := blk_cell ho 10 _ rfl; have hof10 := blk_frozen ho 10; have hoc11 := blk_cell ho 11 _ rfl; have hof11 := blk_frozen ho 11; have hoc12 := blk_cell ho 12 _ rfl; have hof12 := blk_frozen ho 12; have hoc13 := blk_cell ho 13 _ rfl; have hof13 := blk_frozen ho 13; have hoc14 := blk_cell ho 14 _ rfl; have hof14 := blk_frozen ho 14; have hoc15 := blk_cell ho 15 _ rfl; have hof15 := blk_frozen ho 15; have hoc16 := blk_cell ho 16 _ rfl; have hof16 := blk_frozen ho 16; have hol := blk_lt ho
    have V0c0 := blk_cell V0 0 _ rfl
    have V0f0 := blk_frozen V0 0
    have V0c1 := blk_cell V0 1 _ rfl
    have V0f1 := blk_frozen V0 1
    have V0c2 := blk_cell V0 2 _ rfl
    have V0f2 := blk_frozen V0 2
    refine wp_region_can (.q [0, 1, 2, 3, 4, 5, 6, 7, 8, 9, 10, 11, 12] (.done)) (clsB _) (by kernel_rfl) (by kernel_rfl) (by intro _ _ d _ _ h; cases d <;> exact h) (clsB_drew _) ?_
    refine can_q (l := [⟨_,_,_,_,_,_⟩, ⟨_,_,_,_,_,_⟩, ⟨_,_,_,_,_,_⟩, ⟨_,_,_,_,_,_⟩, ⟨_,_,_,_,_,_⟩, ⟨_,_,_,_,_,_⟩, ⟨_,_,_,_,_,_⟩, ⟨_,_,_,_,_,_⟩, ⟨_,_,_,_,_,_⟩, ⟨_,_,_,_,_,_⟩, ⟨_,_,_,_,_,_⟩, ⟨_,_,_,_,_,_⟩, ⟨_,_,_,_,_,_⟩]) rfl ?_
    repeat (go_big_quiet_step (fail))
    refine wpQuiet_nil ?_
    refine can_done ?_
    generalize hU : V.drew = U
    have HU : Hd (Below w.heap.size w U) := ⟨by rw [← hU]; exact below_drew1 HBV⟩
    have HU0 : Hd (U.heap[w.heap.size]? = some (.cells #[.int .i64 o.k, .int .i64 o.n, .string o.data] 41 (0, 0))) := ⟨by rw [← hU]; exact V0⟩
    have HU1 : Hd (U.heap[w.heap.size + 1]? = some (.cells #[.int .i64 0, .int .i64 0, .int .i64 0, .int .i64 0, .int .i64 0, .int .i64 0, .int .i64 0, .int .i64 0] 45 (0, 0))) := ⟨by rw [← hU]; exact V1⟩
    clear hoc0 hof0 hoc1 hof1 hoc2 hof2 hoc3 hof3 hoc4 hof4 hoc5 hof5 hoc6 hof6 hoc7 hof7 hoc8 hof8 hoc9 hof9 hoc10 hof10 hoc11 hof11 hoc12 hof12 hoc13 hof13 hoc14 hof14 hoc15 hof15 hoc16 hof16 hol
    clear V0c0 V0f0 V0c1 V0f1 V0c2 V0f2 V0l
    clear ho V0 V1 V1l HBV zV hU
    go_wp2_with (go_at_call 22; go_must (refine Calls.mono (fail_calls _ _) ?_; rintro e w1 ⟨rfl, hb1⟩; have hv1 := blk_below HU1.out hb1; have HX := Hd.mk hv1; have hv1c0 := blk_cell hv1 0 _ rfl; have hv1f0 := blk_frozen hv1 0; have hv1c1 := blk_cell hv1 1 _ rfl; have hv1f1 := blk_frozen hv1 1; have hv1c2 := blk_cell hv1 2 _ rfl; have hv1f2 := blk_frozen hv1 2; have hv1c3 := blk_cell hv1 3 _ rfl; have hv1f3 := blk_frozen hv1 3; have hv1c4 := blk_cell hv1 4 _ rfl; have hv1f4 := blk_frozen hv1 4; have hv1c5 := blk_cell hv1 5 _ rfl; have hv1f5 := blk_frozen hv1 5; have hv1c6 := blk_cell hv1 6 _ rfl; have hv1f6 := blk_frozen hv1 6; have hv1c7 := blk_cell hv1 7 _ rfl; have hv1f7 := blk_frozen hv1 7; have hv1l := blk_lt hv1; have HB1 := Hd.mk (below_seq HU.out hb1); clear hv1 hb1))
    refine bodyPost_ret (results_cell_row rfl _ _ (w.heap.size + 1) 45 #[.int .i64 1, .int .i64 0, .int .i64 0, .int .i64 0, .int .i64 0, .int .i64 0, .int .i64 0, .int .i64 0] (0,0) _ rfl (blk_eight HX.out _ _ _ _ _ _ _ _) Tryz.underlying45 rfl (by kernel_rfl)) rfl ?_
    exact Done.fail HH.out ((fr_eight (Fr.of_below (X := fun _ => False) HB1.out) (.inr (by omega)) _ _ _ _ _ _ _ _).below (Nat.le_refl _) (fun _ _ h => h)) 1 (by first | assumption | decide) rfl
  · have hd1 : decide (o.n < 1) = false := by simpa using h1
    by_cases h2 : C.P.ahead < o.n
    · skip
      go_enter Tryz.func52, Tryz.ntmps52
      go_wp2
      generalize hV : World.alloc _ _ = V
      have HBV : Below w.heap.size w V := below_of hV (by repeat (first | (with_reducible assumption) | (with_reducible exact Below.refl _ _) | (with_reducible apply below_drewL) | (with_reducible apply below_alloc) | (with_reducible apply below_drew1) | (with_reducible apply below_drewN) | (refine below_set ?_ (by first | omega | (simp only [size_alloc, size_drew, size_set]; omega)) _ _)))
      have zV : Hd (V.heap.size = w.heap.size + 1 + 1) := ⟨by rw [← hV]; simp only [size_alloc]⟩
      have V0 := at_of hV (blk_alloc (blk_new _ _ _ rfl) _)
      have V0l := blk_lt V0
      have V1 := at_of hV (blk_new _ _ _ rfl)
      simp only [size_alloc] at V1
      have V1l := blk_lt V1
      clear hV
      have ho := blk_below HO.out HBV
      have hoc0 := blk_cell ho 0 _ rfl; have hof0 := blk_frozen ho 0; have hoc1 := blk_cell ho 1 _ rfl; have hof1 := blk_frozen ho 1; have hoc2 := blk_cell ho 2 _ rfl; have hof2 := blk_frozen ho 2; have hoc3 := blk_cell ho 3 _ rfl; have hof3 := blk_frozen ho 3; have hoc4 := blk_cell ho 4 _ rfl; have hof4 := blk_frozen ho 4; have hoc5 := blk_cell ho 5 _ rfl; have hof5 := blk_frozen ho 5; have hoc6 := blk_cell ho 6 _ rfl; have hof6 := blk_frozen ho 6; have hoc7 := blk_cell ho 7 _ rfl; have hof7 := blk_frozen ho 7; have hoc8 := blk_cell ho 8 _ rfl; have hof8 := blk_frozen ho 8; have hoc9 := blk_cell ho 9 _ rfl; have hof9 := blk_frozen ho 9; have hoc10 := blk_cell ho 10 _ rfl; have hof10 := blk_frozen ho 10; have hoc11 := blk_cell ho 11 _ rfl; have hof11 := blk_frozen ho 11; have hoc12 := blk_cell ho 12 _ rfl; have hof12 := blk_frozen ho 12; have hoc13 := blk_cell ho 13 _ rfl; have hof13 := blk_frozen ho 13; have hoc14 := blk_cell ho 14 _ rfl; have hof14 := blk_frozen ho 14; have hoc15 := blk_cell ho 15 _ rfl; have hof15 := blk_frozen ho 15; have hoc16 := blk_cell ho 16 _ rfl; have hof16 := blk_frozen ho 16; have hol := blk_lt ho
      have V0c0 := blk_cell V0 0 _ rfl
      have V0f0 := blk_frozen V0 0
      have V0c1 := blk_cell V0 1 _ rfl
      have V0f1 := blk_frozen V0 1
      have V0c2 := blk_cell V0 2 _ rfl
      have V0f2 := blk_frozen V0 2
      refine wp_region_can (.q [0, 1, 2, 3, 4, 5, 6, 7, 8, 9, 10, 11, 12] (.done)) (clsB _) (by kernel_rfl) (by kernel_rfl) (by intro _ _ d _ _ h; cases d <;> exact h) (clsB_drew _) ?_
      refine can_q (l := [⟨_,_,_,_,_,_⟩, ⟨_,_,_,_,_,_⟩, ⟨_,_,_,_,_,_⟩, ⟨_,_,_,_,_,_⟩, ⟨_,_,_,_,_,_⟩, ⟨_,_,_,_,_,_⟩, ⟨_,_,_,_,_,_⟩, ⟨_,_,_,_,_,_⟩, ⟨_,_,_,_,_,_⟩, ⟨_,_,_,_,_,_⟩, ⟨_,_,_,_,_,_⟩, ⟨_,_,_,_,_,_⟩, ⟨_,_,_,_,_,_⟩]) rfl ?_
      repeat (go_big_quiet_step (fail))
      refine wpQuiet_nil ?_
      refine can_done ?_
      generalize hU : V.drew = U
      have HU : Hd (Below w.heap.size w U) := ⟨by rw [← hU]; exact below_drew1 HBV⟩
      have HU0 : Hd (U.heap[w.heap.size]? = some (.cells #[.int .i64 o.k, .int .i64 o.n, .string o.data] 41 (0, 0))) := ⟨by rw [← hU]; exact V0⟩
      have HU1 : Hd (U.heap[w.heap.size + 1]? = some (.cells #[.int .i64 0, .int .i64 0, .int .i64 0, .int .i64 0, .int .i64 0, .int .i64 0, .int .i64 0, .int .i64 0] 45 (0, 0))) := ⟨by rw [← hU]; exact V1⟩
      clear hoc0 hof0 hoc1 hof1 hoc2 hof2 hoc3 hof3 hoc4 hof4 hoc5 hof5 hoc6 hof6 hoc7 hof7 hoc8 hof8 hoc9 hof9 hoc10 hof10 hoc11 hof11 hoc12 hof12 hoc13 hof13 hoc14 hof14 hoc15 hof15 hoc16 hof16 hol
      clear V0c0 V0f0 V0c1 V0f1 V0c2 V0f2 V0l
      clear ho V0 V1 V1l HBV zV hU
      go_wp2_with (go_at_call 22; go_must (refine Calls.mono (fail_calls _ _) ?_; rintro e w1 ⟨rfl, hb1⟩; have hv1 := blk_below HU1.out hb1; have HX := Hd.mk hv1; have hv1c0 := blk_cell hv1 0 _ rfl; have hv1f0 := blk_frozen hv1 0; have hv1c1 := blk_cell hv1 1 _ rfl; have hv1f1 := blk_frozen hv1 1; have hv1c2 := blk_cell hv1 2 _ rfl; have hv1f2 := blk_frozen hv1 2; have hv1c3 := blk_cell hv1 3 _ rfl; have hv1f3 := blk_frozen hv1 3; have hv1c4 := blk_cell hv1 4 _ rfl; have hv1f4 := blk_frozen hv1 4; have hv1c5 := blk_cell hv1 5 _ rfl; have hv1f5 := blk_frozen hv1 5; have hv1c6 := blk_cell hv1 6 _ rfl; have hv1f6 := blk_frozen hv1 6; have hv1c7 := blk_cell hv1 7 _ rfl; have hv1f7 := blk_frozen hv1 7; have hv1l := blk_lt hv1; have HB1 := Hd.mk (below_seq HU.out hb1); clear hv1 hb1))
      refine bodyPost_ret (results_cell_row rfl _ _ (w.heap.size + 1) 45 #[.int .i64 1, .int .i64 0, .int .i64 0, .int .i64 0, .int .i64 0, .int .i64 0, .int .i64 0, .int .i64 0] (0,0) _ rfl (blk_eight HX.out _ _ _ _ _ _ _ _) Tryz.underlying45 rfl (by kernel_rfl)) rfl ?_
      exact Done.fail HH.out ((fr_eight (Fr.of_below (X := fun _ => False) HB1.out) (.inr (by omega)) _ _ _ _ _ _ _ _).below (Nat.le_refl _) (fun _ _ h => h)) 1 (by first | assumption | decide) rfl
    · have hd2 : decide (C.P.ahead < o.n) = false := by simpa using h2
      obtain ⟨N, hN⟩ : ∃ N : Nat, o.n = N := ⟨o.n.toNat, by omega⟩
      have hN16 : N ≤ 16 := by omega
      have HN := Hd.mk hN
      clear hN
      go_enter Tryz.func52, Tryz.ntmps52
      go_wp2
      generalize hV : World.alloc _ _ = V
      have HBV : Below w.heap.size w V := below_of hV (by repeat (first | (with_reducible assumption) | (with_reducible exact Below.refl _ _) | (with_reducible apply below_drewL) | (with_reducible apply below_alloc) | (with_reducible apply below_drew1) | (with_reducible apply below_drewN) | (refine below_set ?_ (by first | omega | (simp only [size_alloc, size_drew, size_set]; omega)) _ _)))
      have zV : Hd (V.heap.size = w.heap.size + 1 + 1) := ⟨by rw [← hV]; simp only [size_alloc]⟩
      have V0 := at_of hV (blk_alloc (blk_new _ _ _ rfl) _)
      have V0l := blk_lt V0
      have V1 := at_of hV (blk_new _ _ _ rfl)
      simp only [size_alloc] at V1
      have V1l := blk_lt V1
      clear hV
      have ho := blk_below HO.out HBV
      have hoc0 := blk_cell ho 0 _ rfl; have hof0 := blk_frozen ho 0; have hoc1 := blk_cell ho 1 _ rfl; have hof1 := blk_frozen ho 1; have hoc2 := blk_cell ho 2 _ rfl; have hof2 := blk_frozen ho 2; have hoc3 := blk_cell ho 3 _ rfl; have hof3 := blk_frozen ho 3; have hoc4 := blk_cell ho 4 _ rfl; have hof4 := blk_frozen ho 4; have hoc5 := blk_cell ho 5 _ rfl; have hof5 := blk_frozen ho 5; have hoc6 := blk_cell ho 6 _ rfl; have hof6 := blk_frozen ho 6; have hoc7 := blk_cell ho 7 _ rfl; have hof7 := blk_frozen ho 7; have hoc8 := blk_cell ho 8 _ rfl; have hof8 := blk_frozen ho 8; have hoc9 := blk_cell ho 9 _ rfl; have hof9 := blk_frozen ho 9; have hoc10 := blk_cell ho 10 _ rfl; have hof10 := blk_frozen ho 10; have hoc11 := blk_cell ho 11 _ rfl; have hof11 := blk_frozen ho 11; have hoc12 := blk_cell ho 12 _ rfl; have hof12 := blk_frozen ho 12; have hoc13 := blk_cell ho 13 _ rfl; have hof13 := blk_frozen ho 13; have hoc14 := blk_cell ho 14 _ rfl; have hof14 := blk_frozen ho 14; have hoc15 := blk_cell ho 15 _ rfl; have hof15 := blk_frozen ho 15; have hoc16 := blk_cell ho 16 _ rfl; have hof16 := blk_frozen ho 16; have hol := blk_lt ho
      have V0c0 := blk_cell V0 0 _ rfl
      have V0f0 := blk_frozen V0 0
      have V0c1 := blk_cell V0 1 _ rfl
      have V0f1 := blk_frozen V0 1
      have V0c2 := blk_cell V0 2 _ rfl
      have V0f2 := blk_frozen V0 2
      refine wp_region_can (.q [0, 1, 2, 3, 4, 5, 6, 7, 8, 9, 10, 11, 12] (.done)) (clsB _) (by kernel_rfl) (by kernel_rfl) (by intro _ _ d _ _ h; cases d <;> exact h) (clsB_drew _) ?_
      refine can_q (l := [⟨_,_,_,_,_,_⟩, ⟨_,_,_,_,_,_⟩, ⟨_,_,_,_,_,_⟩, ⟨_,_,_,_,_,_⟩, ⟨_,_,_,_,_,_⟩, ⟨_,_,_,_,_,_⟩, ⟨_,_,_,_,_,_⟩, ⟨_,_,_,_,_,_⟩, ⟨_,_,_,_,_,_⟩, ⟨_,_,_,_,_,_⟩, ⟨_,_,_,_,_,_⟩, ⟨_,_,_,_,_,_⟩, ⟨_,_,_,_,_,_⟩]) rfl ?_
      repeat (go_big_quiet_step (fail))
      refine wpQuiet_nil ?_
      refine can_done ?_
      generalize hU : V.drew = U
      have HU : Hd (Below w.heap.size w U) := ⟨by rw [← hU]; exact below_drew1 HBV⟩
      have HU0 : Hd (U.heap[w.heap.size]? = some (.cells #[.int .i64 o.k, .int .i64 o.n, .string o.data] 41 (0, 0))) := ⟨by rw [← hU]; exact V0⟩
      have HU1 : Hd (U.heap[w.heap.size + 1]? = some (.cells #[.int .i64 0, .int .i64 0, .int .i64 0, .int .i64 0, .int .i64 0, .int .i64 0, .int .i64 0, .int .i64 0] 45 (0, 0))) := ⟨by rw [← hU]; exact V1⟩
      clear hoc0 hof0 hoc1 hof1 hoc2 hof2 hoc3 hof3 hoc4 hof4 hoc5 hof5 hoc6 hof6 hoc7 hof7 hoc8 hof8 hoc9 hof9 hoc10 hof10 hoc11 hof11 hoc12 hof12 hoc13 hof13 hoc14 hof14 hoc15 hof15 hoc16 hof16 hol
      clear V0c0 V0f0 V0c1 V0f1 V0c2 V0f2 V0l
      clear ho V0 V1 V1l HBV zV hU
      have hoU := blk_below HO.out HU.out
      have hv0U := HU0.out
      rw [HN.out] at hv0U
      have hoUc0 := blk_cell hoU 0 _ rfl; have hoUf0 := blk_frozen hoU 0; have hoUc1 := blk_cell hoU 1 _ rfl; have hoUf1 := blk_frozen hoU 1; have hoUc2 := blk_cell hoU 2 _ rfl; have hoUf2 := blk_frozen hoU 2; have hoUc3 := blk_cell hoU 3 _ rfl; have hoUf3 := blk_frozen hoU 3; have hoUc4 := blk_cell hoU 4 _ rfl; have hoUf4 := blk_frozen hoU 4; have hoUc5 := blk_cell hoU 5 _ rfl; have hoUf5 := blk_frozen hoU 5; have hoUc6 := blk_cell hoU 6 _ rfl; have hoUf6 := blk_frozen hoU 6; have hoUc7 := blk_cell hoU 7 _ rfl; have hoUf7 := blk_frozen hoU 7; have hoUc8 := blk_cell hoU 8 _ rfl; have hoUf8 := blk_frozen hoU 8; have hoUc9 := blk_cell hoU 9 _ rfl; have hoUf9 := blk_frozen hoU 9; have hoUc10 := blk_cell hoU 10 _ rfl; have hoUf10 := blk_frozen hoU 10; have hoUc11 := blk_cell hoU 11 _ rfl; have hoUf11 := blk_frozen hoU 11; have hoUc12 := blk_cell hoU 12 _ rfl; have hoUf12 := blk_frozen hoU 12; have hoUc13 := blk_cell hoU 13 _ rfl; have hoUf13 := blk_frozen hoU 13; have hoUc14 := blk_cell hoU 14 _ rfl; have hoUf14 := blk_frozen hoU 14; have hoUc15 := blk_cell hoU 15 _ rfl; have hoUf15 := blk_frozen hoU 15; have hoUc16 := blk_cell hoU 16 _ rfl; have hoUf16 := blk_frozen hoU 16; have hoUl := blk_lt hoU
      have hv0Uc0 := blk_cell hv0U 0 _ rfl; have hv0Uf0 := blk_frozen hv0U 0; have hv0Uc1 := blk_cell hv0U 1 _ rfl; have hv0Uf1 := blk_frozen hv0U 1; have hv0Uc2 := blk_cell hv0U 2 _ rfl; have hv0Uf2 := blk_frozen hv0U 2; have hv0Ul := blk_lt hv0U
      clear hv0U hoU h1 h2 hd1 hd2
      go_wp2
      generalize hZ : World.alloc _ _ = Z
      have HBZ : Below U.heap.size U Z := below_of hZ (by repeat (first | (with_reducible assumption) | (with_reducible exact Below.refl _ _) | (with_reducible apply below_drewL) | (with_reducible apply below_alloc) | (with_reducible apply below_drew1) | (with_reducible apply below_drewN) | (refine below_set ?_ (by first | omega | (simp only [size_alloc, size_drew, size_set]; omega)) _ _)))
      have zZ : Hd (Z.heap.size = U.heap.size + 1 + 1) := ⟨by rw [← hZ]; simp only [size_alloc]⟩
      have Z0 := at_of hZ (blk_alloc (blk_new _ _ _ rfl) _)
      have Z0l := blk_lt Z0
      have Z1 := at_of hZ (blk_new _ _ _ rfl)
      simp only [size_alloc] at Z1
      have Z1l := blk_lt Z1
      clear hZ
      have HBZ2 := Hd.mk (below_seq HU.out HBZ)
      have hzU := HU.out.size
      have HZ1 := Hd.mk (blk_below HU1.out HBZ)
      have hwl : w.heap.size + 1 < U.heap.size := blk_lt HU1.out
      clear hoUc0 hoUf0 hoUc1 hoUf1 hoUc2 hoUf2 hoUc3 hoUf3 hoUc4 hoUf4 hoUc5 hoUf5 hoUc6 hoUf6 hoUc7 hoUf7 hoUc8 hoUf8 hoUc9 hoUf9 hoUc10 hoUf10 hoUc11 hoUf11 hoUc12 hoUf12 hoUc13 hoUf13 hoUc14 hoUf14 hoUc15 hoUf15 hoUc16 hoUf16 hoUl
      clear hv0Uc0 hv0Uf0 hv0Uc1 hv0Uf1 hv0Uc2 hv0Uf2 hv0Ul
      have HZ5 := Hd.mk Z0; have HZ6 := Hd.mk Z1
      obtain ⟨T6, hT6⟩ : ∃ T, U.heap.size + 1 = T := ⟨_, rfl⟩
      rw [hT6] at HZ6 ⊢
      obtain ⟨T5, hT5⟩ : ∃ T, U.heap.size = T := ⟨_, rfl⟩
      rw [hT5] at HZ5 hwl hzU ⊢
      have hn56 : ¬ T5 = T6 := by omega
      have hn65 : ¬ T6 = T5 := by omega
      have hn15 : ¬ w.heap.size + 1 = T5 := by omega
      have hn16 : ¬ w.heap.size + 1 = T6 := by omega
      have hw5 : w.heap.size ≤ T5 := by omega
      have hw6 : w.heap.size ≤ T6 := by omega
      have hcp5 : ¬ C.p = T5 := by omega
      clear Z0 Z1 Z0l Z1l HBZ zZ hT5 hT6 hzU
      go_loopw [29, 7] (fun i x wr => ∃ (k : Nat) (q : Spot) (tk : Tok), k ≤ N ∧ i = .int .i64 k ∧ Hd (wr.heap[T5]? = some (.cells #[.int .i64 tk.k, .int .i64 tk.r, .int .i64 tk.f, .int .i64 tk.a, .int .i64 tk.t, .int .i64 tk.m] 43 (0, 0))) ∧ Hd (wr.heap[T6]? = some (.cells #[.int .i64 q.at_, .int .i64 q.mode] 57 (0, 0))) ∧
        Hd (wr.heap[w.heap.size + 1]? = some (.cells #[.int .i64 0, .int .i64 0, .int .i64 0, .int .i64 0, .int .i64 0, .int .i64 0, .int .i64 0, .int .i64 0] 45 (0, 0))) ∧ Hd (Pin l s.text.length q) ∧ Hd (Below w.heap.size w wr)) (fun i _ _ => N - (intOf i).toNat)
      case atStart => exact ⟨0, s.now.at_, tok0, Nat.zero_le _, rfl, HZ5, HZ6, HZ1, HP0, HBZ2⟩
      case round =>
        clear HZ5 HZ6 HZ1 HP0 HBZ2 HU HU0 HU1
        obtain ⟨k, q, tk, hk, rfl, H5, H6, H1, HP, HB⟩ := hrel
        have h5 := H5.out
        have h6 := H6.out
        by_cases hlt : k < N
        · have HC := Hd.mk (HNX.out q HP.out wr HB.out)
          unfold spotV at HC
          have h5c0 := blk_cell h5 0 _ rfl; have h5f0 := blk_frozen h5 0; have h5c1 := blk_cell h5 1 _ rfl; have h5f1 := blk_frozen h5 1; have h5c2 := blk_cell h5 2 _ rfl; have h5f2 := blk_frozen h5 2; have h5c3 := blk_cell h5 3 _ rfl; have h5f3 := blk_frozen h5 3; have h5c4 := blk_cell h5 4 _ rfl; have h5f4 := blk_frozen h5 4; have h5c5 := blk_cell h5 5 _ rfl; have h5f5 := blk_frozen h5 5; have h5l := blk_lt h5
          have h6c0 := blk_cell h6 0 _ rfl; have h6f0 := blk_frozen h6 0; have h6c1 := blk_cell h6 1 _ rfl; have h6f1 := blk_frozen h6 1; have h6l := blk_lt h6
          clear h5 h6
          go_wp2_with (first
            | (go_at_call 62; go_must (generalize hG : World.setCell _ _ _ = G; have HBG : Hd (Below w.heap.size w G) := ⟨by rw [← hG]; exact (fr_six (Fr.of_below (X := fun _ => False) HB2.out) (.inr hw5) _ _ _ _ _ _).below (Nat.le_refl _) (fun _ _ h => h)⟩; have HG5 : Hd (G.heap[T5]? = some (.cells #[.int .i64 x.k, .int .i64 x.r, .int .i64 x.f, .int .i64 x.a, .int .i64 x.t, .int .i64 x.m] 43 (0, 0))) := ⟨by rw [← hG]; exact blk_six H52.out _ _ _ _ _ _⟩; have HG6 : Hd (G.heap[T6]? = some (.cells #[.int .i64 q.at_, .int .i64 q.mode] 57 (0, 0))) := ⟨by rw [← hG]; exact (six_same hn65 _ _ _ _ _ _).trans H62.out⟩; have HG1 : Hd (G.heap[w.heap.size + 1]? = some (.cells #[.int .i64 0, .int .i64 0, .int .i64 0, .int .i64 0, .int .i64 0, .int .i64 0, .int .i64 0, .int .i64 0] 45 (0, 0))) := ⟨by rw [← hG]; exact (six_same hn15 _ _ _ _ _ _).trans H12.out⟩; refine Calls.mono (Fn.behind_calls x _) ?_; rintro e w4 ⟨rfl, hb4⟩; have HB4 := Hd.mk (below_seq HBG.out hb4); have HI5 := Hd.mk (blk_below HG5.out hb4); have HI6 := Hd.mk (blk_below HG6.out hb4); have HI1 := Hd.mk (blk_below HG1.out hb4); have h64 := HI6.out; clear h52c0 h52f0 h52c1 h52f1 h52c2 h52f2 h52c3 h52f3 h52c4 h52f4 h52c5 h52f5 h52l; clear h62c0 h62f0 h62c1 h62f1 h62l; clear hb4 hG; have h64c0 := blk_cell h64 0 _ rfl; have h64f0 := blk_frozen h64 0; have h64c1 := blk_cell h64 1 _ rfl; have h64f1 := blk_frozen h64 1; have h64l := blk_lt h64))
            | (go_at_call 22; go_must (generalize hG : World.setCell _ _ _ = G; have HBG : Hd (Below w.heap.size w G) := ⟨by rw [← hG]; exact (fr_six (Fr.of_below (X := fun _ => False) HB2.out) (.inr hw5) _ _ _ _ _ _).below (Nat.le_refl _) (fun _ _ h => h)⟩; have HG1 : Hd (G.heap[w.heap.size + 1]? = some (.cells #[.int .i64 0, .int .i64 0, .int .i64 0, .int .i64 0, .int .i64 0, .int .i64 0, .int .i64 0, .int .i64 0] 45 (0, 0))) := ⟨by rw [← hG]; exact (six_same hn15 _ _ _ _ _ _).trans H12.out⟩; refine Calls.mono (fail_calls _ _) ?_; rintro e w4 ⟨rfl, hb4⟩; have HB4 := Hd.mk (below_seq HBG.out hb4); have HI1 := Hd.mk (blk_below HG1.out hb4); have h14 := HI1.out; clear h52c0 h52f0 h52c1 h52f1 h52c2 h52f2 h52c3 h52f3 h52c4 h52f4 h52c5 h52f5 h52l; clear h62c0 h62f0 h62c1 h62f1 h62l; clear hb4 hG; have h14c0 := blk_cell h14 0 _ rfl; have h14f0 := blk_frozen h14 0; have h14c1 := blk_cell h14 1 _ rfl; have h14f1 := blk_frozen h14 1; have h14c2 := blk_cell h14 2 _ rfl; have h14f2 := blk_frozen h14 2; have h14c3 := blk_cell h14 3 _ rfl; have h14f3 := blk_frozen h14 3; have h14c4 := blk_cell h14 4 _ rfl; have h14f4 := blk_frozen h14 4; have h14c5 := blk_cell h14 5 _ rfl; have h14f5 := blk_frozen h14 5; have h14c6 := blk_cell h14 6 _ rfl; have h14f6 := blk_frozen h14 6; have h14c7 := blk_cell h14 7 _ rfl; have h14f7 := blk_frozen h14 7; have h14l := blk_lt h14))
            | (go_at_call 78; go_must (refine Calls.mono HC.out ?_; rintro e w2 ⟨x, er, rfl, hnx, hb2⟩; unfold tokV; have HB2 := Hd.mk (below_seq HB.out hb2); have H52 := Hd.mk (blk_below H5.out hb2); have H62 := Hd.mk (blk_below H6.out hb2); have H12 := Hd.mk (blk_below H1.out hb2); have h52 := H52.out; have h62 := H62.out; have HNX2 := Hd.mk hnx; clear h5c0 h5f0 h5c1 h5f1 h5c2 h5f2 h5c3 h5f3 h5c4 h5f4 h5c5 h5f5 h5l; clear h6c0 h6f0 h6c1 h6f1 h6l; clear hb2 hnx; have h52c0 := blk_cell h52 0 _ rfl; have h52f0 := blk_frozen h52 0; have h52c1 := blk_cell h52 1 _ rfl; have h52f1 := blk_frozen h52 1; have h52c2 := blk_cell h52 2 _ rfl; have h52f2 := blk_frozen h52 2; have h52c3 := blk_cell h52 3 _ rfl; have h52f3 := blk_frozen h52 3; have h52c4 := blk_cell h52 4 _ rfl; have h52f4 := blk_frozen h52 4; have h52c5 := blk_cell h52 5 _ rfl; have h52f5 := blk_frozen h52 5; have h52l := blk_lt h52; have h62c0 := blk_cell h62 0 _ rfl; have h62f0 := blk_frozen h62 0; have h62c1 := blk_cell h62 1 _ rfl; have h62f1 := blk_frozen h62 1; have h62l := blk_lt h62; clear h52 h62; by_cases he : er = 0)))
          · go_roundw
            case rel =>
              have hin := next_in hr HP.out (HNX2.out (by trivial))
              exact ⟨k + 1, ⟨x.t, x.m⟩, x, by omega, by go_num, ⟨(Below.heap_setCell _ _ _ _ hn56).trans ((Below.heap_setCell _ _ _ _ hn56).trans HI5.out)⟩, ⟨blk_set (blk_set HI6.out 0 _ _ rfl) 1 _ _ rfl⟩, ⟨(Below.heap_setCell _ _ _ _ hn16).trans ((Below.heap_setCell _ _ _ _ hn16).trans HI1.out)⟩, ⟨hin.1⟩, ⟨below_set (below_set HB4.out hw6 _ _) hw6 _ _⟩⟩
            case measure => simp [intOf]; omega
          · have HE := Hd.mk he
            refine bodyPost_ret (results_cell_row rfl _ _ (w.heap.size + 1) 45 #[.int .i64 er, .int .i64 0, .int .i64 0, .int .i64 0, .int .i64 0, .int .i64 0, .int .i64 0, .int .i64 0] (0,0) _ rfl (blk_eight HI1.out _ _ _ _ _ _ _ _) Tryz.underlying45 rfl (by kernel_rfl)) rfl ?_
            exact Done.fail HH.out ((fr_eight (Fr.of_below (X := fun _ => False) HB4.out) (.inr (by omega)) _ _ _ _ _ _ _ _).below (Nat.le_refl _) (fun _ _ h => h)) er HE.out rfl
        · have h1 := H1.out
          have h5c0 := blk_cell h5 0 _ rfl; have h5f0 := blk_frozen h5 0; have h5c1 := blk_cell h5 1 _ rfl; have h5f1 := blk_frozen h5 1; have h5c2 := blk_cell h5 2 _ rfl; have h5f2 := blk_frozen h5 2; have h5c3 := blk_cell h5 3 _ rfl; have h5f3 := blk_frozen h5 3; have h5c4 := blk_cell h5 4 _ rfl; have h5f4 := blk_frozen h5 4; have h5c5 := blk_cell h5 5 _ rfl; have h5f5 := blk_frozen h5 5; have h5l := blk_lt h5
          have h1c0 := blk_cell h1 0 _ rfl; have h1f0 := blk_frozen h1 0; have h1c1 := blk_cell h1 1 _ rfl; have h1f1 := blk_frozen h1 1; have h1c2 := blk_cell h1 2 _ rfl; have h1f2 := blk_frozen h1 2; have h1c3 := blk_cell h1 3 _ rfl; have h1f3 := blk_frozen h1 3; have h1c4 := blk_cell h1 4 _ rfl; have h1f4 := blk_frozen h1 4; have h1c5 := blk_cell h1 5 _ rfl; have h1f5 := blk_frozen h1 5; have h1c6 := blk_cell h1 6 _ rfl; have h1f6 := blk_frozen h1 6; have h1c7 := blk_cell h1 7 _ rfl; have h1f7 := blk_frozen h1 7; have h1l := blk_lt h1
          clear h5 h6 h1
          go_wp2
          refine bodyPost_ret (results_cell_row rfl _ _ (w.heap.size + 1) 45 #[.int .i64 0, .int .i64 0, .int .i64 tk.k, .int .i64 tk.r, .int .i64 tk.f, .int .i64 tk.a, .int .i64 tk.t, .int .i64 tk.m] (0,0) _ rfl (blk_eight H1.out _ _ _ _ _ _ _ _) Tryz.underlying45 rfl (by kernel_rfl)) rfl ?_
          exact Done.stay HH.out ((fr_eight (Fr.of_below (X := fun _ => False) HB.out) (.inr (by omega)) _ _ _ _ _ _ _ _).below (Nat.le_refl _) (fun _ _ h => h)) ⟨0, 0, tk⟩ rfl (.peek s o 0 tk HK.out rfl)
end
end Go.Proofs.YtoambcpjdcehhaaGreat.Id

/- Take. -/
set_option linter.unusedVariables false
set_option linter.unusedSimpArgs false
namespace Go.Proofs.YtoambcpjdcehhaaGreat.Id
open Go Go.RowKit Go.Shelf Go.Proofs.YtoambcpjdcehhaaGreat.Can Go.Proofs.YtoambcpjdcehhaaGreat.Base Go.Proofs.YtoambcpjdcehhaaGreat.Tb
open Go.Proofs.YtoambcpjdcehhaaGreat.Fn hiding get_calls
attribute [local go_sem] clsB AB.cell

theorem pushL_len {l : List Spot} {p : Spot} {d : Int} (hd : 1 ≤ d) (hl : (l.length : Int) ≤ d) : ((pushL l p d).length : Int) ≤ d := by
  unfold pushL
  rw [if_neg (by omega)]
  split
  · simp only [List.length_append, List.length_drop, List.length_cons, List.length_nil]; omega
  · simp only [List.length_append, List.length_cons, List.length_nil]; omega
section
variable {w U w' : World} {C : Cf} {B : Nat} {s s' : Cu} {v : Value} {F F' : Nat → Prop} {l : Lx} {o : Opn} {e : Ending}

set_option maxRecDepth 20000 in
set_option maxHeartbeats 4000000 in
theorem itake_calls {S : Nat → Prop} (h : CW w C B s v F) (hk : o.k = 4) (hK : Ok C l s) (hr : rightB l = true) (hL : LXC w S C l) : Calls Tryz.prog 53 #[.pointer (some ⟨C.p, 0, none⟩), opV o] w fun e w' => Done w w' C B v F l s o e := by
  have HNX := Hd.mk (fun W (hW : Below w.heap.size w W) => inext_calls (h.below hW) hK hr (hL.below hW) s.now.at_ hK.pin)
  unfold spotV at HNX
  obtain ⟨tr', htr'⟩ : ∃ t, pushL s.tr s.now.at_ s.now.d = t := ⟨_, rfl⟩
  obtain ⟨n', hn'⟩ : ∃ n, tr'.length = n := ⟨_, rfl⟩
  have hdp := newD_pos C.P.trail
  have hnd : s.now.d = newD C.P.trail := h.now.dep
  have hln : (s.tr.length : Int) ≤ newD C.P.trail := h.now.len
  have HPU := Hd.mk (fun W (hW : Below w.heap.size w W) => Fn.push_to s.now.A s.now.c s.tr s.now.n s.now.d s.now.at_ htr' hn' F W (fun k hk => Nat.lt_of_lt_of_le (h.frz k hk).1 hW.size) (h.now.row.move (fun b hb => hW.block b (h.frz b hb).1)) (by omega) (by have := h.now.row.1; omega) h.now.cap h.now.nil)
  have HTL : Hd ((tr'.length : Int) ≤ depthOf C) := ⟨by rw [← htr', hnd]; exact pushL_len hdp.1 hln⟩
  have HTR : Hd (pushL s.tr s.now.at_ (depthOf C) = tr') := ⟨by rw [← htr', hnd]; rfl⟩
  have HTN := Hd.mk hn'
  clear hL htr' hn' hnd hln hdp
  have HH := Hd.mk h
  have HK := Hd.mk hk
  have ho := h.obj
  unfold cuC at ho
  unfold opV
  have hoc0 := blk_cell ho 0 _ rfl; have hof0 := blk_frozen ho 0; have hoc1 := blk_cell ho 1 _ rfl; have hof1 := blk_frozen ho 1; have hoc2 := blk_cell ho 2 _ rfl; have hof2 := blk_frozen ho 2; have hoc3 := blk_cell ho 3 _ rfl; have hof3 := blk_frozen ho 3; have hoc4 := blk_cell ho 4 _ rfl; have hof4 := blk_frozen ho 4; have hoc5 := blk_cell ho 5 _ rfl; have hof5 := blk_frozen ho 5; have hoc6 := blk_cell ho 6 _ rfl; have hof6 := blk_frozen ho 6; have hoc7 := blk_cell ho 7 _ rfl; have hof7 := blk_frozen ho 7; have hoc8 := blk_cell ho 8 _ rfl; have hof8 := blk_frozen ho 8; have hoc9 := blk_cell ho 9 _ rfl; have hof9 := blk_frozen ho 9; have hoc10 := blk_cell ho 10 _ rfl; have hof10 := blk_frozen ho 10; have hoc11 := blk_cell ho 11 _ rfl; have hof11 := blk_frozen ho 11; have hoc12 := blk_cell ho 12 _ rfl; have hof12 := blk_frozen ho 12; have hoc13 := blk_cell ho 13 _ rfl; have hof13 := blk_frozen ho 13; have hoc14 := blk_cell ho 14 _ rfl; have hof14 := blk_frozen ho 14; have hoc15 := blk_cell ho 15 _ rfl; have hof15 := blk_frozen ho 15; have hoc16 := blk_cell ho 16 _ rfl; have hof16 := blk_frozen ho 16; have hol := blk_lt ho
  have hp := h.cells
  have HO := Hd.mk ho
  have hv0 := blk_alloc (blk_new w (.cells #[.int .i64 o.k, .int .i64 o.n, .string o.data] 41 (0, 0)) _ rfl) (.cells #[.int .i64 0, .int .i64 0, .int .i64 0, .int .i64 0, .int .i64 0, .int .i64 0, .int .i64 0, .int .i64 0] 45 (0, 0))
  have hv1 := blk_new (w.alloc (.cells #[.int .i64 o.k, .int .i64 o.n, .string o.data] 41 (0, 0))) (.cells #[.int .i64 0, .int .i64 0, .int .i64 0, .int .i64 0, .int .i64 0, .int .i64 0, .int .i64 0, .int .i64 0] 45 (0, 0)) (w.heap.size + 1) (by rw [size_alloc])
  have HV0 := Hd.mk hv0; have HV1 := Hd.mk hv1
  clear h ho hk hv0 hv1
  go_enter Tryz.func53, Tryz.ntmps53
  go_wp2_with (first
    | (go_at_call 22; go_must (refine Calls.mono (fail_calls _ _) ?_; rintro e w4 ⟨rfl, hb4⟩; have HB4 := Hd.mk (below_seq (below_alloc HB2.out (.cells #[.int .i64 x.k, .int .i64 x.r, .int .i64 x.f, .int .i64 x.a, .int .i64 x.t, .int .i64 x.m] 43 (0, 0))) hb4); have HI1 := Hd.mk (blk_below (blk_alloc HX1.out (.cells #[.int .i64 x.k, .int .i64 x.r, .int .i64 x.f, .int .i64 x.a, .int .i64 x.t, .int .i64 x.m] 43 (0, 0))) hb4); have h14 := HI1.out; clear hb4; have h14c0 := blk_cell h14 0 _ rfl; have h14f0 := blk_frozen h14 0; have h14c1 := blk_cell h14 1 _ rfl; have h14f1 := blk_frozen h14 1; have h14c2 := blk_cell h14 2 _ rfl; have h14f2 := blk_frozen h14 2; have h14c3 := blk_cell h14 3 _ rfl; have h14f3 := blk_frozen h14 3; have h14c4 := blk_cell h14 4 _ rfl; have h14f4 := blk_frozen h14 4; have h14c5 := blk_cell h14 5 _ rfl; have h14f5 := blk_frozen h14 5; have h14c6 := blk_cell h14 6 _ rfl; have h14f6 := blk_frozen h14 6; have h14c7 := blk_cell h14 7 _ rfl; have h14f7 := blk_frozen h14 7; have h14l := blk_lt h14))
    | (go_at_call 78; go_must (refine Calls.mono (HNX.out _ ((by repeat (first | (with_reducible assumption) | (with_reducible exact Below.refl _ _) | (with_reducible apply below_drewL) | (with_reducible apply below_alloc) | (with_reducible apply below_drew1) | (with_reducible apply below_drewN) | (refine below_set ?_ (by first | omega | (simp only [size_alloc, size_drew, size_set]; omega)) _ _))))) ?_; rintro e w2 ⟨x, er, rfl, hnx, hb2⟩; unfold tokV; have hx1 := blk_below HV1.out hb2; have HX1 := Hd.mk hx1; have hx1c0 := blk_cell hx1 0 _ rfl; have hx1f0 := blk_frozen hx1 0; have hx1c1 := blk_cell hx1 1 _ rfl; have hx1f1 := blk_frozen hx1 1; have hx1c2 := blk_cell hx1 2 _ rfl; have hx1f2 := blk_frozen hx1 2; have hx1c3 := blk_cell hx1 3 _ rfl; have hx1f3 := blk_frozen hx1 3; have hx1c4 := blk_cell hx1 4 _ rfl; have hx1f4 := blk_frozen hx1 4; have hx1c5 := blk_cell hx1 5 _ rfl; have hx1f5 := blk_frozen hx1 5; have hx1c6 := blk_cell hx1 6 _ rfl; have hx1f6 := blk_frozen hx1 6; have hx1c7 := blk_cell hx1 7 _ rfl; have hx1f7 := blk_frozen hx1 7; have hx1l := blk_lt hx1; have HB2 := Hd.mk (below_seq (a := w) (by repeat (first | (with_reducible assumption) | (with_reducible exact Below.refl _ _) | (with_reducible apply below_drewL) | (with_reducible apply below_alloc) | (with_reducible apply below_drew1) | (with_reducible apply below_drewN) | (refine below_set ?_ (by first | omega | (simp only [size_alloc, size_drew, size_set]; omega)) _ _))) hb2); have hox := blk_below HO.out HB2.out; have HOX := Hd.mk hox; have HNX2 := Hd.mk hnx; have hz2 := HB2.out.size; have hw1l := blk_lt hx1; clear hoc0 hof0 hoc1 hof1 hoc2 hof2 hoc3 hof3 hoc4 hof4 hoc5 hof5 hoc6 hof6 hoc7 hof7 hoc8 hof8 hoc9 hof9 hoc10 hof10 hoc11 hof11 hoc12 hof12 hoc13 hof13 hoc14 hof14 hoc15 hof15 hoc16 hof16 hol; have hoxc0 := blk_cell hox 0 _ rfl; have hoxf0 := blk_frozen hox 0; have hoxc1 := blk_cell hox 1 _ rfl; have hoxf1 := blk_frozen hox 1; have hoxc2 := blk_cell hox 2 _ rfl; have hoxf2 := blk_frozen hox 2; have hoxc3 := blk_cell hox 3 _ rfl; have hoxf3 := blk_frozen hox 3; have hoxc4 := blk_cell hox 4 _ rfl; have hoxf4 := blk_frozen hox 4; have hoxc5 := blk_cell hox 5 _ rfl; have hoxf5 := blk_frozen hox 5; have hoxc6 := blk_cell hox 6 _ rfl; have hoxf6 := blk_frozen hox 6; have hoxc7 := blk_cell hox 7 _ rfl; have hoxf7 := blk_frozen hox 7; have hoxc8 := blk_cell hox 8 _ rfl; have hoxf8 := blk_frozen hox 8; have hoxc9 := blk_cell hox 9 _ rfl; have hoxf9 := blk_frozen hox 9; have hoxc10 := blk_cell hox 10 _ rfl; have hoxf10 := blk_frozen hox 10; have hoxc11 := blk_cell hox 11 _ rfl; have hoxf11 := blk_frozen hox 11; have hoxc12 := blk_cell hox 12 _ rfl; have hoxf12 := blk_frozen hox 12; have hoxc13 := blk_cell hox 13 _ rfl; have hoxf13 := blk_frozen hox 13; have hoxc14 := blk_cell hox 14 _ rfl; have hoxf14 := blk_frozen hox 14; have hoxc15 := blk_cell hox 15 _ rfl; have hoxf15 := blk_frozen hox 15; have hoxc16 := blk_cell hox 16 _ rfl; have hoxf16 := blk_frozen hox 16; have hoxl := blk_lt hox; clear hb2 hnx hx1 hox; by_cases he : er = 0; try (by_cases hk3 : x.k = 3))))
  · have HK3 := Hd.mk hk3
    refine bodyPost_ret (results_cell_row rfl _ _ (w.heap.size + 1) 45 #[.int .i64 0, .int .i64 0, .int .i64 3, .int .i64 x.r, .int .i64 x.f, .int .i64 x.a, .int .i64 x.t, .int .i64 x.m] (0,0) _ rfl (blk_alloc (blk_eight HX1.out _ _ _ _ _ _ _ _) _) Tryz.underlying45 rfl (by kernel_rfl)) rfl ?_
    exact Done.stay HH.out (((fr_eight (Fr.of_below (X := fun _ => False) HB2.out) (.inr (by omega)) _ _ _ _ _ _ _ _).alloc _).below (Nat.le_refl _) (fun _ _ h => h)) ⟨0, 0, x⟩ (by unfold resV; rw [HK3.out]) (.last s o 0 x HK.out HK3.out rfl)
  · have HK3 := Hd.mk hk3
    have HER := Hd.mk he
    generalize hZ : World.alloc _ _ = Z
    have HBZ : Below w2.heap.size w2 Z := below_of hZ (by repeat (first | (with_reducible assumption) | (with_reducible exact Below.refl _ _) | (with_reducible apply below_drewL) | (with_reducible apply below_alloc) | (with_reducible apply below_drew1) | (with_reducible apply below_drewN) | (refine below_set ?_ (by first | omega | (simp only [size_alloc, size_drew, size_set]; omega)) _ _)))
    have zZ : Hd (Z.heap.size = w2.heap.size + 1) := ⟨by rw [← hZ]; simp only [size_alloc]⟩
    have Z0 := at_of hZ (blk_new _ _ _ rfl)
    have Z0l := blk_lt Z0
    clear hZ
    have HBZ2 := Hd.mk (below_seq HB2.out HBZ)
    have hzz := zZ.out
    have HZ1 := Hd.mk (blk_below HX1.out HBZ)
    have HOZ := Hd.mk (blk_below HOX.out HBZ)
    have HZ0 := Hd.mk Z0
    have hoz := HOZ.out
    clear hx1c0 hx1f0 hx1c1 hx1f1 hx1c2 hx1f2 hx1c3 hx1f3 hx1c4 hx1f4 hx1c5 hx1f5 hx1c6 hx1f6 hx1c7 hx1f7 hx1l
    clear hoxc0 hoxf0 hoxc1 hoxf1 hoxc2 hoxf2 hoxc3 hoxf3 hoxc4 hoxf4 hoxc5 hoxf5 hoxc6 hoxf6 hoxc7 hoxf7 hoxc8 hoxf8 hoxc9 hoxf9 hoxc10 hoxf10 hoxc11 hoxf11 hoxc12 hoxf12 hoxc13 hoxf13 hoxc14 hoxf14 hoxc15 hoxf15 hoxc16 hoxf16 hoxl
    have hozc0 := blk_cell hoz 0 _ rfl; have hozf0 := blk_frozen hoz 0; have hozc1 := blk_cell hoz 1 _ rfl; have hozf1 := blk_frozen hoz 1; have hozc2 := blk_cell hoz 2 _ rfl; have hozf2 := blk_frozen hoz 2; have hozc3 := blk_cell hoz 3 _ rfl; have hozf3 := blk_frozen hoz 3; have hozc4 := blk_cell hoz 4 _ rfl; have hozf4 := blk_frozen hoz 4; have hozc5 := blk_cell hoz 5 _ rfl; have hozf5 := blk_frozen hoz 5; have hozc6 := blk_cell hoz 6 _ rfl; have hozf6 := blk_frozen hoz 6; have hozc7 := blk_cell hoz 7 _ rfl; have hozf7 := blk_frozen hoz 7; have hozc8 := blk_cell hoz 8 _ rfl; have hozf8 := blk_frozen hoz 8; have hozc9 := blk_cell hoz 9 _ rfl; have hozf9 := blk_frozen hoz 9; have hozc10 := blk_cell hoz 10 _ rfl; have hozf10 := blk_frozen hoz 10; have hozc11 := blk_cell hoz 11 _ rfl; have hozf11 := blk_frozen hoz 11; have hozc12 := blk_cell hoz 12 _ rfl; have hozf12 := blk_frozen hoz 12; have hozc13 := blk_cell hoz 13 _ rfl; have hozf13 := blk_frozen hoz 13; have hozc14 := blk_cell hoz 14 _ rfl; have hozf14 := blk_frozen hoz 14; have hozc15 := blk_cell hoz 15 _ rfl; have hozf15 := blk_frozen hoz 15; have hozc16 := blk_cell hoz 16 _ rfl; have hozf16 := blk_frozen hoz 16; have hozl := blk_lt hoz
    have Z0c0 := blk_cell Z0 0 _ rfl
    have Z0f0 := blk_frozen Z0 0
    have Z0c1 := blk_cell Z0 1 _ rfl
    have Z0f1 := blk_frozen Z0 1
    have Z0c2 := blk_cell Z0 2 _ rfl
    have Z0f2 := blk_frozen Z0 2
    have Z0c3 := blk_cell Z0 3 _ rfl
    have Z0f3 := blk_frozen Z0 3
    have Z0c4 := blk_cell Z0 4 _ rfl
    have Z0f4 := blk_frozen Z0 4
    have Z0c5 := blk_cell Z0 5 _ rfl
    have Z0f5 := blk_frozen Z0 5
    clear hoz Z0 HBZ zZ he hk3
    have HZZ := Hd.mk hzz
    clear hzz
    refine wp_region_can (.q [0, 1, 3, 4, 5, 6, 7, 8, 9, 10, 11, 12] (.e 2 true (.e 13 false (.q [14, 15, 16] (.e 17 false (.done)))))) (clsB _) (by kernel_rfl) (by kernel_rfl) (by intro _ _ d _ _ h; cases d <;> exact h) (clsB_drew _) ?_
    refine can_q (l := [⟨_,_,_,_,_,_⟩, ⟨_,_,_,_,_,_⟩, ⟨_,_,_,_,_,_⟩, ⟨_,_,_,_,_,_⟩, ⟨_,_,_,_,_,_⟩, ⟨_,_,_,_,_,_⟩, ⟨_,_,_,_,_,_⟩, ⟨_,_,_,_,_,_⟩, ⟨_,_,_,_,_,_⟩, ⟨_,_,_,_,_,_⟩, ⟨_,_,_,_,_,_⟩, ⟨_,_,_,_,_,_⟩]) rfl ?_
    repeat (go_big_quiet_step (fail))
    refine wpQuiet_nil ?_
    refine can_e (o := ⟨_,_,_,_,_,_⟩) rfl (fun K hK => ?_)
    go_wp2_with (go_at_call 62; go_must (refine Calls.mono (Fn.behind_calls x _) ?_; rintro e w3 ⟨rfl, hb3⟩; replace hb3 := below_undrew hb3))
    have HB3 := Hd.mk (below_seq HBZ2.out hb3)
    have HZ1' := Hd.mk (blk_below HZ1.out hb3)
    have HZ0' := Hd.mk (blk_below HZ0.out hb3)
    have HOZ' := Hd.mk (blk_below HOZ.out hb3)
    refine onK_normal (hK _ _ ⟨clsB _, clsB_of (by first | exact (hb3) | exact below_undrew (hb3)), fun _ _ h => h, ?_⟩)
    clear hK K
    refine can_e (o := ⟨_,_,_,_,_,_⟩) rfl (fun K hK => ?_)
    go_wp2_with (go_at_call 79; go_must (refine Calls.mono (HPU.out _ HB3.out) ?_; rintro e w5 ⟨A', c', rfl, hnc', hA', hrow', hb5⟩))
    have HB5 := Hd.mk (below_seq HB3.out hb5)
    have HZ5 := Hd.mk (blk_below HZ1'.out hb5)
    have HZ05 := Hd.mk (blk_below HZ0'.out hb5)
    have HOZ5 := Hd.mk (blk_below HOZ'.out hb5)
    have HS5 : Hd (w2.heap.size < w3.heap.size ∧ w3.heap.size ≤ w5.heap.size) := ⟨⟨by have h1 := HZZ.out; have h2 := hb3.size; omega, hb5.size⟩⟩
    have HRW := Hd.mk hrow'
    refine onK_normal (hK _ _ ⟨clsB _, clsB_of (by first | exact ((below_seq hb3 hb5)) | exact below_undrew ((below_seq hb3 hb5))), fun _ _ h => h, ?_⟩)
    clear hK K
    refine can_q (l := [⟨_,_,_,_,_,_⟩, ⟨_,_,_,_,_,_⟩, ⟨_,_,_,_,_,_⟩]) rfl ?_
    repeat (go_big_quiet_step (fail))
    refine wpQuiet_nil ?_
    clear hozc0 hozf0 hozc1 hozf1 hozc2 hozf2 hozc3 hozf3 hozc4 hozf4 hozc5 hozf5 hozc6 hozf6 hozc7 hozf7 hozc8 hozf8 hozc9 hozf9 hozc10 hozf10 hozc11 hozf11 hozc12 hozf12 hozc13 hozf13 hozc14 hozf14 hozc15 hozf15 hozc16 hozf16 hozl
    clear Z0c0 Z0f0 Z0c1 Z0f1 Z0c2 Z0f2 Z0c3 Z0f3 Z0c4 Z0f4 Z0c5 Z0f5
    have ho5 := HOZ5.out
    have ho5c0 := blk_cell ho5 0 _ rfl; have ho5f0 := blk_frozen ho5 0; have ho5c1 := blk_cell ho5 1 _ rfl; have ho5f1 := blk_frozen ho5 1; have ho5c2 := blk_cell ho5 2 _ rfl; have ho5f2 := blk_frozen ho5 2; have ho5c3 := blk_cell ho5 3 _ rfl; have ho5f3 := blk_frozen ho5 3; have ho5c4 := blk_cell ho5 4 _ rfl; have ho5f4 := blk_frozen ho5 4; have ho5c5 := blk_cell ho5 5 _ rfl; have ho5f5 := blk_frozen ho5 5; have ho5c6 := blk_cell ho5 6 _ rfl; have ho5f6 := blk_frozen ho5 6; have ho5c7 := blk_cell ho5 7 _ rfl; have ho5f7 := blk_frozen ho5 7; have ho5c8 := blk_cell ho5 8 _ rfl; have ho5f8 := blk_frozen ho5 8; have ho5c9 := blk_cell ho5 9 _ rfl; have ho5f9 := blk_frozen ho5 9; have ho5c10 := blk_cell ho5 10 _ rfl; have ho5f10 := blk_frozen ho5 10; have ho5c11 := blk_cell ho5 11 _ rfl; have ho5f11 := blk_frozen ho5 11; have ho5c12 := blk_cell ho5 12 _ rfl; have ho5f12 := blk_frozen ho5 12; have ho5c13 := blk_cell ho5 13 _ rfl; have ho5f13 := blk_frozen ho5 13; have ho5c14 := blk_cell ho5 14 _ rfl; have ho5f14 := blk_frozen ho5 14; have ho5c15 := blk_cell ho5 15 _ rfl; have ho5f15 := blk_frozen ho5 15; have ho5c16 := blk_cell ho5 16 _ rfl; have ho5f16 := blk_frozen ho5 16; have ho5l := blk_lt ho5
    refine can_e (o := ⟨_,_,_,_,_,_⟩) rfl (fun K hK => ?_)
    go_wp2_with fail
    refine onK_normal (hK _ _ ⟨fun _ => True, trivial, (fun h => by cases h), ?_⟩)
    clear hK K
    refine can_done ?_
    generalize hG : World.setCell _ _ _ = G
    have hpw : C.p ≠ w.heap.size + 1 := by omega
    have hpt : C.p ≠ w2.heap.size := by omega
    have HG1 : Hd (G.heap[w.heap.size + 1]? = some (.cells #[.int .i64 0, .int .i64 0, .int .i64 0, .int .i64 0, .int .i64 0, .int .i64 0, .int .i64 0, .int .i64 0] 45 (0, 0))) := ⟨by rw [← hG]; exact (Below.heap_setCell _ _ _ _ hpw.symm).trans ((Below.heap_setCell _ _ _ _ hpw.symm).trans ((Below.heap_setCell _ _ _ _ hpw.symm).trans ((Below.heap_setCell _ _ _ _ hpw.symm).trans HZ5.out)))⟩
    have HG5 : Hd (G.heap[w2.heap.size]? = some (.cells #[.int .i64 x.k, .int .i64 x.r, .int .i64 x.f, .int .i64 x.a, .int .i64 x.t, .int .i64 x.m] 43 (0, 0))) := ⟨by rw [← hG]; exact (Below.heap_setCell _ _ _ _ hpt.symm).trans ((Below.heap_setCell _ _ _ _ hpt.symm).trans ((Below.heap_setCell _ _ _ _ hpt.symm).trans ((Below.heap_setCell _ _ _ _ hpt.symm).trans HZ05.out)))⟩
    have HGO : Hd (G.heap[C.p]? = some (.cells (cuC C { s with now := ⟨⟨x.t, x.m⟩, s.now.d, A', n', c'⟩, tr := tr' } v) 74 (0, 0))) := ⟨by rw [← hG]; exact blk_set (blk_set (blk_set (blk_set HOZ5.out 12 _ _ rfl) 13 _ _ rfl) 14 _ _ rfl) 15 _ _ rfl⟩
    have HGF : Hd (Fr (fun b => b = C.p ∨ b = w.heap.size + 1) w5 G) := ⟨by rw [← hG]; exact ((((Fr.refl (fun b => b = C.p ∨ b = w.heap.size + 1) w5).set (g := C.p) (.inl (.inl rfl)) 12 _).set (g := C.p) (.inl (.inl rfl)) 13 _).set (g := C.p) (.inl (.inl rfl)) 14 _).set (g := C.p) (.inl (.inl rfl)) 15 _⟩
    clear ho5c0 ho5f0 ho5c1 ho5f1 ho5c2 ho5f2 ho5c3 ho5f3 ho5c4 ho5f4 ho5c5 ho5f5 ho5c6 ho5f6 ho5c7 ho5f7 ho5c8 ho5f8 ho5c9 ho5f9 ho5c10 ho5f10 ho5c11 ho5f11 ho5c12 ho5f12 ho5c13 ho5f13 ho5c14 ho5f14 ho5c15 ho5f15 ho5c16 ho5f16 ho5l
    clear hG ho5
    have hg1 := HG1.out
    have hg5 := HG5.out
    have hg1c0 := blk_cell hg1 0 _ rfl; have hg1f0 := blk_frozen hg1 0; have hg1c1 := blk_cell hg1 1 _ rfl; have hg1f1 := blk_frozen hg1 1; have hg1c2 := blk_cell hg1 2 _ rfl; have hg1f2 := blk_frozen hg1 2; have hg1c3 := blk_cell hg1 3 _ rfl; have hg1f3 := blk_frozen hg1 3; have hg1c4 := blk_cell hg1 4 _ rfl; have hg1f4 := blk_frozen hg1 4; have hg1c5 := blk_cell hg1 5 _ rfl; have hg1f5 := blk_frozen hg1 5; have hg1c6 := blk_cell hg1 6 _ rfl; have hg1f6 := blk_frozen hg1 6; have hg1c7 := blk_cell hg1 7 _ rfl; have hg1f7 := blk_frozen hg1 7; have hg1l := blk_lt hg1
    have hg5c0 := blk_cell hg5 0 _ rfl; have hg5f0 := blk_frozen hg5 0; have hg5c1 := blk_cell hg5 1 _ rfl; have hg5f1 := blk_frozen hg5 1; have hg5c2 := blk_cell hg5 2 _ rfl; have hg5f2 := blk_frozen hg5 2; have hg5c3 := blk_cell hg5 3 _ rfl; have hg5f3 := blk_frozen hg5 3; have hg5c4 := blk_cell hg5 4 _ rfl; have hg5f4 := blk_frozen hg5 4; have hg5c5 := blk_cell hg5 5 _ rfl; have hg5f5 := blk_frozen hg5 5; have hg5l := blk_lt hg5
    clear hg1 hg5
    go_wp2
    refine bodyPost_ret (results_cell_row rfl _ _ (w.heap.size + 1) 45 #[.int .i64 0, .int .i64 0, .int .i64 x.k, .int .i64 x.r, .int .i64 x.f, .int .i64 x.a, .int .i64 x.t, .int .i64 x.m] (0,0) _ rfl (blk_eight HG1.out _ _ _ _ _ _ _ _) Tryz.underlying45 rfl (by kernel_rfl)) rfl ?_
    have hz3 := HB3.out.size
    obtain ⟨q1, q2⟩ := HS5.out
    obtain ⟨g1, g2⟩ := CW.turn (s' := { s with now := ⟨⟨x.t, x.m⟩, s.now.d, A', n', c'⟩, tr := tr' }) (F' := Fn.New F w3 w5) HH.out HB5.out (fr_eight HGF.out (g := w.heap.size + 1) (.inl (.inr rfl)) (.int .i64 0) (.int .i64 0) (.int .i64 x.k) (.int .i64 x.r) (.int .i64 x.f) (.int .i64 x.a) (.int .i64 x.t) (.int .i64 x.m))
      (fun b hb => hb.imp id (fun hb => ⟨by omega, fun hF => by rcases hF with hF | hF; (have := (HH.out.frz b hF).1; omega); omega⟩)) ((eight_same hpw _ _ _ _ _ _ _ _).trans HGO.out) rfl rfl (fun _ h => .inl h) (fun _ h => h.imp id (fun h => ⟨by omega, h.2⟩)) ⟨HRW.out, hnc', hA', HH.out.now.dep, HTL.out⟩
    refine ⟨⟨0, 0, x⟩, _, v, Fn.New F w3 w5, rfl, ?_, g1, g2⟩
    have hst := Step.take (C := C) (l := l) s o 0 x ⟨⟨x.t, x.m⟩, s.now.d, A', n', c'⟩ HK.out HK3.out (HNX2.out HER.out) rfl rfl
    rw [HTR.out] at hst
    exact hst
  · have HE := Hd.mk he
    refine bodyPost_ret (results_cell_row rfl _ _ (w.heap.size + 1) 45 #[.int .i64 er, .int .i64 0, .int .i64 0, .int .i64 0, .int .i64 0, .int .i64 0, .int .i64 0, .int .i64 0] (0,0) _ rfl (blk_eight HI1.out _ _ _ _ _ _ _ _) Tryz.underlying45 rfl (by kernel_rfl)) rfl ?_
    exact Done.fail HH.out ((fr_eight (Fr.of_below (X := fun _ => False) HB4.out) (.inr (by omega)) _ _ _ _ _ _ _ _).below (Nat.le_refl _) (fun _ _ h => h)) er HE.out rfl
end
end Go.Proofs.YtoambcpjdcehhaaGreat.Id

/- Feed. -/
set_option linter.unusedVariables false
set_option linter.unusedSimpArgs false
namespace Go.Proofs.YtoambcpjdcehhaaGreat.Id
open Go Go.RowKit Go.Shelf Go.Proofs.YtoambcpjdcehhaaGreat.Can Go.Proofs.YtoambcpjdcehhaaGreat.Base Go.Proofs.YtoambcpjdcehhaaGreat.Tb
open Go.Proofs.YtoambcpjdcehhaaGreat.Fn hiding get_calls
attribute [local go_sem] clsB AB.cell

section
variable {w U w' : World} {C : Cf} {B : Nat} {s s' : Cu} {v : Value} {F F' : Nat → Prop} {l : Lx} {o : Opn} {e : Ending}
theorem info5 : (Tryz.prog.info? 5).map (fun i => (i.zero, i.size, i.bytes)) = some (some (.int .u8 0), 1, 1) := by kernel_rfl
theorem take_ext (d : ByteArray) (j : Nat) (hj : j ≤ d.size) : bl (d.extract 0 j) = (bl d).take j := by
  unfold bl
  rw [ByteArray.data_extract]
  simp
/-- The text has grown. -/
theorem CW.grow {w5 : World} {v1 : Value} (h : CW w C B s v F) (hb : Below w.heap.size w U) (hM : Mine bT w5 C.base 5 v1 s'.text) (hb2 : Below C.base U w5) (hk : ∀ k, k < U.heap.size → v.ownBlock ≠ some k → w5.heap[k]? = U.heap[k]?) (hat : v1.ownBlock = v.ownBlock ∨ v1.ownBlock = some U.heap.size) (hw1 : w.heap.size + 1 < U.heap.size)
    (hf : Fr (fun b => b = C.p ∨ b = w.heap.size + 1) w5 w') (ho : w'.heap[C.p]? = some (.cells (cuC C s' v1) 74 (0, 0))) (hn : s'.now = s.now) (ht : s'.tr = s.tr) (hl : s'.ls = s.ls) : CW w' C (B + 1) s' v1 F ∧ CG w w' C v v1 F F := by
  have h1 := h.below hb
  have hz := hb.size
  have hz2 := hb2.size
  have hp := h.cells
  have hTl := blk_lt h.tab.str
  have hRl := h.tab.row.lt
  have hpl := h.cells
  have hL : s'.L = s.L := by unfold Cu.L; rw [hl]
  have hne : ∀ b, b < w.heap.size → v.ownBlock ≠ some b → v1.ownBlock ≠ some b := fun b hb9 hv => by
    rcases hat with h9 | h9
    · rw [h9]; exact hv
    · rw [h9]; intro e; have := Option.some.inj e; omega
  have hsame : ∀ b, b < w.heap.size → v.ownBlock ≠ some b → b ≠ C.p → w'.heap[b]? = U.heap[b]? := fun b hb9 hv hp9 => (hf.same b (by omega) (by omega)).trans (hk b (by omega) hv)
  have hv1w : v1.ownBlock ≠ some (w.heap.size + 1) := by
    rcases hat with h9 | h9
    · rw [h9]; exact h.txt.ne_new (by omega)
    · rw [h9]; intro e; have := Option.some.inj e; omega
  refine ⟨⟨ho, ?_, ?_, ?_, ?_, fun k hk9 => ⟨by have := (h.frz k hk9).1; have := hf.size; omega, (h.frz k hk9).2.1, (h.frz k hk9).2.2.1, (h.frz k hk9).2.2.2.1, (h.frz k hk9).2.2.2.2.1, hne k (h.frz k hk9).1 (h.frz k hk9).2.2.2.2.2⟩, hne _ hpl h.np, hne _ hTl h.nT, hne _ hRl h.nR, h.pT, h.pR, h.bp, h.bT', h.bR⟩, ⟨?_, ?_, fun k hk9 => .inl hk9⟩⟩
  · refine Base.Own.move hM (fun k hk9 => ?_) hf.size
    have hk' : v1.ownBlock = some k := by rcases hk9 with hk9 | hk9; exact hk9.elim; exact hk9
    refine hf.same k (hM.lt hk').1 (fun he => ?_)
    rcases he with he | he
    · exact hne _ hpl h.np (by rw [← he]; exact hk')
    · exact hv1w (by rw [← he]; exact hk')
  · rw [hL]
    exact (h1.tab.more (Nat.le_succ B)).move (hsame _ hTl h.nT (fun he => h.pT he.symm)) (hsame _ hRl h.nR (fun he => h.pR he.symm))
  · rw [hn, ht]
    exact h1.now.move fun b hb9 => hsame b (h.frz b hb9).1 (h.frz b hb9).2.2.2.2.2 (h.frz b hb9).2.2.1
  · rw [hl]
    intro x hx htk
    exact (h1.slots x hx htk).move fun b hb9 => hsame b (h.frz b hb9).1 (h.frz b hb9).2.2.2.2.2 (h.frz b hb9).2.2.1
  · refine ⟨((hb.mono (Nat.zero_le _)).trans (hb2.mono (Nat.zero_le _))).trans hf.zero, fun b hb9 hx => ?_⟩
    refine (hsame b hb9 (fun he => hx (.inr (.inr (.inr he)))) (fun he => hx (.inl he))).trans (hb.block b hb9)
  · rcases hat with h9 | h9
    · exact .inl h9
    · exact .inr ⟨_, h9, by omega⟩

set_option maxRecDepth 20000 in
set_option maxHeartbeats 4000000 in
theorem ifeed_calls (h : CW w C B s v F) (hk : o.k = 1) (hK : Ok C l s) (hsz : o.data.size ≤ 40) : Calls Tryz.prog 50 #[.pointer (some ⟨C.p, 0, none⟩), opV o] w fun e w' => Done w w' C B v F l s o e := by
  have HRM := Hd.mk (fun W (hW : Below w.heap.size w W) => iroom_calls (h.below hW) hK)
  have hr0 : 0 ≤ roomC C s := by have := hK.room; unfold roomC; omega
  have HRC : Hd (roomC C s = lowC s + C.P.bytes - s.text.length) := ⟨rfl⟩
  have HSZ := Hd.mk hK.size
  have HT := Hd.mk h.txt
  obtain ⟨rm, hrm⟩ : ∃ r, roomC C s = r := ⟨_, rfl⟩
  rw [hrm] at HRM hr0 HRC
  clear hrm
  have HH := Hd.mk h
  have HK := Hd.mk hk
  have ho := h.obj
  unfold cuC at ho
  unfold opV
  have hoc0 := blk_cell ho 0 _ rfl; have hof0 := blk_frozen ho 0; have hoc1 := blk_cell ho 1 _ rfl; have hof1 := blk_frozen ho 1; have hoc2 := blk_cell ho 2 _ rfl; have hof2 := blk_frozen ho 2; have hoc3 := blk_cell ho 3 _ rfl; have hof3 := blk_frozen ho 3; have hoc4 := blk_cell ho 4 _ rfl; have hof4 := blk_frozen ho 4; have hoc5 := blk_cell ho 5 _ rfl; have hof5 := blk_frozen ho 5; have hoc6 := blk_cell ho 6 _ rfl; have hof6 := blk_frozen ho 6; have hoc7 := blk_cell ho 7 _ rfl; have hof7 := blk_frozen ho 7; have hoc8 := blk_cell ho 8 _ rfl; have hof8 := blk_frozen ho 8; have hoc9 := blk_cell ho 9 _ rfl; have hof9 := blk_frozen ho 9; have hoc10 := blk_cell ho 10 _ rfl; have hof10 := blk_frozen ho 10; have hoc11 := blk_cell ho 11 _ rfl; have hof11 := blk_frozen ho 11; have hoc12 := blk_cell ho 12 _ rfl; have hof12 := blk_frozen ho 12; have hoc13 := blk_cell ho 13 _ rfl; have hof13 := blk_frozen ho 13; have hoc14 := blk_cell ho 14 _ rfl; have hof14 := blk_frozen ho 14; have hoc15 := blk_cell ho 15 _ rfl; have hof15 := blk_frozen ho 15; have hoc16 := blk_cell ho 16 _ rfl; have hof16 := blk_frozen ho 16; have hol := blk_lt ho
  have hp := h.cells
  have HO := Hd.mk ho
  have hv0 := blk_alloc (blk_new w (.cells #[.int .i64 o.k, .int .i64 o.n, .string o.data] 41 (0, 0)) _ rfl) (.cells #[.int .i64 0, .int .i64 0, .int .i64 0, .int .i64 0, .int .i64 0, .int .i64 0, .int .i64 0, .int .i64 0] 45 (0, 0))
  have hv1 := blk_new (w.alloc (.cells #[.int .i64 o.k, .int .i64 o.n, .string o.data] 41 (0, 0))) (.cells #[.int .i64 0, .int .i64 0, .int .i64 0, .int .i64 0, .int .i64 0, .int .i64 0, .int .i64 0, .int .i64 0] 45 (0, 0)) (w.heap.size + 1) (by rw [size_alloc])
  have HV0 := Hd.mk hv0; have HV1 := Hd.mk hv1
  clear h ho hk hv0 hv1
  cases hcl : s.cl with
  | true =>
    rw [hcl] at HO
    by_cases hlt : rm < o.data.size
    · skip
      go_enter Tryz.func50, Tryz.ntmps50
      go_wp2
      generalize hV : World.alloc _ _ = V
      have HBV : Below w.heap.size w V := below_of hV (by repeat (first | (with_reducible assumption) | (with_reducible exact Below.refl _ _) | (with_reducible apply below_drewL) | (with_reducible apply below_alloc) | (with_reducible apply below_drew1) | (with_reducible apply below_drewN) | (refine below_set ?_ (by first | omega | (simp only [size_alloc, size_drew, size_set]; omega)) _ _)))
      have zV : Hd (V.heap.size = w.heap.size + 1 + 1) := ⟨by rw [← hV]; simp only [size_alloc]⟩
      have V0 := at_of hV (blk_alloc (blk_new _ _ _ rfl) _)
      have V0l := blk_lt V0
      have V1 := at_of hV (blk_new _ _ _ rfl)
      simp only [size_alloc] at V1
      have V1l := blk_lt V1
      clear hV
      have ho := blk_below HO.out HBV
      have hoc0 := blk_cell ho 0 _ rfl; have hof0 := blk_frozen ho 0; have hoc1 := blk_cell ho 1 _ rfl; have hof1 := blk_frozen ho 1; have hoc2 := blk_cell ho 2 _ rfl; have hof2 := blk_frozen ho 2; have hoc3 := blk_cell ho 3 _ rfl; have hof3 := blk_frozen ho 3; have hoc4 := blk_cell ho 4 _ rfl; have hof4 := blk_frozen ho 4; have hoc5 := blk_cell ho 5 _ rfl; have hof5 := blk_frozen ho 5; have hoc6 := blk_cell ho 6 _ rfl; have hof6 := blk_frozen ho 6; have hoc7 := blk_cell ho 7 _ rfl; have hof7 := blk_frozen ho 7; have hoc8 := blk_cell ho 8 _ rfl; have hof8 := blk_frozen ho 8; have hoc9 := blk_cell ho 9 _ rfl; have hof9 := blk_frozen ho 9; have hoc10 := blk_cell ho 10 _ rfl; have hof10 := blk_frozen ho 10; have hoc11 := blk_cell ho 11 _ rfl; have hof11 := blk_frozen ho 11; have hoc12 := blk_cell ho 12 _ rfl; have hof12 := blk_frozen ho 12; have hoc13 := blk_cell ho 13 _ rfl; have hof13 := blk_frozen ho 13; have hoc14 := blk_cell ho 14 _ rfl; have hof14 := blk_frozen ho 14; have hoc15 := blk_cell ho 15 _ rfl; have hof15 := blk_frozen ho 15; have hoc16 := blk_cell ho 16 _ rfl; have hof16 := blk_frozen ho 16; have hol := blk_lt ho
      have V0c0 := blk_cell V0 0 _ rfl
      have V0f0 := blk_frozen V0 0
      have V0c1 := blk_cell V0 1 _ rfl
      have V0f1 := blk_frozen V0 1
      have V0c2 := blk_cell V0 2 _ rfl
      have V0f2 := blk_frozen V0 2
      have HB0 := Hd.mk HBV
      have HV0' := Hd.mk V0; have HV1' := Hd.mk V1
      clear zV
      refine wp_region_can (.q [0, 1, 2, 3] (.e 4 true (.q [5, 6] (.done)))) (clsB _) (by kernel_rfl) (by kernel_rfl) (by intro _ _ d _ _ h; cases d <;> exact h) (clsB_drew _) ?_
      refine can_q (l := [⟨_,_,_,_,_,_⟩, ⟨_,_,_,_,_,_⟩, ⟨_,_,_,_,_,_⟩, ⟨_,_,_,_,_,_⟩]) rfl ?_
      repeat (go_big_quiet_step (fail))
      refine wpQuiet_nil ?_
      refine can_e (o := ⟨_,_,_,_,_,_⟩) rfl (fun K hK => ?_)
      go_wp2_with (go_at_call 77; go_must (refine Calls.mono (HRM.out _ (by exact below_drew1 HB0.out)) ?_; rintro e w3 ⟨rfl, hb3⟩; replace hb3 := below_undrew hb3))
      have HB3 := Hd.mk (below_seq HB0.out hb3)
      have HU0 := Hd.mk (blk_below HV0'.out hb3)
      have HU1 := Hd.mk (blk_below HV1'.out hb3)
      have HOU := Hd.mk (blk_below HO.out HB3.out)
      refine onK_normal (hK _ _ ⟨clsB _, clsB_of (by first | exact (hb3) | exact below_undrew (hb3)), fun _ _ h => h, ?_⟩)
      clear hK K
      refine can_q (l := [⟨_,_,_,_,_,_⟩, ⟨_,_,_,_,_,_⟩]) rfl ?_
      repeat (go_big_quiet_step (fail))
      refine wpQuiet_nil ?_
      refine can_done ?_
      clear hoc0 hof0 hoc1 hof1 hoc2 hof2 hoc3 hof3 hoc4 hof4 hoc5 hof5 hoc6 hof6 hoc7 hof7 hoc8 hof8 hoc9 hof9 hoc10 hof10 hoc11 hof11 hoc12 hof12 hoc13 hof13 hoc14 hof14 hoc15 hof15 hoc16 hof16 hol
      clear V0c0 V0f0 V0c1 V0f1 V0c2 V0f2 V0l
      clear ho V0 V1 V1l HBV
      have ho3 := HOU.out
      have h03 := HU0.out
      have h13 := HU1.out
      have ho3c0 := blk_cell ho3 0 _ rfl; have ho3f0 := blk_frozen ho3 0; have ho3c1 := blk_cell ho3 1 _ rfl; have ho3f1 := blk_frozen ho3 1; have ho3c2 := blk_cell ho3 2 _ rfl; have ho3f2 := blk_frozen ho3 2; have ho3c3 := blk_cell ho3 3 _ rfl; have ho3f3 := blk_frozen ho3 3; have ho3c4 := blk_cell ho3 4 _ rfl; have ho3f4 := blk_frozen ho3 4; have ho3c5 := blk_cell ho3 5 _ rfl; have ho3f5 := blk_frozen ho3 5; have ho3c6 := blk_cell ho3 6 _ rfl; have ho3f6 := blk_frozen ho3 6; have ho3c7 := blk_cell ho3 7 _ rfl; have ho3f7 := blk_frozen ho3 7; have ho3c8 := blk_cell ho3 8 _ rfl; have ho3f8 := blk_frozen ho3 8; have ho3c9 := blk_cell ho3 9 _ rfl; have ho3f9 := blk_frozen ho3 9; have ho3c10 := blk_cell ho3 10 _ rfl; have ho3f10 := blk_frozen ho3 10; have ho3c11 := blk_cell ho3 11 _ rfl; have ho3f11 := blk_frozen ho3 11; have ho3c12 := blk_cell ho3 12 _ rfl; have ho3f12 := blk_frozen ho3 12; have ho3c13 := blk_cell ho3 13 _ rfl; have ho3f13 := blk_frozen ho3 13; have ho3c14 := blk_cell ho3 14 _ rfl; have ho3f14 := blk_frozen ho3 14; have ho3c15 := blk_cell ho3 15 _ rfl; have ho3f15 := blk_frozen ho3 15; have ho3c16 := blk_cell ho3 16 _ rfl; have ho3f16 := blk_frozen ho3 16; have ho3l := blk_lt ho3
      have h03c0 := blk_cell h03 0 _ rfl; have h03f0 := blk_frozen h03 0; have h03c1 := blk_cell h03 1 _ rfl; have h03f1 := blk_frozen h03 1; have h03c2 := blk_cell h03 2 _ rfl; have h03f2 := blk_frozen h03 2; have h03l := blk_lt h03
      have h13c0 := blk_cell h13 0 _ rfl; have h13f0 := blk_frozen h13 0; have h13c1 := blk_cell h13 1 _ rfl; have h13f1 := blk_frozen h13 1; have h13c2 := blk_cell h13 2 _ rfl; have h13f2 := blk_frozen h13 2; have h13c3 := blk_cell h13 3 _ rfl; have h13f3 := blk_frozen h13 3; have h13c4 := blk_cell h13 4 _ rfl; have h13f4 := blk_frozen h13 4; have h13c5 := blk_cell h13 5 _ rfl; have h13f5 := blk_frozen h13 5; have h13c6 := blk_cell h13 6 _ rfl; have h13f6 := blk_frozen h13 6; have h13c7 := blk_cell h13 7 _ rfl; have h13f7 := blk_frozen h13 7; have h13l := blk_lt h13
      clear ho3 h03 h13 hb3
      go_wp2_with (go_at_call 22; go_must (refine Calls.mono (fail_calls _ _) ?_; rintro e w1 ⟨rfl, hb1⟩; have hv1 := blk_below HU1.out hb1; have HX := Hd.mk hv1; have hv1c0 := blk_cell hv1 0 _ rfl; have hv1f0 := blk_frozen hv1 0; have hv1c1 := blk_cell hv1 1 _ rfl; have hv1f1 := blk_frozen hv1 1; have hv1c2 := blk_cell hv1 2 _ rfl; have hv1f2 := blk_frozen hv1 2; have hv1c3 := blk_cell hv1 3 _ rfl; have hv1f3 := blk_frozen hv1 3; have hv1c4 := blk_cell hv1 4 _ rfl; have hv1f4 := blk_frozen hv1 4; have hv1c5 := blk_cell hv1 5 _ rfl; have hv1f5 := blk_frozen hv1 5; have hv1c6 := blk_cell hv1 6 _ rfl; have hv1f6 := blk_frozen hv1 6; have hv1c7 := blk_cell hv1 7 _ rfl; have hv1f7 := blk_frozen hv1 7; have hv1l := blk_lt hv1; have HB1 := Hd.mk (below_seq HB3.out hb1); clear hv1 hb1))
      refine bodyPost_ret (results_cell_row rfl _ _ (w.heap.size + 1) 45 #[.int .i64 16, .int .i64 0, .int .i64 0, .int .i64 0, .int .i64 0, .int .i64 0, .int .i64 0, .int .i64 0] (0,0) _ rfl (blk_eight HX.out _ _ _ _ _ _ _ _) Tryz.underlying45 rfl (by kernel_rfl)) rfl ?_
      exact Done.fail HH.out ((fr_eight (Fr.of_below (X := fun _ => False) HB1.out) (.inr (by omega)) _ _ _ _ _ _ _ _).below (Nat.le_refl _) (fun _ _ h => h)) 16 (by first | assumption | decide) rfl
    · skip
      go_enter Tryz.func50, Tryz.ntmps50
      go_wp2
      generalize hV : World.alloc _ _ = V
      have HBV : Below w.heap.size w V := below_of hV (by repeat (first | (with_reducible assumption) | (with_reducible exact Below.refl _ _) | (with_reducible apply below_drewL) | (with_reducible apply below_alloc) | (with_reducible apply below_drew1) | (with_reducible apply below_drewN) | (refine below_set ?_ (by first | omega | (simp only [size_alloc, size_drew, size_set]; omega)) _ _)))
      have zV : Hd (V.heap.size = w.heap.size + 1 + 1) := ⟨by rw [← hV]; simp only [size_alloc]⟩
      have V0 := at_of hV (blk_alloc (blk_new _ _ _ rfl) _)
      have V0l := blk_lt V0
      have V1 := at_of hV (blk_new _ _ _ rfl)
      simp only [size_alloc] at V1
      have V1l := blk_lt V1
      clear hV
      have ho := blk_below HO.out HBV
      have hoc0 := blk_cell ho 0 _ rfl; have hof0 := blk_frozen ho 0; have hoc1 := blk_cell ho 1 _ rfl; have hof1 := blk_frozen ho 1; have hoc2 := blk_cell ho 2 _ rfl; have hof2 := blk_frozen ho 2; have hoc3 := blk_cell ho 3 _ rfl; have hof3 := blk_frozen ho 3; have hoc4 := blk_cell ho 4 _ rfl; have hof4 := blk_frozen ho 4; have hoc5 := blk_cell ho 5 _ rfl; have hof5 := blk_frozen ho 5; have hoc6 := blk_cell ho 6 _ rfl; have hof6 := blk_frozen ho 6; have hoc7 := blk_cell ho 7 _ rfl; have hof7 := blk_frozen ho 7; have hoc8 := blk_cell ho 8 _ rfl; have hof8 := blk_frozen ho 8; have hoc9 := blk_cell ho 9 _ rfl; have hof9 := blk_frozen ho 9; have hoc10 := blk_cell ho 10 _ rfl; have hof10 := blk_frozen ho 10; have hoc11 := blk_cell ho 11 _ rfl; have hof11 := blk_frozen ho 11; have hoc12 := blk_cell ho 12 _ rfl; have hof12 := blk_frozen ho 12; have hoc13 := blk_cell ho 13 _ rfl; have hof13 := blk_frozen ho 13; have hoc14 := blk_cell ho 14 _ rfl; have hof14 := blk_frozen ho 14; have hoc15 := blk_cell ho 15 _ rfl; have hof15 := blk_frozen ho 15; have hoc16 := blk_cell ho 16 _ rfl; have hof16 := blk_frozen ho 16; have hol := blk_lt ho
      have V0c0 := blk_cell V0 0 _ rfl
      have V0f0 := blk_frozen V0 0
      have V0c1 := blk_cell V0 1 _ rfl
      have V0f1 := blk_frozen V0 1
      have V0c2 := blk_cell V0 2 _ rfl
      have V0f2 := blk_frozen V0 2
      have HB0 := Hd.mk HBV
      have HV0' := Hd.mk V0; have HV1' := Hd.mk V1
      clear zV
      refine wp_region_can (.q [0, 1, 2, 3] (.e 4 true (.q [5, 6] (.done)))) (clsB _) (by kernel_rfl) (by kernel_rfl) (by intro _ _ d _ _ h; cases d <;> exact h) (clsB_drew _) ?_
      refine can_q (l := [⟨_,_,_,_,_,_⟩, ⟨_,_,_,_,_,_⟩, ⟨_,_,_,_,_,_⟩, ⟨_,_,_,_,_,_⟩]) rfl ?_
      repeat (go_big_quiet_step (fail))
      refine wpQuiet_nil ?_
      refine can_e (o := ⟨_,_,_,_,_,_⟩) rfl (fun K hK => ?_)
      go_wp2_with (go_at_call 77; go_must (refine Calls.mono (HRM.out _ (by exact below_drew1 HB0.out)) ?_; rintro e w3 ⟨rfl, hb3⟩; replace hb3 := below_undrew hb3))
      have HB3 := Hd.mk (below_seq HB0.out hb3)
      have HU0 := Hd.mk (blk_below HV0'.out hb3)
      have HU1 := Hd.mk (blk_below HV1'.out hb3)
      have HOU := Hd.mk (blk_below HO.out HB3.out)
      refine onK_normal (hK _ _ ⟨clsB _, clsB_of (by first | exact (hb3) | exact below_undrew (hb3)), fun _ _ h => h, ?_⟩)
      clear hK K
      refine can_q (l := [⟨_,_,_,_,_,_⟩, ⟨_,_,_,_,_,_⟩]) rfl ?_
      repeat (go_big_quiet_step (fail))
      refine wpQuiet_nil ?_
      refine can_done ?_
      clear hoc0 hof0 hoc1 hof1 hoc2 hof2 hoc3 hof3 hoc4 hof4 hoc5 hof5 hoc6 hof6 hoc7 hof7 hoc8 hof8 hoc9 hof9 hoc10 hof10 hoc11 hof11 hoc12 hof12 hoc13 hof13 hoc14 hof14 hoc15 hof15 hoc16 hof16 hol
      clear V0c0 V0f0 V0c1 V0f1 V0c2 V0f2 V0l
      clear ho V0 V1 V1l HBV
      have ho3 := HOU.out
      have h03 := HU0.out
      have h13 := HU1.out
      have ho3c0 := blk_cell ho3 0 _ rfl; have ho3f0 := blk_frozen ho3 0; have ho3c1 := blk_cell ho3 1 _ rfl; have ho3f1 := blk_frozen ho3 1; have ho3c2 := blk_cell ho3 2 _ rfl; have ho3f2 := blk_frozen ho3 2; have ho3c3 := blk_cell ho3 3 _ rfl; have ho3f3 := blk_frozen ho3 3; have ho3c4 := blk_cell ho3 4 _ rfl; have ho3f4 := blk_frozen ho3 4; have ho3c5 := blk_cell ho3 5 _ rfl; have ho3f5 := blk_frozen ho3 5; have ho3c6 := blk_cell ho3 6 _ rfl; have ho3f6 := blk_frozen ho3 6; have ho3c7 := blk_cell ho3 7 _ rfl; have ho3f7 := blk_frozen ho3 7; have ho3c8 := blk_cell ho3 8 _ rfl; have ho3f8 := blk_frozen ho3 8; have ho3c9 := blk_cell ho3 9 _ rfl; have ho3f9 := blk_frozen ho3 9; have ho3c10 := blk_cell ho3 10 _ rfl; have ho3f10 := blk_frozen ho3 10; have ho3c11 := blk_cell ho3 11 _ rfl; have ho3f11 := blk_frozen ho3 11; have ho3c12 := blk_cell ho3 12 _ rfl; have ho3f12 := blk_frozen ho3 12; have ho3c13 := blk_cell ho3 13 _ rfl; have ho3f13 := blk_frozen ho3 13; have ho3c14 := blk_cell ho3 14 _ rfl; have ho3f14 := blk_frozen ho3 14; have ho3c15 := blk_cell ho3 15 _ rfl; have ho3f15 := blk_frozen ho3 15; have ho3c16 := blk_cell ho3 16 _ rfl; have ho3f16 := blk_frozen ho3 16; have ho3l := blk_lt ho3
      have h03c0 := blk_cell h03 0 _ rfl; have h03f0 := blk_frozen h03 0; have h03c1 := blk_cell h03 1 _ rfl; have h03f1 := blk_frozen h03 1; have h03c2 := blk_cell h03 2 _ rfl; have h03f2 := blk_frozen h03 2; have h03l := blk_lt h03
      have h13c0 := blk_cell h13 0 _ rfl; have h13f0 := blk_frozen h13 0; have h13c1 := blk_cell h13 1 _ rfl; have h13f1 := blk_frozen h13 1; have h13c2 := blk_cell h13 2 _ rfl; have h13f2 := blk_frozen h13 2; have h13c3 := blk_cell h13 3 _ rfl; have h13f3 := blk_frozen h13 3; have h13c4 := blk_cell h13 4 _ rfl; have h13f4 := blk_frozen h13 4; have h13c5 := blk_cell h13 5 _ rfl; have h13f5 := blk_frozen h13 5; have h13c6 := blk_cell h13 6 _ rfl; have h13f6 := blk_frozen h13 6; have h13c7 := blk_cell h13 7 _ rfl; have h13f7 := blk_frozen h13 7; have h13l := blk_lt h13
      clear ho3 h03 h13 hb3
      go_wp2_with (go_at_call 22; go_must (refine Calls.mono (fail_calls _ _) ?_; rintro e w1 ⟨rfl, hb1⟩; have hv1 := blk_below HU1.out hb1; have HX := Hd.mk hv1; have hv1c0 := blk_cell hv1 0 _ rfl; have hv1f0 := blk_frozen hv1 0; have hv1c1 := blk_cell hv1 1 _ rfl; have hv1f1 := blk_frozen hv1 1; have hv1c2 := blk_cell hv1 2 _ rfl; have hv1f2 := blk_frozen hv1 2; have hv1c3 := blk_cell hv1 3 _ rfl; have hv1f3 := blk_frozen hv1 3; have hv1c4 := blk_cell hv1 4 _ rfl; have hv1f4 := blk_frozen hv1 4; have hv1c5 := blk_cell hv1 5 _ rfl; have hv1f5 := blk_frozen hv1 5; have hv1c6 := blk_cell hv1 6 _ rfl; have hv1f6 := blk_frozen hv1 6; have hv1c7 := blk_cell hv1 7 _ rfl; have hv1f7 := blk_frozen hv1 7; have hv1l := blk_lt hv1; have HB1 := Hd.mk (below_seq HB3.out hb1); clear hv1 hb1))
      refine bodyPost_ret (results_cell_row rfl _ _ (w.heap.size + 1) 45 #[.int .i64 16, .int .i64 0, .int .i64 0, .int .i64 0, .int .i64 0, .int .i64 0, .int .i64 0, .int .i64 0] (0,0) _ rfl (blk_eight HX.out _ _ _ _ _ _ _ _) Tryz.underlying45 rfl (by kernel_rfl)) rfl ?_
      exact Done.fail HH.out ((fr_eight (Fr.of_below (X := fun _ => False) HB1.out) (.inr (by omega)) _ _ _ _ _ _ _ _).below (Nat.le_refl _) (fun _ _ h => h)) 16 (by first | assumption | decide) rfl
  | false =>
    rw [hcl] at HO
    by_cases hlt : rm < o.data.size
    · by_cases hz : rm = 0
      · have HZ := Hd.mk hz
        have hz1 : (rm == 0) = true := by simpa using hz
        have hemp : o.data.toList.isEmpty = false := by rw [Bool.eq_false_iff]; exact fun h9 => by have h8 := (empty_is o.data).1 h9; omega
        clear hz
        go_enter Tryz.func50, Tryz.ntmps50
        go_wp2
        generalize hV : World.alloc _ _ = V
        have HBV : Below w.heap.size w V := below_of hV (by repeat (first | (with_reducible assumption) | (with_reducible exact Below.refl _ _) | (with_reducible apply below_drewL) | (with_reducible apply below_alloc) | (with_reducible apply below_drew1) | (with_reducible apply below_drewN) | (refine below_set ?_ (by first | omega | (simp only [size_alloc, size_drew, size_set]; omega)) _ _)))
        have zV : Hd (V.heap.size = w.heap.size + 1 + 1) := ⟨by rw [← hV]; simp only [size_alloc]⟩
        have V0 := at_of hV (blk_alloc (blk_new _ _ _ rfl) _)
        have V0l := blk_lt V0
        have V1 := at_of hV (blk_new _ _ _ rfl)
        simp only [size_alloc] at V1
        have V1l := blk_lt V1
        clear hV
        have ho := blk_below HO.out HBV
        have hoc0 := blk_cell ho 0 _ rfl; have hof0 := blk_frozen ho 0; have hoc1 := blk_cell ho 1 _ rfl; have hof1 := blk_frozen ho 1; have hoc2 := blk_cell ho 2 _ rfl; have hof2 := blk_frozen ho 2; have hoc3 := blk_cell ho 3 _ rfl; have hof3 := blk_frozen ho 3; have hoc4 := blk_cell ho 4 _ rfl; have hof4 := blk_frozen ho 4; have hoc5 := blk_cell ho 5 _ rfl; have hof5 := blk_frozen ho 5; have hoc6 := blk_cell ho 6 _ rfl; have hof6 := blk_frozen ho 6; have hoc7 := blk_cell ho 7 _ rfl; have hof7 := blk_frozen ho 7; have hoc8 := blk_cell ho 8 _ rfl; have hof8 := blk_frozen ho 8; have hoc9 := blk_cell ho 9 _ rfl; have hof9 := blk_frozen ho 9; have hoc10 := blk_cell ho 10 _ rfl; have hof10 := blk_frozen ho 10; have hoc11 := blk_cell ho 11 _ rfl; have hof11 := blk_frozen ho 11; have hoc12 := blk_cell ho 12 _ rfl; have hof12 := blk_frozen ho 12; have hoc13 := blk_cell ho 13 _ rfl; have hof13 := blk_frozen ho 13; have hoc14 := blk_cell ho 14 _ rfl; have hof14 := blk_frozen ho 14; have hoc15 := blk_cell ho 15 _ rfl; have hof15 := blk_frozen ho 15; have hoc16 := blk_cell ho 16 _ rfl; have hof16 := blk_frozen ho 16; have hol := blk_lt ho
        have V0c0 := blk_cell V0 0 _ rfl
        have V0f0 := blk_frozen V0 0
        have V0c1 := blk_cell V0 1 _ rfl
        have V0f1 := blk_frozen V0 1
        have V0c2 := blk_cell V0 2 _ rfl
        have V0f2 := blk_frozen V0 2
        have HB0 := Hd.mk HBV
        have HV0' := Hd.mk V0; have HV1' := Hd.mk V1
        clear zV
        refine wp_region_can (.q [0, 1, 2, 3] (.e 4 true (.q [5, 6] (.done)))) (clsB _) (by kernel_rfl) (by kernel_rfl) (by intro _ _ d _ _ h; cases d <;> exact h) (clsB_drew _) ?_
        refine can_q (l := [⟨_,_,_,_,_,_⟩, ⟨_,_,_,_,_,_⟩, ⟨_,_,_,_,_,_⟩, ⟨_,_,_,_,_,_⟩]) rfl ?_
        repeat (go_big_quiet_step (fail))
        refine wpQuiet_nil ?_
        refine can_e (o := ⟨_,_,_,_,_,_⟩) rfl (fun K hK => ?_)
        go_wp2_with (go_at_call 77; go_must (refine Calls.mono (HRM.out _ (by exact below_drew1 HB0.out)) ?_; rintro e w3 ⟨rfl, hb3⟩; replace hb3 := below_undrew hb3))
        have HB3 := Hd.mk (below_seq HB0.out hb3)
        have HU0 := Hd.mk (blk_below HV0'.out hb3)
        have HU1 := Hd.mk (blk_below HV1'.out hb3)
        have HOU := Hd.mk (blk_below HO.out HB3.out)
        refine onK_normal (hK _ _ ⟨clsB _, clsB_of (by first | exact (hb3) | exact below_undrew (hb3)), fun _ _ h => h, ?_⟩)
        clear hK K
        refine can_q (l := [⟨_,_,_,_,_,_⟩, ⟨_,_,_,_,_,_⟩]) rfl ?_
        repeat (go_big_quiet_step (fail))
        refine wpQuiet_nil ?_
        refine can_done ?_
        clear hoc0 hof0 hoc1 hof1 hoc2 hof2 hoc3 hof3 hoc4 hof4 hoc5 hof5 hoc6 hof6 hoc7 hof7 hoc8 hof8 hoc9 hof9 hoc10 hof10 hoc11 hof11 hoc12 hof12 hoc13 hof13 hoc14 hof14 hoc15 hof15 hoc16 hof16 hol
        clear V0c0 V0f0 V0c1 V0f1 V0c2 V0f2 V0l
        clear ho V0 V1 V1l HBV
        have ho3 := HOU.out
        have h03 := HU0.out
        have h13 := HU1.out
        have ho3c0 := blk_cell ho3 0 _ rfl; have ho3f0 := blk_frozen ho3 0; have ho3c1 := blk_cell ho3 1 _ rfl; have ho3f1 := blk_frozen ho3 1; have ho3c2 := blk_cell ho3 2 _ rfl; have ho3f2 := blk_frozen ho3 2; have ho3c3 := blk_cell ho3 3 _ rfl; have ho3f3 := blk_frozen ho3 3; have ho3c4 := blk_cell ho3 4 _ rfl; have ho3f4 := blk_frozen ho3 4; have ho3c5 := blk_cell ho3 5 _ rfl; have ho3f5 := blk_frozen ho3 5; have ho3c6 := blk_cell ho3 6 _ rfl; have ho3f6 := blk_frozen ho3 6; have ho3c7 := blk_cell ho3 7 _ rfl; have ho3f7 := blk_frozen ho3 7; have ho3c8 := blk_cell ho3 8 _ rfl; have ho3f8 := blk_frozen ho3 8; have ho3c9 := blk_cell ho3 9 _ rfl; have ho3f9 := blk_frozen ho3 9; have ho3c10 := blk_cell ho3 10 _ rfl; have ho3f10 := blk_frozen ho3 10; have ho3c11 := blk_cell ho3 11 _ rfl; have ho3f11 := blk_frozen ho3 11; have ho3c12 := blk_cell ho3 12 _ rfl; have ho3f12 := blk_frozen ho3 12; have ho3c13 := blk_cell ho3 13 _ rfl; have ho3f13 := blk_frozen ho3 13; have ho3c14 := blk_cell ho3 14 _ rfl; have ho3f14 := blk_frozen ho3 14; have ho3c15 := blk_cell ho3 15 _ rfl; have ho3f15 := blk_frozen ho3 15; have ho3c16 := blk_cell ho3 16 _ rfl; have ho3f16 := blk_frozen ho3 16; have ho3l := blk_lt ho3
        have h03c0 := blk_cell h03 0 _ rfl; have h03f0 := blk_frozen h03 0; have h03c1 := blk_cell h03 1 _ rfl; have h03f1 := blk_frozen h03 1; have h03c2 := blk_cell h03 2 _ rfl; have h03f2 := blk_frozen h03 2; have h03l := blk_lt h03
        have h13c0 := blk_cell h13 0 _ rfl; have h13f0 := blk_frozen h13 0; have h13c1 := blk_cell h13 1 _ rfl; have h13f1 := blk_frozen h13 1; have h13c2 := blk_cell h13 2 _ rfl; have h13f2 := blk_frozen h13 2; have h13c3 := blk_cell h13 3 _ rfl; have h13f3 := blk_frozen h13 3; have h13c4 := blk_cell h13 4 _ rfl; have h13f4 := blk_frozen h13 4; have h13c5 := blk_cell h13 5 _ rfl; have h13f5 := blk_frozen h13 5; have h13c6 := blk_cell h13 6 _ rfl; have h13f6 := blk_frozen h13 6; have h13c7 := blk_cell h13 7 _ rfl; have h13f7 := blk_frozen h13 7; have h13l := blk_lt h13
        clear ho3 h03 h13 hb3
        go_wp2_with (go_at_call 22; go_must (refine Calls.mono (fail_calls _ _) ?_; rintro e w1 ⟨rfl, hb1⟩; have hv1 := blk_below HU1.out hb1; have HX := Hd.mk hv1; have hv1c0 := blk_cell hv1 0 _ rfl; have hv1f0 := blk_frozen hv1 0; have hv1c1 := blk_cell hv1 1 _ rfl; have hv1f1 := blk_frozen hv1 1; have hv1c2 := blk_cell hv1 2 _ rfl; have hv1f2 := blk_frozen hv1 2; have hv1c3 := blk_cell hv1 3 _ rfl; have hv1f3 := blk_frozen hv1 3; have hv1c4 := blk_cell hv1 4 _ rfl; have hv1f4 := blk_frozen hv1 4; have hv1c5 := blk_cell hv1 5 _ rfl; have hv1f5 := blk_frozen hv1 5; have hv1c6 := blk_cell hv1 6 _ rfl; have hv1f6 := blk_frozen hv1 6; have hv1c7 := blk_cell hv1 7 _ rfl; have hv1f7 := blk_frozen hv1 7; have hv1l := blk_lt hv1; have HB1 := Hd.mk (below_seq HB3.out hb1); clear hv1 hb1))
        refine bodyPost_ret (results_cell_row rfl _ _ (w.heap.size + 1) 45 #[.int .i64 14, .int .i64 0, .int .i64 0, .int .i64 0, .int .i64 0, .int .i64 0, .int .i64 0, .int .i64 0] (0,0) _ rfl (blk_eight HX.out _ _ _ _ _ _ _ _) Tryz.underlying45 rfl (by kernel_rfl)) rfl ?_
        exact Done.fail HH.out ((fr_eight (Fr.of_below (X := fun _ => False) HB1.out) (.inr (by omega)) _ _ _ _ _ _ _ _).below (Nat.le_refl _) (fun _ _ h => h)) 14 (by first | assumption | decide) rfl
      · obtain ⟨j, hj⟩ : ∃ j : Nat, rm = j := ⟨rm.toNat, by omega⟩
        subst hj
        have hz1 : ((j : Int) == 0) = false := by simpa using hz
        have hjs : j ≤ o.data.size := by omega
        have HJ : Hd ((j : Int) ≤ j) := ⟨Int.le_refl _⟩
        have HTY := Hd.mk (take_ext o.data j hjs)
        have HLY : Hd ((o.data.extract 0 j).size ≤ 40) := ⟨by rw [← bl_len, HTY.out, List.length_take]; have h9 := bl_len o.data; omega⟩
        clear hz
        go_enter Tryz.func50, Tryz.ntmps50
        go_wp2
        generalize hV : World.alloc _ _ = V
        have HBV : Below w.heap.size w V := below_of hV (by repeat (first | (with_reducible assumption) | (with_reducible exact Below.refl _ _) | (with_reducible apply below_drewL) | (with_reducible apply below_alloc) | (with_reducible apply below_drew1) | (with_reducible apply below_drewN) | (refine below_set ?_ (by first | omega | (simp only [size_alloc, size_drew, size_set]; omega)) _ _)))
        have zV : Hd (V.heap.size = w.heap.size + 1 + 1) := ⟨by rw [← hV]; simp only [size_alloc]⟩
        have V0 := at_of hV (blk_alloc (blk_new _ _ _ rfl) _)
        have V0l := blk_lt V0
        have V1 := at_of hV (blk_new _ _ _ rfl)
        simp only [size_alloc] at V1
        have V1l := blk_lt V1
        clear hV
        have ho := blk_below HO.out HBV
        have hoc0 := blk_cell ho 0 _ rfl; have hof0 := blk_frozen ho 0; have hoc1 := blk_cell ho 1 _ rfl; have hof1 := blk_frozen ho 1; have hoc2 := blk_cell ho 2 _ rfl; have hof2 := blk_frozen ho 2; have hoc3 := blk_cell ho 3 _ rfl; have hof3 := blk_frozen ho 3; have hoc4 := blk_cell ho 4 _ rfl; have hof4 := blk_frozen ho 4; have hoc5 := blk_cell ho 5 _ rfl; have hof5 := blk_frozen ho 5; have hoc6 := blk_cell ho 6 _ rfl; have hof6 := blk_frozen ho 6; have hoc7 := blk_cell ho 7 _ rfl; have hof7 := blk_frozen ho 7; have hoc8 := blk_cell ho 8 _ rfl; have hof8 := blk_frozen ho 8; have hoc9 := blk_cell ho 9 _ rfl; have hof9 := blk_frozen ho 9; have hoc10 := blk_cell ho 10 _ rfl; have hof10 := blk_frozen ho 10; have hoc11 := blk_cell ho 11 _ rfl; have hof11 := blk_frozen ho 11; have hoc12 := blk_cell ho 12 _ rfl; have hof12 := blk_frozen ho 12; have hoc13 := blk_cell ho 13 _ rfl; have hof13 := blk_frozen ho 13; have hoc14 := blk_cell ho 14 _ rfl; have hof14 := blk_frozen ho 14; have hoc15 := blk_cell ho 15 _ rfl; have hof15 := blk_frozen ho 15; have hoc16 := blk_cell ho 16 _ rfl; have hof16 := blk_frozen ho 16; have hol := blk_lt ho
        have V0c0 := blk_cell V0 0 _ rfl
        have V0f0 := blk_frozen V0 0
        have V0c1 := blk_cell V0 1 _ rfl
        have V0f1 := blk_frozen V0 1
        have V0c2 := blk_cell V0 2 _ rfl
        have V0f2 := blk_frozen V0 2
        have HB0 := Hd.mk HBV
        have HV0' := Hd.mk V0; have HV1' := Hd.mk V1
        clear zV
        refine wp_region_can (.q [0, 1, 2, 3] (.e 4 true (.q [5, 6] (.done)))) (clsB _) (by kernel_rfl) (by kernel_rfl) (by intro _ _ d _ _ h; cases d <;> exact h) (clsB_drew _) ?_
        refine can_q (l := [⟨_,_,_,_,_,_⟩, ⟨_,_,_,_,_,_⟩, ⟨_,_,_,_,_,_⟩, ⟨_,_,_,_,_,_⟩]) rfl ?_
        repeat (go_big_quiet_step (fail))
        refine wpQuiet_nil ?_
        refine can_e (o := ⟨_,_,_,_,_,_⟩) rfl (fun K hK => ?_)
        go_wp2_with (go_at_call 77; go_must (refine Calls.mono (HRM.out _ (by exact below_drew1 HB0.out)) ?_; rintro e w3 ⟨rfl, hb3⟩; replace hb3 := below_undrew hb3))
        have HB3 := Hd.mk (below_seq HB0.out hb3)
        have HU0 := Hd.mk (blk_below HV0'.out hb3)
        have HU1 := Hd.mk (blk_below HV1'.out hb3)
        have HOU := Hd.mk (blk_below HO.out HB3.out)
        refine onK_normal (hK _ _ ⟨clsB _, clsB_of (by first | exact (hb3) | exact below_undrew (hb3)), fun _ _ h => h, ?_⟩)
        clear hK K
        refine can_q (l := [⟨_,_,_,_,_,_⟩, ⟨_,_,_,_,_,_⟩]) rfl ?_
        repeat (go_big_quiet_step (fail))
        refine wpQuiet_nil ?_
        refine can_done ?_
        clear hoc0 hof0 hoc1 hof1 hoc2 hof2 hoc3 hof3 hoc4 hof4 hoc5 hof5 hoc6 hof6 hoc7 hof7 hoc8 hof8 hoc9 hof9 hoc10 hof10 hoc11 hof11 hoc12 hof12 hoc13 hof13 hoc14 hof14 hoc15 hof15 hoc16 hof16 hol
        clear V0c0 V0f0 V0c1 V0f1 V0c2 V0f2 V0l
        clear ho V0 V1 V1l HBV
        have ho3 := HOU.out
        have h03 := HU0.out
        have h13 := HU1.out
        have ho3c0 := blk_cell ho3 0 _ rfl; have ho3f0 := blk_frozen ho3 0; have ho3c1 := blk_cell ho3 1 _ rfl; have ho3f1 := blk_frozen ho3 1; have ho3c2 := blk_cell ho3 2 _ rfl; have ho3f2 := blk_frozen ho3 2; have ho3c3 := blk_cell ho3 3 _ rfl; have ho3f3 := blk_frozen ho3 3; have ho3c4 := blk_cell ho3 4 _ rfl; have ho3f4 := blk_frozen ho3 4; have ho3c5 := blk_cell ho3 5 _ rfl; have ho3f5 := blk_frozen ho3 5; have ho3c6 := blk_cell ho3 6 _ rfl; have ho3f6 := blk_frozen ho3 6; have ho3c7 := blk_cell ho3 7 _ rfl; have ho3f7 := blk_frozen ho3 7; have ho3c8 := blk_cell ho3 8 _ rfl; have ho3f8 := blk_frozen ho3 8; have ho3c9 := blk_cell ho3 9 _ rfl; have ho3f9 := blk_frozen ho3 9; have ho3c10 := blk_cell ho3 10 _ rfl; have ho3f10 := blk_frozen ho3 10; have ho3c11 := blk_cell ho3 11 _ rfl; have ho3f11 := blk_frozen ho3 11; have ho3c12 := blk_cell ho3 12 _ rfl; have ho3f12 := blk_frozen ho3 12; have ho3c13 := blk_cell ho3 13 _ rfl; have ho3f13 := blk_frozen ho3 13; have ho3c14 := blk_cell ho3 14 _ rfl; have ho3f14 := blk_frozen ho3 14; have ho3c15 := blk_cell ho3 15 _ rfl; have ho3f15 := blk_frozen ho3 15; have ho3c16 := blk_cell ho3 16 _ rfl; have ho3f16 := blk_frozen ho3 16; have ho3l := blk_lt ho3
        have h03c0 := blk_cell h03 0 _ rfl; have h03f0 := blk_frozen h03 0; have h03c1 := blk_cell h03 1 _ rfl; have h03f1 := blk_frozen h03 1; have h03c2 := blk_cell h03 2 _ rfl; have h03f2 := blk_frozen h03 2; have h03l := blk_lt h03
        have h13c0 := blk_cell h13 0 _ rfl; have h13f0 := blk_frozen h13 0; have h13c1 := blk_cell h13 1 _ rfl; have h13f1 := blk_frozen h13 1; have h13c2 := blk_cell h13 2 _ rfl; have h13f2 := blk_frozen h13 2; have h13c3 := blk_cell h13 3 _ rfl; have h13f3 := blk_frozen h13 3; have h13c4 := blk_cell h13 4 _ rfl; have h13f4 := blk_frozen h13 4; have h13c5 := blk_cell h13 5 _ rfl; have h13f5 := blk_frozen h13 5; have h13c6 := blk_cell h13 6 _ rfl; have h13f6 := blk_frozen h13 6; have h13c7 := blk_cell h13 7 _ rfl; have h13f7 := blk_frozen h13 7; have h13l := blk_lt h13
        clear ho3 h03 h13 hb3
        go_wp2
        have hwl : w.heap.size + 1 < w3.heap.size := blk_lt HU1.out
        have hp3 := HB3.out.size
        refine wp_region_can (.q [0, 1, 2, 3, 4, 5, 6, 7, 8] (.e 9 false (.q [10, 11] (.e 12 false (.done))))) (clsB _) (by kernel_rfl) (by kernel_rfl) (by intro _ _ d _ _ h; cases d <;> exact h) (clsB_drew _) ?_
        refine can_q (l := [⟨_,_,_,_,_,_⟩, ⟨_,_,_,_,_,_⟩, ⟨_,_,_,_,_,_⟩, ⟨_,_,_,_,_,_⟩, ⟨_,_,_,_,_,_⟩, ⟨_,_,_,_,_,_⟩, ⟨_,_,_,_,_,_⟩, ⟨_,_,_,_,_,_⟩, ⟨_,_,_,_,_,_⟩]) rfl ?_
        repeat (go_big_quiet_step (fail))
        refine wpQuiet_nil ?_
        refine can_e (o := ⟨_,_,_,_,_,_⟩) rfl (fun K hK => ?_)
        go_wp2_with (at_builtin; go_must (refine append_strA rfl (.tmp 31) (.tmp 35) 72 9 5 rfl Tryz.underlying72 Tryz.underlying9 info5 C.base v s.text (o.data.extract 0 j) rfl rfl ((HT.out.below HB3.out).below (below_drew1 (Below.refl _ _))) (by have := HH.out.bp; have := HH.out.cells; simp only [heap_drew]; omega) (by have h8 := HSZ.out; have h9 := HLY.out; omega) ?_; intro v1 w5 hM hb5 hk5 hat5; simp only [heap_drew] at hk5 hat5; have hc5 := (hk5 C.p (by omega) HH.out.np).trans HOU.out; have hr5 := (hk5 (w.heap.size + 1) hwl (HH.out.txt.ne_new (by omega))).trans HU1.out))
        refine onK_normal (hK _ _ ⟨fun _ => True, trivial, (fun h => by cases h), ?_⟩)
        clear hK K
        rw [HTY.out] at hM
        have HM := Hd.mk hM
        have HB5 := Hd.mk hb5
        have HK5 := Hd.mk hk5
        have HA5 := Hd.mk hat5
        have HC5 := Hd.mk hc5
        have HR5 := Hd.mk hr5
        obtain ⟨A5, n5, c5, rfl, -, -, -, -⟩ := hM.formN
        clear ho3c0 ho3f0 ho3c1 ho3f1 ho3c2 ho3f2 ho3c3 ho3f3 ho3c4 ho3f4 ho3c5 ho3f5 ho3c6 ho3f6 ho3c7 ho3f7 ho3c8 ho3f8 ho3c9 ho3f9 ho3c10 ho3f10 ho3c11 ho3f11 ho3c12 ho3f12 ho3c13 ho3f13 ho3c14 ho3f14 ho3c15 ho3f15 ho3c16 ho3f16 ho3l
        clear h03c0 h03f0 h03c1 h03f1 h03c2 h03f2 h13c0 h13f0 h13c1 h13f1 h13c2 h13f2 h13c3 h13f3 h13c4 h13f4 h13c5 h13f5 h13c6 h13f6 h13c7 h13f7 h13l h03l hM hb5 hk5 hat5
        have hc5c0 := blk_cell hc5 0 _ rfl; have hc5f0 := blk_frozen hc5 0; have hc5c1 := blk_cell hc5 1 _ rfl; have hc5f1 := blk_frozen hc5 1; have hc5c2 := blk_cell hc5 2 _ rfl; have hc5f2 := blk_frozen hc5 2; have hc5c3 := blk_cell hc5 3 _ rfl; have hc5f3 := blk_frozen hc5 3; have hc5c4 := blk_cell hc5 4 _ rfl; have hc5f4 := blk_frozen hc5 4; have hc5c5 := blk_cell hc5 5 _ rfl; have hc5f5 := blk_frozen hc5 5; have hc5c6 := blk_cell hc5 6 _ rfl; have hc5f6 := blk_frozen hc5 6; have hc5c7 := blk_cell hc5 7 _ rfl; have hc5f7 := blk_frozen hc5 7; have hc5c8 := blk_cell hc5 8 _ rfl; have hc5f8 := blk_frozen hc5 8; have hc5c9 := blk_cell hc5 9 _ rfl; have hc5f9 := blk_frozen hc5 9; have hc5c10 := blk_cell hc5 10 _ rfl; have hc5f10 := blk_frozen hc5 10; have hc5c11 := blk_cell hc5 11 _ rfl; have hc5f11 := blk_frozen hc5 11; have hc5c12 := blk_cell hc5 12 _ rfl; have hc5f12 := blk_frozen hc5 12; have hc5c13 := blk_cell hc5 13 _ rfl; have hc5f13 := blk_frozen hc5 13; have hc5c14 := blk_cell hc5 14 _ rfl; have hc5f14 := blk_frozen hc5 14; have hc5c15 := blk_cell hc5 15 _ rfl; have hc5f15 := blk_frozen hc5 15; have hc5c16 := blk_cell hc5 16 _ rfl; have hc5f16 := blk_frozen hc5 16; have hc5l := blk_lt hc5
        have hr5c0 := blk_cell hr5 0 _ rfl; have hr5f0 := blk_frozen hr5 0; have hr5c1 := blk_cell hr5 1 _ rfl; have hr5f1 := blk_frozen hr5 1; have hr5c2 := blk_cell hr5 2 _ rfl; have hr5f2 := blk_frozen hr5 2; have hr5c3 := blk_cell hr5 3 _ rfl; have hr5f3 := blk_frozen hr5 3; have hr5c4 := blk_cell hr5 4 _ rfl; have hr5f4 := blk_frozen hr5 4; have hr5c5 := blk_cell hr5 5 _ rfl; have hr5f5 := blk_frozen hr5 5; have hr5c6 := blk_cell hr5 6 _ rfl; have hr5f6 := blk_frozen hr5 6; have hr5c7 := blk_cell hr5 7 _ rfl; have hr5f7 := blk_frozen hr5 7; have hr5l := blk_lt hr5
        clear hc5 hr5
        refine can_q (l := [⟨_,_,_,_,_,_⟩, ⟨_,_,_,_,_,_⟩]) rfl ?_
        repeat (go_big_quiet_step (fail))
        refine wpQuiet_nil ?_
        refine can_e (o := ⟨_,_,_,_,_,_⟩) rfl (fun K hK => ?_)
        go_wp2_with fail
        refine onK_normal (hK _ _ ⟨fun _ => True, trivial, (fun h => by cases h), ?_⟩)
        clear hK K
        refine can_done ?_
        go_wp2
        have hpw : C.p ≠ w.heap.size + 1 := by omega
        refine bodyPost_ret (results_cell_row rfl _ _ (w.heap.size + 1) 45 #[.int .i64 0, .int .i64 (j : Nat), .int .i64 0, .int .i64 0, .int .i64 0, .int .i64 0, .int .i64 0, .int .i64 0] (0,0) _ rfl (blk_eight ((Below.heap_setCell _ _ _ _ hpw.symm).trans HR5.out) _ _ _ _ _ _ _ _) Tryz.underlying45 rfl (by kernel_rfl)) rfl ?_
        obtain ⟨g1, g2⟩ := CW.grow (s' := { s with text := s.text ++ (bl o.data).take j }) HH.out HB3.out HM.out ⟨HB5.out.os, HB5.out.tape, HB5.out.output, HB5.out.size, HB5.out.block⟩ HK5.out HA5.out hwl (fr_eight ((Fr.refl (fun b => b = C.p ∨ b = w.heap.size + 1) w5).set (g := C.p) (.inl (.inl rfl)) 10 _) (g := w.heap.size + 1) (.inl (.inr rfl)) (.int .i64 0) (.int .i64 (j : Nat)) (.int .i64 0) (.int .i64 0) (.int .i64 0) (.int .i64 0) (.int .i64 0) (.int .i64 0))
          ((eight_same hpw _ _ _ _ _ _ _ _).trans (blk_set HC5.out 10 _ _ (by unfold cuC; simp only [hcl]; rfl))) rfl rfl rfl
        exact ⟨⟨0, (j : Nat), tok0⟩, _, _, F, rfl, .feed s o j tok0 HK.out hcl (by have h8 := HRC.out; have h9 := HJ.out; omega) hjs, g1, g2⟩
    · have HJ : Hd ((o.data.size : Int) ≤ rm) := ⟨by omega⟩
      have hjs := Nat.le_refl o.data.size
      have HTY : Hd (bl o.data = (bl o.data).take o.data.size) := ⟨by rw [← bl_len, List.take_length]⟩
      have HLY := Hd.mk hsz
      by_cases hz : o.data.size = 0
      · have hz1 : ((o.data.size : Int) == 0) = true := by simpa using hz
        have hemp : o.data.toList.isEmpty = true := (empty_is o.data).2 hz
        clear hz
        go_enter Tryz.func50, Tryz.ntmps50
        go_wp2
        generalize hV : World.alloc _ _ = V
        have HBV : Below w.heap.size w V := below_of hV (by repeat (first | (with_reducible assumption) | (with_reducible exact Below.refl _ _) | (with_reducible apply below_drewL) | (with_reducible apply below_alloc) | (with_reducible apply below_drew1) | (with_reducible apply below_drewN) | (refine below_set ?_ (by first | omega | (simp only [size_alloc, size_drew, size_set]; omega)) _ _)))
        have zV : Hd (V.heap.size = w.heap.size + 1 + 1) := ⟨by rw [← hV]; simp only [size_alloc]⟩
        have V0 := at_of hV (blk_alloc (blk_new _ _ _ rfl) _)
        have V0l := blk_lt V0
        have V1 := at_of hV (blk_new _ _ _ rfl)
        simp only [size_alloc] at V1
        have V1l := blk_lt V1
        clear hV
        have ho := blk_below HO.out HBV
        have hoc0 := blk_cell ho 0 _ rfl; have hof0 := blk_frozen ho 0; have hoc1 := blk_cell ho 1 _ rfl; have hof1 := blk_frozen ho 1; have hoc2 := blk_cell ho 2 _ rfl; have hof2 := blk_frozen ho 2; have hoc3 := blk_cell ho 3 _ rfl; have hof3 := blk_frozen ho 3; have hoc4 := blk_cell ho 4 _ rfl; have hof4 := blk_frozen ho 4; have hoc5 := blk_cell ho 5 _ rfl; have hof5 := blk_frozen ho 5; have hoc6 := blk_cell ho 6 _ rfl; have hof6 := blk_frozen ho 6; have hoc7 := blk_cell ho 7 _ rfl; have hof7 := blk_frozen ho 7; have hoc8 := blk_cell ho 8 _ rfl; have hof8 := blk_frozen ho 8; have hoc9 := blk_cell ho 9 _ rfl; have hof9 := blk_frozen ho 9; have hoc10 := blk_cell ho 10 _ rfl; have hof10 := blk_frozen ho 10; have hoc11 := blk_cell ho 11 _ rfl; have hof11 := blk_frozen ho 11; have hoc12 := blk_cell ho 12 _ rfl; have hof12 := blk_frozen ho 12; have hoc13 := blk_cell ho 13 _ rfl; have hof13 := blk_frozen ho 13; have hoc14 := blk_cell ho 14 _ rfl; have hof14 := blk_frozen ho 14; have hoc15 := blk_cell ho 15 _ rfl; have hof15 := blk_frozen ho 15; have hoc16 := blk_cell ho 16 _ rfl; have hof16 := blk_frozen ho 16; have hol := blk_lt ho
        have V0c0 := blk_cell V0 0 _ rfl
        have V0f0 := blk_frozen V0 0
        have V0c1 := blk_cell V0 1 _ rfl
        have V0f1 := blk_frozen V0 1
        have V0c2 := blk_cell V0 2 _ rfl
        have V0f2 := blk_frozen V0 2
        have HB0 := Hd.mk HBV
        have HV0' := Hd.mk V0; have HV1' := Hd.mk V1
        clear zV
        refine wp_region_can (.q [0, 1, 2, 3] (.e 4 true (.q [5, 6] (.done)))) (clsB _) (by kernel_rfl) (by kernel_rfl) (by intro _ _ d _ _ h; cases d <;> exact h) (clsB_drew _) ?_
        refine can_q (l := [⟨_,_,_,_,_,_⟩, ⟨_,_,_,_,_,_⟩, ⟨_,_,_,_,_,_⟩, ⟨_,_,_,_,_,_⟩]) rfl ?_
        repeat (go_big_quiet_step (fail))
        refine wpQuiet_nil ?_
        refine can_e (o := ⟨_,_,_,_,_,_⟩) rfl (fun K hK => ?_)
        go_wp2_with (go_at_call 77; go_must (refine Calls.mono (HRM.out _ (by exact below_drew1 HB0.out)) ?_; rintro e w3 ⟨rfl, hb3⟩; replace hb3 := below_undrew hb3))
        have HB3 := Hd.mk (below_seq HB0.out hb3)
        have HU0 := Hd.mk (blk_below HV0'.out hb3)
        have HU1 := Hd.mk (blk_below HV1'.out hb3)
        have HOU := Hd.mk (blk_below HO.out HB3.out)
        refine onK_normal (hK _ _ ⟨clsB _, clsB_of (by first | exact (hb3) | exact below_undrew (hb3)), fun _ _ h => h, ?_⟩)
        clear hK K
        refine can_q (l := [⟨_,_,_,_,_,_⟩, ⟨_,_,_,_,_,_⟩]) rfl ?_
        repeat (go_big_quiet_step (fail))
        refine wpQuiet_nil ?_
        refine can_done ?_
        clear hoc0 hof0 hoc1 hof1 hoc2 hof2 hoc3 hof3 hoc4 hof4 hoc5 hof5 hoc6 hof6 hoc7 hof7 hoc8 hof8 hoc9 hof9 hoc10 hof10 hoc11 hof11 hoc12 hof12 hoc13 hof13 hoc14 hof14 hoc15 hof15 hoc16 hof16 hol
        clear V0c0 V0f0 V0c1 V0f1 V0c2 V0f2 V0l
        clear ho V0 V1 V1l HBV
        have ho3 := HOU.out
        have h03 := HU0.out
        have h13 := HU1.out
        have ho3c0 := blk_cell ho3 0 _ rfl; have ho3f0 := blk_frozen ho3 0; have ho3c1 := blk_cell ho3 1 _ rfl; have ho3f1 := blk_frozen ho3 1; have ho3c2 := blk_cell ho3 2 _ rfl; have ho3f2 := blk_frozen ho3 2; have ho3c3 := blk_cell ho3 3 _ rfl; have ho3f3 := blk_frozen ho3 3; have ho3c4 := blk_cell ho3 4 _ rfl; have ho3f4 := blk_frozen ho3 4; have ho3c5 := blk_cell ho3 5 _ rfl; have ho3f5 := blk_frozen ho3 5; have ho3c6 := blk_cell ho3 6 _ rfl; have ho3f6 := blk_frozen ho3 6; have ho3c7 := blk_cell ho3 7 _ rfl; have ho3f7 := blk_frozen ho3 7; have ho3c8 := blk_cell ho3 8 _ rfl; have ho3f8 := blk_frozen ho3 8; have ho3c9 := blk_cell ho3 9 _ rfl; have ho3f9 := blk_frozen ho3 9; have ho3c10 := blk_cell ho3 10 _ rfl; have ho3f10 := blk_frozen ho3 10; have ho3c11 := blk_cell ho3 11 _ rfl; have ho3f11 := blk_frozen ho3 11; have ho3c12 := blk_cell ho3 12 _ rfl; have ho3f12 := blk_frozen ho3 12; have ho3c13 := blk_cell ho3 13 _ rfl; have ho3f13 := blk_frozen ho3 13; have ho3c14 := blk_cell ho3 14 _ rfl; have ho3f14 := blk_frozen ho3 14; have ho3c15 := blk_cell ho3 15 _ rfl; have ho3f15 := blk_frozen ho3 15; have ho3c16 := blk_cell ho3 16 _ rfl; have ho3f16 := blk_frozen ho3 16; have ho3l := blk_lt ho3
        have h03c0 := blk_cell h03 0 _ rfl; have h03f0 := blk_frozen h03 0; have h03c1 := blk_cell h03 1 _ rfl; have h03f1 := blk_frozen h03 1; have h03c2 := blk_cell h03 2 _ rfl; have h03f2 := blk_frozen h03 2; have h03l := blk_lt h03
        have h13c0 := blk_cell h13 0 _ rfl; have h13f0 := blk_frozen h13 0; have h13c1 := blk_cell h13 1 _ rfl; have h13f1 := blk_frozen h13 1; have h13c2 := blk_cell h13 2 _ rfl; have h13f2 := blk_frozen h13 2; have h13c3 := blk_cell h13 3 _ rfl; have h13f3 := blk_frozen h13 3; have h13c4 := blk_cell h13 4 _ rfl; have h13f4 := blk_frozen h13 4; have h13c5 := blk_cell h13 5 _ rfl; have h13f5 := blk_frozen h13 5; have h13c6 := blk_cell h13 6 _ rfl; have h13f6 := blk_frozen h13 6; have h13c7 := blk_cell h13 7 _ rfl; have h13f7 := blk_frozen h13 7; have h13l := blk_lt h13
        clear ho3 h03 h13 hb3
        go_wp2
        have hwl : w.heap.size + 1 < w3.heap.size := blk_lt HU1.out
        have hp3 := HB3.out.size
        refine wp_region_can (.q [0, 1, 2, 3, 4, 5, 6, 7, 8] (.e 9 false (.q [10, 11] (.e 12 false (.done))))) (clsB _) (by kernel_rfl) (by kernel_rfl) (by intro _ _ d _ _ h; cases d <;> exact h) (clsB_drew _) ?_
        refine can_q (l := [⟨_,_,_,_,_,_⟩, ⟨_,_,_,_,_,_⟩, ⟨_,_,_,_,_,_⟩, ⟨_,_,_,_,_,_⟩, ⟨_,_,_,_,_,_⟩, ⟨_,_,_,_,_,_⟩, ⟨_,_,_,_,_,_⟩, ⟨_,_,_,_,_,_⟩, ⟨_,_,_,_,_,_⟩]) rfl ?_
        repeat (go_big_quiet_step (fail))
        refine wpQuiet_nil ?_
        refine can_e (o := ⟨_,_,_,_,_,_⟩) rfl (fun K hK => ?_)
        go_wp2_with (at_builtin; go_must (refine append_strA rfl (.tmp 31) (.tmp 35) 72 9 5 rfl Tryz.underlying72 Tryz.underlying9 info5 C.base v s.text (o.data) rfl rfl ((HT.out.below HB3.out).below (below_drew1 (Below.refl _ _))) (by have := HH.out.bp; have := HH.out.cells; simp only [heap_drew]; omega) (by have h8 := HSZ.out; have h9 := HLY.out; omega) ?_; intro v1 w5 hM hb5 hk5 hat5; simp only [heap_drew] at hk5 hat5; have hc5 := (hk5 C.p (by omega) HH.out.np).trans HOU.out; have hr5 := (hk5 (w.heap.size + 1) hwl (HH.out.txt.ne_new (by omega))).trans HU1.out))
        refine onK_normal (hK _ _ ⟨fun _ => True, trivial, (fun h => by cases h), ?_⟩)
        clear hK K
        rw [HTY.out] at hM
        have HM := Hd.mk hM
        have HB5 := Hd.mk hb5
        have HK5 := Hd.mk hk5
        have HA5 := Hd.mk hat5
        have HC5 := Hd.mk hc5
        have HR5 := Hd.mk hr5
        obtain ⟨A5, n5, c5, rfl, -, -, -, -⟩ := hM.formN
        clear ho3c0 ho3f0 ho3c1 ho3f1 ho3c2 ho3f2 ho3c3 ho3f3 ho3c4 ho3f4 ho3c5 ho3f5 ho3c6 ho3f6 ho3c7 ho3f7 ho3c8 ho3f8 ho3c9 ho3f9 ho3c10 ho3f10 ho3c11 ho3f11 ho3c12 ho3f12 ho3c13 ho3f13 ho3c14 ho3f14 ho3c15 ho3f15 ho3c16 ho3f16 ho3l
        clear h03c0 h03f0 h03c1 h03f1 h03c2 h03f2 h13c0 h13f0 h13c1 h13f1 h13c2 h13f2 h13c3 h13f3 h13c4 h13f4 h13c5 h13f5 h13c6 h13f6 h13c7 h13f7 h13l h03l hM hb5 hk5 hat5
        have hc5c0 := blk_cell hc5 0 _ rfl; have hc5f0 := blk_frozen hc5 0; have hc5c1 := blk_cell hc5 1 _ rfl; have hc5f1 := blk_frozen hc5 1; have hc5c2 := blk_cell hc5 2 _ rfl; have hc5f2 := blk_frozen hc5 2; have hc5c3 := blk_cell hc5 3 _ rfl; have hc5f3 := blk_frozen hc5 3; have hc5c4 := blk_cell hc5 4 _ rfl; have hc5f4 := blk_frozen hc5 4; have hc5c5 := blk_cell hc5 5 _ rfl; have hc5f5 := blk_frozen hc5 5; have hc5c6 := blk_cell hc5 6 _ rfl; have hc5f6 := blk_frozen hc5 6; have hc5c7 := blk_cell hc5 7 _ rfl; have hc5f7 := blk_frozen hc5 7; have hc5c8 := blk_cell hc5 8 _ rfl; have hc5f8 := blk_frozen hc5 8; have hc5c9 := blk_cell hc5 9 _ rfl; have hc5f9 := blk_frozen hc5 9; have hc5c10 := blk_cell hc5 10 _ rfl; have hc5f10 := blk_frozen hc5 10; have hc5c11 := blk_cell hc5 11 _ rfl; have hc5f11 := blk_frozen hc5 11; have hc5c12 := blk_cell hc5 12 _ rfl; have hc5f12 := blk_frozen hc5 12; have hc5c13 := blk_cell hc5 13 _ rfl; have hc5f13 := blk_frozen hc5 13; have hc5c14 := blk_cell hc5 14 _ rfl; have hc5f14 := blk_frozen hc5 14; have hc5c15 := blk_cell hc5 15 _ rfl; have hc5f15 := blk_frozen hc5 15; have hc5c16 := blk_cell hc5 16 _ rfl; have hc5f16 := blk_frozen hc5 16; have hc5l := blk_lt hc5
        have hr5c0 := blk_cell hr5 0 _ rfl; have hr5f0 := blk_frozen hr5 0; have hr5c1 := blk_cell hr5 1 _ rfl; have hr5f1 := blk_frozen hr5 1; have hr5c2 := blk_cell hr5 2 _ rfl; have hr5f2 := blk_frozen hr5 2; have hr5c3 := blk_cell hr5 3 _ rfl; have hr5f3 := blk_frozen hr5 3; have hr5c4 := blk_cell hr5 4 _ rfl; have hr5f4 := blk_frozen hr5 4; have hr5c5 := blk_cell hr5 5 _ rfl; have hr5f5 := blk_frozen hr5 5; have hr5c6 := blk_cell hr5 6 _ rfl; have hr5f6 := blk_frozen hr5 6; have hr5c7 := blk_cell hr5 7 _ rfl; have hr5f7 := blk_frozen hr5 7; have hr5l := blk_lt hr5
        clear hc5 hr5
        refine can_q (l := [⟨_,_,_,_,_,_⟩, ⟨_,_,_,_,_,_⟩]) rfl ?_
        repeat (go_big_quiet_step (fail))
        refine wpQuiet_nil ?_
        refine can_e (o := ⟨_,_,_,_,_,_⟩) rfl (fun K hK => ?_)
        go_wp2_with fail
        refine onK_normal (hK _ _ ⟨fun _ => True, trivial, (fun h => by cases h), ?_⟩)
        clear hK K
        refine can_done ?_
        go_wp2
        have hpw : C.p ≠ w.heap.size + 1 := by omega
        refine bodyPost_ret (results_cell_row rfl _ _ (w.heap.size + 1) 45 #[.int .i64 0, .int .i64 (o.data.size : Nat), .int .i64 0, .int .i64 0, .int .i64 0, .int .i64 0, .int .i64 0, .int .i64 0] (0,0) _ rfl (blk_eight ((Below.heap_setCell _ _ _ _ hpw.symm).trans HR5.out) _ _ _ _ _ _ _ _) Tryz.underlying45 rfl (by kernel_rfl)) rfl ?_
        obtain ⟨g1, g2⟩ := CW.grow (s' := { s with text := s.text ++ (bl o.data).take o.data.size }) HH.out HB3.out HM.out ⟨HB5.out.os, HB5.out.tape, HB5.out.output, HB5.out.size, HB5.out.block⟩ HK5.out HA5.out hwl (fr_eight ((Fr.refl (fun b => b = C.p ∨ b = w.heap.size + 1) w5).set (g := C.p) (.inl (.inl rfl)) 10 _) (g := w.heap.size + 1) (.inl (.inr rfl)) (.int .i64 0) (.int .i64 (o.data.size : Nat)) (.int .i64 0) (.int .i64 0) (.int .i64 0) (.int .i64 0) (.int .i64 0) (.int .i64 0))
          ((eight_same hpw _ _ _ _ _ _ _ _).trans (blk_set HC5.out 10 _ _ (by unfold cuC; simp only [hcl]; rfl))) rfl rfl rfl
        exact ⟨⟨0, (o.data.size : Nat), tok0⟩, _, _, F, rfl, .feed s o o.data.size tok0 HK.out hcl (by have h8 := HRC.out; have h9 := HJ.out; omega) hjs, g1, g2⟩
      · have hz1 : ((o.data.size : Int) == 0) = false := by simpa using hz
        clear hz
        go_enter Tryz.func50, Tryz.ntmps50
        go_wp2
        generalize hV : World.alloc _ _ = V
        have HBV : Below w.heap.size w V := below_of hV (by repeat (first | (with_reducible assumption) | (with_reducible exact Below.refl _ _) | (with_reducible apply below_drewL) | (with_reducible apply below_alloc) | (with_reducible apply below_drew1) | (with_reducible apply below_drewN) | (refine below_set ?_ (by first | omega | (simp only [size_alloc, size_drew, size_set]; omega)) _ _)))
        have zV : Hd (V.heap.size = w.heap.size + 1 + 1) := ⟨by rw [← hV]; simp only [size_alloc]⟩
        have V0 := at_of hV (blk_alloc (blk_new _ _ _ rfl) _)
        have V0l := blk_lt V0
        have V1 := at_of hV (blk_new _ _ _ rfl)
        simp only [size_alloc] at V1
        have V1l := blk_lt V1
        clear hV
        have ho := blk_below HO.out HBV
        have hoc0 := blk_cell ho 0 _ rfl; have hof0 := blk_frozen ho 0; have hoc1 := blk_cell ho 1 _ rfl; have hof1 := blk_frozen ho 1; have hoc2 := blk_cell ho 2 _ rfl; have hof2 := blk_frozen ho 2; have hoc3 := blk_cell ho 3 _ rfl; have hof3 := blk_frozen ho 3; have hoc4 := blk_cell ho 4 _ rfl; have hof4 := blk_frozen ho 4; have hoc5 := blk_cell ho 5 _ rfl; have hof5 := blk_frozen ho 5; have hoc6 := blk_cell ho 6 _ rfl; have hof6 := blk_frozen ho 6; have hoc7 := blk_cell ho 7 _ rfl; have hof7 := blk_frozen ho 7; have hoc8 := blk_cell ho 8 _ rfl; have hof8 := blk_frozen ho 8; have hoc9 := blk_cell ho 9 _ rfl; have hof9 := blk_frozen ho 9; have hoc10 := blk_cell ho 10 _ rfl; have hof10 := blk_frozen ho 10; have hoc11 := blk_cell ho 11 _ rfl; have hof11 := blk_frozen ho 11; have hoc12 := blk_cell ho 12 _ rfl; have hof12 := blk_frozen ho 12; have hoc13 := blk_cell ho 13 _ rfl; have hof13 := blk_frozen ho 13; have hoc14 := blk_cell ho 14 _ rfl; have hof14 := blk_frozen ho 14; have hoc15 := blk_cell ho 15 _ rfl; have hof15 := blk_frozen ho 15; have hoc16 := blk_cell ho 16 _ rfl; have hof16 := blk_frozen ho 16; have hol := blk_lt ho
        have V0c0 := blk_cell V0 0 _ rfl
        have V0f0 := blk_frozen V0 0
        have V0c1 := blk_cell V0 1 _ rfl
        have V0f1 := blk_frozen V0 1
        have V0c2 := blk_cell V0 2 _ rfl
        have V0f2 := blk_frozen V0 2
        have HB0 := Hd.mk HBV
        have HV0' := Hd.mk V0; have HV1' := Hd.mk V1
        clear zV
        refine wp_region_can (.q [0, 1, 2, 3] (.e 4 true (.q [5, 6] (.done)))) (clsB _) (by kernel_rfl) (by kernel_rfl) (by intro _ _ d _ _ h; cases d <;> exact h) (clsB_drew _) ?_
        refine can_q (l := [⟨_,_,_,_,_,_⟩, ⟨_,_,_,_,_,_⟩, ⟨_,_,_,_,_,_⟩, ⟨_,_,_,_,_,_⟩]) rfl ?_
        repeat (go_big_quiet_step (fail))
        refine wpQuiet_nil ?_
        refine can_e (o := ⟨_,_,_,_,_,_⟩) rfl (fun K hK => ?_)
        go_wp2_with (go_at_call 77; go_must (refine Calls.mono (HRM.out _ (by exact below_drew1 HB0.out)) ?_; rintro e w3 ⟨rfl, hb3⟩; replace hb3 := below_undrew hb3))
        have HB3 := Hd.mk (below_seq HB0.out hb3)
        have HU0 := Hd.mk (blk_below HV0'.out hb3)
        have HU1 := Hd.mk (blk_below HV1'.out hb3)
        have HOU := Hd.mk (blk_below HO.out HB3.out)
        refine onK_normal (hK _ _ ⟨clsB _, clsB_of (by first | exact (hb3) | exact below_undrew (hb3)), fun _ _ h => h, ?_⟩)
        clear hK K
        refine can_q (l := [⟨_,_,_,_,_,_⟩, ⟨_,_,_,_,_,_⟩]) rfl ?_
        repeat (go_big_quiet_step (fail))
        refine wpQuiet_nil ?_
        refine can_done ?_
        clear hoc0 hof0 hoc1 hof1 hoc2 hof2 hoc3 hof3 hoc4 hof4 hoc5 hof5 hoc6 hof6 hoc7 hof7 hoc8 hof8 hoc9 hof9 hoc10 hof10 hoc11 hof11 hoc12 hof12 hoc13 hof13 hoc14 hof14 hoc15 hof15 hoc16 hof16 hol
        clear V0c0 V0f0 V0c1 V0f1 V0c2 V0f2 V0l
        clear ho V0 V1 V1l HBV
        have ho3 := HOU.out
        have h03 := HU0.out
        have h13 := HU1.out
        have ho3c0 := blk_cell ho3 0 _ rfl; have ho3f0 := blk_frozen ho3 0; have ho3c1 := blk_cell ho3 1 _ rfl; have ho3f1 := blk_frozen ho3 1; have ho3c2 := blk_cell ho3 2 _ rfl; have ho3f2 := blk_frozen ho3 2; have ho3c3 := blk_cell ho3 3 _ rfl; have ho3f3 := blk_frozen ho3 3; have ho3c4 := blk_cell ho3 4 _ rfl; have ho3f4 := blk_frozen ho3 4; have ho3c5 := blk_cell ho3 5 _ rfl; have ho3f5 := blk_frozen ho3 5; have ho3c6 := blk_cell ho3 6 _ rfl; have ho3f6 := blk_frozen ho3 6; have ho3c7 := blk_cell ho3 7 _ rfl; have ho3f7 := blk_frozen ho3 7; have ho3c8 := blk_cell ho3 8 _ rfl; have ho3f8 := blk_frozen ho3 8; have ho3c9 := blk_cell ho3 9 _ rfl; have ho3f9 := blk_frozen ho3 9; have ho3c10 := blk_cell ho3 10 _ rfl; have ho3f10 := blk_frozen ho3 10; have ho3c11 := blk_cell ho3 11 _ rfl; have ho3f11 := blk_frozen ho3 11; have ho3c12 := blk_cell ho3 12 _ rfl; have ho3f12 := blk_frozen ho3 12; have ho3c13 := blk_cell ho3 13 _ rfl; have ho3f13 := blk_frozen ho3 13; have ho3c14 := blk_cell ho3 14 _ rfl; have ho3f14 := blk_frozen ho3 14; have ho3c15 := blk_cell ho3 15 _ rfl; have ho3f15 := blk_frozen ho3 15; have ho3c16 := blk_cell ho3 16 _ rfl; have ho3f16 := blk_frozen ho3 16; have ho3l := blk_lt ho3
        have h03c0 := blk_cell h03 0 _ rfl; have h03f0 := blk_frozen h03 0; have h03c1 := blk_cell h03 1 _ rfl; have h03f1 := blk_frozen h03 1; have h03c2 := blk_cell h03 2 _ rfl; have h03f2 := blk_frozen h03 2; have h03l := blk_lt h03
        have h13c0 := blk_cell h13 0 _ rfl; have h13f0 := blk_frozen h13 0; have h13c1 := blk_cell h13 1 _ rfl; have h13f1 := blk_frozen h13 1; have h13c2 := blk_cell h13 2 _ rfl; have h13f2 := blk_frozen h13 2; have h13c3 := blk_cell h13 3 _ rfl; have h13f3 := blk_frozen h13 3; have h13c4 := blk_cell h13 4 _ rfl; have h13f4 := blk_frozen h13 4; have h13c5 := blk_cell h13 5 _ rfl; have h13f5 := blk_frozen h13 5; have h13c6 := blk_cell h13 6 _ rfl; have h13f6 := blk_frozen h13 6; have h13c7 := blk_cell h13 7 _ rfl; have h13f7 := blk_frozen h13 7; have h13l := blk_lt h13
        clear ho3 h03 h13 hb3
        go_wp2
        have hwl : w.heap.size + 1 < w3.heap.size := blk_lt HU1.out
        have hp3 := HB3.out.size
        refine wp_region_can (.q [0, 1, 2, 3, 4, 5, 6, 7, 8] (.e 9 false (.q [10, 11] (.e 12 false (.done))))) (clsB _) (by kernel_rfl) (by kernel_rfl) (by intro _ _ d _ _ h; cases d <;> exact h) (clsB_drew _) ?_
        refine can_q (l := [⟨_,_,_,_,_,_⟩, ⟨_,_,_,_,_,_⟩, ⟨_,_,_,_,_,_⟩, ⟨_,_,_,_,_,_⟩, ⟨_,_,_,_,_,_⟩, ⟨_,_,_,_,_,_⟩, ⟨_,_,_,_,_,_⟩, ⟨_,_,_,_,_,_⟩, ⟨_,_,_,_,_,_⟩]) rfl ?_
        repeat (go_big_quiet_step (fail))
        refine wpQuiet_nil ?_
        refine can_e (o := ⟨_,_,_,_,_,_⟩) rfl (fun K hK => ?_)
        go_wp2_with (at_builtin; go_must (refine append_strA rfl (.tmp 31) (.tmp 35) 72 9 5 rfl Tryz.underlying72 Tryz.underlying9 info5 C.base v s.text (o.data) rfl rfl ((HT.out.below HB3.out).below (below_drew1 (Below.refl _ _))) (by have := HH.out.bp; have := HH.out.cells; simp only [heap_drew]; omega) (by have h8 := HSZ.out; have h9 := HLY.out; omega) ?_; intro v1 w5 hM hb5 hk5 hat5; simp only [heap_drew] at hk5 hat5; have hc5 := (hk5 C.p (by omega) HH.out.np).trans HOU.out; have hr5 := (hk5 (w.heap.size + 1) hwl (HH.out.txt.ne_new (by omega))).trans HU1.out))
        refine onK_normal (hK _ _ ⟨fun _ => True, trivial, (fun h => by cases h), ?_⟩)
        clear hK K
        rw [HTY.out] at hM
        have HM := Hd.mk hM
        have HB5 := Hd.mk hb5
        have HK5 := Hd.mk hk5
        have HA5 := Hd.mk hat5
        have HC5 := Hd.mk hc5
        have HR5 := Hd.mk hr5
        obtain ⟨A5, n5, c5, rfl, -, -, -, -⟩ := hM.formN
        clear ho3c0 ho3f0 ho3c1 ho3f1 ho3c2 ho3f2 ho3c3 ho3f3 ho3c4 ho3f4 ho3c5 ho3f5 ho3c6 ho3f6 ho3c7 ho3f7 ho3c8 ho3f8 ho3c9 ho3f9 ho3c10 ho3f10 ho3c11 ho3f11 ho3c12 ho3f12 ho3c13 ho3f13 ho3c14 ho3f14 ho3c15 ho3f15 ho3c16 ho3f16 ho3l
        clear h03c0 h03f0 h03c1 h03f1 h03c2 h03f2 h13c0 h13f0 h13c1 h13f1 h13c2 h13f2 h13c3 h13f3 h13c4 h13f4 h13c5 h13f5 h13c6 h13f6 h13c7 h13f7 h13l h03l hM hb5 hk5 hat5
        have hc5c0 := blk_cell hc5 0 _ rfl; have hc5f0 := blk_frozen hc5 0; have hc5c1 := blk_cell hc5 1 _ rfl; have hc5f1 := blk_frozen hc5 1; have hc5c2 := blk_cell hc5 2 _ rfl; have hc5f2 := blk_frozen hc5 2; have hc5c3 := blk_cell hc5 3 _ rfl; have hc5f3 := blk_frozen hc5 3; have hc5c4 := blk_cell hc5 4 _ rfl; have hc5f4 := blk_frozen hc5 4; have hc5c5 := blk_cell hc5 5 _ rfl; have hc5f5 := blk_frozen hc5 5; have hc5c6 := blk_cell hc5 6 _ rfl; have hc5f6 := blk_frozen hc5 6; have hc5c7 := blk_cell hc5 7 _ rfl; have hc5f7 := blk_frozen hc5 7; have hc5c8 := blk_cell hc5 8 _ rfl; have hc5f8 := blk_frozen hc5 8; have hc5c9 := blk_cell hc5 9 _ rfl; have hc5f9 := blk_frozen hc5 9; have hc5c10 := blk_cell hc5 10 _ rfl; have hc5f10 := blk_frozen hc5 10; have hc5c11 := blk_cell hc5 11 _ rfl; have hc5f11 := blk_frozen hc5 11; have hc5c12 := blk_cell hc5 12 _ rfl; have hc5f12 := blk_frozen hc5 12; have hc5c13 := blk_cell hc5 13 _ rfl; have hc5f13 := blk_frozen hc5 13; have hc5c14 := blk_cell hc5 14 _ rfl; have hc5f14 := blk_frozen hc5 14; have hc5c15 := blk_cell hc5 15 _ rfl; have hc5f15 := blk_frozen hc5 15; have hc5c16 := blk_cell hc5 16 _ rfl; have hc5f16 := blk_frozen hc5 16; have hc5l := blk_lt hc5
        have hr5c0 := blk_cell hr5 0 _ rfl; have hr5f0 := blk_frozen hr5 0; have hr5c1 := blk_cell hr5 1 _ rfl; have hr5f1 := blk_frozen hr5 1; have hr5c2 := blk_cell hr5 2 _ rfl; have hr5f2 := blk_frozen hr5 2; have hr5c3 := blk_cell hr5 3 _ rfl; have hr5f3 := blk_frozen hr5 3; have hr5c4 := blk_cell hr5 4 _ rfl; have hr5f4 := blk_frozen hr5 4; have hr5c5 := blk_cell hr5 5 _ rfl; have hr5f5 := blk_frozen hr5 5; have hr5c6 := blk_cell hr5 6 _ rfl; have hr5f6 := blk_frozen hr5 6; have hr5c7 := blk_cell hr5 7 _ rfl; have hr5f7 := blk_frozen hr5 7; have hr5l := blk_lt hr5
        clear hc5 hr5
        refine can_q (l := [⟨_,_,_,_,_,_⟩, ⟨_,_,_,_,_,_⟩]) rfl ?_
        repeat (go_big_quiet_step (fail))
        refine wpQuiet_nil ?_
        refine can_e (o := ⟨_,_,_,_,_,_⟩) rfl (fun K hK => ?_)
        go_wp2_with fail
        refine onK_normal (hK _ _ ⟨fun _ => True, trivial, (fun h => by cases h), ?_⟩)
        clear hK K
        refine can_done ?_
        go_wp2
        have hpw : C.p ≠ w.heap.size + 1 := by omega
        refine bodyPost_ret (results_cell_row rfl _ _ (w.heap.size + 1) 45 #[.int .i64 0, .int .i64 (o.data.size : Nat), .int .i64 0, .int .i64 0, .int .i64 0, .int .i64 0, .int .i64 0, .int .i64 0] (0,0) _ rfl (blk_eight ((Below.heap_setCell _ _ _ _ hpw.symm).trans HR5.out) _ _ _ _ _ _ _ _) Tryz.underlying45 rfl (by kernel_rfl)) rfl ?_
        obtain ⟨g1, g2⟩ := CW.grow (s' := { s with text := s.text ++ (bl o.data).take o.data.size }) HH.out HB3.out HM.out ⟨HB5.out.os, HB5.out.tape, HB5.out.output, HB5.out.size, HB5.out.block⟩ HK5.out HA5.out hwl (fr_eight ((Fr.refl (fun b => b = C.p ∨ b = w.heap.size + 1) w5).set (g := C.p) (.inl (.inl rfl)) 10 _) (g := w.heap.size + 1) (.inl (.inr rfl)) (.int .i64 0) (.int .i64 (o.data.size : Nat)) (.int .i64 0) (.int .i64 0) (.int .i64 0) (.int .i64 0) (.int .i64 0) (.int .i64 0))
          ((eight_same hpw _ _ _ _ _ _ _ _).trans (blk_set HC5.out 10 _ _ (by unfold cuC; simp only [hcl]; rfl))) rfl rfl rfl
        exact ⟨⟨0, (o.data.size : Nat), tok0⟩, _, _, F, rfl, .feed s o o.data.size tok0 HK.out hcl (by have h8 := HRC.out; have h9 := HJ.out; omega) hjs, g1, g2⟩
end
end Go.Proofs.YtoambcpjdcehhaaGreat.Id
