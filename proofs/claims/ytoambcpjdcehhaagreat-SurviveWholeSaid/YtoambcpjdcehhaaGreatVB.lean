/- Texts: V7, V8, V9. -/
import Derived.Test.YtoambcpjdcehhaaGreatVA
/- What the fold over a history computes. -/
set_option linter.unusedVariables false
set_option linter.unusedSimpArgs false
namespace Go.Proofs.YtoambcpjdcehhaaGreat.Fn
open Go Go.RowKit Go.Proofs.YtoambcpjdcehhaaGreat.Can Go.Proofs.YtoambcpjdcehhaaGreat.Base
attribute [local go_sem] clsB AB.cell

/-- An event counts, without an error. -/
def goodB (v : Ev) : Bool := v.kind == 2 && v.e == 0
/-- The takes that survive, and those that are kept. -/
structure Mdl where
  s : St
  κ : Int → Option St
def pop (s : St) : St := match s.l.getLast? with | none => s | some x => ⟨x.at_, s.l.dropLast⟩
def turnM (m : Mdl) (v : Ev) : Mdl :=
  if v.op = 4 then (if v.tok.k = 3 then m else ⟨⟨⟨v.tok.t, v.tok.m⟩, m.s.l ++ [⟨m.s.at_, v.tok⟩]⟩, m.κ⟩)
  else if v.op = 5 then ⟨pop m.s, m.κ⟩
  else if v.op = 6 then ⟨m.s, fun y => if y = v.rn then some m.s else m.κ y⟩
  else if v.op = 7 then ⟨(m.κ v.n).getD m.s, m.κ⟩
  else if v.op = 8 then ⟨m.s, fun y => if y = v.n then none else m.κ y⟩
  else if v.op = 9 then ⟨⟨⟨m.s.at_.at_, v.n⟩, m.s.l⟩, m.κ⟩
  else m
def stepM (m : Mdl) (v : Ev) : Mdl := if goodB v then turnM m v else m
def initM (mode : Int) : Mdl := ⟨⟨⟨0, mode⟩, []⟩, fun _ => none⟩
def runM (mode : Int) (h : List Ev) : Mdl := h.foldl stepM (initM mode)
theorem runM_snoc (mode : Int) (h : List Ev) (v : Ev) : runM mode (h ++ [v]) = stepM (runM mode h) v := by simp [runM]
def turnOf (op : Int) : Nat := if op = 4 then 91 else if op = 5 then 92 else if op = 6 then 93 else if op = 7 then 94 else if op = 8 then 95 else if op = 9 then 96 else 97
theorem good_calls (v : Ev) (w : World) : Calls Tryz.prog 41 #[evV v] w fun e w' => e = .returned (.bool (goodB v)) ∧ Below w.heap.size w w' := by
  obtain ⟨bb, hbb⟩ : ∃ bb, goodB v = bb := ⟨_, rfl⟩
  rw [hbb]
  have HB := Hd.mk hbb; clear hbb
  unfold evV
  by_cases h1 : v.kind = 2
  · have hJ : (v.kind == 2) = true := by simpa using h1
    cases h2 : (v.e == 0) with
    | true =>
      obtain rfl : bb = true := by rw [← HB.out]; unfold goodB; rw [hJ, h2]; rfl
      clear h1
      go_enter Tryz.func41, Tryz.ntmps41
      go_wp2
      go_ret
      exact ⟨by first | rfl | exact ret_bool (by simp_all), (by repeat (first | (with_reducible assumption) | (with_reducible exact Below.refl _ _) | (with_reducible apply below_drewL) | (with_reducible apply below_alloc) | (with_reducible apply below_drew1) | (with_reducible apply below_drewN) | (refine below_set ?_ (by first | omega | (simp only [size_alloc, size_drew, size_set]; omega)) _ _)))⟩
    | false =>
      obtain rfl : bb = false := by rw [← HB.out]; unfold goodB; rw [hJ, h2]; rfl
      clear h1
      go_enter Tryz.func41, Tryz.ntmps41
      go_wp2
      go_ret
      exact ⟨by first | rfl | exact ret_bool (by simp_all), (by repeat (first | (with_reducible assumption) | (with_reducible exact Below.refl _ _) | (with_reducible apply below_drewL) | (with_reducible apply below_alloc) | (with_reducible apply below_drew1) | (with_reducible apply below_drewN) | (refine below_set ?_ (by first | omega | (simp only [size_alloc, size_drew, size_set]; omega)) _ _)))⟩
  · have hJ : (v.kind == 2) = false := by simpa using h1
    obtain rfl : bb = false := by rw [← HB.out]; unfold goodB; rw [hJ]; rfl
    clear h1
    go_enter Tryz.func41, Tryz.ntmps41
    go_wp2
    go_ret
    exact ⟨by first | rfl | exact ret_bool (by simp_all), (by repeat (first | (with_reducible assumption) | (with_reducible exact Below.refl _ _) | (with_reducible apply below_drewL) | (with_reducible apply below_alloc) | (with_reducible apply below_drew1) | (with_reducible apply below_drewN) | (refine below_set ?_ (by first | omega | (simp only [size_alloc, size_drew, size_set]; omega)) _ _)))⟩
theorem turns_calls (k : Int) (w : World) : Calls Tryz.prog 68 #[.int .i64 k] w fun e w' => e = .returned (.func (Fn.func (turnOf k)) #[] #[]) ∧ w' = w := by
  by_cases h4 : k = 4
  · subst h4
    go_enter Tryz.func68, Tryz.ntmps68
    go_wp2
    go_ret
    exact ⟨rfl, rfl⟩
  by_cases h5 : k = 5
  · subst h5
    go_enter Tryz.func68, Tryz.ntmps68
    go_wp2
    go_ret
    exact ⟨rfl, rfl⟩
  by_cases h6 : k = 6
  · subst h6
    go_enter Tryz.func68, Tryz.ntmps68
    go_wp2
    go_ret
    exact ⟨rfl, rfl⟩
  by_cases h7 : k = 7
  · subst h7
    go_enter Tryz.func68, Tryz.ntmps68
    go_wp2
    go_ret
    exact ⟨rfl, rfl⟩
  by_cases h8 : k = 8
  · subst h8
    go_enter Tryz.func68, Tryz.ntmps68
    go_wp2
    go_ret
    exact ⟨rfl, rfl⟩
  by_cases h9 : k = 9
  · subst h9
    go_enter Tryz.func68, Tryz.ntmps68
    go_wp2
    go_ret
    exact ⟨rfl, rfl⟩
  · have j4 : (k == 4) = false := by simpa using h4
    have j5 : (k == 5) = false := by simpa using h5
    have j6 : (k == 6) = false := by simpa using h6
    have j7 : (k == 7) = false := by simpa using h7
    have j8 : (k == 8) = false := by simpa using h8
    have j9 : (k == 9) = false := by simpa using h9
    have hT : turnOf k = 97 := by unfold turnOf; simp [*]
    rw [hT]
    clear h4 h5 h6 h7 h8 h9 hT
    go_enter Tryz.func68, Tryz.ntmps68
    go_wp2
    go_ret
    exact ⟨rfl, rfl⟩
theorem turn_calls {w : World} {p b base B : Nat} {F : FS} (h : Fold w p b base B F) (v : Ev) (hv : (Lit.int .i64 v.n).wf = true ∧ (Lit.int .i64 v.rn).wf = true) (hB : B ≤ 1000000) : Calls Tryz.prog (turnOf v.op) #[.pointer (some ⟨p, 0, none⟩), evV v] w fun e w' =>
    e = .returned (.tuple #[]) ∧ Turned w w' p b base B (turnM ⟨F.s, kst F⟩ v).s (turnM ⟨F.s, kst F⟩ v).κ := by
  unfold turnOf turnM
  by_cases h4 : v.op = 4
  · rw [if_pos h4, if_pos h4]
    by_cases hk : v.tok.k = 3
    · rw [if_pos hk]; exact take_end h v hk
    · rw [if_neg hk]; exact take_calls h v hk hB
  rw [if_neg h4, if_neg h4]
  by_cases h5 : v.op = 5
  · rw [if_pos h5, if_pos h5]
    rcases List.eq_nil_or_concat F.s.l with hl | ⟨l, x, hl⟩
    · have : pop F.s = F.s := by unfold pop; rw [hl]; rfl
      show Calls _ _ _ _ fun e w' => e = _ ∧ Turned w w' p b base B (pop F.s) (kst F)
      rw [this]
      exact pushBack_nil h v hl
    · rw [List.concat_eq_append] at hl
      have : pop F.s = ⟨x.at_, l⟩ := by unfold pop; rw [hl]; simp
      show Calls _ _ _ _ fun e w' => e = _ ∧ Turned w w' p b base B (pop F.s) (kst F)
      rw [this]
      exact pushBack_some h v l x hl hB
  rw [if_neg h5, if_neg h5]
  by_cases h6 : v.op = 6
  · rw [if_pos h6, if_pos h6]
    exact mark_calls h v hv.2 hB
  rw [if_neg h6, if_neg h6]
  by_cases h7 : v.op = 7
  · rw [if_pos h7, if_pos h7]
    cases hK : F.K v.n with
    | none =>
      have hk : kst F v.n = none := by unfold kst; rw [hK]; rfl
      show Calls _ _ _ _ fun e w' => e = _ ∧ Turned w w' p b base B ((kst F v.n).getD F.s) (kst F)
      rw [hk]
      exact rewind_none h v hv.1 hk
    | some e =>
      have hk : kst F v.n = some e.st := by unfold kst; rw [hK]; rfl
      show Calls _ _ _ _ fun e w' => e = _ ∧ Turned w w' p b base B ((kst F v.n).getD F.s) (kst F)
      rw [hk]
      exact rewind_some h v hv.1 hK
  rw [if_neg h7, if_neg h7]
  by_cases h8 : v.op = 8
  · rw [if_pos h8, if_pos h8]
    exact release_calls h v hv.1
  rw [if_neg h8, if_neg h8]
  by_cases h9 : v.op = 9
  · rw [if_pos h9, if_pos h9]
    exact mode_calls h v
  rw [if_neg h9, if_neg h9]
  exact nothing_calls h v
theorem turn_some (k : Int) : turnOf k = 91 ∨ turnOf k = 92 ∨ turnOf k = 93 ∨ turnOf k = 94 ∨ turnOf k = 95 ∨ turnOf k = 96 ∨ turnOf k = 97 := by
  unfold turnOf
  repeat (first | omega | split)
end Go.Proofs.YtoambcpjdcehhaaGreat.Fn

/- What Of and Spot compute. -/
set_option linter.unusedVariables false
set_option linter.unusedSimpArgs false
namespace Go.Proofs.YtoambcpjdcehhaaGreat.Fn
open Go Go.RowKit Go.Proofs.YtoambcpjdcehhaaGreat.Can Go.Proofs.YtoambcpjdcehhaaGreat.Base
attribute [local go_sem] clsB AB.cell

theorem stepM_len {m : Mdl} {B : Nat} (h : m.s.l.length ≤ B ∧ ∀ x s, m.κ x = some s → s.l.length ≤ B) (v : Ev) : (stepM m v).s.l.length ≤ B + 1 ∧ ∀ x s, (stepM m v).κ x = some s → s.l.length ≤ B + 1 := by
  have h0 : m.s.l.length ≤ B + 1 ∧ ∀ x s, m.κ x = some s → s.l.length ≤ B + 1 := ⟨by omega, fun x s hx => by have := h.2 x s hx; omega⟩
  unfold stepM
  split
  · unfold turnM
    split
    · split
      · exact h0
      · exact ⟨by show (m.s.l ++ [_]).length ≤ B + 1; rw [List.length_append]; simp; omega, h0.2⟩
    split
    · refine ⟨?_, h0.2⟩
      show (pop m.s).l.length ≤ B + 1
      unfold pop
      split
      · exact h0.1
      · show m.s.l.dropLast.length ≤ B + 1
        rw [List.length_dropLast]; omega
    split
    · refine ⟨h0.1, fun x s hx => ?_⟩
      simp only [] at hx
      split at hx
      · cases hx; exact h0.1
      · exact h0.2 x s hx
    split
    · refine ⟨?_, h0.2⟩
      show ((m.κ v.n).getD m.s).l.length ≤ B + 1
      cases hk : m.κ v.n with
      | none => exact h0.1
      | some s => exact h0.2 _ s hk
    split
    · refine ⟨h0.1, fun x s hx => ?_⟩
      simp only [] at hx
      split at hx
      · cases hx
      · exact h0.2 x s hx
    split
    · exact h0
    · exact h0
  · exact h0
theorem runM_len2 (mode : Int) (h : List Ev) : ∀ m B, (m.s.l.length ≤ B ∧ ∀ x s, m.κ x = some s → s.l.length ≤ B) → (h.foldl stepM m).s.l.length ≤ B + h.length := by
  induction h with
  | nil => intro m B hm; exact hm.1
  | cons v h ih =>
    intro m B hm
    have := ih (stepM m v) (B + 1) (stepM_len hm v)
    simp only [List.foldl_cons, List.length_cons]
    omega
theorem runM_len (mode : Int) (h : List Ev) : (runM mode h).s.l.length ≤ h.length := by
  have := runM_len2 mode h (initM mode) 0 ⟨Nat.le_refl _, fun x s hx => by cases hx⟩
  unfold runM
  omega
theorem ownBlock_gt {n k o a b : Nat} (h : n < k) : (Value.slice (some ⟨n, o, none⟩) a b).ownBlock ≠ some k := fun he => by
  simp [Value.ownBlock] at he; omega
def EvWf (h : List Ev) : Prop := ∀ v ∈ h, (Lit.int .i64 v.n).wf = true ∧ (Lit.int .i64 v.rn).wf = true
set_option maxRecDepth 20000 in
set_option maxHeartbeats 4000000 in
theorem over_calls (mode : Int) (A : Option Addr) (c : Nat) (xs : List Ev) (S : Nat → Prop) (w : World) (hS : ∀ k, S k → k < w.heap.size) (hC : Row evT w S A xs.length xs) (hw : EvWf xs) (hl : xs.length ≤ 1000000) :
    Calls Tryz.prog 39 #[.int .i64 mode, .slice A xs.length c] w fun e w' => ∃ A' n' c', e = .returned (.agg #[.int .i64 (runM mode xs).s.at_.at_, .int .i64 (runM mode xs).s.at_.mode, .slice A' n' c']) ∧ n' ≤ c' ∧ (A' = none → c' = 0) ∧ Row eT w' (fun k => w.heap.size ≤ k ∧ k < w'.heap.size) A' n' (runM mode xs).s.l ∧ Below w.heap.size w w' := by
  obtain ⟨n, hn⟩ : ∃ n, xs.length = n := ⟨_, rfl⟩
  rw [hn] at hC hl ⊢
  have HN := Hd.mk hn; have HS := Hd.mk hS; have HC := Hd.mk hC; have HW := Hd.mk hw
  clear hn hS hC hw
  go_enter Tryz.func39, Tryz.ntmps39
  have hmk : ∀ w : World, (Instr.makeMap 122 none).run Tryz.prog w = .ok (.map (some w.heap.size)) (w.alloc (.map #[] 0)) := fun w => run_makeMap 122 w
  go_wp2
  generalize hV : World.alloc _ _ = V
  have HBV : Below w.heap.size w V := below_of hV (by repeat (first | (with_reducible assumption) | (with_reducible exact Below.refl _ _) | (with_reducible apply below_drewL) | (with_reducible apply below_alloc) | (with_reducible apply below_drew1) | (with_reducible apply below_drewN) | (refine below_set ?_ (by first | omega | (simp only [size_alloc, size_drew, size_set]; omega)) _ _)))
  have zV : Hd (V.heap.size = w.heap.size + 1 + 1 + 1) := ⟨by rw [← hV]; simp only [size_alloc]⟩
  have V0 := at_of hV (blk_alloc (blk_alloc (blk_new _ _ _ rfl) _) _)
  have V0l := blk_lt V0
  have V1 := at_of hV (blk_alloc (blk_new _ _ _ rfl) _)
  simp only [size_alloc] at V1
  have V1l := blk_lt V1
  have V2 := at_of hV (blk_new _ _ _ rfl)
  simp only [size_alloc] at V2
  have V2l := blk_lt V2
  clear hV
  have HV0 := Hd.mk V0
  have HF0 : Hd (Fold V (w.heap.size + 1 + 1) (w.heap.size + 1) (w.heap.size + 1 + 1 + 1) 0 ⟨⟨⟨0, mode⟩, []⟩, fun _ => none, none, none, 0, 0⟩) := ⟨⟨V2, VMap.empty V1, by omega, by omega, by omega, by have := zV.out; omega, Row.nil _ _ _ _, Nat.le_refl _, fun _ => rfl, .inl ⟨rfl, rfl⟩, fun x e hx => (by cases hx), Nat.zero_le _, fun x e hx => (by cases hx)⟩⟩
  have HVB := Hd.mk HBV
  have HM0 : Hd ((⟨⟨⟨0, mode⟩, []⟩, fun _ => none⟩ : Mdl) = runM mode (xs.take 0)) := ⟨rfl⟩
  clear V0 V1 V2 V0l V1l V2l zV HBV hmk
  generalize hp : w.heap.size + 1 + 1 = p at *
  generalize hb : w.heap.size + 1 = b at *
  generalize hg : w.heap.size = g at *
  obtain ⟨base, hbase⟩ : ∃ base, p + 1 = base := ⟨_, rfl⟩
  rw [hbase] at HF0
  have HP := Hd.mk hp; have HBb := Hd.mk hb; have HG := Hd.mk hg; have HBs := Hd.mk hbase
  have HNE : Hd (g < base ∧ g ≠ p ∧ g ≠ b ∧ g = w.heap.size) := ⟨by omega⟩
  have HSW : Hd (∀ k, S k → k < w.heap.size) := ⟨fun k hk => by have := HS.out k hk; omega⟩
  clear hp hb hg hbase
  go_loopw [17] (fun i wr => ∃ (k : Nat) (F : FS), k ≤ n ∧ i = .int .i64 k ∧ Hd (Fold wr p b base k F) ∧ Hd ((⟨F.s, kst F⟩ : Mdl) = runM mode (xs.take k)) ∧ Hd (wr.heap[g]? = some (.cells #[.int .i64 0, .int .i64 0, .slice none 0 0] 100 (0, 0))) ∧ Hd (Below g w wr)) (fun i _ => n - (intOf i).toNat)
  case atStart => exact ⟨0, _, Nat.zero_le _, rfl, HF0, HM0, HV0, HVB⟩
  case round =>
    clear HF0 HM0 HV0 HVB
    obtain ⟨k, F, hk, rfl, HF, HM, HV, HB⟩ := hrel
    have HBw : Hd (Below w.heap.size w wr) := ⟨by have := HB.out; rw [HNE.out.2.2.2] at this; exact this⟩
    have hgl := blk_lt HV.out
    by_cases hlt : k < n
    · obtain ⟨a, off, v, rfl, ha, hx, c0, c1, c2, c3, c4, c5, c6, c7, c8, c9, c10, c11, c12, c13⟩ := ev_get (HC.out.below HSW.out HBw.out) k hlt
      have HX := Hd.mk hx
      have HWV := Hd.mk (HW.out v (List.mem_of_getElem? hx))
      have HTK : Hd (xs.take (k + 1) = xs.take k ++ [v]) := ⟨by rw [List.take_add_one, hx]; rfl⟩
      clear hx
      cases hg : goodB v with
      | false =>
        have HG := Hd.mk hg; clear hg
        have HM2 : Hd ((⟨F.s, kst F⟩ : Mdl) = runM mode (xs.take (k + 1))) := ⟨by rw [HTK.out, runM_snoc, ← HM.out]; unfold stepM; rw [HG.out]; rfl⟩
        go_wp2_with (go_at_call 41; go_must (refine Calls.mono (good_calls v _) ?_; rintro e w2 ⟨he, hb2⟩; rw [HG.out] at he; subst he))
        go_roundw
        case rel => exact ⟨k + 1, F, by omega, by go_num, ⟨((HF.out.below (below_alloc (Below.refl _ _) _)).below hb2).more (Nat.le_succ k)⟩, HM2, ⟨blk_below (blk_alloc HV.out _) hb2⟩, ⟨HB.out.trans (below_seq (below_alloc (Below.refl _ _) _) hb2 |>.mono (by omega))⟩⟩
        case measure => simp [intOf]; omega
      | true =>
        have HG := Hd.mk hg; clear hg
        have HST : Hd (runM mode (xs.take (k + 1)) = turnM ⟨F.s, kst F⟩ v) := ⟨by rw [HTK.out, runM_snoc, ← HM.out]; unfold stepM; rw [HG.out]; rfl⟩
        rcases turn_some v.op with hT | hT | hT | hT | hT | hT | hT
        all_goals
          have HT := Hd.mk hT; clear hT
          go_wp2_with (first
            | (go_at_call 41; go_must (refine Calls.mono (good_calls v _) ?_; rintro e w2 ⟨he, hb2⟩; rw [HG.out] at he; subst he; have hv2 := blk_below (blk_new _ _ _ rfl) hb2; have hv2c0 := blk_cell hv2 0 _ rfl; have hv2f0 := blk_frozen hv2 0; have hv2c1 := blk_cell hv2 1 _ rfl; have hv2f1 := blk_frozen hv2 1; have hv2c2 := blk_cell hv2 2 _ rfl; have hv2f2 := blk_frozen hv2 2; have hv2c3 := blk_cell hv2 3 _ rfl; have hv2f3 := blk_frozen hv2 3; have hv2c4 := blk_cell hv2 4 _ rfl; have hv2f4 := blk_frozen hv2 4; have hv2c5 := blk_cell hv2 5 _ rfl; have hv2f5 := blk_frozen hv2 5; have hv2c6 := blk_cell hv2 6 _ rfl; have hv2f6 := blk_frozen hv2 6; have hv2c7 := blk_cell hv2 7 _ rfl; have hv2f7 := blk_frozen hv2 7; have hv2c8 := blk_cell hv2 8 _ rfl; have hv2f8 := blk_frozen hv2 8; have hv2c9 := blk_cell hv2 9 _ rfl; have hv2f9 := blk_frozen hv2 9; have hv2c10 := blk_cell hv2 10 _ rfl; have hv2f10 := blk_frozen hv2 10; have hv2c11 := blk_cell hv2 11 _ rfl; have hv2f11 := blk_frozen hv2 11; have hv2c12 := blk_cell hv2 12 _ rfl; have hv2f12 := blk_frozen hv2 12; have hv2c13 := blk_cell hv2 13 _ rfl; have hv2f13 := blk_frozen hv2 13; have hv2l := blk_lt hv2; have HF2 := Hd.mk ((HF.out.below (below_alloc (Below.refl _ _) _)).below hb2); have HV2 := Hd.mk (blk_below (blk_alloc HV.out _) hb2); have HB2 : Hd (Below g w w2) := ⟨HB.out.trans ((below_seq (below_alloc (Below.refl _ _) _) hb2).mono (by omega))⟩; clear hb2 hv2))
            | (go_at_call 68; go_must (refine Calls.mono (turns_calls v.op _) ?_; rintro e w2 ⟨he, rfl⟩; rw [HT.out] at he; subst he))
            | (go_at_call 91; go_must (have hc9 := turn_calls HF2.out v HWV.out (by omega); rw [HT.out] at hc9; refine Calls.mono hc9 ?_; rintro e w3 ⟨rfl, F', h9, hs9, hk9, f9⟩; have HF3 := Hd.mk h9; have F3 := Hd.mk f9; have HMM : Hd ((⟨F'.s, kst F'⟩ : Mdl) = turnM ⟨F.s, kst F⟩ v) := ⟨by rw [hs9, show kst F' = _ from funext hk9]⟩; clear hc9 h9 hs9 hk9 f9))
            | (go_at_call 92; go_must (have hc9 := turn_calls HF2.out v HWV.out (by omega); rw [HT.out] at hc9; refine Calls.mono hc9 ?_; rintro e w3 ⟨rfl, F', h9, hs9, hk9, f9⟩; have HF3 := Hd.mk h9; have F3 := Hd.mk f9; have HMM : Hd ((⟨F'.s, kst F'⟩ : Mdl) = turnM ⟨F.s, kst F⟩ v) := ⟨by rw [hs9, show kst F' = _ from funext hk9]⟩; clear hc9 h9 hs9 hk9 f9))
            | (go_at_call 93; go_must (have hc9 := turn_calls HF2.out v HWV.out (by omega); rw [HT.out] at hc9; refine Calls.mono hc9 ?_; rintro e w3 ⟨rfl, F', h9, hs9, hk9, f9⟩; have HF3 := Hd.mk h9; have F3 := Hd.mk f9; have HMM : Hd ((⟨F'.s, kst F'⟩ : Mdl) = turnM ⟨F.s, kst F⟩ v) := ⟨by rw [hs9, show kst F' = _ from funext hk9]⟩; clear hc9 h9 hs9 hk9 f9))
            | (go_at_call 94; go_must (have hc9 := turn_calls HF2.out v HWV.out (by omega); rw [HT.out] at hc9; refine Calls.mono hc9 ?_; rintro e w3 ⟨rfl, F', h9, hs9, hk9, f9⟩; have HF3 := Hd.mk h9; have F3 := Hd.mk f9; have HMM : Hd ((⟨F'.s, kst F'⟩ : Mdl) = turnM ⟨F.s, kst F⟩ v) := ⟨by rw [hs9, show kst F' = _ from funext hk9]⟩; clear hc9 h9 hs9 hk9 f9))
            | (go_at_call 95; go_must (have hc9 := turn_calls HF2.out v HWV.out (by omega); rw [HT.out] at hc9; refine Calls.mono hc9 ?_; rintro e w3 ⟨rfl, F', h9, hs9, hk9, f9⟩; have HF3 := Hd.mk h9; have F3 := Hd.mk f9; have HMM : Hd ((⟨F'.s, kst F'⟩ : Mdl) = turnM ⟨F.s, kst F⟩ v) := ⟨by rw [hs9, show kst F' = _ from funext hk9]⟩; clear hc9 h9 hs9 hk9 f9))
            | (go_at_call 96; go_must (have hc9 := turn_calls HF2.out v HWV.out (by omega); rw [HT.out] at hc9; refine Calls.mono hc9 ?_; rintro e w3 ⟨rfl, F', h9, hs9, hk9, f9⟩; have HF3 := Hd.mk h9; have F3 := Hd.mk f9; have HMM : Hd ((⟨F'.s, kst F'⟩ : Mdl) = turnM ⟨F.s, kst F⟩ v) := ⟨by rw [hs9, show kst F' = _ from funext hk9]⟩; clear hc9 h9 hs9 hk9 f9))
            | (go_at_call 97); go_must (have hc9 := turn_calls HF2.out v HWV.out (by omega); rw [HT.out] at hc9; refine Calls.mono hc9 ?_; rintro e w3 ⟨rfl, F', h9, hs9, hk9, f9⟩; have HF3 := Hd.mk h9; have F3 := Hd.mk f9; have HMM : Hd ((⟨F'.s, kst F'⟩ : Mdl) = turnM ⟨F.s, kst F⟩ v) := ⟨by rw [hs9, show kst F' = _ from funext hk9]⟩; clear hc9 h9 hs9 hk9 f9))
          go_roundw
          case rel => exact ⟨k + 1, F', by omega, by go_num, HF3, ⟨by rw [HST.out]; exact HMM.out⟩, ⟨F3.out.blk HV2.out (by have := HNE.out; unfold XF; omega)⟩, ⟨Fr.seq HB2.out F3.out (by have := HB2.out.size; have := HNE.out; omega) (fun b hb hx => by have := HNE.out; have := HP.out; have := HBb.out; unfold XF at hx; omega)⟩⟩
          case measure => simp [intOf]; omega
    · obtain rfl : k = n := by omega
      have HTN : Hd (xs.take k = xs) := ⟨by rw [← HN.out, List.take_length]⟩
      have hstr := HF.out.str
      obtain ⟨A', hA'⟩ : ∃ A', F.A = A' := ⟨_, rfl⟩
      obtain ⟨n', hn'⟩ : ∃ n', F.n = n' := ⟨_, rfl⟩
      obtain ⟨c', hc'⟩ : ∃ c', F.c = c' := ⟨_, rfl⟩
      obtain ⟨sp, hsp⟩ : ∃ sp, F.s.at_ = sp := ⟨_, rfl⟩
      rw [hA', hn', hc', hsp] at hstr
      have HA' := Hd.mk hA'; have HN' := Hd.mk hn'; have HC' := Hd.mk hc'; have HSP := Hd.mk hsp
      have hv := HV.out
      have hstrc0 := blk_cell hstr 0 _ rfl; have hstrf0 := blk_frozen hstr 0; have hstrc1 := blk_cell hstr 1 _ rfl; have hstrf1 := blk_frozen hstr 1; have hstrc2 := blk_cell hstr 2 _ rfl; have hstrf2 := blk_frozen hstr 2; have hstrc3 := blk_cell hstr 3 _ rfl; have hstrf3 := blk_frozen hstr 3; have hstrl := blk_lt hstr
      have hvc0 := blk_cell hv 0 _ rfl; have hvf0 := blk_frozen hv 0; have hvc1 := blk_cell hv 1 _ rfl; have hvf1 := blk_frozen hv 1; have hvc2 := blk_cell hv 2 _ rfl; have hvf2 := blk_frozen hv 2; have hvl := blk_lt hv
      clear hA' hn' hc' hsp hstr
      go_wp2
      refine bodyPost_ret (results_cell_row rfl _ _ g 100 #[.int .i64 sp.at_, .int .i64 sp.mode, .slice A' n' c'] (0, 0) _ rfl (blk_set (blk_set (blk_set hv 0 _ _ rfl) 1 _ _ rfl) 2 _ _ rfl) Tryz.underlying100 rfl (by kernel_rfl)) rfl ?_
      have hMM := HM.out
      rw [HTN.out] at hMM
      rw [← hMM]
      refine ⟨A', n', c', by rw [← HSP.out], by rw [← HN'.out, ← HC'.out]; exact HF.out.cap, by rw [← HA'.out, ← HC'.out]; exact HF.out.nil, ?_, ?_⟩
      · have hfr := Fr.set (Fr.set (Fr.set (Fr.refl (fun k => k = g) wr) (.inl rfl) 0 (.int .i64 sp.at_)) (.inl rfl) 1 (.int .i64 sp.mode)) (.inl rfl) 2 (.slice A' n' c')
        have hrow := hfr.row HF.out.row (fun q hq => ⟨hq.2, by have := HNE.out; have := hq.1; show ¬ q = g; omega⟩)
        rw [HA'.out, HN'.out] at hrow
        exact hrow.mono fun q hq => ⟨by have := HNE.out; have := hq.1; omega, by simp only [size_set]; exact hq.2⟩
      · have := HB.out
        exact below_set (below_set (below_set HBw.out (by have := HNE.out; omega) _ _) (by have := HNE.out; omega) _ _) (by have := HNE.out; omega) _ _
end Go.Proofs.YtoambcpjdcehhaaGreat.Fn

/- What Of and Spot compute: their walks. -/
set_option linter.unusedVariables false
set_option linter.unusedSimpArgs false
namespace Go.Proofs.YtoambcpjdcehhaaGreat.Fn
open Go Go.RowKit Go.Proofs.YtoambcpjdcehhaaGreat.Can Go.Proofs.YtoambcpjdcehhaaGreat.Base
attribute [local go_sem] clsB AB.cell

/-- What was made by the call is read: the element's type has a plain row. -/
theorem of_calls (mode : Int) (A : Option Addr) (c : Nat) (xs : List Ev) (S : Nat → Prop) (w : World) (hS : ∀ k, S k → k < w.heap.size) (hC : Row evT w S A xs.length xs) (hw : EvWf xs) (hl : xs.length ≤ 1000000) :
    Calls Tryz.prog 14 #[.int .i64 mode, .slice A xs.length c] w fun e w' => ∃ A' n' c', e = .returned (.slice A' n' c') ∧ Row eT w' (fun k => w.heap.size ≤ k ∧ k < w'.heap.size) A' n' (runM mode xs).s.l ∧ Below w.heap.size w w' := by
  obtain ⟨n, hn⟩ : ∃ n, xs.length = n := ⟨_, rfl⟩
  have HS := Hd.mk hS; have HC := Hd.mk hC; have HW := Hd.mk hw; have HL := Hd.mk hl
  obtain ⟨M, hM⟩ : ∃ M, (runM mode xs).s = M := ⟨_, rfl⟩
  have HLen : Hd (M.l.length ≤ 1000000) := ⟨by rw [← hM]; exact Nat.le_trans (runM_len mode xs) hl⟩
  have HN := Hd.mk hn
  have HM := Hd.mk hM
  rw [hM]
  rw [hn]
  clear hn hS hC hw hl hM
  have hfd : ∀ (x y : Int) (A : Option Addr) (n c : Nat) (w : World), (Instr.field 100 (.agg #[.int .i64 x, .int .i64 y, .slice A n c]) 1).run Tryz.prog w = .ok (.slice A n c) w := fun _ _ _ _ _ _ => by kernel_rfl
  go_enter Tryz.func14, Tryz.ntmps14
  go_wp2_with (first
    | (go_at_call 39; go_must (have h9 := over_calls mode A c xs S (w.alloc (.cells #[] 59)) (fun k hk => by rw [size_alloc]; have := HS.out k hk; omega) (HC.out.below HS.out (by repeat (first | (with_reducible assumption) | (with_reducible exact Below.refl _ _) | (with_reducible apply below_drewL) | (with_reducible apply below_alloc) | (with_reducible apply below_drew1) | (with_reducible apply below_drewN) | (refine below_set ?_ (by first | omega | (simp only [size_alloc, size_drew, size_set]; omega)) _ _)))) HW.out HL.out; rw [HN.out, HM.out] at h9; refine Calls.mono h9 ?_; clear h9; rintro e w1 ⟨A1, n1, c1, rfl, hn1, hA1, hr1, hb1⟩; have HA1 := Hd.mk hA1; have HR1 := Hd.mk hr1; have HB1 := Hd.mk hb1; have HE1 := Hd.mk (blk_below (blk_new w (.cells #[] 59) _ rfl) hb1); have hle1 := hr1.le; clear hA1 hr1 hb1))
    | (at_builtin; go_must (refine append_row eT e_flat rfl (.tmp 5) (.tmp 9) 54 59 _ 64 rfl Tryz.underlying54 info31 rfl (by decide) (by decide) w.heap.size (.slice (some ⟨w.heap.size, 0, none⟩) 0 0) [] M.l A1 n1 c1 rfl rfl HA1.out ((Mine.empty eT w rfl (Nat.le_refl _)).below HB1.out) HR1.out (fun k hk => ⟨hk.2, ownBlock_gt (by have := hk.1; rw [size_alloc] at this; omega)⟩) (by have := HB1.out.size; rw [size_alloc] at this; omega) (by have := HR1.out.1; have := HLen.out; simp only [List.length_nil]; omega) ?_; intro v2 w2 hM2 hb2 hk2 hat2; rw [List.nil_append] at hM2; obtain ⟨A2, n2, c2, rfl, hn2, hc2, hA2, hr2⟩ := hM2.formN; have HR2 := Hd.mk hr2; have HB2 : Hd (Below w.heap.size w w2) := ⟨Below.trans (below_seq (below_alloc (Below.refl _ _) _) HB1.out) hb2⟩; clear hr2 hA2 hc2 hn2 hk2 hat2 hb2 hM2)))
  go_ret
  exact ⟨A2, n2, c2, rfl, HR2.out, HB2.out⟩
theorem spot_calls (mode : Int) (A : Option Addr) (c : Nat) (xs : List Ev) (S : Nat → Prop) (w : World) (hS : ∀ k, S k → k < w.heap.size) (hC : Row evT w S A xs.length xs) (hw : EvWf xs) (hl : xs.length ≤ 1000000) :
    Calls Tryz.prog 26 #[.int .i64 mode, .slice A xs.length c] w fun e w' => e = .returned (spotV (runM mode xs).s.at_) ∧ Below w.heap.size w w' := by
  obtain ⟨n, hn⟩ : ∃ n, xs.length = n := ⟨_, rfl⟩
  have HS := Hd.mk hS; have HC := Hd.mk hC; have HW := Hd.mk hw; have HL := Hd.mk hl
  obtain ⟨M, hM⟩ : ∃ M, (runM mode xs).s = M := ⟨_, rfl⟩
  have HN := Hd.mk hn
  have HM := Hd.mk hM
  rw [hM]
  rw [hn]
  unfold spotV
  clear hn hS hC hw hl hM
  have hfd : ∀ (x y : Int) (A : Option Addr) (n c : Nat) (w : World), (Instr.field 100 (.agg #[.int .i64 x, .int .i64 y, .slice A n c]) 0).run Tryz.prog w = .ok (.agg #[.int .i64 x, .int .i64 y]) w := fun _ _ _ _ _ _ => by kernel_rfl
  go_enter Tryz.func26, Tryz.ntmps26
  go_wp2_with (go_at_call 39; go_must (have h9 := over_calls mode A c xs S (w.alloc (.cells #[.int .i64 0, .int .i64 0] 57)) (fun k hk => by rw [size_alloc]; have := HS.out k hk; omega) (HC.out.below HS.out (by repeat (first | (with_reducible assumption) | (with_reducible exact Below.refl _ _) | (with_reducible apply below_drewL) | (with_reducible apply below_alloc) | (with_reducible apply below_drew1) | (with_reducible apply below_drewN) | (refine below_set ?_ (by first | omega | (simp only [size_alloc, size_drew, size_set]; omega)) _ _)))) HW.out HL.out; rw [HN.out, HM.out] at h9; refine Calls.mono h9 ?_; clear h9; rintro e w1 ⟨A1, n1, c1, rfl, hn1, hA1, hr1, hb1⟩; have HB1 := Hd.mk hb1; have he1 := (blk_below (blk_new w (.cells #[.int .i64 0, .int .i64 0] 57) _ rfl) hb1); have he1c0 := blk_cell he1 0 _ rfl; have he1f0 := blk_frozen he1 0; have he1c1 := blk_cell he1 1 _ rfl; have he1f1 := blk_frozen he1 1; have he1l := blk_lt he1; clear hA1 hr1 hb1))
  refine bodyPost_ret (results_cell_row rfl _ _ w.heap.size 57 #[.int .i64 M.at_.at_, .int .i64 M.at_.mode] (0, 0) _ rfl (blk_set (blk_set he1 0 _ _ rfl) 1 _ _ rfl) Tryz.underlying57 rfl (by kernel_rfl)) rfl ?_
  exact ⟨rfl, below_set (below_set (below_seq (below_alloc (Below.refl _ _) _) HB1.out) (Nat.le_refl _) _ _) (Nat.le_refl _) _ _⟩
end Go.Proofs.YtoambcpjdcehhaaGreat.Fn
