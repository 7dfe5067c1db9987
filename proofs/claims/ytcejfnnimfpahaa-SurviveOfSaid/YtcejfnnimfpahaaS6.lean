/- What a mark, a rewind and a push-back turn. -/
import Derived.Test.YtcejfnnimfpahaaS5
namespace Go.Proofs.Ytcejfnnimfpahaa.Fn
open Go Go.RowKit Go.Proofs.Ytcejfnnimfpahaa.Can Go.Proofs.Ytcejfnnimfpahaa.Base
attribute [local go_sem] clsB AB.cell

theorem mark_calls {w : World} {p b base B : Nat} {F : FS} (h : Fold w p b base B F) (v : Ev) (hv : (Lit.int .i64 v.rn).wf = true) (hB : B ≤ 1000000) : Calls Try.prog 32 #[.pointer (some ⟨p, 0, none⟩), evV v] w fun e w' =>
    e = .returned (.tuple #[]) ∧ Turned w w' p b base B F.s (fun y => if y = v.rn then some F.s else kst F y) := by
  unfold evV
  obtain ⟨w3, hrun, hmap, hfr⟩ := (h.map.move (w' := (w.alloc (.cells #[.int .i64 v.kind, .int .i64 v.id, .int .i64 v.client, .int .i64 v.op, .int .i64 v.n, .string v.data, .int .i64 v.e, .int .i64 v.rn, .int .i64 v.tok.k, .int .i64 v.tok.r, .int .i64 v.tok.f, .int .i64 v.tok.a, .int .i64 v.tok.t, .int .i64 v.tok.m] 55)).drew) (Below.heap_alloc w _ b h.map.lt)).store hv (kval ⟨F.s.at_, F.A, F.n, F.s.l⟩) hB
  obtain ⟨i0, hi, _, hi2, _⟩ := info_of info31
  have hcut0 := cut_max eT 22 31 Try.underlying22 hi h.row (Nat.le_refl _) h.cap
  have hln : F.n ≤ 1000000 := by have := h.lenN; have := h.row.1; omega
  unfold kval at hrun
  simp only [] at hrun
  have HM := Hd.mk hmap; have HF := Hd.mk hfr
  clear hmap hfr hi hi2
  have hs := h.str
  have HH := Hd.mk h
  have hbs := h.size
  have hpb := h.pb
  have hbb := h.bb
  have hcap := h.cap
  obtain ⟨A, hA⟩ : ∃ A, F.A = A := ⟨_, rfl⟩
  obtain ⟨n, hn⟩ : ∃ n, F.n = n := ⟨_, rfl⟩
  obtain ⟨c, hc⟩ : ∃ c, F.c = c := ⟨_, rfl⟩
  obtain ⟨sp, hsp⟩ : ∃ sp, F.s.at_ = sp := ⟨_, rfl⟩
  rw [hn, hc] at hcap
  rw [hA, hn, hc, hsp] at hs
  have HA := Hd.mk hA; have HN := Hd.mk hn; have HC := Hd.mk hc; have HSP := Hd.mk hsp
  have HS := Hd.mk hs
  have hsc0 := blk_cell hs 0 _ rfl; have hsf0 := blk_frozen hs 0; have hsc1 := blk_cell hs 1 _ rfl; have hsf1 := blk_frozen hs 1; have hsc2 := blk_cell hs 2 _ rfl; have hsf2 := blk_frozen hs 2; have hsc3 := blk_cell hs 3 _ rfl; have hsf3 := blk_frozen hs 3; have hsl := blk_lt hs
  clear h hA hn hc hsp hs
  rw [HA.out, HN.out, HSP.out] at hrun
  rw [HA.out, HN.out, HC.out] at hcut0
  rw [HN.out] at hln
  have hcut : ∀ W, (Instr.slice 22 (.slice A n c) none (some (.int .i64 n)) (some (.int .i64 n))).run Try.prog W = .ok (.slice A n n) W := fun W => hcut0 W .i64 .i64
  clear hcut0
  go_enter Try.func32, Try.ntmps32
  go_wp2
  refine wp_region_can (.q [0, 1, 2, 3, 4, 5, 6, 7, 8, 9, 10, 11, 12, 13, 14, 15, 16, 17, 18, 19, 20] (.e 21 false (.done))) (clsB _) (by kernel_rfl) (by kernel_rfl) (by intro _ _ d _ _ h; cases d <;> exact h) (clsB_drew _) ?_
  refine can_q (l := [⟨_,_,_,_,_,_⟩, ⟨_,_,_,_,_,_⟩, ⟨_,_,_,_,_,_⟩, ⟨_,_,_,_,_,_⟩, ⟨_,_,_,_,_,_⟩, ⟨_,_,_,_,_,_⟩, ⟨_,_,_,_,_,_⟩, ⟨_,_,_,_,_,_⟩, ⟨_,_,_,_,_,_⟩, ⟨_,_,_,_,_,_⟩, ⟨_,_,_,_,_,_⟩, ⟨_,_,_,_,_,_⟩, ⟨_,_,_,_,_,_⟩, ⟨_,_,_,_,_,_⟩, ⟨_,_,_,_,_,_⟩, ⟨_,_,_,_,_,_⟩, ⟨_,_,_,_,_,_⟩, ⟨_,_,_,_,_,_⟩, ⟨_,_,_,_,_,_⟩, ⟨_,_,_,_,_,_⟩, ⟨_,_,_,_,_,_⟩]) rfl ?_
  repeat (go_big_quiet_step (fail))
  refine wpQuiet_nil ?_
  refine can_e (o := ⟨_,_,_,_,_,_⟩) rfl (fun K hK => ?_)
  go_wp2_with fail
  refine onK_normal (hK _ _ ⟨fun _ => True, trivial, (fun h => by cases h), ?_⟩)
  clear hK K
  refine can_done ?_
  go_wp2
  go_end0
  refine ⟨rfl, _, (HH.out.below (w' := (w.alloc _).drew) (by repeat (first | (with_reducible assumption) | (with_reducible exact Below.refl _ _) | (with_reducible apply below_drewL) | (with_reducible apply below_alloc) | (with_reducible apply below_drew1) | (with_reducible apply below_drewN) | (refine below_set ?_ (by first | omega | (simp only [size_alloc, size_drew, size_set]; omega)) _ _)))).maps (fun y => if y = v.rn then some ⟨F.s.at_, F.A, F.n, F.s.l⟩ else F.K y) ?_ HF.out ?_, rfl, fun y => ?_, ?_⟩
  · obtain ⟨D, h1, h2⟩ := HM.out
    refine ⟨D, h1, fun x hx => ?_⟩
    have h3 := h2 x hx
    by_cases he : x = v.rn
    · simpa [he] using h3
    · simpa [he] using h3
  · intro x e hx
    by_cases he : x = v.rn
    · simp [he] at hx; exact .inr hx.symm
    · simp [he] at hx; exact .inl hx
  · show Option.map KE.st (if y = v.rn then some ⟨F.s.at_, F.A, F.n, F.s.l⟩ else F.K y) = _
    by_cases he : y = v.rn
    · simp [he, KE.st]
    · simp [he, kst]
  · exact ((Fr.refl (XF p b base) _).alloc _).drew.trans (HF.out.mono fun k hk => .inr (.inl hk))
theorem rewind_none {w : World} {p b base B : Nat} {F : FS} (h : Fold w p b base B F) (v : Ev) (hv : (Lit.int .i64 v.n).wf = true) (hK : kst F v.n = none) : Calls Try.prog 33 #[.pointer (some ⟨p, 0, none⟩), evV v] w fun e w' =>
    e = .returned (.tuple #[]) ∧ Turned w w' p b base B F.s (kst F) := by
  unfold evV
  obtain ⟨u, hlook, _, hu⟩ := h.map.look hv
  have hK' := kst_none hK
  have hu' := hu (by rw [hK']; rfl)
  subst hu'
  rw [hK'] at hlook
  have hbl := h.map.lt
  have hlk : ∀ X : AB (w.alloc (.cells #[.int .i64 v.kind, .int .i64 v.id, .int .i64 v.client, .int .i64 v.op, .int .i64 v.n, .string v.data, .int .i64 v.e, .int .i64 v.rn, .int .i64 v.tok.k, .int .i64 v.tok.r, .int .i64 v.tok.f, .int .i64 v.tok.a, .int .i64 v.tok.t, .int .i64 v.tok.m] 55)), (Instr.lookup 72 (.map (some b)) (.int .i64 v.n) true).run Try.prog X.x = .ok (.tuple #[.agg #[.int .i64 0, .int .i64 0, .slice none 0 0], .bool false]) X.x := fun X => hlook X.x ((X.ok b (by rw [size_alloc]; omega)).trans (Below.heap_alloc w _ b hbl))
  clear hlook hK hK' hu
  have hs := h.str
  have HH := Hd.mk h
  have hbs := h.size
  have hpb := h.pb
  have hbb := h.bb
  have hcap := h.cap
  obtain ⟨A, hA⟩ : ∃ A, F.A = A := ⟨_, rfl⟩
  obtain ⟨n, hn⟩ : ∃ n, F.n = n := ⟨_, rfl⟩
  obtain ⟨c, hc⟩ : ∃ c, F.c = c := ⟨_, rfl⟩
  obtain ⟨sp, hsp⟩ : ∃ sp, F.s.at_ = sp := ⟨_, rfl⟩
  rw [hn, hc] at hcap
  rw [hA, hn, hc, hsp] at hs
  have HA := Hd.mk hA; have HN := Hd.mk hn; have HC := Hd.mk hc; have HSP := Hd.mk hsp
  have HS := Hd.mk hs
  have hsc0 := blk_cell hs 0 _ rfl; have hsf0 := blk_frozen hs 0; have hsc1 := blk_cell hs 1 _ rfl; have hsf1 := blk_frozen hs 1; have hsc2 := blk_cell hs 2 _ rfl; have hsf2 := blk_frozen hs 2; have hsc3 := blk_cell hs 3 _ rfl; have hsf3 := blk_frozen hs 3; have hsl := blk_lt hs
  clear h hA hn hc hsp hs
  go_enter Try.func33, Try.ntmps33
  go_wp2
  refine wp_region_can (.q [0, 1, 2, 3, 4, 5, 6, 7, 8, 9, 10] (.e 11 true (.e 12 false (.q [13] (.done))))) (clsB _) (by kernel_rfl) (by kernel_rfl) (by intro _ _ d _ _ h; cases d <;> exact h) (clsB_drew _) ?_
  refine can_q (l := [⟨_,_,_,_,_,_⟩, ⟨_,_,_,_,_,_⟩, ⟨_,_,_,_,_,_⟩, ⟨_,_,_,_,_,_⟩, ⟨_,_,_,_,_,_⟩, ⟨_,_,_,_,_,_⟩, ⟨_,_,_,_,_,_⟩, ⟨_,_,_,_,_,_⟩, ⟨_,_,_,_,_,_⟩, ⟨_,_,_,_,_,_⟩, ⟨_,_,_,_,_,_⟩]) rfl ?_
  repeat (go_big_quiet_step (fail))
  refine wpQuiet_nil ?_
  refine can_e (o := ⟨_,_,_,_,_,_⟩) rfl (fun K hK => ?_)
  go_wp2_with fail
  refine onK_normal (hK _ _ ⟨clsB _, clsB_of (by first | exact ((by repeat (first | (with_reducible assumption) | (with_reducible exact Below.refl _ _) | (with_reducible apply below_drewL) | (with_reducible apply below_alloc) | (with_reducible apply below_drew1) | (with_reducible apply below_drewN) | (refine below_set ?_ (by first | omega | (simp only [size_alloc, size_drew, size_set]; omega)) _ _)))) | exact below_undrew ((by repeat (first | (with_reducible assumption) | (with_reducible exact Below.refl _ _) | (with_reducible apply below_drewL) | (with_reducible apply below_alloc) | (with_reducible apply below_drew1) | (with_reducible apply below_drewN) | (refine below_set ?_ (by first | omega | (simp only [size_alloc, size_drew, size_set]; omega)) _ _))))), fun _ _ h => h, ?_⟩)
  clear hK K
  refine can_e (o := ⟨_,_,_,_,_,_⟩) rfl (fun K hK => ?_)
  go_wp2_with fail
  refine onK_normal (hK _ _ ⟨fun _ => True, trivial, (fun h => by cases h), ?_⟩)
  clear hK K
  refine can_q (l := [⟨_,_,_,_,_,_⟩]) rfl ?_
  repeat (go_big_quiet_step (fail))
  refine wpQuiet_nil ?_
  refine can_done ?_
  go_wp2
  go_end0
  exact ⟨rfl, Turned.same HH.out (by repeat (first | (with_reducible assumption) | (with_reducible exact Below.refl _ _) | (with_reducible apply below_drewL) | (with_reducible apply below_alloc) | (with_reducible apply below_drew1) | (with_reducible apply below_drewN) | (refine below_set ?_ (by first | omega | (simp only [size_alloc, size_drew, size_set]; omega)) _ _)))⟩
theorem rewind_some {w : World} {p b base B : Nat} {F : FS} {e : KE} (h : Fold w p b base B F) (v : Ev) (hv : (Lit.int .i64 v.n).wf = true) (hK : F.K v.n = some e) : Calls Try.prog 33 #[.pointer (some ⟨p, 0, none⟩), evV v] w fun r w' =>
    r = .returned (.tuple #[]) ∧ Turned w w' p b base B e.st (kst F) := by
  unfold evV
  obtain ⟨u, hlook, hu, _⟩ := h.map.look hv
  have hu' := hu (kval e) (by rw [hK]; rfl)
  subst hu'
  rw [hK] at hlook
  unfold kval at hlook
  have hbl := h.map.lt
  have hlk : ∀ X : AB (w.alloc (.cells #[.int .i64 v.kind, .int .i64 v.id, .int .i64 v.client, .int .i64 v.op, .int .i64 v.n, .string v.data, .int .i64 v.e, .int .i64 v.rn, .int .i64 v.tok.k, .int .i64 v.tok.r, .int .i64 v.tok.f, .int .i64 v.tok.a, .int .i64 v.tok.t, .int .i64 v.tok.m] 55)), (Instr.lookup 72 (.map (some b)) (.int .i64 v.n) true).run Try.prog X.x = .ok (.tuple #[.agg #[.int .i64 e.at_.at_, .int .i64 e.at_.mode, .slice e.A e.n e.n], .bool true]) X.x := fun X => hlook X.x ((X.ok b (by rw [size_alloc]; omega)).trans (Below.heap_alloc w _ b hbl))
  have HKr := Hd.mk (h.keptRow hK)
  have HKl := Hd.mk (h.lenK _ _ hK)
  clear hlook hK hu
  have hs := h.str
  have HH := Hd.mk h
  have hbs := h.size
  have hpb := h.pb
  have hbb := h.bb
  have hcap := h.cap
  obtain ⟨A, hA⟩ : ∃ A, F.A = A := ⟨_, rfl⟩
  obtain ⟨n, hn⟩ : ∃ n, F.n = n := ⟨_, rfl⟩
  obtain ⟨c, hc⟩ : ∃ c, F.c = c := ⟨_, rfl⟩
  obtain ⟨sp, hsp⟩ : ∃ sp, F.s.at_ = sp := ⟨_, rfl⟩
  rw [hn, hc] at hcap
  rw [hA, hn, hc, hsp] at hs
  have HA := Hd.mk hA; have HN := Hd.mk hn; have HC := Hd.mk hc; have HSP := Hd.mk hsp
  have HS := Hd.mk hs
  have hsc0 := blk_cell hs 0 _ rfl; have hsf0 := blk_frozen hs 0; have hsc1 := blk_cell hs 1 _ rfl; have hsf1 := blk_frozen hs 1; have hsc2 := blk_cell hs 2 _ rfl; have hsf2 := blk_frozen hs 2; have hsc3 := blk_cell hs 3 _ rfl; have hsf3 := blk_frozen hs 3; have hsl := blk_lt hs
  clear h hA hn hc hsp hs
  go_enter Try.func33, Try.ntmps33
  go_wp2
  refine wp_region_can (.q [0, 1, 2, 3, 4, 5, 6, 7, 8, 9, 10] (.e 11 true (.e 12 false (.q [13] (.done))))) (clsB _) (by kernel_rfl) (by kernel_rfl) (by intro _ _ d _ _ h; cases d <;> exact h) (clsB_drew _) ?_
  refine can_q (l := [⟨_,_,_,_,_,_⟩, ⟨_,_,_,_,_,_⟩, ⟨_,_,_,_,_,_⟩, ⟨_,_,_,_,_,_⟩, ⟨_,_,_,_,_,_⟩, ⟨_,_,_,_,_,_⟩, ⟨_,_,_,_,_,_⟩, ⟨_,_,_,_,_,_⟩, ⟨_,_,_,_,_,_⟩, ⟨_,_,_,_,_,_⟩, ⟨_,_,_,_,_,_⟩]) rfl ?_
  repeat (go_big_quiet_step (fail))
  refine wpQuiet_nil ?_
  refine can_e (o := ⟨_,_,_,_,_,_⟩) rfl (fun K hK => ?_)
  go_wp2_with fail
  refine onK_normal (hK _ _ ⟨clsB _, clsB_of (by first | exact ((by repeat (first | (with_reducible assumption) | (with_reducible exact Below.refl _ _) | (with_reducible apply below_drewL) | (with_reducible apply below_alloc) | (with_reducible apply below_drew1) | (with_reducible apply below_drewN) | (refine below_set ?_ (by first | omega | (simp only [size_alloc, size_drew, size_set]; omega)) _ _)))) | exact below_undrew ((by repeat (first | (with_reducible assumption) | (with_reducible exact Below.refl _ _) | (with_reducible apply below_drewL) | (with_reducible apply below_alloc) | (with_reducible apply below_drew1) | (with_reducible apply below_drewN) | (refine below_set ?_ (by first | omega | (simp only [size_alloc, size_drew, size_set]; omega)) _ _))))), fun _ _ h => h, ?_⟩)
  clear hK K
  refine can_e (o := ⟨_,_,_,_,_,_⟩) rfl (fun K hK => ?_)
  go_wp2_with fail
  refine onK_normal (hK _ _ ⟨fun _ => True, trivial, (fun h => by cases h), ?_⟩)
  clear hK K
  refine can_q (l := [⟨_,_,_,_,_,_⟩]) rfl ?_
  repeat (go_big_quiet_step (fail))
  refine wpQuiet_nil ?_
  refine can_done ?_
  go_wp2
  go_end0
  have hcp := HH.out.capped (w' := ((w.setCell ⟨p, 0, none⟩ (.int .i64 e.at_.at_)).setCell ⟨p, 1, none⟩ (.int .i64 e.at_.mode)).setCell ⟨p, 2, none⟩ (.slice e.A e.n e.n)) e.at_ e.A e.n e.l (blk_set (blk_set (blk_set HS.out 0 _ _ rfl) 1 _ _ rfl) 2 _ _ rfl) (Fr.set (Fr.set (Fr.set (Fr.refl (fun k => k = p) _) (.inl rfl) _ _) (.inl rfl) _ _) (.inl rfl) _ _) HKr.out (fun hn => by
    rcases Nat.eq_zero_or_pos e.n with h0 | h0
    · exact h0
    · exact absurd hn (HKr.out.some_of h0)) HKl.out
  refine ⟨rfl, _, (hcp.below ?_).more (Nat.le_succ B), rfl, fun _ => rfl, ?_⟩
  · exact (by repeat (first | (with_reducible assumption) | (with_reducible exact Below.refl _ _) | (with_reducible apply below_drewL) | (with_reducible apply below_alloc) | (with_reducible apply below_drew1) | (with_reducible apply below_drewN) | (refine below_set ?_ (by first | omega | (simp only [size_alloc, size_drew, size_set]; omega)) _ _)))
  · exact (Fr.set (Fr.set (Fr.set (Fr.refl (XF p b base) _) (.inl (.inl rfl)) _ _) (.inl (.inl rfl)) _ _) (.inl (.inl rfl)) _ _).trans (Fr.of_below (by repeat (first | (with_reducible assumption) | (with_reducible exact Below.refl _ _) | (with_reducible apply below_drewL) | (with_reducible apply below_alloc) | (with_reducible apply below_drew1) | (with_reducible apply below_drewN) | (refine below_set ?_ (by first | omega | (simp only [size_alloc, size_drew, size_set]; omega)) _ _))))
theorem pushBack_nil {w : World} {p b base B : Nat} {F : FS} (h : Fold w p b base B F) (v : Ev) (hl : F.s.l = []) : Calls Try.prog 31 #[.pointer (some ⟨p, 0, none⟩), evV v] w fun e w' =>
    e = .returned (.tuple #[]) ∧ Turned w w' p b base B F.s (kst F) := by
  unfold evV
  have hn0 : F.n = 0 := by rw [← h.row.1, hl]; rfl
  have hs := h.str
  have HH := Hd.mk h
  have hbs := h.size
  have hpb := h.pb
  have hbb := h.bb
  have hcap := h.cap
  obtain ⟨A, hA⟩ : ∃ A, F.A = A := ⟨_, rfl⟩
  obtain ⟨n, hn⟩ : ∃ n, F.n = n := ⟨_, rfl⟩
  obtain ⟨c, hc⟩ : ∃ c, F.c = c := ⟨_, rfl⟩
  obtain ⟨sp, hsp⟩ : ∃ sp, F.s.at_ = sp := ⟨_, rfl⟩
  rw [hn, hc] at hcap
  rw [hA, hn, hc, hsp] at hs
  have HA := Hd.mk hA; have HN := Hd.mk hn; have HC := Hd.mk hc; have HSP := Hd.mk hsp
  have HS := Hd.mk hs
  have hsc0 := blk_cell hs 0 _ rfl; have hsf0 := blk_frozen hs 0; have hsc1 := blk_cell hs 1 _ rfl; have hsf1 := blk_frozen hs 1; have hsc2 := blk_cell hs 2 _ rfl; have hsf2 := blk_frozen hs 2; have hsc3 := blk_cell hs 3 _ rfl; have hsf3 := blk_frozen hs 3; have hsl := blk_lt hs
  clear h hA hn hc hsp hs
  obtain rfl : n = 0 := by rw [← HN.out, hn0]
  clear hn0 hl
  go_enter Try.func31, Try.ntmps31
  go_wp2
  go_end0
  exact ⟨rfl, Turned.same HH.out (by repeat (first | (with_reducible assumption) | (with_reducible exact Below.refl _ _) | (with_reducible apply below_drewL) | (with_reducible apply below_alloc) | (with_reducible apply below_drew1) | (with_reducible apply below_drewN) | (refine below_set ?_ (by first | omega | (simp only [size_alloc, size_drew, size_set]; omega)) _ _)))⟩
theorem pushBack_some {w : World} {p b base B : Nat} {F : FS} (h : Fold w p b base B F) (v : Ev) (l : List E) (x : E) (hl : F.s.l = l ++ [x]) (hB : B ≤ 1000000) : Calls Try.prog 31 #[.pointer (some ⟨p, 0, none⟩), evV v] w fun e w' =>
    e = .returned (.tuple #[]) ∧ Turned w w' p b base B ⟨x.at_, l⟩ (kst F) := by
  unfold evV
  obtain ⟨m, hm⟩ : ∃ m, l.length = m := ⟨_, rfl⟩
  have hn1 : F.n = m + 1 := by rw [← h.row.1, hl, List.length_append, hm]; rfl
  obtain ⟨i0, hi, _, hi2, _⟩ := info_of info31
  have hcut0 := cut_max (m := m) eT 22 31 Try.underlying22 hi h.row (by omega) h.cap
  have hln : F.n ≤ 1000000 := by have := h.lenN; have := h.row.1; omega
  obtain ⟨b0, off, y, hA0, hb0, hy, hc0, hc1, _⟩ := e_get h.row m (by omega)
  have hyx : y = x := by rw [hl, List.getElem?_append_right (by omega), hm, Nat.sub_self] at hy; simpa using hy.symm
  subst hyx
  have hrow : Row eT w (fun k => base ≤ k ∧ k < w.heap.size) F.A m l := by
    have := h.row.take m (by omega)
    rwa [hl, List.take_append_of_le_length (by omega), List.take_of_length_le (by omega)] at this
  have hlB : l.length ≤ B := by have := h.lenN; rw [hl, List.length_append] at this; omega
  have HRo := Hd.mk hrow; have HLB := Hd.mk hlB
  rw [hA0] at hcut0
  clear hl hy hi hi2 hrow hlB
  have hs := h.str
  have HH := Hd.mk h
  have hbs := h.size
  have hpb := h.pb
  have hbb := h.bb
  have hcap := h.cap
  obtain ⟨A, hA⟩ : ∃ A, F.A = A := ⟨_, rfl⟩
  obtain ⟨n, hn⟩ : ∃ n, F.n = n := ⟨_, rfl⟩
  obtain ⟨c, hc⟩ : ∃ c, F.c = c := ⟨_, rfl⟩
  obtain ⟨sp, hsp⟩ : ∃ sp, F.s.at_ = sp := ⟨_, rfl⟩
  rw [hn, hc] at hcap
  rw [hA, hn, hc, hsp] at hs
  have HA := Hd.mk hA; have HN := Hd.mk hn; have HC := Hd.mk hc; have HSP := Hd.mk hsp
  have HS := Hd.mk hs
  have hsc0 := blk_cell hs 0 _ rfl; have hsf0 := blk_frozen hs 0; have hsc1 := blk_cell hs 1 _ rfl; have hsf1 := blk_frozen hs 1; have hsc2 := blk_cell hs 2 _ rfl; have hsf2 := blk_frozen hs 2; have hsc3 := blk_cell hs 3 _ rfl; have hsf3 := blk_frozen hs 3; have hsl := blk_lt hs
  clear h hA hn hc hsp hs
  obtain rfl : A = some ⟨b0, off, none⟩ := by rw [← HA.out, hA0]
  rw [HN.out, HC.out] at hcut0
  rw [HN.out] at hn1 hln
  have hcut : ∀ W, (Instr.slice 22 (.slice (some ⟨b0, off, none⟩) n c) none (some (.int .i64 m)) (some (.int .i64 m))).run Try.prog W = .ok (.slice (some ⟨b0, off, none⟩) m m) W := fun W => hcut0 W .i64 .i64
  have hmI : (n : Int) - 1 = (m : Int) := by omega
  have hmn : m < n := by omega
  clear hcut0 hA0 hn1 hm
  go_enter Try.func31, Try.ntmps31
  go_wp2
  refine wp_region_can (.q [0, 1, 2, 3, 4, 5, 6, 7, 8, 9, 10, 11, 12, 13, 14, 15, 16, 17, 18, 19, 20] (.e 21 false (.done))) (clsB _) (by kernel_rfl) (by kernel_rfl) (by intro _ _ d _ _ h; cases d <;> exact h) (clsB_drew _) ?_
  refine can_q (l := [⟨_,_,_,_,_,_⟩, ⟨_,_,_,_,_,_⟩, ⟨_,_,_,_,_,_⟩, ⟨_,_,_,_,_,_⟩, ⟨_,_,_,_,_,_⟩, ⟨_,_,_,_,_,_⟩, ⟨_,_,_,_,_,_⟩, ⟨_,_,_,_,_,_⟩, ⟨_,_,_,_,_,_⟩, ⟨_,_,_,_,_,_⟩, ⟨_,_,_,_,_,_⟩, ⟨_,_,_,_,_,_⟩, ⟨_,_,_,_,_,_⟩, ⟨_,_,_,_,_,_⟩, ⟨_,_,_,_,_,_⟩, ⟨_,_,_,_,_,_⟩, ⟨_,_,_,_,_,_⟩, ⟨_,_,_,_,_,_⟩, ⟨_,_,_,_,_,_⟩, ⟨_,_,_,_,_,_⟩, ⟨_,_,_,_,_,_⟩]) rfl ?_
  repeat (go_big_quiet_step (fail))
  refine wpQuiet_nil ?_
  refine can_e (o := ⟨_,_,_,_,_,_⟩) rfl (fun K hK => ?_)
  go_wp2_with fail
  refine onK_normal (hK _ _ ⟨fun _ => True, trivial, (fun h => by cases h), ?_⟩)
  clear hK K
  refine can_done ?_
  go_wp2
  go_end0
  have hcp := HH.out.capped (w' := ((w.setCell ⟨p, 0, none⟩ (.int .i64 y.at_.at_)).setCell ⟨p, 1, none⟩ (.int .i64 y.at_.mode)).setCell ⟨p, 2, none⟩ (.slice (some ⟨b0, off, none⟩) m m)) y.at_ (some ⟨b0, off, none⟩) m l (blk_set (blk_set (blk_set HS.out 0 _ _ rfl) 1 _ _ rfl) 2 _ _ rfl) (Fr.set (Fr.set (Fr.set (Fr.refl (fun k => k = p) _) (.inl rfl) _ _) (.inl rfl) _ _) (.inl rfl) _ _) (by rw [← HA.out]; exact HRo.out) (fun hn => by cases hn) HLB.out
  refine ⟨rfl, _, (hcp.below ?_).more (Nat.le_succ B), rfl, fun _ => rfl, ?_⟩
  · exact (by repeat (first | (with_reducible assumption) | (with_reducible exact Below.refl _ _) | (with_reducible apply below_drewL) | (with_reducible apply below_alloc) | (with_reducible apply below_drew1) | (with_reducible apply below_drewN) | (refine below_set ?_ (by first | omega | (simp only [size_alloc, size_drew, size_set]; omega)) _ _)))
  · exact (Fr.set (Fr.set (Fr.set (Fr.refl (XF p b base) _) (.inl (.inl rfl)) _ _) (.inl (.inl rfl)) _ _) (.inl (.inl rfl)) _ _).trans (Fr.of_below (by repeat (first | (with_reducible assumption) | (with_reducible exact Below.refl _ _) | (with_reducible apply below_drewL) | (with_reducible apply below_alloc) | (with_reducible apply below_drew1) | (with_reducible apply below_drewN) | (refine below_set ?_ (by first | omega | (simp only [size_alloc, size_drew, size_set]; omega)) _ _))))
end Go.Proofs.Ytcejfnnimfpahaa.Fn
