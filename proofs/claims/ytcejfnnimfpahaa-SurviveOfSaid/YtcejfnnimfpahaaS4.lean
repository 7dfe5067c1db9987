/- What an operation turns: a take, and a mode. -/
import Derived.Test.YtcejfnnimfpahaaS3
import Derived.Laws.EntriesVeiled
namespace Go.Proofs.Ytcejfnnimfpahaa.Fn
open Go Go.RowKit Go.Proofs.Ytcejfnnimfpahaa.Can Go.Proofs.Ytcejfnnimfpahaa.Base
attribute [local go_sem] clsB AB.cell

theorem fr_base {w w' : World} {base : Nat} {X : Nat → Prop} (h : Below base w w') (hX : ∀ k, base ≤ k → X k) : Fr X w w' :=
  ⟨⟨h.os, h.tape, h.output, h.size, fun k hk => absurd hk (Nat.not_lt_zero k)⟩, fun k hk hx => h.block k (Nat.lt_of_not_le fun hle => hx (hX k hle))⟩
theorem cut_one {G : Prop} (F : Nat → World → Prop) {C : Nat → World → Prop} (main : (∀ g U, F g U → C g U) → G) (key : ∀ g U, F g U → C g U) : G := main key
theorem info31 : (Try.prog.info? 31).map (fun i => (i.zero, i.size, i.bytes)) = some (some (eV ⟨⟨0, 0⟩, tok0⟩), 8, 64) := by kernel_rfl
theorem behind_calls (t : Tok) (w : World) : Calls Try.prog 37 #[tokV t] w fun e w' => e = .returned (.agg #[.int .i64 t.t, .int .i64 t.m]) ∧ Below w.heap.size w w' := by
  unfold tokV
  go_enter Try.func37, Try.ntmps37
  go_wp2
  refine bodyPost_ret (results_cell_row rfl _ _ (w.heap.size + 1) 27 _ (0, 0) _ rfl (blk_new _ _ _ (by rw [size_alloc])) Try.underlying27 rfl (by kernel_rfl)) rfl ?_
  exact ⟨rfl, (by repeat (first | (with_reducible assumption) | (with_reducible exact Below.refl _ _) | (with_reducible apply below_drewL) | (with_reducible apply below_alloc) | (with_reducible apply below_drew1) | (with_reducible apply below_drewN) | (refine below_set ?_ (by first | omega | (simp only [size_alloc, size_drew, size_set]; omega)) _ _)))⟩
def XF (p b base : Nat) : Nat → Prop := fun k => k = p ∨ k = b ∨ base ≤ k
/-- What has come of a turn. -/
def Turned (w w' : World) (p b base B : Nat) (s : St) (κ : Int → Option St) : Prop := ∃ F', Fold w' p b base (B + 1) F' ∧ F'.s = s ∧ (∀ y, (F'.K y).map KE.st = κ y) ∧ Fr (XF p b base) w w'
def kst (F : FS) : Int → Option St := fun y => (F.K y).map KE.st
theorem Turned.same {w w' : World} {p b base B : Nat} {F : FS} (h : Fold w p b base B F) (hb : Below w.heap.size w w') : Turned w w' p b base B F.s (kst F) :=
  ⟨F, (h.below hb).more (Nat.le_succ B), rfl, fun _ => rfl, Fr.of_below hb⟩
theorem take_end {w : World} {p b base B : Nat} {F : FS} (h : Fold w p b base B F) (v : Ev) (hk : v.tok.k = 3) : Calls Try.prog 30 #[.pointer (some ⟨p, 0, none⟩), evV v] w fun e w' =>
    e = .returned (.tuple #[]) ∧ Turned w w' p b base B F.s (kst F) := by
  unfold evV
  have hJ : (v.tok.k == 3) = true := by simpa using hk
  have HH := Hd.mk h
  clear h
  go_enter Try.func30, Try.ntmps30
  go_wp2
  refine bodyPost_ret (results_none rfl _ _ _) rfl ?_
  exact ⟨rfl, Turned.same HH.out (by repeat (first | (with_reducible assumption) | (with_reducible exact Below.refl _ _) | (with_reducible apply below_drewL) | (with_reducible apply below_alloc) | (with_reducible apply below_drew1) | (with_reducible apply below_drewN) | (refine below_set ?_ (by first | omega | (simp only [size_alloc, size_drew, size_set]; omega)) _ _)))⟩
theorem take_calls {w : World} {p b base B : Nat} {F : FS} (h : Fold w p b base B F) (v : Ev) (hk : ¬ v.tok.k = 3) (hB : B ≤ 1000000) : Calls Try.prog 30 #[.pointer (some ⟨p, 0, none⟩), evV v] w fun e w' =>
    e = .returned (.tuple #[]) ∧ Turned w w' p b base B ⟨⟨v.tok.t, v.tok.m⟩, F.s.l ++ [⟨F.s.at_, v.tok⟩]⟩ (kst F) := by
  unfold evV
  have hJ : (v.tok.k == 3) = false := by simpa using hk
  have hs := h.str
  have HH := Hd.mk h
  have hbs := h.size
  have hpb := h.pb
  have HNe := Hd.mk h.ne
  obtain ⟨A, hA⟩ : ∃ A, F.A = A := ⟨_, rfl⟩
  obtain ⟨n, hn⟩ : ∃ n, F.n = n := ⟨_, rfl⟩
  obtain ⟨c, hc⟩ : ∃ c, F.c = c := ⟨_, rfl⟩
  obtain ⟨sp, hsp⟩ : ∃ sp, F.s.at_ = sp := ⟨_, rfl⟩
  rw [hA, hn, hc, hsp] at hs
  have HA := Hd.mk hA; have HN := Hd.mk hn; have HC := Hd.mk hc; have HSP := Hd.mk hsp
  clear h hA hn hc hsp
  go_enter Try.func30, Try.ntmps30
  go_wp2
  generalize hV : World.alloc _ _ = V
  have HBV : Below w.heap.size w V := below_of hV (by repeat (first | (with_reducible assumption) | (with_reducible exact Below.refl _ _) | (with_reducible apply below_drewL) | (with_reducible apply below_alloc) | (with_reducible apply below_drew1) | (with_reducible apply below_drewN) | (refine below_set ?_ (by first | omega | (simp only [size_alloc, size_drew, size_set]; omega)) _ _)))
  have zV : Hd (V.heap.size = w.heap.size + 1 + 1) := ⟨by rw [← hV]; simp only [size_alloc]⟩
  have V0 := at_of hV (blk_alloc (blk_new _ _ _ rfl) _)
  have V0l := blk_lt V0
  have V1 := at_of hV (blk_new _ _ _ rfl)
  simp only [size_alloc] at V1
  have V1l := blk_lt V1
  clear hV
  have hs2 := blk_below hs HBV
  have hs2c0 := blk_cell hs2 0 _ rfl; have hs2f0 := blk_frozen hs2 0; have hs2c1 := blk_cell hs2 1 _ rfl; have hs2f1 := blk_frozen hs2 1; have hs2c2 := blk_cell hs2 2 _ rfl; have hs2f2 := blk_frozen hs2 2; have hs2c3 := blk_cell hs2 3 _ rfl; have hs2f3 := blk_frozen hs2 3; have hs2l := blk_lt hs2
  have HV := Hd.mk HBV
  have V1c0 := blk_cell V1 0 _ rfl
  have V1f0 := blk_frozen V1 0
  have V1c1 := blk_cell V1 1 _ rfl
  have V1f1 := blk_frozen V1 1
  have V1c2 := blk_cell V1 2 _ rfl
  have V1f2 := blk_frozen V1 2
  have V1c3 := blk_cell V1 3 _ rfl
  have V1f3 := blk_frozen V1 3
  have V1c4 := blk_cell V1 4 _ rfl
  have V1f4 := blk_frozen V1 4
  have V1c5 := blk_cell V1 5 _ rfl
  have V1f5 := blk_frozen V1 5
  have HS2 := Hd.mk hs2
  clear hs V0 hs2
  refine wp_region_can (.q [0, 1, 2, 3, 4, 5, 6] (.e 7 true (.e 8 false (.done)))) (clsB _) (by kernel_rfl) (by kernel_rfl) (by intro _ _ d _ _ h; cases d <;> exact h) (clsB_drew _) ?_
  refine can_q (l := [⟨_,_,_,_,_,_⟩, ⟨_,_,_,_,_,_⟩, ⟨_,_,_,_,_,_⟩, ⟨_,_,_,_,_,_⟩, ⟨_,_,_,_,_,_⟩, ⟨_,_,_,_,_,_⟩, ⟨_,_,_,_,_,_⟩]) rfl ?_
  repeat (go_big_quiet_step (fail))
  refine wpQuiet_nil ?_
  refine can_e (o := ⟨_,_,_,_,_,_⟩) rfl (fun K hK => ?_)
  go_wp2_with fail
  refine onK_normal (hK _ _ ⟨clsB _, clsB_of (by first | exact ((by repeat (first | (with_reducible assumption) | (with_reducible exact Below.refl _ _) | (with_reducible apply below_drewL) | (with_reducible apply below_alloc) | (with_reducible apply below_drew1) | (with_reducible apply below_drewN) | (refine below_set ?_ (by first | omega | (simp only [size_alloc, size_drew, size_set]; omega)) _ _)))) | exact below_undrew ((by repeat (first | (with_reducible assumption) | (with_reducible exact Below.refl _ _) | (with_reducible apply below_drewL) | (with_reducible apply below_alloc) | (with_reducible apply below_drew1) | (with_reducible apply below_drewN) | (refine below_set ?_ (by first | omega | (simp only [size_alloc, size_drew, size_set]; omega)) _ _))))), fun _ _ h => h, ?_⟩)
  clear hK K
  refine can_e (o := ⟨_,_,_,_,_,_⟩) rfl (fun K hK => ?_)
  go_wp2_with fail
  refine onK_normal (hK _ _ ⟨fun _ => True, trivial, (fun h => by cases h), ?_⟩)
  clear hK K
  refine can_done ?_
  clear HBV
  go_wp2
  generalize hU : World.drew (World.alloc _ _) = U
  have hbU : Below V.heap.size V U := by rw [← hU]; exact (by repeat (first | (with_reducible assumption) | (with_reducible exact Below.refl _ _) | (with_reducible apply below_drewL) | (with_reducible apply below_alloc) | (with_reducible apply below_drew1) | (with_reducible apply below_drewN) | (refine below_set ?_ (by first | omega | (simp only [size_alloc, size_drew, size_set]; omega)) _ _)))
  have hU1 : U.heap[V.heap.size]? = some (.cells (eE ⟨sp, v.tok⟩).toArray 31 (0, 0)) := by
    rw [← hU]
    exact blk_new _ _ _ rfl
  have HU1 := Hd.mk hU1
  have HWU := Hd.mk (below_seq HV.out hbU)
  clear hs2c0 hs2f0 hs2c1 hs2f1 hs2c2 hs2f2 hs2c3 hs2f3 hs2l
  clear V1c0 V1f0 V1c1 V1f1 V1c2 V1f2 V1c3 V1f3 V1c4 V1f4 V1c5 V1f5
  have hs3 := blk_below HS2.out hbU
  have hv3 := blk_below V1 hbU
  have hu3 := hU1
  simp only [eE, spotE, tokE, List.cons_append, List.nil_append] at hu3
  have hs3c0 := blk_cell hs3 0 _ rfl; have hs3f0 := blk_frozen hs3 0; have hs3c1 := blk_cell hs3 1 _ rfl; have hs3f1 := blk_frozen hs3 1; have hs3c2 := blk_cell hs3 2 _ rfl; have hs3f2 := blk_frozen hs3 2; have hs3c3 := blk_cell hs3 3 _ rfl; have hs3f3 := blk_frozen hs3 3; have hs3l := blk_lt hs3
  have hv3c0 := blk_cell hv3 0 _ rfl; have hv3f0 := blk_frozen hv3 0; have hv3c1 := blk_cell hv3 1 _ rfl; have hv3f1 := blk_frozen hv3 1; have hv3c2 := blk_cell hv3 2 _ rfl; have hv3f2 := blk_frozen hv3 2; have hv3c3 := blk_cell hv3 3 _ rfl; have hv3f3 := blk_frozen hv3 3; have hv3c4 := blk_cell hv3 4 _ rfl; have hv3f4 := blk_frozen hv3 4; have hv3c5 := blk_cell hv3 5 _ rfl; have hv3f5 := blk_frozen hv3 5; have hv3l := blk_lt hv3
  have hu3c0 := blk_cell hu3 0 _ rfl; have hu3f0 := blk_frozen hu3 0; have hu3c1 := blk_cell hu3 1 _ rfl; have hu3f1 := blk_frozen hu3 1; have hu3c2 := blk_cell hu3 2 _ rfl; have hu3f2 := blk_frozen hu3 2; have hu3c3 := blk_cell hu3 3 _ rfl; have hu3f3 := blk_frozen hu3 3; have hu3c4 := blk_cell hu3 4 _ rfl; have hu3f4 := blk_frozen hu3 4; have hu3c5 := blk_cell hu3 5 _ rfl; have hu3f5 := blk_frozen hu3 5; have hu3c6 := blk_cell hu3 6 _ rfl; have hu3f6 := blk_frozen hu3 6; have hu3c7 := blk_cell hu3 7 _ rfl; have hu3f7 := blk_frozen hu3 7; have hu3l := blk_lt hu3
  have hvU := hbU.size
  clear hU hbU hU1 hu3 hv3 V1 V1l
  have hzV : w.heap.size + 2 ≤ V.heap.size := by have := zV.out; omega
  clear zV
  generalize V.heap.size = g0 at *
  have HS3 := Hd.mk hs3
  clear hs3
  refine wp_region_can (.q [0, 1, 3, 4, 5, 6, 7, 8] (.b 2 true (.e 9 true (.e 10 false (.q [11, 12, 13] (.e 14 false (.done))))) 9 true (.e 2 true (.e 10 false (.q [11, 12, 13] (.e 14 false (.done))))))) (clsB _) (by kernel_rfl) (by kernel_rfl) (by intro _ _ d _ _ h; cases d <;> exact h) (clsB_drew _) ?_
  refine can_q (l := [⟨_,_,_,_,_,_⟩, ⟨_,_,_,_,_,_⟩, ⟨_,_,_,_,_,_⟩, ⟨_,_,_,_,_,_⟩, ⟨_,_,_,_,_,_⟩, ⟨_,_,_,_,_,_⟩, ⟨_,_,_,_,_,_⟩, ⟨_,_,_,_,_,_⟩]) rfl ?_
  repeat (go_big_quiet_step (fail))
  refine wpQuiet_nil ?_
  apply cut_one (fun g W => U.heap.size ≤ g ∧ Below U.heap.size U W ∧ W.heap[g]? = some (.cells (eE ⟨sp, v.tok⟩).toArray 31 (0, 0)))
  case main =>
    intro key
    refine can_b (o := ⟨_,_,_,_,_,_⟩) (oj := ⟨_,_,_,_,_,_⟩) rfl rfl (fun K hK => ?_) (fun K hK => ?_)
    · go_wp2_with (go_at_call 37; go_must (refine Calls.mono (behind_calls v.tok _) ?_; rintro e w1 ⟨rfl, hb1⟩; replace hb1 := below_undrew hb1; have hz1 := hb1.size))
      refine onK_normal (hK _ _ ⟨clsB _, clsB_of (by first | exact (hb1) | exact below_undrew (hb1)), fun _ _ h => h, ?_⟩)
      clear hK K
      refine can_e (o := ⟨_,_,_,_,_,_⟩) rfl (fun K hK => ?_)
      go_wp2_with fail
      refine onK_normal (hK _ _ ⟨clsB _, clsB_of (by first | exact ((below_alloc hb1 _)) | exact below_undrew ((below_alloc hb1 _))), fun _ _ h => h, ?_⟩)
      clear hK K
      generalize hW9 : World.alloc w1 _ = W9
      have k1 : Below U.heap.size U W9 := by rw [← hW9]; exact below_alloc hb1 _
      have k2 : W9.heap[w1.heap.size]? = some (.cells (eE ⟨sp, v.tok⟩).toArray 31 (0, 0)) := by rw [← hW9]; exact blk_new _ _ _ rfl
      generalize w1.heap.size = g at k2 hz1 ⊢
      exact key g W9 ⟨hz1, k1, k2⟩
    · go_wp2_with fail
      refine onK_normal (hK _ _ ⟨clsB _, clsB_of (by first | exact ((by repeat (first | (with_reducible assumption) | (with_reducible exact Below.refl _ _) | (with_reducible apply below_drewL) | (with_reducible apply below_alloc) | (with_reducible apply below_drew1) | (with_reducible apply below_drewN) | (refine below_set ?_ (by first | omega | (simp only [size_alloc, size_drew, size_set]; omega)) _ _)))) | exact below_undrew ((by repeat (first | (with_reducible assumption) | (with_reducible exact Below.refl _ _) | (with_reducible apply below_drewL) | (with_reducible apply below_alloc) | (with_reducible apply below_drew1) | (with_reducible apply below_drewN) | (refine below_set ?_ (by first | omega | (simp only [size_alloc, size_drew, size_set]; omega)) _ _))))), fun _ _ h => h, ?_⟩)
      clear hK K
      refine can_e (o := ⟨_,_,_,_,_,_⟩) rfl (fun K hK => ?_)
      go_wp2_with (go_at_call 37; go_must (refine Calls.mono (behind_calls v.tok _) ?_; rintro e w1 ⟨rfl, hb1⟩; have hb2 : Below U.heap.size U w1 := (by first | exact below_seq (by repeat (first | (with_reducible assumption) | (with_reducible exact Below.refl _ _) | (with_reducible apply below_drewL) | (with_reducible apply below_alloc) | (with_reducible apply below_drew1) | (with_reducible apply below_drewN) | (refine below_set ?_ (by first | omega | (simp only [size_alloc, size_drew, size_set]; omega)) _ _))) hb1 | exact below_seq (by repeat (first | (with_reducible assumption) | (with_reducible exact Below.refl _ _) | (with_reducible apply below_drewL) | (with_reducible apply below_alloc) | (with_reducible apply below_drew1) | (with_reducible apply below_drewN) | (refine below_set ?_ (by first | omega | (simp only [size_alloc, size_drew, size_set]; omega)) _ _))) (below_undrew hb1)); have hg1 : w1.heap[U.heap.size]? = some (.cells (eE ⟨sp, v.tok⟩).toArray 31 (0, 0)) := (by first | exact blk_below (blk_new _ _ _ rfl) hb1 | exact blk_below (blk_new _ _ _ rfl) (below_undrew hb1))))
      refine onK_normal (hK _ _ ⟨clsB _, clsB_of (by first | exact (hb2) | exact below_undrew (hb2)), fun _ _ h => h, ?_⟩)
      clear hK K
      generalize hk : U.heap.size = g at hg1 ⊢
      exact key g w1 ⟨by omega, hb2, hg1⟩
  case key =>
    rintro g W ⟨hg, hbW, hgW⟩
    have HW := Hd.mk (below_seq HWU.out hbW)
    clear hs3c0 hs3f0 hs3c1 hs3f1 hs3c2 hs3f2 hs3c3 hs3f3 hs3l
    clear hv3c0 hv3f0 hv3c1 hv3f1 hv3c2 hv3f2 hv3c3 hv3f3 hv3c4 hv3f4 hv3c5 hv3f5 hv3l hu3c0 hu3f0 hu3c1 hu3f1 hu3c2 hu3f2 hu3c3 hu3f3 hu3c4 hu3f4 hu3c5 hu3f5 hu3c6 hu3f6 hu3c7 hu3f7 hu3l
    have hpW := blk_below HS3.out hbW
    have hgg : w.heap.size ≤ g := by omega
    clear hvU hzV hbW
    refine can_e (o := ⟨_,_,_,_,_,_⟩) rfl (fun K hK => ?_)
    go_wp2_with (at_builtin; go_must (refine fold_append HH.out HW.out rfl (.tmp 26) (.tmp 28) rfl Try.underlying22 _ info31 rfl ⟨sp, v.tok⟩ g (by rw [HA.out, HN.out, HC.out]; rfl) rfl hgg hgW hB ?_; intro A' n' c' own' Z hfold hbZ hpZ; have HF := Hd.mk hfold; have HBZ := Hd.mk hbZ; clear hfold hbZ; have hs4 := hpZ.trans hpW; clear hpZ hpW; have hs4c0 := blk_cell hs4 0 _ rfl; have hs4f0 := blk_frozen hs4 0; have hs4c1 := blk_cell hs4 1 _ rfl; have hs4f1 := blk_frozen hs4 1; have hs4c2 := blk_cell hs4 2 _ rfl; have hs4f2 := blk_frozen hs4 2; have hs4c3 := blk_cell hs4 3 _ rfl; have hs4f3 := blk_frozen hs4 3; have hs4l := blk_lt hs4))
    refine onK_normal (hK _ _ ⟨fun _ => True, trivial, (fun h => by cases h), ?_⟩)
    clear hK K
    refine can_q (l := [⟨_,_,_,_,_,_⟩, ⟨_,_,_,_,_,_⟩, ⟨_,_,_,_,_,_⟩]) rfl ?_
    repeat (go_big_quiet_step (fail))
    refine wpQuiet_nil ?_
    refine can_e (o := ⟨_,_,_,_,_,_⟩) rfl (fun K hK => ?_)
    go_wp2_with fail
    refine onK_normal (hK _ _ ⟨fun _ => True, trivial, (fun h => by cases h), ?_⟩)
    clear hK K
    refine can_done ?_
    go_wp2
    go_end0
    refine ⟨rfl, _, HF.out ⟨v.tok.t, v.tok.m⟩ _ ?_ ?_, by rw [HSP.out], fun _ => rfl, ?_⟩
    · exact blk_drew (blk_set (blk_set (blk_set hs4 0 _ _ rfl) 1 _ _ rfl) 2 _ _ rfl)
    · exact (Fr.set (Fr.set (Fr.set (Fr.refl (fun k => k = p) _) (.inl rfl) _ _) (.inl rfl) _ _) (.inl rfl) _ _)
    · refine ((fr_base (HW.out.mono hbs) (fun k hk => .inr (.inr hk))).trans (fr_base HBZ.out (fun k hk => .inr (.inr hk)))).trans ?_
      exact (Fr.set (Fr.set (Fr.set (Fr.refl (XF p b base) _) (.inl (.inl rfl)) _ _) (.inl (.inl rfl)) _ _) (.inl (.inl rfl)) _ _)
end Go.Proofs.Ytcejfnnimfpahaa.Fn
