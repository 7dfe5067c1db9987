/- BitsNobody: the walk. -/
import Derived.Test.YtbmpaokicphdjaaDoorB22
set_option linter.unusedVariables false
set_option linter.unusedSimpArgs false
namespace Go.Proofs.YtbmpaokicphdjaaDoor.Fn
open Go Go.RowKit Go.Proofs.YtbmpaokicphdjaaDoor.Can Go.Proofs.YtbmpaokicphdjaaDoor.Base
attribute [local go_sem] clsB AB.cell

theorem ok0 : Wok 0 [] := ⟨rfl, fun x hx => by simp at hx, fun n _ => by simp [bitAt], by decide⟩
theorem elems0 : elemsI [] = [] := by decide +kernel
theorem out0 (n : Int) : ¬ inR 0 n := by unfold inR; omega
theorem addW0 (n : Int) : addW 0 [] n = [] := by unfold addW; rw [if_neg (out0 n)]
theorem addO0 (n : Int) : addO 0 [] n = false := by unfold addO; rw [decide_eq_false (out0 n)]; rfl
theorem dropO0 (n : Int) : dropO 0 [] n = false := by unfold dropO; rw [decide_eq_false (out0 n)]; rfl
theorem hasO0 (n : Int) : hasO 0 [] n = false := by unfold hasO; rw [decide_eq_false (out0 n)]; rfl
theorem join0 (l : List Nat) : joinB 0 [] l = ([], false) := by
  unfold joinB
  induction l with
  | nil => rfl
  | cons x l ih => rw [List.foldl_cons]; dsimp only; rw [addW0, addO0, Bool.or_false]; exact ih
theorem fr_none {g : Nat} {w w' : World} (h : Fr (fun k => k = g ∧ ([] : List Nat) ≠ []) w w') : Below w.heap.size w w' := h.below (Nat.le_refl _) fun b _ hb => hb.2 rfl
theorem r5 : roomR 5 = 5 := by decide +kernel
theorem ok5 : Wok 5 (List.replicate 1 0) := Wok.made (room := 5) (by decide)
theorem same5 : decide (elemsI [] = elemsI (List.replicate 1 0)) = true := by decide +kernel
set_option maxRecDepth 20000 in
set_option maxHeartbeats 4000000 in
theorem nobody_calls (n : Int) (w : World) (hT : TabAt 0 Lib.deBruijn64tab w) (h0 : 0 < w.heap.size) :
    Calls Tryd.prog 4 #[.int .i64 n] w fun e w' => e = .returned (.bool true) ∧ Below w.heap.size w w' := by
  have HT := Hd.mk hT; have H0 := Hd.mk h0
  clear hT h0
  have tabB : ∀ {W : World}, Below w.heap.size w W → TabAt 0 Lib.deBruijn64tab W := fun hb j hj => (hb.cell (p := ⟨0, j, none⟩) H0.out).trans (HT.out j hj)
  have TAB := Hd.mk @tabB; clear tabB
  go_enter Tryd.func4, Tryd.ntmps4
  go_wp2
  generalize hV : World.alloc _ _ = V
  have HBV : Below w.heap.size w V := below_of hV (by repeat (first | (with_reducible assumption) | (with_reducible exact Below.refl _ _) | (with_reducible apply below_drewL) | (with_reducible apply below_alloc) | (with_reducible apply below_drew1) | (with_reducible apply below_drewN) | (refine below_set ?_ (by first | omega | (simp only [size_alloc, size_drew, size_set]; omega)) _ _)))
  have zV : Hd (V.heap.size = w.heap.size + 1) := ⟨by rw [← hV]; simp only [size_alloc]⟩
  have V0 := at_of hV (blk_new _ _ _ rfl)
  have V0l := blk_lt V0
  clear hV
  have V0c0 := blk_cell V0 0 _ rfl; have V0f0 := blk_frozen V0 0; have V0c1 := blk_cell V0 1 _ rfl; have V0f1 := blk_frozen V0 1; have V0l := blk_lt V0
  have HV := Hd.mk HBV
  have HV0 := Hd.mk V0
  have HP : Hd (¬ w.heap.size = 0) := ⟨by have := H0.out; omega⟩
  have hzV : V.heap.size = w.heap.size + 1 := by rw [zV.out]
  clear zV HBV
  try dsimp only [List.append]
  refine wp_region_can (.q [0, 1] (.e 2 false (.q [3, 4, 5, 6] (.e 7 false (.q [8, 9, 10, 11, 12] (.e 13 false (.q [14, 15, 16, 17] (.e 18 false (.q [19, 20, 21, 22] (.e 23 false (.q [24, 25, 26, 27, 28] (.e 29 false (.q [30, 31, 32, 33] (.e 34 true (.e 35 false (.q [36, 37, 38] (.e 39 true (.e 40 true (.e 41 false (.q [42, 43, 44, 45] (.e 46 false (.e 47 false (.q [48, 49, 50] (.e 51 false (.q [52, 53] (.done)))))))))))))))))))))))))) (clsB _) (by kernel_rfl) (by kernel_rfl) (by intro _ _ d _ _ h; cases d <;> exact h) (clsB_drew _) ?_
  refine can_q (l := [⟨_,_,_,_,_,_⟩, ⟨_,_,_,_,_,_⟩]) rfl ?_
  repeat (go_big_quiet_step (fail))
  refine wpQuiet_nil ?_
  refine can_e (o := ⟨_,_,_,_,_,_⟩) rfl (fun K hK => ?_)
  go_wp2_with (go_at_call 21; go_must (have h9 := add_calls none 0 0 0 n [] V.drew ok0 (.inl rfl); rw [addO0] at h9; refine Calls.mono h9 ?_; clear h9; rintro e w1 ⟨rfl, hb, -⟩; have HB1 : Hd (Below V.heap.size V w1) := ⟨below_undrew (fr_none hb)⟩; clear hb))
  refine onK_normal (hK _ _ ⟨clsB _, clsB_of (by first | exact (HB1.out) | exact below_undrew (HB1.out)), fun _ _ h => h, ?_⟩)
  clear hK K
  refine can_q (l := [⟨_,_,_,_,_,_⟩, ⟨_,_,_,_,_,_⟩, ⟨_,_,_,_,_,_⟩, ⟨_,_,_,_,_,_⟩]) rfl ?_
  repeat (go_big_quiet_step (fail))
  refine wpQuiet_nil ?_
  refine can_e (o := ⟨_,_,_,_,_,_⟩) rfl (fun K hK => ?_)
  go_wp2_with (go_at_call 22; go_must (have h9 := less_calls none 0 0 0 n [] w1 ok0 (.inl rfl); rw [dropO0] at h9; refine Calls.mono h9 ?_; clear h9; rintro e w2 ⟨rfl, hb, -⟩; have HB2 : Hd (Below V.heap.size V w2) := ⟨below_seq HB1.out (fr_none hb)⟩; clear hb))
  refine onK_normal (hK _ _ ⟨clsB _, clsB_of (by first | exact (HB2.out) | exact below_undrew (HB2.out)), fun _ _ h => h, ?_⟩)
  clear hK K
  refine can_q (l := [⟨_,_,_,_,_,_⟩, ⟨_,_,_,_,_,_⟩, ⟨_,_,_,_,_,_⟩, ⟨_,_,_,_,_,_⟩, ⟨_,_,_,_,_,_⟩]) rfl ?_
  repeat (go_big_quiet_step (fail))
  refine wpQuiet_nil ?_
  refine can_e (o := ⟨_,_,_,_,_,_⟩) rfl (fun K hK => ?_)
  go_wp2_with (go_at_call 24; go_must (have h9 := in_calls none 0 0 0 n [] w2 ok0 (.inl rfl); rw [hasO0] at h9; refine Calls.mono h9 ?_; clear h9; rintro e w3 ⟨rfl, hb⟩; have HB3 : Hd (Below V.heap.size V w3) := ⟨below_seq HB2.out hb⟩; clear hb))
  refine onK_normal (hK _ _ ⟨clsB _, clsB_of (by first | exact (HB3.out) | exact below_undrew (HB3.out)), fun _ _ h => h, ?_⟩)
  clear hK K
  refine can_q (l := [⟨_,_,_,_,_,_⟩, ⟨_,_,_,_,_,_⟩, ⟨_,_,_,_,_,_⟩, ⟨_,_,_,_,_,_⟩]) rfl ?_
  repeat (go_big_quiet_step (fail))
  refine wpQuiet_nil ?_
  refine can_e (o := ⟨_,_,_,_,_,_⟩) rfl (fun K hK => ?_)
  go_wp2_with (go_at_call 25; go_must (have h9 := count_calls none 0 0 0 [] w3 ok0 (.inl rfl); rw [show (((elems []).length : Nat) : Int) = 0 by decide +kernel] at h9; refine Calls.mono h9 ?_; clear h9; rintro e w4 ⟨rfl, hb⟩; have HB4 : Hd (Below V.heap.size V w4) := ⟨below_seq HB3.out hb⟩; clear hb))
  refine onK_normal (hK _ _ ⟨clsB _, clsB_of (by first | exact (HB4.out) | exact below_undrew (HB4.out)), fun _ _ h => h, ?_⟩)
  clear hK K
  refine can_q (l := [⟨_,_,_,_,_,_⟩, ⟨_,_,_,_,_,_⟩, ⟨_,_,_,_,_,_⟩, ⟨_,_,_,_,_,_⟩]) rfl ?_
  repeat (go_big_quiet_step (fail))
  refine wpQuiet_nil ?_
  refine can_e (o := ⟨_,_,_,_,_,_⟩) rfl (fun K hK => ?_)
  go_wp2_with (go_at_call 23; go_must (have h9 := all_calls none 0 w.heap.size 0 [] w4 ok0 (.inl rfl) (by have := HB4.out.size; omega) (TAB.out (below_seq HV.out HB4.out)) (by have := HB4.out.size; omega); refine Calls.mono h9 ?_; clear h9; rintro e w5 ⟨A5, n5, c5, rfl, hr5, hb⟩; obtain rfl : n5 = 0 := hr5.1.symm; clear hr5; have HB5 : Hd (Below V.heap.size V w5) := ⟨below_seq HB4.out hb⟩; clear hb))
  refine onK_normal (hK _ _ ⟨clsB _, clsB_of (by first | exact (HB5.out) | exact below_undrew (HB5.out)), fun _ _ h => h, ?_⟩)
  clear hK K
  refine can_q (l := [⟨_,_,_,_,_,_⟩, ⟨_,_,_,_,_,_⟩, ⟨_,_,_,_,_,_⟩, ⟨_,_,_,_,_,_⟩, ⟨_,_,_,_,_,_⟩]) rfl ?_
  repeat (go_big_quiet_step (fail))
  refine wpQuiet_nil ?_
  refine can_e (o := ⟨_,_,_,_,_,_⟩) rfl (fun K hK => ?_)
  go_wp2_with (go_at_call 26; go_must (have h9 := room_calls none 0 0 0 w5; refine Calls.mono h9 ?_; clear h9; rintro e w6 ⟨rfl, hb⟩; have HB6 : Hd (Below V.heap.size V w6) := ⟨below_seq HB5.out hb⟩; clear hb))
  refine onK_normal (hK _ _ ⟨clsB _, clsB_of (by first | exact (HB6.out) | exact below_undrew (HB6.out)), fun _ _ h => h, ?_⟩)
  clear hK K
  refine can_q (l := [⟨_,_,_,_,_,_⟩, ⟨_,_,_,_,_,_⟩, ⟨_,_,_,_,_,_⟩, ⟨_,_,_,_,_,_⟩]) rfl ?_
  repeat (go_big_quiet_step (fail))
  refine wpQuiet_nil ?_
  refine can_e (o := ⟨_,_,_,_,_,_⟩) rfl (fun K hK => ?_)
  go_wp2_with (go_at_call 27; go_must (have h9 := new_calls 5 w6; rw [r5] at h9; refine Calls.mono h9 ?_; clear h9; rintro e w7 ⟨g7, rfl, hg7, hgl7, hw7, hb⟩; have HW7 := Hd.mk hw7; clear hw7 hg7 hgl7; have HB7 : Hd (Below V.heap.size V w7) := ⟨below_seq HB6.out hb⟩; clear hb))
  refine onK_normal (hK _ _ ⟨clsB _, clsB_of (by first | exact (HB7.out) | exact below_undrew (HB7.out)), fun _ _ h => h, ?_⟩)
  clear hK K
  refine can_e (o := ⟨_,_,_,_,_,_⟩) rfl (fun K hK => ?_)
  go_wp2_with (go_at_call 18; go_must (have h9 := setsame_calls none (some ⟨g7, 0, none⟩) 0 1 0 g7 0 5 [] (List.replicate 1 0) w7 ok0 ok5 (.inl rfl) HW7.out; rw [same5] at h9; refine Calls.mono h9 ?_; clear h9; rintro e w8 ⟨rfl, hb⟩; have HB8 : Hd (Below V.heap.size V w8) := ⟨below_seq HB7.out hb⟩; clear hb))
  refine onK_normal (hK _ _ ⟨clsB _, clsB_of (by first | exact (HB8.out) | exact below_undrew (HB8.out)), fun _ _ h => h, ?_⟩)
  clear hK K
  refine can_q (l := [⟨_,_,_,_,_,_⟩, ⟨_,_,_,_,_,_⟩, ⟨_,_,_,_,_,_⟩]) rfl ?_
  repeat (go_big_quiet_step (fail))
  refine wpQuiet_nil ?_
  refine can_e (o := ⟨_,_,_,_,_,_⟩) rfl (fun K hK => ?_)
  go_wp2_with fail
  have HB9 : Hd (Below V.heap.size V (w8.alloc (.cells #[.int .i64 3] 3))) := ⟨below_alloc HB8.out _⟩
  have HR9 : Hd (Row I (w8.alloc (.cells #[.int .i64 3] 3)) (fun k => k = w8.heap.size) (some ⟨w8.heap.size, 0, none⟩) 1 [3]) := ⟨lit_row w8 [3] (by decide) rfl⟩
  refine onK_normal (hK _ _ ⟨clsB _, clsB_of (by first | exact (HB9.out) | exact below_undrew (HB9.out)), fun _ _ h => h, ?_⟩)
  clear hK K
  refine can_e (o := ⟨_,_,_,_,_,_⟩) rfl (fun K hK => ?_)
  go_wp2_with (go_at_call 15; go_must (have h9 := of_calls 9 (some ⟨w8.heap.size, 0, none⟩) 1 1 [3] (fun k => k = w8.heap.size) (w8.alloc (.cells #[.int .i64 3] 3)) (fun k hk => by rw [size_alloc, hk]; omega) HR9.out; rw [r9, show (9 + 63) / 64 = 1 from rfl] at h9; refine Calls.mono h9 ?_; clear h9; rintro e w10 ⟨g10, rfl, hg10, hgl10, hw10, hb10⟩; have HW10 := Hd.mk hw10; have HB10 : Hd (Below V.heap.size V w10) := ⟨below_seq HB9.out hb10⟩; have HG10 : Hd (w8.heap.size + 1 ≤ g10 ∧ g10 < w10.heap.size) := ⟨by rw [size_alloc] at hg10; exact ⟨hg10, hgl10⟩⟩; clear hw10 hb10 hg10 hgl10))
  refine onK_normal (hK _ _ ⟨clsB _, clsB_of (by first | exact (HB10.out) | exact below_undrew (HB10.out)), fun _ _ h => h, ?_⟩)
  clear hK K
  have h1V := HB8.out.size
  refine can_e (o := ⟨_,_,_,_,_,_⟩) rfl (fun K hK => ?_)
  go_wp2_with (go_at_call 28; go_must (have h9 := join_calls none (some ⟨g10, 0, none⟩) 0 1 w.heap.size g10 0 9 [] (ofW 9 [3]) w10 ok0 (ofW_ok (by decide) _) (.inl rfl) HW10.out (by have := HG10.out; omega) HG10.out.2 (by have := HG10.out; omega) (TAB.out (below_seq HV.out HB10.out)) (by have := HG10.out; omega) HP.out; rw [ofW_len, show (9 + 63) / 64 = 1 from rfl, join0] at h9; refine Calls.mono h9 ?_; clear h9; rintro e w11 ⟨rfl, hb, -⟩; have HB11 : Hd (Below V.heap.size V w11) := ⟨below_seq HB10.out (fr_none hb)⟩; clear hb))
  refine onK_normal (hK _ _ ⟨clsB _, clsB_of (by first | exact (HB11.out) | exact below_undrew (HB11.out)), fun _ _ h => h, ?_⟩)
  clear hK K
  refine can_q (l := [⟨_,_,_,_,_,_⟩, ⟨_,_,_,_,_,_⟩, ⟨_,_,_,_,_,_⟩, ⟨_,_,_,_,_,_⟩]) rfl ?_
  repeat (go_big_quiet_step (fail))
  refine wpQuiet_nil ?_
  refine can_e (o := ⟨_,_,_,_,_,_⟩) rfl (fun K hK => ?_)
  go_wp2_with (go_at_call 20; go_must (have h9 := copy_calls none 0 0 0 [] w11 ok0 (.inl rfl); refine Calls.mono h9 ?_; clear h9; rintro e w12 ⟨g12, rfl, hg12, hgl12, -, hb⟩; clear hg12 hgl12; have HB12 : Hd (Below V.heap.size V w12) := ⟨below_seq HB11.out hb⟩; clear hb))
  refine onK_normal (hK _ _ ⟨clsB _, clsB_of (by first | exact (HB12.out) | exact below_undrew (HB12.out)), fun _ _ h => h, ?_⟩)
  clear hK K
  refine can_e (o := ⟨_,_,_,_,_,_⟩) rfl (fun K hK => ?_)
  go_wp2_with (go_at_call 26; go_must (have h9 := room_calls (some ⟨g12, 0, none⟩) 0 0 0 w12; refine Calls.mono h9 ?_; clear h9; rintro e w13 ⟨rfl, hb⟩; have HB13 : Hd (Below V.heap.size V w13) := ⟨below_seq HB12.out hb⟩; clear hb))
  refine onK_normal (hK _ _ ⟨clsB _, clsB_of (by first | exact (HB13.out) | exact below_undrew (HB13.out)), fun _ _ h => h, ?_⟩)
  clear hK K
  refine can_q (l := [⟨_,_,_,_,_,_⟩, ⟨_,_,_,_,_,_⟩, ⟨_,_,_,_,_,_⟩]) rfl ?_
  repeat (go_big_quiet_step (fail))
  refine wpQuiet_nil ?_
  refine can_e (o := ⟨_,_,_,_,_,_⟩) rfl (fun K hK => ?_)
  go_wp2_with (go_at_call 14; go_must (have h9 := alive_calls w13 (TAB.out (below_seq HV.out HB13.out)) (by have := HB13.out.size; omega); refine Calls.mono h9 ?_; clear h9; rintro e w14 ⟨rfl, hb⟩; have HB14 : Hd (Below V.heap.size V w14) := ⟨below_seq HB13.out hb⟩; clear hb))
  refine onK_normal (hK _ _ ⟨clsB _, clsB_of (by first | exact (HB14.out) | exact below_undrew (HB14.out)), fun _ _ h => h, ?_⟩)
  clear hK K
  refine can_q (l := [⟨_,_,_,_,_,_⟩, ⟨_,_,_,_,_,_⟩]) rfl ?_
  repeat (go_big_quiet_step (fail))
  refine wpQuiet_nil ?_
  refine can_done ?_
  go_wp2
  go_ret
  exact ⟨rfl, below_seq HV.out HB14.out⟩
end Go.Proofs.YtbmpaokicphdjaaDoor.Fn
