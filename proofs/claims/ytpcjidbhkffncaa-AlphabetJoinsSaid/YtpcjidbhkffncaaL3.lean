/- AlphabetJoins: the walk. -/
import Derived.Test.YtpcjidbhkffncaaL1
import Derived.Test.YtpcjidbhkffncaaArr
namespace Go.Proofs.Ytpcjidbhkffncaa.Fn
open Go Go.RowKit Go.Proofs.Ytpcjidbhkffncaa.Can Go.Proofs.Ytpcjidbhkffncaa.Base
attribute [local go_sem] clsB AB.cell

theorem opens32 : Opens Try.prog 32 (Ty.pair (Ty.slice rT (by decide)) (Ty.slice rT (by decide))) (fun _ => True) :=
  (opens_arr2 Try.underlying32 (by kernel_rfl) (by kernel_rfl) opens22).map id (fun _ _ => trivial) (fun _ _ _ _ h => h)
theorem two_slices {z : Array Value} {a b : Value} (h : z.toList = [a] ++ [b]) : z = #[a, b] := Array.toList_inj.1 h
theorem info39 : (Try.prog.info? 39).map (fun i => (i.zero, i.size, i.bytes)) = some (some (.agg #[.int .i64 0, .int .i64 0]), 2, 16) := by kernel_rfl
theorem r_flat : rT.Flat := Ty.flat_flat _ _ _ _
theorem row256 {K : Type} [BEq K] [LawfulBEq K] {f : Nat → K} {w : World} {g : Nat} (h : Blk iE w 3 g (clsL f 256)) : Row I w (fun b => b = g) (some ⟨g, 0, none⟩) 256 (clsL f 256) := by
  have := blk_rowI h (S := fun b => b = g) rfl (by rw [clsL_len]; omega)
  rwa [clsL_len] at this
theorem rowF {F : List Int} {w : World} {g : Nat} (h : Blk iE w 3 g F) (hF : F.length = 256) : Row I w (fun b => b = g) (some ⟨g, 0, none⟩) 256 F := by
  have := blk_rowI h (S := fun b => b = g) rfl (by rw [hF]; omega)
  rwa [hF] at this
set_option maxRecDepth 20000 in
set_option maxHeartbeats 4000000 in
theorem joins_calls (A1 A2 A3 A4 : Option Addr) (c1 c2 c3 c4 : Nat) (L1 L2 : List Int) (l1 l2 : List Rg) (S : Nat → Prop) (w : World) (hS : ∀ k, S k → k < w.heap.size) (h1 : Row I w S A1 L1.length L1) (h2 : Row I w S A2 L2.length L2)
    (h3 : Row rT w S A3 l1.length l1) (h4 : Row rT w S A4 l2.length l2) (n3 : A3 = none → c3 = 0) (n4 : A4 = none → c4 = 0) (w1 : ∀ x ∈ L1, (Lit.int .i64 x).wf = true) (w2 : ∀ x ∈ L2, (Lit.int .i64 x).wf = true) :
    Calls Try.prog 4 #[.slice A1 L1.length c1, .slice A2 L2.length c2, .agg #[.slice A3 l1.length c3, .slice A4 l2.length c4]] w fun e w' => e = .returned (.bool true) ∧ Below w.heap.size w w' := by
  obtain ⟨N1, hN1⟩ : ∃ N, L1.length = N := ⟨_, rfl⟩
  obtain ⟨N2, hN2⟩ : ∃ N, L2.length = N := ⟨_, rfl⟩
  obtain ⟨N3, hN3⟩ : ∃ N, l1.length = N := ⟨_, rfl⟩
  obtain ⟨N4, hN4⟩ : ∃ N, l2.length = N := ⟨_, rfl⟩
  rw [hN1] at h1 ⊢
  rw [hN2] at h2 ⊢
  rw [hN3] at h3 ⊢
  rw [hN4] at h4 ⊢
  have hle1 := h1.le; have hle2 := h2.le; have hle3 := h3.le; have hle4 := h4.le
  have HN3 := Hd.mk hN3; have HN4 := Hd.mk hN4
  have HS := Hd.mk hS; have H1 := Hd.mk h1; have H2 := Hd.mk h2; have H3 := Hd.mk h3; have H4 := Hd.mk h4; have W1 := Hd.mk w1; have W2 := Hd.mk w2; have E3 := Hd.mk n3; have E4 := Hd.mk n4
  clear hS h1 h2 h3 h4 w1 w2 n3 n4 hN1 hN2 hN3 hN4
  by_cases g1 : 300 < N1
  · go_enter Try.func4, Try.ntmps4
    go_wp2_with (go_at_call 6; refine Calls.mono (alive_calls _) ?_; rintro e w1 ⟨rfl, hb1⟩)
    go_ret
    exact ⟨rfl, below_seq (by repeat (first | (with_reducible assumption) | (with_reducible exact Below.refl _ _) | (with_reducible apply below_drewL) | (with_reducible apply below_alloc) | (with_reducible apply below_drew1) | (with_reducible apply below_drewN) | (refine below_set ?_ (by first | omega | (simp only [size_alloc, size_drew, size_set]; omega)) _ _))) hb1⟩
  by_cases g2 : 300 < N2
  · go_enter Try.func4, Try.ntmps4
    go_wp2_with (go_at_call 6; refine Calls.mono (alive_calls _) ?_; rintro e w1 ⟨rfl, hb1⟩)
    go_ret
    exact ⟨rfl, below_seq (by repeat (first | (with_reducible assumption) | (with_reducible exact Below.refl _ _) | (with_reducible apply below_drewL) | (with_reducible apply below_alloc) | (with_reducible apply below_drew1) | (with_reducible apply below_drewN) | (refine below_set ?_ (by first | omega | (simp only [size_alloc, size_drew, size_set]; omega)) _ _))) hb1⟩
  by_cases g3 : 6 < N3
  · go_enter Try.func4, Try.ntmps4
    go_wp2_with (go_at_call 6; refine Calls.mono (alive_calls _) ?_; rintro e w1 ⟨rfl, hb1⟩)
    go_ret
    exact ⟨rfl, below_seq (by repeat (first | (with_reducible assumption) | (with_reducible exact Below.refl _ _) | (with_reducible apply below_drewL) | (with_reducible apply below_alloc) | (with_reducible apply below_drew1) | (with_reducible apply below_drewN) | (refine below_set ?_ (by first | omega | (simp only [size_alloc, size_drew, size_set]; omega)) _ _))) hb1⟩
  by_cases g4 : 6 < N4
  · go_enter Try.func4, Try.ntmps4
    go_wp2_with (go_at_call 6; refine Calls.mono (alive_calls _) ?_; rintro e w1 ⟨rfl, hb1⟩)
    go_ret
    exact ⟨rfl, below_seq (by repeat (first | (with_reducible assumption) | (with_reducible exact Below.refl _ _) | (with_reducible apply below_drewL) | (with_reducible apply below_alloc) | (with_reducible apply below_drew1) | (with_reducible apply below_drewN) | (refine below_set ?_ (by first | omega | (simp only [size_alloc, size_drew, size_set]; omega)) _ _))) hb1⟩
  obtain ⟨F, hF⟩ : ∃ F, clsL (pairF L1 L2) 256 = F := ⟨_, rfl⟩
  obtain ⟨m, hm⟩ : ∃ m, (met (pairF L1 L2) 256).length = m := ⟨_, rfl⟩
  have hm9 : m ≤ 256 := by rw [← hm]; exact met_len _ _
  have hF9 : F.length = 256 := by rw [← hF, clsL_len]
  obtain ⟨G, hG⟩ : ∃ G, clsL (keyF (l1 ++ l2)) 256 = G := ⟨_, rfl⟩
  obtain ⟨p, hp⟩ : ∃ p, (met (keyF (l1 ++ l2)) 256).length = p := ⟨_, rfl⟩
  have hp9 : p ≤ 256 := by rw [← hp]; exact met_len _ _
  have hG9 : G.length = 256 := by rw [← hG, clsL_len]
  obtain ⟨j1, j2⟩ := keys_join l1 l2
  rw [hG] at j1
  rw [hp] at j2
  have HF := Hd.mk hF; have HM := Hd.mk hm; have HF9 := Hd.mk hF9; have HG := Hd.mk hG; have HP := Hd.mk hp; have HG9 := Hd.mk hG9; have J1 := Hd.mk j1; have J2 := Hd.mk j2
  clear hF hm hF9 hG hp hG9 j1 j2
  obtain ⟨q1, hq1⟩ : ∃ q, (met (keyF l1) 256).length = q := ⟨_, rfl⟩
  obtain ⟨q2, hq2⟩ : ∃ q, (met (keyF l2) 256).length = q := ⟨_, rfl⟩
  have HQ1 := Hd.mk hq1; have HQ2 := Hd.mk hq2; clear hq1 hq2
  go_enter Try.func4, Try.ntmps4
  go_wp2_with (first
    | (go_at_call 12; have hq_ := HV8; clear hq_; go_must (refine Calls.mono (join_calls (some ⟨g7, 0, none⟩) (some ⟨g8, 0, none⟩) 256 256 256 256 _ _ (fun b => b = g7) (fun b => b = g8) w8 (by rintro k rfl; exact HG7.out.lt) (by rintro k rfl; exact HG8.out.lt) HR7.out HR8.out (clsL_wf _) (clsL_wf _)) ?_; rintro e w9 ⟨g9, rfl, hg9, hG9, hb9⟩; rw [J1.out] at hG9; rw [J2.out]; have HGG := Hd.mk hG9; have HB9 := Hd.mk (below_seq HB8.out hb9); have HV9 := Hd.mk (blk_below HV8.out hb9); have hv9 := HV9.out; have hv9c0 := blk_cell hv9 0 _ rfl; have hv9f0 := blk_frozen hv9 0; have hv9c1 := blk_cell hv9 1 _ rfl; have hv9f1 := blk_frozen hv9 1; have hv9l := blk_lt hv9; clear hv8c0 hv8f0 hv8c1 hv8f1 hv8l; clear hG9 hb9 hv9 HV8))
    | (go_at_call 7; have hq_ := HV7; clear hq_; go_must (refine Calls.mono (aof_calls A4 N4 c4 l2 S w7 (fun k hk => Nat.lt_of_lt_of_le (HS.out k hk) HB7.out.size) (H4.out.below HS.out HB7.out)) ?_; rintro e w8 ⟨g8, rfl, hg8, hG8, hb8⟩; rw [HQ2.out]; have HG8 := Hd.mk hG8; have HR8 := Hd.mk (row256 hG8); have HB8 := Hd.mk (below_seq HB7.out hb8); have HG7b := Hd.mk (HG7.out.below hb8); have HR7 := Hd.mk (row256 HG7b.out); clear HG7; have HG7 := HG7b; clear HG7b; have HV8 := Hd.mk (blk_below HV7.out hb8); have hv8 := HV8.out; have hv8c0 := blk_cell hv8 0 _ rfl; have hv8f0 := blk_frozen hv8 0; have hv8c1 := blk_cell hv8 1 _ rfl; have hv8f1 := blk_frozen hv8 1; have hv8l := blk_lt hv8; clear hv7c0 hv7f0 hv7c1 hv7f1 hv7l; clear hG8 hb8 hv8 HV7))
    | (go_at_call 7; go_must (refine Calls.mono (aof_calls A3 N3 c3 l1 S w6 (fun k hk => Nat.lt_of_lt_of_le (HS.out k hk) HB6.out.size) (H3.out.below HS.out HB6.out)) ?_; rintro e w7 ⟨g7, rfl, hg7, hG7, hb7⟩; rw [HQ1.out]; have HG7 := Hd.mk hG7; have HB7 := Hd.mk (below_seq HB6.out hb7); have HV7 := Hd.mk (blk_below HV6.out hb7); have hv7 := HV7.out; have hv7c0 := blk_cell hv7 0 _ rfl; have hv7f0 := blk_frozen hv7 0; have hv7c1 := blk_cell hv7 1 _ rfl; have hv7f1 := blk_frozen hv7 1; have hv7l := blk_lt hv7; clear hv6c0 hv6f0 hv6c1 hv6f1 hv6l; clear hG7 hb7 hv7 HV6))
    | (go_at_call 9; go_must (refine Calls.mono (same_calls (some ⟨g4, 0, none⟩) A5 256 d5 256 F (fun b => b = g4) (fun b => w4.heap.size ≤ b ∧ b < w5.heap.size) w5 (by rintro k rfl; exact HG4.out.lt) (fun k h => h.2) HR4.out HR5.out) ?_; rintro e w6 ⟨rfl, hb6⟩; have HB6 := Hd.mk (below_seq HB5.out hb6); have HV6 := Hd.mk (blk_below HV5.out hb6); have hv6 := HV6.out; have hv6c0 := blk_cell hv6 0 _ rfl; have hv6f0 := blk_frozen hv6 0; have hv6c1 := blk_cell hv6 1 _ rfl; have hv6f1 := blk_frozen hv6 1; have hv6l := blk_lt hv6; clear hv5c0 hv5f0 hv5c1 hv5f1 hv5l; clear hb6 hv6 HV5 HG4 HR4 HR5 HB5))
    | (go_at_call 13; go_must (refine Calls.mono (rjoin_calls A1 A2 N1 c1 N2 c2 L1 L2 S S w4 (fun k hk => Nat.lt_of_lt_of_le (HS.out k hk) HB4.out.size) (fun k hk => Nat.lt_of_lt_of_le (HS.out k hk) HB4.out.size) (H1.out.below HS.out HB4.out) (H2.out.below HS.out HB4.out)) ?_; rintro e w5 ⟨A5, n5, d5, rfl, hr5, hb5⟩; rw [HM.out]; rw [HF.out] at hr5; have hn5 : n5 = 256 := (by rw [← hr5.1, HF9.out]); subst hn5; have HR5 := Hd.mk hr5; have HB5 := Hd.mk (below_seq HB4.out hb5); have HG4 := Hd.mk (HG4a.out.below hb5); have HR4 := Hd.mk (rowF HG4.out HF9.out); have HV5 := Hd.mk (blk_below HV4.out hb5); have hv5 := HV5.out; have hv5c0 := blk_cell hv5 0 _ rfl; have hv5f0 := blk_frozen hv5 0; have hv5c1 := blk_cell hv5 1 _ rfl; have hv5f1 := blk_frozen hv5 1; have hv5l := blk_lt hv5; clear hv4c0 hv4f0 hv4c1 hv4f1 hv4l; clear hr5 hb5 hv5 HG4a HV4))
    | (go_at_call 12; go_must (refine Calls.mono (join_calls A1 A2 N1 c1 N2 c2 L1 L2 S S (w.alloc (.cells #[.slice A3 N3 c3, .slice A4 N4 c4] 32)) (fun k hk => by rw [size_alloc]; have := HS.out k hk; omega) (fun k hk => by rw [size_alloc]; have := HS.out k hk; omega) (H1.out.below HS.out (by repeat (first | (with_reducible assumption) | (with_reducible exact Below.refl _ _) | (with_reducible apply below_drewL) | (with_reducible apply below_alloc) | (with_reducible apply below_drew1) | (with_reducible apply below_drewN) | (refine below_set ?_ (by first | omega | (simp only [size_alloc, size_drew, size_set]; omega)) _ _)))) (H2.out.below HS.out (by repeat (first | (with_reducible assumption) | (with_reducible exact Below.refl _ _) | (with_reducible apply below_drewL) | (with_reducible apply below_alloc) | (with_reducible apply below_drew1) | (with_reducible apply below_drewN) | (refine below_set ?_ (by first | omega | (simp only [size_alloc, size_drew, size_set]; omega)) _ _)))) W1.out W2.out) ?_; rintro e w4 ⟨g4, rfl, hg4, hG4, hb4⟩; rw [HM.out]; rw [HF.out] at hG4; have HG4a := Hd.mk hG4; have HB4 := Hd.mk (below_seq (below_alloc (Below.refl w.heap.size w) _) hb4); have HV4 := Hd.mk (blk_below (blk_new w _ _ rfl) hb4); have hv4 := HV4.out; have hv4c0 := blk_cell hv4 0 _ rfl; have hv4f0 := blk_frozen hv4 0; have hv4c1 := blk_cell hv4 1 _ rfl; have hv4f1 := blk_frozen hv4 1; have hv4l := blk_lt hv4; clear hG4 hb4 hv4)))
  have hb9 := HB9.out
  have hz9 := hb9.size
  refine wp_region_can (.q [1, 2, 4, 5] (.e 0 true (.e 3 true (.e 6 false (.e 7 false (.q [8, 9, 10, 11, 12] (.done))))))) (clsB _) (by kernel_rfl) (by kernel_rfl) (by intro _ _ d _ _ h; cases d <;> exact h) (clsB_drew _) ?_
  refine can_q (l := [⟨_,_,_,_,_,_⟩, ⟨_,_,_,_,_,_⟩, ⟨_,_,_,_,_,_⟩, ⟨_,_,_,_,_,_⟩]) rfl ?_
  repeat (go_big_quiet_step (fail))
  refine wpQuiet_nil ?_
  refine can_e (o := ⟨_,_,_,_,_,_⟩) rfl (fun K hK => ?_)
  go_wp2_with fail
  refine onK_normal (hK _ _ ⟨clsB _, clsB_of (by first | exact ((by repeat (first | (with_reducible assumption) | (with_reducible exact Below.refl _ _) | (with_reducible apply below_drewL) | (with_reducible apply below_alloc) | (with_reducible apply below_drew1) | (with_reducible apply below_drewN) | (refine below_set ?_ (by first | omega | (simp only [size_alloc, size_drew, size_set]; omega)) _ _)))) | exact below_undrew ((by repeat (first | (with_reducible assumption) | (with_reducible exact Below.refl _ _) | (with_reducible apply below_drewL) | (with_reducible apply below_alloc) | (with_reducible apply below_drew1) | (with_reducible apply below_drewN) | (refine below_set ?_ (by first | omega | (simp only [size_alloc, size_drew, size_set]; omega)) _ _))))), fun _ _ h => h, ?_⟩)
  clear hK K
  refine can_e (o := ⟨_,_,_,_,_,_⟩) rfl (fun K hK => ?_)
  go_wp2_with (at_builtin; go_must (refine append_row rT r_flat rfl (.tmp 76) (.tmp 78) 22 39 _ 16 rfl Try.underlying22 info39 rfl (by decide) (by decide) w9.heap.size (.slice (some ⟨w9.heap.size, 0, none⟩) 0 0) [] l1 A3 N3 c3 rfl rfl E3.out (Mine.empty rT w9.drew rfl (Nat.le_refl _)) (H3.out.below HS.out (by repeat (first | (with_reducible assumption) | (with_reducible exact Below.refl _ _) | (with_reducible apply below_drewL) | (with_reducible apply below_alloc) | (with_reducible apply below_drew1) | (with_reducible apply below_drewN) | (refine below_set ?_ (by first | omega | (simp only [size_alloc, size_drew, size_set]; omega)) _ _)))) (fun k hk => ⟨by simp only [size_alloc, size_drew]; have := HS.out k hk; omega, ownBlock_ne (by have := HS.out k hk; omega)⟩) (by simp only [size_alloc, size_drew]; omega) (by simp only [List.length_nil]; omega) ?_; intro v1 w10 hM1 hb1 hk1 hat1; rw [List.nil_append] at hM1; have HM1 := Hd.mk hM1; have hb10 : Below w9.heap.size w9 w10 := Below.trans (by repeat (first | (with_reducible assumption) | (with_reducible exact Below.refl _ _) | (with_reducible apply below_drewL) | (with_reducible apply below_alloc) | (with_reducible apply below_drew1) | (with_reducible apply below_drewN) | (refine below_set ?_ (by first | omega | (simp only [size_alloc, size_drew, size_set]; omega)) _ _))) hb1; have HB10 := Hd.mk hb10; clear hk1 hat1 hb1 hM1 hb10; obtain ⟨A10, n10, c10, rfl, hn10, hc10, hA10, hR10⟩ := HM1.out.formN; have HN10 := Hd.mk hn10; clear hR10 hA10 hn10))
  refine onK_normal (hK _ _ ⟨clsB _, clsB_of (by first | exact (HB10.out) | exact below_undrew (HB10.out)), fun _ _ h => h, ?_⟩)
  clear hK K
  refine can_e (o := ⟨_,_,_,_,_,_⟩) rfl (fun K hK => ?_)
  go_wp2_with (at_builtin; go_must (refine append_row rT r_flat rfl (.tmp 79) (.tmp 81) 22 39 _ 16 rfl Try.underlying22 info39 rfl (by decide) (by decide) w9.heap.size (.slice A10 n10 c10) l1 l2 A4 N4 c4 rfl rfl E4.out HM1.out (H4.out.below HS.out (below_seq HB9.out HB10.out)) (fun k hk => ⟨by have := HS.out k hk; have := HB10.out.size; omega, HM1.out.ne_old (by have := HS.out k hk; omega)⟩) HB10.out.size (by have := HN3.out; omega) ?_; intro v1 w11 hM1 hb1 hk1 hat1; have HM2 := Hd.mk hM1; have HB11 := Hd.mk (Below.trans HB10.out hb1); clear hk1 hat1 hb1 hM1; obtain ⟨A11, n11, c11, rfl, hn11, hc11, hA11, hR11⟩ := HM2.out.formN; have HR11 := Hd.mk hR11; clear hR11 hA11 hc11 hn11))
  refine onK_normal (hK _ _ ⟨fun _ => True, trivial, (fun h => by cases h), ?_⟩)
  clear hK K
  refine can_e (o := ⟨_,_,_,_,_,_⟩) rfl (fun K hK => ?_)
  go_wp2_with (go_at_call 8; go_must (refine Calls.mono (rof_calls A11 n11 c11 (l1 ++ l2) _ w11 (fun k h => h.2) HR11.out) ?_; rintro e w12 ⟨A12, n12, c12, rfl, hr12, hb12⟩; rw [HP.out]; rw [HG.out] at hr12; have hn12 : n12 = 256 := (by rw [← hr12.1, HG9.out]); subst hn12; have HR12 := Hd.mk hr12; have HB12 := Hd.mk (below_seq HB11.out hb12); have HRF := Hd.mk (rowF (HGG.out.below HB12.out) HG9.out); clear hr12))
  refine onK_normal (hK _ _ ⟨fun _ => True, trivial, (fun h => by cases h), ?_⟩)
  clear hK K
  refine can_q (l := [⟨_,_,_,_,_,_⟩, ⟨_,_,_,_,_,_⟩, ⟨_,_,_,_,_,_⟩, ⟨_,_,_,_,_,_⟩, ⟨_,_,_,_,_,_⟩]) rfl ?_
  repeat (go_big_quiet_step (fail))
  refine wpQuiet_nil ?_
  refine can_done ?_
  go_wp2_with (first
    | (go_at_call 6; go_must (refine Calls.mono (alive_calls _) ?_; rintro e w14 ⟨rfl, hb14⟩))
    | (go_at_call 9; go_must (refine Calls.mono (same_calls (some ⟨g9, 0, none⟩) A12 256 c12 256 G (fun b => b = g9) (fun b => w11.heap.size ≤ b ∧ b < w12.heap.size) w12 (by rintro k rfl; exact (HGG.out.below HB12.out).lt) (fun k h => h.2) HRF.out HR12.out) ?_; rintro e w13 ⟨rfl, hb13⟩; have HB13 := Hd.mk (below_seq (below_seq HB9.out HB12.out) hb13))))
  go_ret
  exact ⟨rfl, below_seq HB13.out hb14⟩
end Go.Proofs.Ytpcjidbhkffncaa.Fn
