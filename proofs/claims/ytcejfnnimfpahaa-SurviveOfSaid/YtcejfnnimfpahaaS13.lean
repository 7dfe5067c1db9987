/- The law's own example. -/
import Derived.Test.YtcejfnnimfpahaaS12
namespace Go.Proofs.Ytcejfnnimfpahaa.Fn
open Go Go.RowKit Go.Proofs.Ytcejfnnimfpahaa.Can Go.Proofs.Ytcejfnnimfpahaa.Base
attribute [local go_sem] clsB AB.cell
attribute [local go_sem high] eq31_same

theorem counts_calls (k n e rn t0 t1 t2 t3 t4 t5 : Int) (d : ByteArray) (w : World) :
    Calls Try.prog 20 #[.agg #[.int .i64 k, .int .i64 n, .string d], .agg #[.int .i64 e, .int .i64 rn, .int .i64 t0, .int .i64 t1, .int .i64 t2, .int .i64 t3, .int .i64 t4, .int .i64 t5]] w fun r w' =>
      r = .returned (.agg #[.int .i64 2, .int .i64 0, .int .i64 0, .int .i64 k, .int .i64 n, .string d, .int .i64 e, .int .i64 rn, .int .i64 t0, .int .i64 t1, .int .i64 t2, .int .i64 t3, .int .i64 t4, .int .i64 t5]) ∧ Below w.heap.size w w' := by
  go_enter Try.func20, Try.ntmps20
  go_wp2
  refine bodyPost_ret (results_cell_row rfl _ _ (w.heap.size + 2) 55 _ (0, 0) _ rfl (blk_new _ _ _ (by rw [size_alloc, size_alloc])) Try.underlying55 rfl (by kernel_rfl)) rfl ?_
  exact ⟨rfl, (by repeat (first | (with_reducible assumption) | (with_reducible exact Below.refl _ _) | (with_reducible apply below_drewL) | (with_reducible apply below_alloc) | (with_reducible apply below_drew1) | (with_reducible apply below_drewN) | (refine below_set ?_ (by first | omega | (simp only [size_alloc, size_drew, size_set]; omega)) _ _)))⟩
def exA : Tok := ⟨1, 0, 0, 0, 1, 0⟩
def exB : Tok := ⟨1, 0, 1, 2, 3, 0⟩
def e0 : Ev := ⟨2, 0, 0, 4, 0, ByteArray.empty, 0, 0, exA⟩
def e1 : Ev := ⟨2, 0, 0, 6, 0, ByteArray.empty, 0, 4, tok0⟩
def e2 : Ev := ⟨2, 0, 0, 4, 0, ByteArray.empty, 0, 0, exB⟩
def e3 : Ev := ⟨2, 0, 0, 7, 4, ByteArray.empty, 0, 0, tok0⟩
def e4 : Ev := ⟨2, 0, 0, 5, 0, ByteArray.empty, 0, 0, tok0⟩
def exH : List Ev := [e0, e1, e2, e3, e4]
def exH3 : List Ev := [e0, e1, e2]
def exH4 : List Ev := [e0, e1, e2, e3]
def exL : List E := [⟨⟨0, 0⟩, exA⟩, ⟨⟨1, 0⟩, exB⟩]
theorem run3 : (runM 0 exH3).s.l = exL := by decide +kernel
theorem run4 : (runM 0 exH4).s.l = [⟨⟨0, 0⟩, exA⟩] := by decide +kernel
theorem run5 : (runM 0 exH).s.l = [] := by decide +kernel
theorem wf5 : EvWf exH := by intro v hv; simp [exH] at hv; rcases hv with rfl | rfl | rfl | rfl | rfl <;> exact ⟨rfl, rfl⟩
theorem wf3 : EvWf exH3 := fun v hv => wf5 v (by simp [exH3] at hv; simp [exH]; rcases hv with h | h | h <;> simp [h])
theorem wf4 : EvWf exH4 := fun v hv => wf5 v (by simp [exH4] at hv; simp [exH]; rcases hv with h | h | h | h <;> simp [h])
theorem pure5 : pureL exH = true := by decide +kernel
theorem join3 : joinF 3 0 (exL.map (·.tok)) = true := by decide +kernel
def abcd : ByteArray := ⟨#[97, 98, 99, 100]⟩
theorem byt3 : (⟨(bytesU abcd (exL.map (·.tok))).toArray⟩ : ByteArray) = ⟨#[97, 98, 99]⟩ := by decide +kernel
theorem abcd_size : abcd.size ≤ 100000 := by decide +kernel
theorem exH3_len : exH3.length ≤ 1000000 := by decide
theorem exH4_len : exH4.length ≤ 1000000 := by decide
theorem exH_len : exH.length ≤ 1000000 := by decide
set_option maxRecDepth 20000 in
set_option maxHeartbeats 4000000 in
theorem alive_calls (w : World) : Calls Try.prog 5 #[] w fun e w' => e = .returned (.bool true) ∧ Below w.heap.size w w' := by
  go_enter Try.func5, Try.ntmps5
  go_wp2
  generalize hV : World.alloc _ _ = V
  have HBV : Below w.heap.size w V := below_of hV (by repeat (first | (with_reducible assumption) | (with_reducible exact Below.refl _ _) | (with_reducible apply below_drewL) | (with_reducible apply below_alloc) | (with_reducible apply below_drew1) | (with_reducible apply below_drewN) | (refine below_set ?_ (by first | omega | (simp only [size_alloc, size_drew, size_set]; omega)) _ _)))
  have zV : Hd (V.heap.size = w.heap.size + 1 + 1) := ⟨by rw [← hV]; simp only [size_alloc]⟩
  have V0 := at_of hV (blk_alloc (blk_new _ _ _ rfl) _)
  have V0l := blk_lt V0
  have V1 := at_of hV (blk_new _ _ _ rfl)
  simp only [size_alloc] at V1
  have V1l := blk_lt V1
  clear hV
  have HV := Hd.mk HBV
  have HV1 := Hd.mk V1
  have V0c0 := blk_cell V0 0 _ rfl
  have V0f0 := blk_frozen V0 0
  have V0c1 := blk_cell V0 1 _ rfl
  have V0f1 := blk_frozen V0 1
  have V0c2 := blk_cell V0 2 _ rfl
  have V0f2 := blk_frozen V0 2
  have V0c3 := blk_cell V0 3 _ rfl
  have V0f3 := blk_frozen V0 3
  have V0c4 := blk_cell V0 4 _ rfl
  have V0f4 := blk_frozen V0 4
  have V0c5 := blk_cell V0 5 _ rfl
  have V0f5 := blk_frozen V0 5
  have V1c0 := blk_cell V1 0 _ rfl
  have V1f0 := blk_frozen V1 0
  have V1c1 := blk_cell V1 1 _ rfl
  have V1f1 := blk_frozen V1 1
  have V1c2 := blk_cell V1 2 _ rfl
  have V1f2 := blk_frozen V1 2
  have V1c3 := blk_cell V1 3 _ rfl
  have V1f3 := blk_frozen V1 3
  have V1c4 := blk_cell V1 4 _ rfl
  have V1f4 := blk_frozen V1 4
  have V1c5 := blk_cell V1 5 _ rfl
  have V1f5 := blk_frozen V1 5
  clear HBV
  refine wp_region_can (.q [0, 1, 2, 4, 5, 7, 8, 9, 11, 12, 14, 15] (.e 3 true (.e 6 true (.e 10 true (.e 13 true (.e 16 false (.e 17 false (.q [18] (.done))))))))) (clsB _) (by kernel_rfl) (by kernel_rfl) (by intro _ _ d _ _ h; cases d <;> exact h) (clsB_drew _) ?_
  refine can_q (l := [⟨_,_,_,_,_,_⟩, ⟨_,_,_,_,_,_⟩, ⟨_,_,_,_,_,_⟩, ⟨_,_,_,_,_,_⟩, ⟨_,_,_,_,_,_⟩, ⟨_,_,_,_,_,_⟩, ⟨_,_,_,_,_,_⟩, ⟨_,_,_,_,_,_⟩, ⟨_,_,_,_,_,_⟩, ⟨_,_,_,_,_,_⟩, ⟨_,_,_,_,_,_⟩, ⟨_,_,_,_,_,_⟩]) rfl ?_
  repeat (go_big_quiet_step (fail))
  refine wpQuiet_nil ?_
  refine can_e (o := ⟨_,_,_,_,_,_⟩) rfl (fun K hK => ?_)
  go_wp2_with (go_at_call 20; go_must (refine Calls.mono (counts_calls 4 0 0 0 1 0 0 0 1 0 ByteArray.empty _) ?_; rintro e w1 ⟨rfl, hb1⟩; replace hb1 := below_undrew hb1; have HB1 := Hd.mk hb1; clear hb1))
  refine onK_normal (hK _ _ ⟨clsB _, clsB_of (by first | exact (HB1.out) | exact below_undrew (HB1.out)), fun _ _ h => h, ?_⟩)
  clear hK K
  refine can_e (o := ⟨_,_,_,_,_,_⟩) rfl (fun K hK => ?_)
  go_wp2_with (go_at_call 20; go_must (refine Calls.mono (counts_calls 6 0 0 4 0 0 0 0 0 0 ByteArray.empty _) ?_; rintro e w2 ⟨rfl, hb2⟩; have HB2 := Hd.mk (below_seq HB1.out hb2); clear hb2))
  refine onK_normal (hK _ _ ⟨clsB _, clsB_of (by first | exact (HB2.out) | exact below_undrew (HB2.out)), fun _ _ h => h, ?_⟩)
  clear hK K
  refine can_e (o := ⟨_,_,_,_,_,_⟩) rfl (fun K hK => ?_)
  go_wp2_with (go_at_call 20; go_must (refine Calls.mono (counts_calls 4 0 0 0 1 0 1 2 3 0 ByteArray.empty _) ?_; rintro e w3 ⟨rfl, hb3⟩; have HB3 := Hd.mk (below_seq HB2.out hb3); clear hb3))
  refine onK_normal (hK _ _ ⟨clsB _, clsB_of (by first | exact (HB3.out) | exact below_undrew (HB3.out)), fun _ _ h => h, ?_⟩)
  clear hK K
  refine can_e (o := ⟨_,_,_,_,_,_⟩) rfl (fun K hK => ?_)
  go_wp2_with (go_at_call 20; go_must (refine Calls.mono (counts_calls 7 4 0 0 0 0 0 0 0 0 ByteArray.empty _) ?_; rintro e w4 ⟨rfl, hb4⟩; have HB4 := Hd.mk (below_seq HB3.out hb4); clear hb4))
  refine onK_normal (hK _ _ ⟨clsB _, clsB_of (by first | exact (HB4.out) | exact below_undrew (HB4.out)), fun _ _ h => h, ?_⟩)
  clear hK K
  refine can_e (o := ⟨_,_,_,_,_,_⟩) rfl (fun K hK => ?_)
  go_wp2_with (go_at_call 20; go_must (refine Calls.mono (counts_calls 5 0 0 0 0 0 0 0 0 0 ByteArray.empty _) ?_; rintro e w5 ⟨rfl, hb5⟩; have HB5 := Hd.mk (below_seq HB4.out hb5); clear hb5))
  refine onK_normal (hK _ _ ⟨fun _ => True, trivial, (fun h => by cases h), ?_⟩)
  clear hK K
  refine can_e (o := ⟨_,_,_,_,_,_⟩) rfl (fun K hK => ?_)
  go_wp2_with fail
  refine onK_normal (hK _ _ ⟨fun _ => True, trivial, (fun h => by cases h), ?_⟩)
  clear hK K
  refine can_q (l := [⟨_,_,_,_,_,_⟩]) rfl ?_
  repeat (go_big_quiet_step (fail))
  refine wpQuiet_nil ?_
  refine can_done ?_
  generalize hU : World.alloc w5 _ = U
  have hg : U.heap[w5.heap.size]? = some (.cells (flatC evE exH ++ []).toArray 55 (0, 0)) := by rw [← hU]; exact blk_new _ _ _ rfl
  have hbU : Below V.heap.size V U := by rw [← hU]; exact below_alloc HB5.out _
  have hblk : Blk evE U 55 w5.heap.size exH := ⟨[], hg⟩
  have hrow : Row evT U (fun b => b = w5.heap.size) (some ⟨w5.heap.size, 0, none⟩) 5 exH := hblk.row ev_len ev_one rfl (by decide)
  have HU := Hd.mk hbU
  have hgl : w5.heap.size < U.heap.size := blk_lt hg
  clear hU hg hblk HB1 HB2 HB3 HB4 HB5 hbU
  generalize w5.heap.size = g at *
  have HR5 : Hd (Row evT U (fun b => b = g) (some ⟨g, 0, none⟩) 5 exH) := ⟨hrow⟩
  have HR3 : Hd (Row evT U (fun b => b = g) (some ⟨g, 0, none⟩) 3 exH3) := ⟨hrow.take 3 (by decide)⟩
  have HR4 : Hd (Row evT U (fun b => b = g) (some ⟨g, 0, none⟩) 4 exH4) := ⟨hrow.take 4 (by decide)⟩
  have HGl := Hd.mk hgl
  clear hrow
  go_wp2_with (go_at_call 12; go_must (refine Calls.mono (of_calls 0 (some ⟨g, 0, none⟩) 5 exH3 (fun b => b = g) U (by rintro k rfl; exact HGl.out) HR3.out wf3 exH3_len) ?_; rintro e w6 ⟨A6, n6, c6, rfl, hr6, hb6⟩; rw [run3] at hr6; have hn6 : n6 = 2 := hr6.1.symm; subst hn6; have HR6 := Hd.mk hr6; have HB6 := Hd.mk hb6; clear hr6 hb6))
  obtain ⟨b6, off6, y6, rfl, hb6, hx6, c0, c1, d0, d1, d2, d3, d4, d5⟩ := e_get HR6.out 1 (by decide)
  obtain rfl : y6 = ⟨⟨1, 0⟩, exB⟩ := by simpa [exL] using hx6.symm
  have hv6 := blk_below HV1.out (below_seq HU.out HB6.out)
  have hv6c0 := blk_cell hv6 0 _ rfl; have hv6f0 := blk_frozen hv6 0; have hv6c1 := blk_cell hv6 1 _ rfl; have hv6f1 := blk_frozen hv6 1; have hv6c2 := blk_cell hv6 2 _ rfl; have hv6f2 := blk_frozen hv6 2; have hv6c3 := blk_cell hv6 3 _ rfl; have hv6f3 := blk_frozen hv6 3; have hv6c4 := blk_cell hv6 4 _ rfl; have hv6f4 := blk_frozen hv6 4; have hv6c5 := blk_cell hv6 5 _ rfl; have hv6f5 := blk_frozen hv6 5; have hv6l := blk_lt hv6
  have q0 : w6.cell? ⟨b6, off6 + 8, none⟩ = some (.int .i64 1) := c0
  have q1 : w6.cell? ⟨b6, off6 + 8 + 1, none⟩ = some (.int .i64 0) := c1
  have q2 : w6.cell? ⟨b6, off6 + 8 + 2, none⟩ = some (.int .i64 1) := d0
  have q3 : w6.cell? ⟨b6, off6 + 8 + 2 + 1, none⟩ = some (.int .i64 0) := d1
  have q4 : w6.cell? ⟨b6, off6 + 8 + 2 + 2, none⟩ = some (.int .i64 1) := d2
  have q5 : w6.cell? ⟨b6, off6 + 8 + 2 + 3, none⟩ = some (.int .i64 2) := d3
  have q6 : w6.cell? ⟨b6, off6 + 8 + 2 + 4, none⟩ = some (.int .i64 3) := d4
  have q7 : w6.cell? ⟨b6, off6 + 8 + 2 + 5, none⟩ = some (.int .i64 0) := d5
  clear c0 c1 d0 d1 d2 d3 d4 d5 hx6 V0 V1 V0c0 V0f0 V0c1 V0f1 V0c2 V0f2 V0c3 V0f3 V0c4 V0f4 V0c5 V0f5 V1c0 V1f0 V1c1 V1f1 V1c2 V1f2 V1c3 V1f3 V1c4 V1f4 V1c5 V1f5 hv6
  refine wp_region_can (.q [0, 1, 2, 3, 4, 5, 6, 7, 8, 9, 10, 11, 12, 13] (.e 14 false (.q [15, 16, 17] (.e 18 false (.q [19, 20, 21, 22, 23] (.e 24 false (.q [25, 26, 27, 28, 29] (.e 30 false (.q [31, 32, 33, 34, 35] (.e 36 false (.q [37, 38] (.done)))))))))))) (clsB _) (by kernel_rfl) (by kernel_rfl) (by intro _ _ d _ _ h; cases d <;> exact h) (clsB_drew _) ?_
  refine can_q (l := [⟨_,_,_,_,_,_⟩, ⟨_,_,_,_,_,_⟩, ⟨_,_,_,_,_,_⟩, ⟨_,_,_,_,_,_⟩, ⟨_,_,_,_,_,_⟩, ⟨_,_,_,_,_,_⟩, ⟨_,_,_,_,_,_⟩, ⟨_,_,_,_,_,_⟩, ⟨_,_,_,_,_,_⟩, ⟨_,_,_,_,_,_⟩, ⟨_,_,_,_,_,_⟩, ⟨_,_,_,_,_,_⟩, ⟨_,_,_,_,_,_⟩, ⟨_,_,_,_,_,_⟩]) rfl ?_
  repeat (go_big_quiet_step (fail))
  refine wpQuiet_nil ?_
  refine can_e (o := ⟨_,_,_,_,_,_⟩) rfl (fun K hK => ?_)
  go_wp2_with (go_at_call 7; go_must (refine Calls.mono (joined_calls (some ⟨b6, off6, none⟩) 2 c6 exL 3 _ w6.drew (fun k h => h.2) (HR6.out.below (fun k h => h.2) (below_drew1 (Below.refl _ _)))) ?_; rintro e w7 ⟨he, hb7⟩; rw [join3] at he; subst he; replace hb7 := below_undrew hb7; have HB7 := Hd.mk hb7; clear hb7))
  refine onK_normal (hK _ _ ⟨fun _ => True, trivial, (fun h => by cases h), ?_⟩)
  clear hK K
  refine can_q (l := [⟨_,_,_,_,_,_⟩, ⟨_,_,_,_,_,_⟩, ⟨_,_,_,_,_,_⟩]) rfl ?_
  repeat (go_big_quiet_step (fail))
  refine wpQuiet_nil ?_
  refine can_e (o := ⟨_,_,_,_,_,_⟩) rfl (fun K hK => ?_)
  go_wp2_with (go_at_call 9; go_must (refine Calls.mono (bytes_calls abcd (some ⟨b6, off6, none⟩) 2 c6 exL (fun k => U.heap.size ≤ k ∧ k < w7.heap.size) w7 (fun k h => h.2) ((HR6.out.below (fun k h => h.2) HB7.out).mono fun k h => ⟨h.1, Nat.lt_of_lt_of_le h.2 HB7.out.size⟩) abcd_size (by omega)) ?_; rintro e w8 ⟨he, hb8⟩; rw [byt3] at he; subst he; have HB8 := Hd.mk (below_seq HB7.out hb8); clear hb8))
  refine onK_normal (hK _ _ ⟨fun _ => True, trivial, (fun h => by cases h), ?_⟩)
  clear hK K
  refine can_q (l := [⟨_,_,_,_,_,_⟩, ⟨_,_,_,_,_,_⟩, ⟨_,_,_,_,_,_⟩, ⟨_,_,_,_,_,_⟩, ⟨_,_,_,_,_,_⟩]) rfl ?_
  repeat (go_big_quiet_step (fail))
  refine wpQuiet_nil ?_
  refine can_e (o := ⟨_,_,_,_,_,_⟩) rfl (fun K hK => ?_)
  go_wp2_with (go_at_call 12; go_must (refine Calls.mono (of_calls 0 (some ⟨g, 0, none⟩) 5 exH4 (fun b => b = g) w8 (by rintro k rfl; exact Nat.lt_of_lt_of_le HGl.out (below_seq HB6.out HB8.out).size) (HR4.out.below (by rintro k rfl; exact HGl.out) (below_seq HB6.out HB8.out)) wf4 exH4_len) ?_; rintro e w9 ⟨A9, n9, c9, rfl, hr9, hb9⟩; rw [run4] at hr9; have hn9 : n9 = 1 := hr9.1.symm; subst hn9; have HB9 := Hd.mk (below_seq HB8.out hb9); clear hr9 hb9))
  refine onK_normal (hK _ _ ⟨fun _ => True, trivial, (fun h => by cases h), ?_⟩)
  clear hK K
  refine can_q (l := [⟨_,_,_,_,_,_⟩, ⟨_,_,_,_,_,_⟩, ⟨_,_,_,_,_,_⟩, ⟨_,_,_,_,_,_⟩, ⟨_,_,_,_,_,_⟩]) rfl ?_
  repeat (go_big_quiet_step (fail))
  refine wpQuiet_nil ?_
  refine can_e (o := ⟨_,_,_,_,_,_⟩) rfl (fun K hK => ?_)
  go_wp2_with (go_at_call 12; go_must (refine Calls.mono (of_calls 0 (some ⟨g, 0, none⟩) 5 exH (fun b => b = g) w9 (by rintro k rfl; exact Nat.lt_of_lt_of_le HGl.out (below_seq HB6.out HB9.out).size) (HR5.out.below (by rintro k rfl; exact HGl.out) (below_seq HB6.out HB9.out)) wf5 exH_len) ?_; rintro e w10 ⟨A10, n10, c10, rfl, hr10, hb10⟩; rw [run5] at hr10; have hn10 : n10 = 0 := hr10.1.symm; subst hn10; have HB10 := Hd.mk (below_seq HB9.out hb10); clear hr10 hb10))
  refine onK_normal (hK _ _ ⟨fun _ => True, trivial, (fun h => by cases h), ?_⟩)
  clear hK K
  refine can_q (l := [⟨_,_,_,_,_,_⟩, ⟨_,_,_,_,_,_⟩, ⟨_,_,_,_,_,_⟩, ⟨_,_,_,_,_,_⟩, ⟨_,_,_,_,_,_⟩]) rfl ?_
  repeat (go_big_quiet_step (fail))
  refine wpQuiet_nil ?_
  refine can_e (o := ⟨_,_,_,_,_,_⟩) rfl (fun K hK => ?_)
  go_wp2_with (go_at_call 18; go_must (refine Calls.mono (pure_calls (some ⟨g, 0, none⟩) 5 5 exH (fun b => b = g) w10 (by rintro k rfl; exact Nat.lt_of_lt_of_le HGl.out (below_seq HB6.out HB10.out).size) (HR5.out.below (by rintro k rfl; exact HGl.out) (below_seq HB6.out HB10.out))) ?_; rintro e w11 ⟨he, hb11⟩; rw [pure5] at he; subst he; have HB11 := Hd.mk (below_seq HB10.out hb11); clear hb11))
  refine onK_normal (hK _ _ ⟨fun _ => True, trivial, (fun h => by cases h), ?_⟩)
  clear hK K
  refine can_q (l := [⟨_,_,_,_,_,_⟩, ⟨_,_,_,_,_,_⟩]) rfl ?_
  repeat (go_big_quiet_step (fail))
  refine wpQuiet_nil ?_
  refine can_done ?_
  go_wp2
  go_ret
  exact ⟨rfl, below_seq (below_seq HV.out HU.out) (below_seq HB6.out HB11.out)⟩
end Go.Proofs.Ytcejfnnimfpahaa.Fn
