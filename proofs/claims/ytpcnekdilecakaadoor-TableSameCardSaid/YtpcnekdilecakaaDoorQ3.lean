/- A lexer's bytes, by the document. -/
import Derived.Test.YtpcnekdilecakaaDoorQ2
set_option linter.unusedVariables false
set_option linter.unusedSimpArgs false
namespace Go.Proofs.YtpcnekdilecakaaDoor.Tb
open Go Go.RowKit Go.Proofs.YtpcnekdilecakaaDoor.Can Go.Proofs.YtpcnekdilecakaaDoor.Base
attribute [local go_sem] clsB AB.cell

set_option maxRecDepth 20000 in
set_option maxHeartbeats 16000000 in
theorem rput_calls (A1 A2 A3 : Option Addr) (n1 n2 n3 c1 c2 c3 : Nat) (l : Lx) (hb : rightB l = true) (S : Nat → Prop) (w : World) (hL : LX w S A1 A2 A3 n1 n2 n3 l) :
    Calls Tryd.prog 12 #[.agg #[.slice A1 n1 c1, .slice A2 n2 c2, .slice A3 n3 c3]] w fun e w' => e = .returned (.string (bs (putL l))) ∧ Below w.heap.size w w' := by
  have hm1 := hL.modes.le; have hm2 := hL.dfas.le; have hm3 := hL.acts.le
  have HRB := Hd.mk (RB.of hb)
  have hn1 : n1 ≤ 16 := by rw [← hL.modes.1]; exact HRB.out.ml
  have hn3 : n3 ≤ 128 := by rw [← hL.acts.1]; exact HRB.out.al
  have hn2 : n2 ≤ 16 := by rw [← hL.dfas.1, HRB.out.dl]; exact HRB.out.ml
  obtain ⟨W0, hW0⟩ : ∃ W0, w.alloc (.cells #[.slice A1 n1 c1, .slice A2 n2 c2, .slice A3 n3 c3] 26) = W0 := ⟨_, rfl⟩
  have hBW : Below w.heap.size w W0 := by rw [← hW0]; exact below_alloc (Below.refl _ _) _
  have hx : W0.heap[w.heap.size]? = some (.cells #[.slice A1 n1 c1, .slice A2 n2 c2, .slice A3 n3 c3] 26 (0, 0)) := by rw [← hW0]; exact blk_new _ _ _ rfl
  have HX := Hd.mk hx
  have HBW := Hd.mk hBW
  have HLW := Hd.mk (hL.below hBW)
  have HN1 := Hd.mk hL.modes.1; have HN2 := Hd.mk hL.dfas.1; have HN3 := Hd.mk hL.acts.1
  clear hL hb hBW
  go_enter Tryd.func12, Tryd.ntmps12
  go_upto_region 1 with fail
  clear hW0
  have hxc0 := blk_cell hx 0 _ rfl; have hxf0 := blk_frozen hx 0; have hxc1 := blk_cell hx 1 _ rfl; have hxf1 := blk_frozen hx 1; have hxc2 := blk_cell hx 2 _ rfl; have hxf2 := blk_frozen hx 2; have hxl := blk_lt hx
  obtain ⟨z1, hz1⟩ : ∃ z_, w1 83 ++ w1 80 = z_ := ⟨_, rfl⟩
  have Hz1 := Hd.mk hz1
  have ha1 : ∀ W, (Op.stringOp .add (bs (w1 83)) (bs (w1 80))).run Tryd.prog W = .ok (.string (bs z1)) W := by rw [← hz1]; exact add_bs _ _ (by (try simp only [w1_len, w2_len]); omega)
  have Lz1 : Hd (z1.length = (w1 83).length + (w1 80).length) := ⟨by rw [← hz1, List.length_append]⟩
  (try simp only [w1_len, w2_len] at Lz1)
  clear hz1
  obtain ⟨z2, hz2⟩ : ∃ z_, z1 ++ w1 1 = z_ := ⟨_, rfl⟩
  have Hz2 := Hd.mk hz2
  have ha2 : ∀ W, (Op.stringOp .add (bs (z1)) (bs (w1 1))).run Tryd.prog W = .ok (.string (bs z2)) W := by rw [← hz2]; exact add_bs _ _ (by (try simp only [w1_len, w2_len]); have := Lz1.out; omega)
  have Lz2 : Hd (z2.length = (z1).length + (w1 1).length) := ⟨by rw [← hz2, List.length_append]⟩
  (try simp only [w1_len, w2_len] at Lz2)
  clear hz2
  obtain ⟨h1, hh1⟩ : ∃ z_, z2 ++ w1 n1 = z_ := ⟨_, rfl⟩
  have Hh1 := Hd.mk hh1
  have ha3 : ∀ W, (Op.stringOp .add (bs (z2)) (bs (w1 n1))).run Tryd.prog W = .ok (.string (bs h1)) W := by rw [← hh1]; exact add_bs _ _ (by (try simp only [w1_len, w2_len]); have := Lz1.out; have := Lz2.out; omega)
  have Lh1 : Hd (h1.length = (z2).length + (w1 n1).length) := ⟨by rw [← hh1, List.length_append]⟩
  (try simp only [w1_len, w2_len] at Lh1)
  clear hh1
  refine wp_region_can (.q [5, 6, 7] (.e 0 true (.e 1 true (.q [2] (.e 3 true (.q [4] (.e 8 true (.q [9, 10] (.done))))))))) (clsB _) (by kernel_rfl) (by kernel_rfl) (by intro _ _ d _ _ h; cases d <;> exact h) (clsB_drew _) ?_
  refine can_q (l := [⟨_,_,_,_,_,_⟩, ⟨_,_,_,_,_,_⟩, ⟨_,_,_,_,_,_⟩]) rfl ?_
  repeat (go_big_quiet_step (fail))
  refine wpQuiet_nil ?_
  refine can_e (o := ⟨_,_,_,_,_,_⟩) rfl (fun K hK => ?_)
  go_wp2_with (go_at_call 41; go_must (refine Calls.mono (rone_calls _ _) ?_; rintro e wA ⟨rfl, hb_⟩; have HBwA := Hd.mk (below_undrew hb_); clear hb_))
  refine onK_normal (hK _ _ ⟨clsB _, clsB_of (by first | exact (HBwA.out) | exact below_undrew (HBwA.out)), fun _ _ h => h, ?_⟩)
  clear hK K
  refine can_e (o := ⟨_,_,_,_,_,_⟩) rfl (fun K hK => ?_)
  go_wp2_with (go_at_call 41; go_must (refine Calls.mono (rone_calls _ _) ?_; rintro e wB ⟨rfl, hb_⟩; have HBwB := Hd.mk (below_seq HBwA.out hb_); clear hb_))
  refine onK_normal (hK _ _ ⟨clsB _, clsB_of (by first | exact (HBwB.out) | exact below_undrew (HBwB.out)), fun _ _ h => h, ?_⟩)
  clear hK K
  refine can_q (l := [⟨_,_,_,_,_,_⟩]) rfl ?_
  repeat (go_big_quiet_step (fail))
  refine wpQuiet_nil ?_
  refine can_e (o := ⟨_,_,_,_,_,_⟩) rfl (fun K hK => ?_)
  go_wp2_with (go_at_call 41; go_must (refine Calls.mono (rone_calls _ _) ?_; rintro e wC ⟨rfl, hb_⟩; have HBwC := Hd.mk (below_seq HBwB.out hb_); clear hb_))
  refine onK_normal (hK _ _ ⟨clsB _, clsB_of (by first | exact (HBwC.out) | exact below_undrew (HBwC.out)), fun _ _ h => h, ?_⟩)
  clear hK K
  refine can_q (l := [⟨_,_,_,_,_,_⟩]) rfl ?_
  repeat (go_big_quiet_step (fail))
  refine wpQuiet_nil ?_
  refine can_e (o := ⟨_,_,_,_,_,_⟩) rfl (fun K hK => ?_)
  go_wp2_with (go_at_call 41; go_must (refine Calls.mono (rone_calls _ _) ?_; rintro e wD ⟨rfl, hb_⟩; have HBwD := Hd.mk (below_seq HBwC.out hb_); clear hb_))
  refine onK_normal (hK _ _ ⟨clsB _, clsB_of (by first | exact (HBwD.out) | exact below_undrew (HBwD.out)), fun _ _ h => h, ?_⟩)
  clear hK K
  refine can_q (l := [⟨_,_,_,_,_,_⟩, ⟨_,_,_,_,_,_⟩]) rfl ?_
  repeat (go_big_quiet_step (fail))
  refine wpQuiet_nil ?_
  refine can_done ?_
  go_wp2
  clear hxc0 hxf0 hxc1 hxf1 hxc2 hxf2 hxl
  clear ha1 ha2 ha3 hx
  have HH1 : Hd (w1 83 ++ w1 80 ++ w1 1 ++ w1 n1 = h1) := ⟨by rw [Hz1.out, Hz2.out, Hh1.out]⟩
  have HL1 : Hd (h1.length = 4) := ⟨by rw [← HH1.out]; rfl⟩
  clear Hz1 Hz2 Hh1 Lz1 Lz2 Lh1
  go_loopw [3, 4] (fun s i wr => ∃ k : Nat, k ≤ n1 ∧ i = .int .i64 k ∧ s = .string (bs (h1 ++ (l.modes.take k).flatMap wtext)) ∧ Hd (Below W0.heap.size W0 wr)) (fun s i _ => n1 - (intOf i).toNat)
  case atStart => exact ⟨0, Nat.zero_le _, rfl, by rw [List.take_zero, List.flatMap_nil, List.append_nil], ⟨by first | exact HBwD.out | exact below_undrew HBwD.out⟩⟩
  case round =>
    obtain ⟨k, hk, rfl, rfl, HB⟩ := hrel
    have hxa := blk_below HX.out HB.out
    have hxac0 := blk_cell hxa 0 _ rfl; have hxaf0 := blk_frozen hxa 0; have hxac1 := blk_cell hxa 1 _ rfl; have hxaf1 := blk_frozen hxa 1; have hxac2 := blk_cell hxa 2 _ rfl; have hxaf2 := blk_frozen hxa 2; have hxal := blk_lt hxa
    by_cases hlt : k < n1
    · obtain ⟨b1, o1, s, rfl, hb1, -, hs, hcs⟩ := str_get (HLW.out.below HB.out).modes k hlt
      have hsz := HRB.out.ms s (List.mem_of_getElem? hs)
      have HZ := Hd.mk (flat_snoc wtext hs)
      have HKL := Hd.mk (HRB.out.modes_len k)
      clear hs
      obtain ⟨y, hy⟩ : ∃ y, h1 ++ (l.modes.take k).flatMap wtext = y := ⟨_, rfl⟩
      have HYL : Hd (y.length ≤ 1004) := ⟨by rw [← hy, List.length_append]; have := HL1.out; have := HKL.out; omega⟩
      have HY := Hd.mk hy
      rw [hy]
      clear hy
      obtain ⟨y1, hy1⟩ : ∃ z_, y ++ w1 s.size = z_ := ⟨_, rfl⟩
      have Hy1 := Hd.mk hy1
      have ha1 : ∀ W, (Op.stringOp .add (bs (y)) (bs (w1 s.size))).run Tryd.prog W = .ok (.string (bs y1)) W := by rw [← hy1]; exact add_bs _ _ (by (try simp only [w1_len, w2_len]); have := HYL.out; omega)
      have Ly1 : Hd (y1.length = (y).length + (w1 s.size).length) := ⟨by rw [← hy1, List.length_append]⟩
      (try simp only [w1_len, w2_len] at Ly1)
      clear hy1
      obtain ⟨y2, hy2⟩ : ∃ z_, y1 ++ bl s = z_ := ⟨_, rfl⟩
      have Hy2 := Hd.mk hy2
      have ha2 : ∀ W, (Op.stringOp .add (bs (y1)) s).run Tryd.prog W = .ok (.string (bs y2)) W := by rw [← hy2]; exact add_str _ _ (by have := HYL.out; have := Ly1.out; omega)
      have Ly2 : Hd (y2.length = (y1).length + (s).size) := ⟨by rw [← hy2, List.length_append, bl_len]⟩
      clear hy2
      go_wp2
      refine wp_region_can (.q [0, 1, 2, 3, 4, 5, 6, 9, 10, 11, 12, 13] (.e 7 true (.q [8, 14, 15] (.done)))) (clsB _) (by kernel_rfl) (by kernel_rfl) (by intro _ _ d _ _ h; cases d <;> exact h) (clsB_drew _) ?_
      refine can_q (l := [⟨_,_,_,_,_,_⟩, ⟨_,_,_,_,_,_⟩, ⟨_,_,_,_,_,_⟩, ⟨_,_,_,_,_,_⟩, ⟨_,_,_,_,_,_⟩, ⟨_,_,_,_,_,_⟩, ⟨_,_,_,_,_,_⟩, ⟨_,_,_,_,_,_⟩, ⟨_,_,_,_,_,_⟩, ⟨_,_,_,_,_,_⟩, ⟨_,_,_,_,_,_⟩, ⟨_,_,_,_,_,_⟩]) rfl ?_
      repeat (go_big_quiet_step (fail))
      refine wpQuiet_nil ?_
      refine can_e (o := ⟨_,_,_,_,_,_⟩) rfl (fun K hK => ?_)
      go_wp2_with (go_at_call 41; go_must (refine Calls.mono (rone_calls _ _) ?_; rintro e wE ⟨rfl, hb_⟩; have HBwE := Hd.mk (below_undrew hb_); clear hb_))
      refine onK_normal (hK _ _ ⟨clsB _, clsB_of (by first | exact (HBwE.out) | exact below_undrew (HBwE.out)), fun _ _ h => h, ?_⟩)
      clear hK K
      refine can_q (l := [⟨_,_,_,_,_,_⟩, ⟨_,_,_,_,_,_⟩, ⟨_,_,_,_,_,_⟩]) rfl ?_
      repeat (go_big_quiet_step (fail))
      refine wpQuiet_nil ?_
      refine can_done ?_
      go_wp2
      go_roundw
      case rel => exact ⟨k + 1, by omega, by go_num, by rw [HZ.out, ← List.append_assoc, HY.out]; unfold wtext; rw [← List.append_assoc, Hy1.out, Hy2.out], ⟨below_seq HB.out HBwE.out⟩⟩
      case measure => simp [intOf]; omega
    · obtain rfl : k = n1 := by omega
      obtain ⟨y, hy⟩ : ∃ y, h1 ++ (l.modes.take k).flatMap wtext = y := ⟨_, rfl⟩
      have HYL : Hd (y.length ≤ 1004) := ⟨by rw [← hy, List.length_append]; have := HL1.out; have := HRB.out.modes_len k; omega⟩
      have HY : Hd (h1 ++ l.modes.flatMap wtext = y) := ⟨by rw [← hy, Df.take_all HN1.out]⟩
      rw [hy]
      clear hy
      obtain ⟨h2, hh2⟩ : ∃ z_, y ++ w1 n3 = z_ := ⟨_, rfl⟩
      have Hh2 := Hd.mk hh2
      have ha1 : ∀ W, (Op.stringOp .add (bs (y)) (bs (w1 n3))).run Tryd.prog W = .ok (.string (bs h2)) W := by rw [← hh2]; exact add_bs _ _ (by (try simp only [w1_len, w2_len]); have := HYL.out; omega)
      have Lh2 : Hd (h2.length = (y).length + (w1 n3).length) := ⟨by rw [← hh2, List.length_append]⟩
      (try simp only [w1_len, w2_len] at Lh2)
      clear hh2
      go_wp2_with (go_at_call 41; go_must (refine Calls.mono (rone_calls _ _) ?_; rintro e wE ⟨rfl, hb_⟩; have HB1 := Hd.mk (below_seq HB.out hb_); clear hb_))
      clear hxac0 hxaf0 hxac1 hxaf1 hxac2 hxaf2 hxal
      clear ha1 hxa HB
      obtain ⟨wq, rfl⟩ : ∃ x, x = wr := ⟨_, rfl⟩
      go_loopw [3, 5] (fun s i wr => ∃ j : Nat, j ≤ n3 ∧ i = .int .i64 j ∧ s = .string (bs (h2 ++ (l.acts.take j).flatMap wact)) ∧ Hd (Below W0.heap.size W0 wr)) (fun s i _ => n3 - (intOf i).toNat)
      case atStart => exact ⟨0, Nat.zero_le _, rfl, by rw [List.take_zero, List.flatMap_nil, List.append_nil], HB1⟩
      case round =>
        obtain ⟨j, hj, rfl, rfl, HB⟩ := hrel
        have hxa := blk_below HX.out HB.out
        have hxac0 := blk_cell hxa 0 _ rfl; have hxaf0 := blk_frozen hxa 0; have hxac1 := blk_cell hxa 1 _ rfl; have hxaf1 := blk_frozen hxa 1; have hxac2 := blk_cell hxa 2 _ rfl; have hxaf2 := blk_frozen hxa 2; have hxal := blk_lt hxa
        obtain ⟨y9, hy⟩ : ∃ y, h2 ++ (l.acts.take j).flatMap wact = y := ⟨_, rfl⟩
        have HYL2 : Hd (y9.length ≤ 12000) := ⟨by rw [← hy, List.length_append]; have := HYL.out; have := Lh2.out; have := HRB.out.acts_len j; omega⟩
        have HY2 := Hd.mk hy
        rw [hy]
        clear hy
        by_cases hlt : j < n3
        · obtain ⟨b1, o1, s, g, rfl, hb1, -, ha, hcs, hcg⟩ := act_get (HLW.out.below HB.out).acts j hlt
          have hac := HRB.out.ac (s, g) (List.mem_of_getElem? ha)
          have hsz : s.size ≤ 32 := hac.1
          have hg0 : -1 ≤ g := hac.2.1
          have hg1 : g < 16 := hac.2.2
          have HZ := Hd.mk (flat_snoc wact ha)
          clear ha hac
          obtain ⟨y1, hy1⟩ : ∃ z_, y9 ++ w1 s.size = z_ := ⟨_, rfl⟩
          have Hy1 := Hd.mk hy1
          have ha1 : ∀ W, (Op.stringOp .add (bs (y9)) (bs (w1 s.size))).run Tryd.prog W = .ok (.string (bs y1)) W := by rw [← hy1]; exact add_bs _ _ (by (try simp only [w1_len, w2_len]); have := HYL2.out; omega)
          have Ly1 : Hd (y1.length = (y9).length + (w1 s.size).length) := ⟨by rw [← hy1, List.length_append]⟩
          (try simp only [w1_len, w2_len] at Ly1)
          clear hy1
          obtain ⟨y2, hy2⟩ : ∃ z_, y1 ++ bl s = z_ := ⟨_, rfl⟩
          have Hy2 := Hd.mk hy2
          have ha2 : ∀ W, (Op.stringOp .add (bs (y1)) s).run Tryd.prog W = .ok (.string (bs y2)) W := by rw [← hy2]; exact add_str _ _ (by have := HYL2.out; have := Ly1.out; omega)
          have Ly2 : Hd (y2.length = (y1).length + (s).size) := ⟨by rw [← hy2, List.length_append, bl_len]⟩
          clear hy2
          obtain ⟨y3, hy3⟩ : ∃ z_, y2 ++ w1 (g + 1) = z_ := ⟨_, rfl⟩
          have Hy3 := Hd.mk hy3
          have ha3 : ∀ W, (Op.stringOp .add (bs (y2)) (bs (w1 (g + 1)))).run Tryd.prog W = .ok (.string (bs y3)) W := by rw [← hy3]; exact add_bs _ _ (by (try simp only [w1_len, w2_len]); have := HYL2.out; have := Ly1.out; have := Ly2.out; omega)
          have Ly3 : Hd (y3.length = (y2).length + (w1 (g + 1)).length) := ⟨by rw [← hy3, List.length_append]⟩
          (try simp only [w1_len, w2_len] at Ly3)
          clear hy3
          go_wp2
          refine wp_region_can (.q [0, 1, 2, 3, 4, 5, 6, 7, 10, 11, 12, 13, 14, 15, 17, 18, 19, 20, 21, 22, 23] (.e 8 true (.q [9, 16] (.e 24 true (.q [25, 26] (.done)))))) (clsB _) (by kernel_rfl) (by kernel_rfl) (by intro _ _ d _ _ h; cases d <;> exact h) (clsB_drew _) ?_
          refine can_q (l := [⟨_,_,_,_,_,_⟩, ⟨_,_,_,_,_,_⟩, ⟨_,_,_,_,_,_⟩, ⟨_,_,_,_,_,_⟩, ⟨_,_,_,_,_,_⟩, ⟨_,_,_,_,_,_⟩, ⟨_,_,_,_,_,_⟩, ⟨_,_,_,_,_,_⟩, ⟨_,_,_,_,_,_⟩, ⟨_,_,_,_,_,_⟩, ⟨_,_,_,_,_,_⟩, ⟨_,_,_,_,_,_⟩, ⟨_,_,_,_,_,_⟩, ⟨_,_,_,_,_,_⟩, ⟨_,_,_,_,_,_⟩, ⟨_,_,_,_,_,_⟩, ⟨_,_,_,_,_,_⟩, ⟨_,_,_,_,_,_⟩, ⟨_,_,_,_,_,_⟩, ⟨_,_,_,_,_,_⟩, ⟨_,_,_,_,_,_⟩]) rfl ?_
          repeat (go_big_quiet_step (fail))
          refine wpQuiet_nil ?_
          refine can_e (o := ⟨_,_,_,_,_,_⟩) rfl (fun K hK => ?_)
          go_wp2_with (go_at_call 41; go_must (refine Calls.mono (rone_calls _ _) ?_; rintro e wE ⟨rfl, hb_⟩; have HBwE := Hd.mk (below_undrew hb_); clear hb_))
          refine onK_normal (hK _ _ ⟨clsB _, clsB_of (by first | exact (HBwE.out) | exact below_undrew (HBwE.out)), fun _ _ h => h, ?_⟩)
          clear hK K
          refine can_q (l := [⟨_,_,_,_,_,_⟩, ⟨_,_,_,_,_,_⟩]) rfl ?_
          repeat (go_big_quiet_step (fail))
          refine wpQuiet_nil ?_
          refine can_e (o := ⟨_,_,_,_,_,_⟩) rfl (fun K hK => ?_)
          go_wp2_with (go_at_call 41; go_must (refine Calls.mono (rone_calls _ _) ?_; rintro e wF ⟨rfl, hb_⟩; have HBwF := Hd.mk (below_seq HBwE.out hb_); clear hb_))
          refine onK_normal (hK _ _ ⟨clsB _, clsB_of (by first | exact (HBwF.out) | exact below_undrew (HBwF.out)), fun _ _ h => h, ?_⟩)
          clear hK K
          refine can_q (l := [⟨_,_,_,_,_,_⟩, ⟨_,_,_,_,_,_⟩]) rfl ?_
          repeat (go_big_quiet_step (fail))
          refine wpQuiet_nil ?_
          refine can_done ?_
          go_wp2
          go_roundw
          case rel => exact ⟨j + 1, by omega, by go_num, by rw [HZ.out, ← List.append_assoc, HY2.out]; unfold wact wtext; rw [← List.append_assoc, ← List.append_assoc, Hy1.out, Hy2.out, Hy3.out], ⟨below_seq HB.out HBwF.out⟩⟩
          case measure => simp [intOf]; omega
        · obtain rfl : j = n3 := by omega
          have HY3 : Hd (h2 ++ l.acts.flatMap wact = y9) := ⟨by rw [← HY2.out, Df.take_all HN3.out]⟩
          have HB1 := HB
          go_wp2
          clear hxac0 hxaf0 hxac1 hxaf1 hxac2 hxaf2 hxal
          clear hxa HB
          obtain ⟨wp, rfl⟩ : ∃ x, x = wr := ⟨_, rfl⟩
          go_loopw [3, 6] (fun s i wr => ∃ q : Nat, q ≤ n2 ∧ i = .int .i64 q ∧ s = .string (bs (y9 ++ (l.dfas.take q).flatMap wdfa)) ∧ Hd (Below W0.heap.size W0 wr)) (fun s i _ => n2 - (intOf i).toNat)
          case atStart => exact ⟨0, Nat.zero_le _, rfl, by rw [List.take_zero, List.flatMap_nil, List.append_nil], HB1⟩
          case round =>
            obtain ⟨q, hq, rfl, rfl, HB⟩ := hrel
            have hxa := blk_below HX.out HB.out
            have hxac0 := blk_cell hxa 0 _ rfl; have hxaf0 := blk_frozen hxa 0; have hxac1 := blk_cell hxa 1 _ rfl; have hxaf1 := blk_frozen hxa 1; have hxac2 := blk_cell hxa 2 _ rfl; have hxaf2 := blk_frozen hxa 2; have hxal := blk_lt hxa
            obtain ⟨x0, hy⟩ : ∃ y, y9 ++ (l.dfas.take q).flatMap wdfa = y := ⟨_, rfl⟩
            have HXL : Hd (x0.length ≤ 11000000) := ⟨by rw [← hy, List.length_append]; have := HYL2.out; have := HRB.out.dfas_len q; omega⟩
            have HX0 := Hd.mk hy
            rw [hy]
            clear hy
            by_cases hlt : q < n2
            · obtain ⟨b9, off, d, B1, B2, B3, e1, e2, e3, rfl, hb9, ht, hc0, hc1, hc2, hc3, hc4, hd⟩ := d_get (HLW.out.below HB.out).lt (HLW.out.below HB.out).dfas q hlt
              have HDB := Hd.mk (HRB.out.ds d (List.mem_of_getElem? ht))
              have HZD := Hd.mk (flat_snoc wdfa ht)
              have HD := Hd.mk hd
              have hle1 := hd.cls.le; have hle2 := hd.nxt.le; have hle3 := hd.tag.le
              clear hd ht
              obtain ⟨m1, hm1'⟩ : ∃ x, d.cls.length = x := ⟨_, rfl⟩
              obtain ⟨m2, hm2'⟩ : ∃ x, d.nxt.length = x := ⟨_, rfl⟩
              obtain ⟨m3, hm3'⟩ : ∃ x, d.tag.length = x := ⟨_, rfl⟩
              obtain ⟨wd, hwd⟩ : ∃ x, d.wid = x := ⟨_, rfl⟩
              obtain ⟨st, hst⟩ : ∃ x, d.st = x := ⟨_, rfl⟩
              have hm256 : m1 = 256 := by rw [← hm1']; exact HDB.out.cl
              have hm1024 : m2 ≤ 1024 := by rw [← hm2']; exact HDB.out.nl
              have hm32 : m3 = m2 := by rw [← hm3', ← hm2']; exact HDB.out.tl
              have hst0 : -1 ≤ st := by rw [← hst]; exact HDB.out.st0
              have hst1 : st < 1024 := by rw [← hst]; exact HDB.out.st1
              rw [hm1', hm2', hm3'] at HD
              rw [hm1'] at hc0 hle1
              rw [hwd] at hc1
              rw [hm2'] at hc2 hle2
              rw [hm3'] at hc3 hle3
              rw [hst] at hc4
              have HNM := Hd.mk (And.intro hm256 hm32)
              have HM2 := Hd.mk hm2'; have HM3 := Hd.mk hm3'; have HST := Hd.mk hst
              clear hm1' hm2' hm3' hwd hst hm256 hm32
              go_upto_region 15 with fail
              generalize hU : World.alloc wr _ = U
              have hBU : Below wr.heap.size wr U := by rw [← hU]; exact below_alloc (Below.refl _ _) _
              have hy : U.heap[wr.heap.size]? = some (.cells #[.slice B1 m1 e1, .int .i64 wd, .slice B2 m2 e2, .slice B3 m3 e3, .int .i64 st] 47 (0, 0)) := by rw [← hU]; exact blk_new _ _ _ rfl
              have HYU := Hd.mk hy
              have HDU := Hd.mk (HD.out.below hBU)
              have HBU := Hd.mk (below_seq HB.out hBU)
              clear hxac0 hxaf0 hxac1 hxaf1 hxac2 hxaf2 hxal
              clear hU hc0 hc1 hc2 hc3 hc4 hxa hBU HD HB
              have hyc0 := blk_cell hy 0 _ rfl; have hyf0 := blk_frozen hy 0; have hyc1 := blk_cell hy 1 _ rfl; have hyf1 := blk_frozen hy 1; have hyc2 := blk_cell hy 2 _ rfl; have hyf2 := blk_frozen hy 2; have hyc3 := blk_cell hy 3 _ rfl; have hyf3 := blk_frozen hy 3; have hyc4 := blk_cell hy 4 _ rfl; have hyf4 := blk_frozen hy 4; have hyl := blk_lt hy
              obtain ⟨cl, hcl⟩ : ∃ z, wcl 0 d.cls = z := ⟨_, rfl⟩
              have HCL := Hd.mk hcl
              have HCLL : Hd (cl.length ≤ 512) := ⟨by rw [← hcl]; have := wcl_len 0 d.cls; rw [HDB.out.cl] at this; exact this⟩
              have HJC : Hd (∀ W, Below U.heap.size U W → Calls Tryd.prog 42 #[.slice B1 m1 e1] W fun e w' => e = .returned (.string (bs cl)) ∧ Below W.heap.size W w') := ⟨fun W hb => by rw [← HCL.out]; exact rclass_calls B1 m1 e1 d.cls S W (HDU.out.below hb).lt (HDU.out.below hb).cls (by have := HNM.out.1; omega)⟩
              clear hcl
              obtain ⟨y1, hy1⟩ : ∃ z_, x0 ++ cl = z_ := ⟨_, rfl⟩
              have Hy1 := Hd.mk hy1
              have ha1 : ∀ W, (Op.stringOp .add (bs (x0)) (bs (cl))).run Tryd.prog W = .ok (.string (bs y1)) W := by rw [← hy1]; exact add_bs _ _ (by (try simp only [w1_len, w2_len]); have := HXL.out; have := HCLL.out; omega)
              have Ly1 : Hd (y1.length = (x0).length + (cl).length) := ⟨by rw [← hy1, List.length_append]⟩
              (try simp only [w1_len, w2_len] at Ly1)
              clear hy1
              obtain ⟨y2, hy2⟩ : ∃ z_, y1 ++ w2 m2 = z_ := ⟨_, rfl⟩
              have Hy2 := Hd.mk hy2
              have ha2 : ∀ W, (Op.stringOp .add (bs (y1)) (bs (w2 m2))).run Tryd.prog W = .ok (.string (bs y2)) W := by rw [← hy2]; exact add_bs _ _ (by (try simp only [w1_len, w2_len]); have := HXL.out; have := HCLL.out; have := Ly1.out; omega)
              have Ly2 : Hd (y2.length = (y1).length + (w2 m2).length) := ⟨by rw [← hy2, List.length_append]⟩
              (try simp only [w1_len, w2_len] at Ly2)
              clear hy2
              obtain ⟨y3, hy3⟩ : ∃ z_, y2 ++ w2 (st + 1) = z_ := ⟨_, rfl⟩
              have Hy3 := Hd.mk hy3
              have ha3 : ∀ W, (Op.stringOp .add (bs (y2)) (bs (w2 (st + 1)))).run Tryd.prog W = .ok (.string (bs y3)) W := by rw [← hy3]; exact add_bs _ _ (by (try simp only [w1_len, w2_len]); have := HXL.out; have := HCLL.out; have := Ly1.out; have := Ly2.out; omega)
              have Ly3 : Hd (y3.length = (y2).length + (w2 (st + 1)).length) := ⟨by rw [← hy3, List.length_append]⟩
              (try simp only [w1_len, w2_len] at Ly3)
              clear hy3
              refine wp_region_can (.q [0, 1, 2, 5, 6, 7, 10, 11, 12] (.e 3 true (.q [4] (.e 8 true (.q [9] (.e 13 true (.q [14, 15] (.done)))))))) (clsB _) (by kernel_rfl) (by kernel_rfl) (by intro _ _ d _ _ h; cases d <;> exact h) (clsB_drew _) ?_
              refine can_q (l := [⟨_,_,_,_,_,_⟩, ⟨_,_,_,_,_,_⟩, ⟨_,_,_,_,_,_⟩, ⟨_,_,_,_,_,_⟩, ⟨_,_,_,_,_,_⟩, ⟨_,_,_,_,_,_⟩, ⟨_,_,_,_,_,_⟩, ⟨_,_,_,_,_,_⟩, ⟨_,_,_,_,_,_⟩]) rfl ?_
              repeat (go_big_quiet_step (fail))
              refine wpQuiet_nil ?_
              refine can_e (o := ⟨_,_,_,_,_,_⟩) rfl (fun K hK => ?_)
              go_wp2_with (go_at_call 42; go_must (refine Calls.mono (HJC.out _ (below_drew1 (Below.refl _ _))) ?_; rintro e wE ⟨rfl, hb_⟩; have HBwE := Hd.mk (below_undrew hb_); clear hb_))
              refine onK_normal (hK _ _ ⟨clsB _, clsB_of (by first | exact (HBwE.out) | exact below_undrew (HBwE.out)), fun _ _ h => h, ?_⟩)
              clear hK K
              refine can_q (l := [⟨_,_,_,_,_,_⟩]) rfl ?_
              repeat (go_big_quiet_step (fail))
              refine wpQuiet_nil ?_
              refine can_e (o := ⟨_,_,_,_,_,_⟩) rfl (fun K hK => ?_)
              go_wp2_with (go_at_call 43; go_must (refine Calls.mono (rtwo_calls _ _ (by omega) (by omega)) ?_; rintro e wF ⟨rfl, hb_⟩; have HBwF := Hd.mk (below_seq HBwE.out hb_); clear hb_))
              refine onK_normal (hK _ _ ⟨clsB _, clsB_of (by first | exact (HBwF.out) | exact below_undrew (HBwF.out)), fun _ _ h => h, ?_⟩)
              clear hK K
              refine can_q (l := [⟨_,_,_,_,_,_⟩]) rfl ?_
              repeat (go_big_quiet_step (fail))
              refine wpQuiet_nil ?_
              refine can_e (o := ⟨_,_,_,_,_,_⟩) rfl (fun K hK => ?_)
              go_wp2_with (go_at_call 43; go_must (refine Calls.mono (rtwo_calls _ _ (by omega) (by omega)) ?_; rintro e wG ⟨rfl, hb_⟩; have HBwG := Hd.mk (below_seq HBwF.out hb_); clear hb_))
              refine onK_normal (hK _ _ ⟨clsB _, clsB_of (by first | exact (HBwG.out) | exact below_undrew (HBwG.out)), fun _ _ h => h, ?_⟩)
              clear hK K
              refine can_q (l := [⟨_,_,_,_,_,_⟩, ⟨_,_,_,_,_,_⟩]) rfl ?_
              repeat (go_big_quiet_step (fail))
              refine wpQuiet_nil ?_
              refine can_done ?_
              go_wp2
              clear hyc0 hyf0 hyc1 hyf1 hyc2 hyf2 hyc3 hyf3 hyc4 hyf4 hyl
              clear ha1 ha2 ha3 hy
              have HLY3 : Hd (y3.length ≤ 11001000) := ⟨by have := HXL.out; have := HCLL.out; have := Ly1.out; have := Ly2.out; have := Ly3.out; omega⟩
              have HUL := Hd.mk (blk_lt HYU.out)
              obtain ⟨wo, rfl⟩ : ∃ x, x = wr := ⟨_, rfl⟩
              go_loopw [3, 8] (fun s i wr => ∃ k2 : Nat, k2 ≤ m2 ∧ i = .int .i64 k2 ∧ s = .string (bs (y3 ++ ((d.tag.zip d.nxt).take k2).flatMap wstate)) ∧ Hd (Below U.heap.size U wr)) (fun s i _ => m2 - (intOf i).toNat)
              case atStart => exact ⟨0, Nat.zero_le _, rfl, by rw [List.take_zero, List.flatMap_nil, List.append_nil], ⟨by first | exact HBwG.out | exact below_undrew HBwG.out⟩⟩
              case round =>
                obtain ⟨k2, hk2, rfl, rfl, HB⟩ := hrel
                have hya := blk_below HYU.out HB.out
                have hyac0 := blk_cell hya 0 _ rfl; have hyaf0 := blk_frozen hya 0; have hyac1 := blk_cell hya 1 _ rfl; have hyaf1 := blk_frozen hya 1; have hyac2 := blk_cell hya 2 _ rfl; have hyaf2 := blk_frozen hya 2; have hyac3 := blk_cell hya 3 _ rfl; have hyaf3 := blk_frozen hya 3; have hyac4 := blk_cell hya 4 _ rfl; have hyaf4 := blk_frozen hya 4; have hyal := blk_lt hya
                obtain ⟨x1, hx1⟩ : ∃ y, y3 ++ ((d.tag.zip d.nxt).take k2).flatMap wstate = y := ⟨_, rfl⟩
                have HX1L : Hd (x1.length ≤ 11600000) := ⟨by rw [← hx1, List.length_append]; have := HLY3.out; have := states_len HDB.out k2; have := Nat.mul_le_mul_right 513 (show k2 ≤ 1024 by omega); omega⟩
                have HX1 := Hd.mk hx1
                rw [hx1]
                clear hx1
                by_cases hlt2 : k2 < m2
                · obtain ⟨b1, o1, Ar, cr, r, rfl, hb1, hr, hcr, -, -, hrow⟩ := Df.rows_get (HDU.out.below HB.out).nxt k2 hlt2
                  obtain ⟨b2, o2, tg, rfl, -, hb2, htg, hct⟩ := (HDU.out.below HB.out).tag.get_int k2 (by have := HNM.out.2; omega)
                  have hk3 : k2 < m3 := by have := HNM.out.2; omega
                  have hlr := HDB.out.row r (List.mem_of_getElem? hr)
                  have hlt3 := HDB.out.tag tg (List.mem_of_getElem? htg)
                  have HRX := Hd.mk hlr.2
                  have hr256 := hlr.1
                  have ht0 : -1 ≤ tg := hlt3.1
                  have ht1 : tg < 128 := by have := hlt3.2; have := HRB.out.al; omega
                  have HZ := Hd.mk (flat_snoc wstate (zip_get htg hr))
                  obtain ⟨nr, hnr⟩ : ∃ x, r.length = x := ⟨_, rfl⟩
                  rw [hnr] at hcr hrow hr256
                  have HNR := Hd.mk hnr
                  have HROW := Hd.mk hrow
                  have HCR := Hd.mk hcr
                  have HSL := Hd.mk (HDU.out.below HB.out).lt
                  clear htg hr hlr hlt3 hnr hrow
                  obtain ⟨v1, hv1⟩ : ∃ z_, x1 ++ w1 (tg + 1) = z_ := ⟨_, rfl⟩
                  have Hv1 := Hd.mk hv1
                  have ha1 : ∀ W, (Op.stringOp .add (bs (x1)) (bs (w1 (tg + 1)))).run Tryd.prog W = .ok (.string (bs v1)) W := by rw [← hv1]; exact add_bs _ _ (by (try simp only [w1_len, w2_len]); have := HX1L.out; omega)
                  have Lv1 : Hd (v1.length = (x1).length + (w1 (tg + 1)).length) := ⟨by rw [← hv1, List.length_append]⟩
                  (try simp only [w1_len, w2_len] at Lv1)
                  clear hv1
                  go_wp2_with (go_at_call 41; go_must (refine Calls.mono (rone_calls _ _) ?_; rintro e wH ⟨rfl, hb_⟩; have HB1 := Hd.mk hb_; clear hb_))
                  clear hyac0 hyaf0 hyac1 hyaf1 hyac2 hyaf2 hyac3 hyaf3 hyac4 hyaf4 hyal
                  clear ha1 hya hcr hct
                  have HYR := Hd.mk (blk_below HYU.out HB.out)
                  obtain ⟨wm, rfl⟩ : ∃ x, x = wr := ⟨_, rfl⟩
                  go_loopw [3, 9] (fun s i wr => ∃ j2 : Nat, j2 ≤ nr ∧ i = .int .i64 j2 ∧ s = .string (bs (v1 ++ wrow (r.take j2))) ∧ Hd (Below wm.heap.size wm wr)) (fun s i _ => nr - (intOf i).toNat)
                  case atStart => exact ⟨0, Nat.zero_le _, rfl, by rw [List.take_zero]; show _ = Value.string (bs (v1 ++ [])); rw [List.append_nil], HB1⟩
                  case round =>
                    obtain ⟨j2, hj2, rfl, rfl, HB2⟩ := hrel
                    have hya := blk_below HYR.out HB2.out
                    have hyac0 := blk_cell hya 0 _ rfl; have hyaf0 := blk_frozen hya 0; have hyac1 := blk_cell hya 1 _ rfl; have hyaf1 := blk_frozen hya 1; have hyac2 := blk_cell hya 2 _ rfl; have hyaf2 := blk_frozen hya 2; have hyac3 := blk_cell hya 3 _ rfl; have hyaf3 := blk_frozen hya 3; have hyac4 := blk_cell hya 4 _ rfl; have hyaf4 := blk_frozen hya 4; have hyal := blk_lt hya
                    have hcr := cell_keep HCR.out HB2.out hb1
                    have hb1' := Nat.lt_of_lt_of_le hb1 HB2.out.size
                    by_cases hlj : j2 < nr
                    · obtain ⟨b3, o3, x, rfl, -, hb3, hxr, hcx⟩ := (HROW.out.below HSL.out HB2.out).get_int j2 hlj
                      have hbx := HRX.out x (List.mem_of_getElem? hxr)
                      have hx0 : -1 ≤ x := hbx.1
                      have hx9 : x < 1024 := hbx.2
                      have HWS := Hd.mk (wrow_snoc hxr)
                      clear hxr hbx
                      obtain ⟨x2, hx2⟩ : ∃ y, v1 ++ wrow (r.take j2) = y := ⟨_, rfl⟩
                      have HX2L : Hd (x2.length ≤ 11700000) := ⟨by rw [← hx2, List.length_append, wrow_len, List.length_take]; have := HX1L.out; have := Lv1.out; omega⟩
                      have HX2 := Hd.mk hx2
                      rw [hx2]
                      clear hx2
                      obtain ⟨v2, hv2⟩ : ∃ z_, x2 ++ w2 (x + 1) = z_ := ⟨_, rfl⟩
                      have Hv2 := Hd.mk hv2
                      have ha1 : ∀ W, (Op.stringOp .add (bs (x2)) (bs (w2 (x + 1)))).run Tryd.prog W = .ok (.string (bs v2)) W := by rw [← hv2]; exact add_bs _ _ (by (try simp only [w1_len, w2_len]); have := HX2L.out; omega)
                      have Lv2 : Hd (v2.length = (x2).length + (w2 (x + 1)).length) := ⟨by rw [← hv2, List.length_append]⟩
                      (try simp only [w1_len, w2_len] at Lv2)
                      clear hv2
                      go_wp2_with (go_at_call 43; go_must (refine Calls.mono (rtwo_calls _ _ (by omega) (by omega)) ?_; rintro e wI ⟨rfl, hb_⟩; have HB3 := Hd.mk (below_seq HB2.out hb_); clear hb_))
                      go_roundw
                      case rel => exact ⟨j2 + 1, by omega, by go_num, by rw [HWS.out, ← List.append_assoc, HX2.out, Hv2.out], HB3⟩
                      case measure => simp [intOf]; omega
                    · obtain rfl : j2 = nr := by omega
                      go_wp2
                      go_roundw
                      case rel => exact ⟨k2 + 1, by omega, by go_num, by rw [HZ.out, ← List.append_assoc, HX1.out]; unfold wstate; rw [← List.append_assoc, Hv1.out, Df.take_all HNR.out], ⟨below_seq HB.out HB2.out⟩⟩
                      case measure => simp [intOf]; omega
                · obtain rfl : k2 = m2 := by omega
                  have HED : Hd (x0 ++ wdfa d = x1) := ⟨by rw [← HX1.out, List.take_of_length_le (by rw [List.length_zip, HM2.out]; omega), ← Hy3.out, ← Hy2.out, ← Hy1.out, ← HCL.out]; unfold wdfa; rw [HM2.out, HST.out]; simp only [List.append_assoc]⟩
                  go_wp2
                  go_roundw
                  case rel => exact ⟨q + 1, by omega, by go_num, by rw [HZD.out, ← List.append_assoc, HX0.out, HED.out], ⟨below_seq HBU.out HB.out⟩⟩
                  case measure => simp [intOf]; omega
            · obtain rfl : q = n2 := by omega
              have HEND : Hd (putL l = x0) := ⟨by rw [← HX0.out, Df.take_all HN2.out, ← HY3.out, ← Hh2.out, ← HY.out, ← HH1.out]; unfold putL; rw [HN1.out, HN3.out]⟩
              go_wp2
              go_ret
              exact ⟨by rw [HEND.out]; rfl, below_seq HBW.out HB.out⟩
end Go.Proofs.YtpcnekdilecakaaDoor.Tb
