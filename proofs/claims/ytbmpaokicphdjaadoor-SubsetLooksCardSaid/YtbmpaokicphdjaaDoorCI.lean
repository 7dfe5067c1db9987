/- Texts: C26, C27. -/
import Derived.Test.YtbmpaokicphdjaaDoorCH
import Derived.Test.YtbmpaokicphdjaaDoorB24
set_option linter.unusedVariables false
set_option linter.unusedSimpArgs false
/- ClosureRuns: the walk. -/
namespace Go.Proofs.YtbmpaokicphdjaaDoor.Fn
open Go Go.RowKit Go.Proofs.YtbmpaokicphdjaaDoor.Can Go.Proofs.YtbmpaokicphdjaaDoor.Base
attribute [local go_sem] clsB AB.cell

theorem CRunC (st : Int) (A : Option Addr) (n c : Nat) (q : List St) (S : Nat → Prop) (t : ByteArray) (w : World) (hn : q.length = n) (hN : NF w S A q) (h3 : n ≤ 300) (ht : t.size ≤ 1000) (hT : TabAt 0 Lib.deBruijn64tab w) (h0 : 0 < w.heap.size) :
    Calls Tryd.prog 42 #[.agg #[.int .i64 st, .slice A n c], .string t] w fun e w' => e = .returned (.tuple #[.int .i64 (if okN st q then bestM q (runM st q (bl t)) else -1), .int .i64 (if okN st q then 0 else 3)]) ∧ Below w.heap.size w w' := by
  have hc := checkV_small (st := st) (q := q) (by omega)
  by_cases hok : okN st q
  · rw [if_pos hok] at hc
    rw [if_pos hok, if_pos hok]
    exact run_ok st A n c q S t w hn hN hc ht hT h0
  · rw [if_neg hok] at hc
    rw [if_neg hok, if_neg hok]
    have := run_bad st A c q S t w hN (by rw [hc]; decide)
    rw [hn, hc] at this
    exact this
set_option maxRecDepth 20000 in
set_option maxHeartbeats 8000000 in
theorem cruns_calls (st : Int) (A : Option Addr) (n c : Nat) (q : List St) (S : Nat → Prop) (t more : ByteArray) (w : World) (hn : q.length = n) (hN : NF w S A q) (hT : TabAt 0 Lib.deBruijn64tab w) (h0 : 0 < w.heap.size) :
    Calls Tryd.prog 7 #[.agg #[.int .i64 st, .slice A n c], .string t, .string more] w fun e w' => e = .returned (.bool true) ∧ Below w.heap.size w w' := by
  have HTB : Hd (∀ {W : World}, Below w.heap.size w W → TabAt 0 Lib.deBruijn64tab W) := ⟨fun hb j hj => (hb.cell (p := ⟨0, j, none⟩) h0).trans (hT j hj)⟩
  have H0 : Hd (∀ {W : World}, Below w.heap.size w W → 0 < W.heap.size) := ⟨fun hb => Nat.lt_of_lt_of_le h0 hb.size⟩
  have HNF : Hd (∀ {W : World}, Below w.heap.size w W → NF W S A q) := ⟨fun hb => hN.below hb⟩
  obtain ⟨tn, htn⟩ : ∃ m, t.size = m := ⟨_, rfl⟩
  obtain ⟨mn, hmn⟩ : ∃ m, more.size = m := ⟨_, rfl⟩
  have HTN := Hd.mk htn; have HMN := Hd.mk hmn; have HN := Hd.mk hn
  have HFA := Hd.mk (far_calls st A n c q S (w.alloc (.cells #[.int .i64 st, .slice A n c] 58)) hn (hN.below (below_alloc (Below.refl _ _) _)))
  clear hT h0 hN hn
  go_enter Tryd.func7, Tryd.ntmps7
  go_upto_region 1 with fail
  go_cut [23] (fun v wx => ∃ gg : Bool, v = .bool gg ∧ Hd (gg = false → n ≤ 300 ∧ tn ≤ 20 ∧ mn ≤ 10) ∧ Hd (wx.heap[w.heap.size]? = some (.cells #[.int .i64 st, .slice A n c] 58 (0, 0))) ∧ Hd (Below w.heap.size w wx))
  case first =>
    go_wp2_with
      (go_at_call 40; go_must (refine Calls.mono HFA.out ?_; rintro e w1 ⟨⟨fb, rfl, hfb⟩, hb_⟩; have HFB := Hd.mk hfb; have HB1 := Hd.mk (below_seq (below_alloc (Below.refl w.heap.size w) _) hb_); have hbx := blk_below (blk_new w (.cells #[.int .i64 st, .slice A n c] 58) _ rfl) hb_; have hbxc0 := blk_cell hbx 0 _ rfl; have hbxf0 := blk_frozen hbx 0; have hbxc1 := blk_cell hbx 1 _ rfl; have hbxf1 := blk_frozen hbx 1; have hbxl := blk_lt hbx; clear hb_ hfb))
    all_goals (go_meet; case rel => exact ⟨_, rfl, ⟨fun hg => by first | cases hg | (simp at hg; exact ⟨HFB.out (by first | rfl | assumption | simp_all), by omega, by omega⟩)⟩, ⟨hbx⟩, HB1⟩)
  case rest =>
  obtain ⟨gg, rfl, HGG, HBX, HB1⟩ := hcut
  clear HFA
  generalize wc = w1 at *
  have hbx := HBX.out
  have hbxc0 := blk_cell hbx 0 _ rfl; have hbxf0 := blk_frozen hbx 0; have hbxc1 := blk_cell hbx 1 _ rfl; have hbxf1 := blk_frozen hbx 1; have hbxl := blk_lt hbx
  cases gg with
  | true =>
    go_wp2_with
      (go_at_call 41; go_must (refine Calls.mono (closeL_calls w1 (HTB.out HB1.out) (H0.out HB1.out)) ?_; rintro e w9 ⟨rfl, hb_⟩; have HB9 := Hd.mk (below_seq HB1.out hb_); clear hb_))
    go_ret
    exact ⟨rfl, HB9.out⟩
  | false =>
    obtain ⟨hn3, ht2, hm2⟩ := HGG.out rfl
    have HRUN := Hd.mk (CRunC st A n c q S t w1 HN.out (HNF.out HB1.out) hn3 (by have := HTN.out; omega) (HTB.out HB1.out) (H0.out HB1.out))
    by_cases hok : okN st q
    · have HOK := Hd.mk hok
      rw [if_pos hok, if_pos hok] at HRUN
      have HRR := Hd.mk (fun (W : World) (hb : Below w.heap.size w W) => rright_calls st A n c q S W HN.out (HNF.out hb))
      rw [decide_eq_true hok] at HRR
      have hchk : checkV st q = 0 := by rw [checkV_small (by rw [HN.out]; omega), if_pos hok]
      have HCK := Hd.mk hchk
      have hn6 : n ≤ 65536 := by omega
      have HN6 := Hd.mk hn6
      have HST : Hd (∀ W : World, Below w.heap.size w W → _) := ⟨fun W hb => start_ok st A c q S W (HNF.out hb) hchk⟩
      obtain ⟨r, hr⟩ : ∃ r, bestM q (runM st q (bl t)) = r := ⟨_, rfl⟩
      rw [hr] at HRUN
      have HR := Hd.mk hr
      unfold setV at HST
      rw [HN.out] at HST
      obtain ⟨K, hK⟩ : ∃ K, (n + 63) / 64 = K := ⟨_, rfl⟩
      rw [hK] at HST
      have HK := Hd.mk hK
      clear hok hchk hr hK hn6
      go_wp2_with (first
        | (go_at_call 44; go_must (refine Calls.mono (HST.out w3 HB3.out) ?_; rintro e w4 ⟨g0, ws0, rfl, hs1, hm1, hb_⟩; have HS1 := Hd.mk hs1; have HM1 := Hd.mk hm1; have hz1 := hb_.size; have HB4 := Hd.mk (below_seq HB3.out hb_); have hbx4 := blk_below hbx3 hb_; clear hbx3c0 hbx3f0 hbx3c1 hbx3f1 hbx3l; clear hb_ hs1 hm1))
        | (go_at_call 43; go_must (refine Calls.mono (HRR.out w2 HB2.out) ?_; rintro e w3 ⟨rfl, hb_⟩; have HB3 := Hd.mk (below_seq HB2.out hb_); have hbx3 := blk_below hbx2 hb_; clear hbx2c0 hbx2f0 hbx2c1 hbx2f1 hbx2l; have hbx3c0 := blk_cell hbx3 0 _ rfl; have hbx3f0 := blk_frozen hbx3 0; have hbx3c1 := blk_cell hbx3 1 _ rfl; have hbx3f1 := blk_frozen hbx3 1; have hbx3l := blk_lt hbx3; clear hb_))
        | (go_at_call 42; go_must (refine Calls.mono HRUN.out ?_; rintro e w2 ⟨rfl, hb_⟩; have HB2 := Hd.mk (below_seq HB1.out hb_); have hbx2 := blk_below hbx hb_; clear hbxc0 hbxf0 hbxc1 hbxf1 hbxl; have hbx2c0 := blk_cell hbx2 0 _ rfl; have hbx2f0 := blk_frozen hbx2 0; have hbx2c1 := blk_cell hbx2 1 _ rfl; have hbx2f1 := blk_frozen hbx2 1; have hbx2l := blk_lt hbx2; clear hb_)))
      have hz4 := HB4.out.size
      generalize hX : World.alloc w4 _ = X
      have hbx9 : X.heap[w4.heap.size]? = some (.cells #[.slice (some ⟨g0, 0, none⟩) K K, .int .i64 n] 28 (0, 0)) := by rw [← hX]; exact blk_new _ _ _ rfl
      have hyx : X.heap[w.heap.size]? = some (.cells #[.int .i64 st, .slice A n c] 58 (0, 0)) := by rw [← hX]; exact blk_alloc hbx4 _
      have HBX9 : Hd (Below w.heap.size w X) := ⟨by rw [← hX]; exact below_seq HB4.out (below_alloc (Below.refl _ _) _)⟩
      have HSX : Hd (SetA X 0 g0 n ws0) := ⟨by rw [← hX]; exact (HS1.out.mono (Nat.zero_le _)).below (below_alloc (Below.refl _ _) _)⟩
      have hgx : g0 ≠ w4.heap.size := by have := HS1.out.hi; omega
      have hw0 : w.heap.size < w4.heap.size := blk_lt hbx4
      obtain ⟨B0, hB0⟩ : ∃ b, w4.heap.size = b := ⟨_, rfl⟩
      rw [hB0] at hbx9 hgx hz4 hw0 ⊢
      clear hX hB0 hbx4 hbx3 hbx2 hbx HB1 HB2 HB3 HB4 HS1 hz1 HBX HRR HRUN HST HGG
      have HBOX := Hd.mk hbx9; have HYX := Hd.mk hyx
      clear hbx9 hyx
      go_wp2
      go_loopw [11] (fun i wr => ∃ (k g : Nat) (ws : List Nat), k ≤ tn ∧ i = .int .i64 k ∧ Hd (wr.heap[B0]? = some (.cells #[.slice (some ⟨g, 0, none⟩) K K, .int .i64 n] 28 (0, 0))) ∧ Hd (wr.heap[w.heap.size]? = some (.cells #[.int .i64 st, .slice A n c] 58 (0, 0))) ∧ Hd (SetA wr 0 g n ws) ∧ Hd (g ≠ B0) ∧ Hd (marksW n ws = runM st q ((bl t).take k)) ∧ Hd (Below w.heap.size w wr)) (fun i _ => tn - (intOf i).toNat)
      case atStart => exact ⟨0, g0, ws0, Nat.zero_le _, rfl, HBOX, HYX, HSX, ⟨hgx⟩, ⟨by rw [List.take_zero, HM1.out]; rfl⟩, HBX9⟩
      case round =>
        clear HBOX HYX HSX hgx HBX9 HM1
        obtain ⟨k, g, ws, hk, rfl, HBOX, HYX, HSX, HGX, HM, HB⟩ := hrel
        have hgx := HGX.out
        have hbx := HBOX.out; have hyx := HYX.out
        have hbxc0 := blk_cell hbx 0 _ rfl; have hbxf0 := blk_frozen hbx 0; have hbxc1 := blk_cell hbx 1 _ rfl; have hbxf1 := blk_frozen hbx 1; have hbxl := blk_lt hbx
        have hyxc0 := blk_cell hyx 0 _ rfl; have hyxf0 := blk_frozen hyx 0; have hyxc1 := blk_cell hyx 1 _ rfl; have hyxf1 := blk_frozen hyx 1; have hyxl := blk_lt hyx
        have hzr := HB.out.size
        have hbw := blk_lt HBOX.out
        have hgh := HSX.out.hi
        have HKL : Hd (ws.length = K) := ⟨by rw [HSX.out.ok.len]; exact HK.out⟩
        by_cases hlt : k < tn
        · obtain ⟨b9, hb9⟩ : ∃ b, (bl t)[k]? = some b := ⟨_, List.getElem?_eq_getElem (by rw [bl_len, HTN.out]; exact hlt)⟩
          have HT : Hd ((bl t).take (k + 1) = (bl t).take k ++ [b9]) := ⟨by rw [List.take_add_one, hb9]; rfl⟩
          have hix : ∀ W, (Instr.index 9 (.string t) (.int .i64 k)).run Tryd.prog W = .ok (.int .u8 (b9.toNat : Int)) W := index_at t k b9 hb9
          have h8 := step_ok st A c q S g n K b9.toNat b9.toNat_lt ws wr.drew (HNF.out (below_drew1 HB.out)) HCK.out HSX.out.ok (HSX.out.wd.move rfl) (by rw [size_drew]; exact hgh) (HTB.out (below_drew1 HB.out)) (H0.out (below_drew1 HB.out))
          unfold setV at h8
          rw [HN.out, HKL.out, HK.out] at h8
          have HJ := Hd.mk h8
          clear h8 hb9
          go_wp2
          refine wp_region_can (.q [0, 1, 2, 3, 4] (.e 5 false (.q [6, 7, 8] (.e 9 false (.done))))) (clsB _) (by kernel_rfl) (by kernel_rfl) (by intro _ _ d _ _ h; cases d <;> exact h) (clsB_drew _) ?_
          refine can_q (l := [⟨_,_,_,_,_,_⟩, ⟨_,_,_,_,_,_⟩, ⟨_,_,_,_,_,_⟩, ⟨_,_,_,_,_,_⟩, ⟨_,_,_,_,_,_⟩]) rfl ?_
          repeat (go_big_quiet_step (fail))
          refine wpQuiet_nil ?_
          refine can_e (o := ⟨_,_,_,_,_,_⟩) rfl (fun K hK => ?_)
          go_wp2_with (go_at_call 45; go_must (refine Calls.mono HJ.out ?_; rintro e w3 ⟨g3, ws3, rfl, hs3, hm3, hb3⟩; rw [size_drew] at hs3; have HS3 := Hd.mk hs3; have HM3 := Hd.mk hm3; have HB3 := Hd.mk (below_undrew hb3); have hbx3 := blk_below hbx HB3.out; have hyx3 := blk_below hyx HB3.out; clear hs3 hm3 hb3))
          refine onK_normal (hK _ _ ⟨fun _ => True, trivial, (fun h => by cases h), ?_⟩)
          clear hK K
          refine can_q (l := [⟨_,_,_,_,_,_⟩, ⟨_,_,_,_,_,_⟩, ⟨_,_,_,_,_,_⟩]) rfl ?_
          repeat (go_big_quiet_step (fail))
          refine wpQuiet_nil ?_
          clear hbxc0 hbxf0 hbxc1 hbxf1 hbxl
          clear hyxc0 hyxf0 hyxc1 hyxf1 hyxl
          have hbx3c0 := blk_cell hbx3 0 _ rfl; have hbx3f0 := blk_frozen hbx3 0; have hbx3c1 := blk_cell hbx3 1 _ rfl; have hbx3f1 := blk_frozen hbx3 1; have hbx3l := blk_lt hbx3
          refine can_e (o := ⟨_,_,_,_,_,_⟩) rfl (fun K hK => ?_)
          go_wp2_with fail
          refine onK_normal (hK _ _ ⟨fun _ => True, trivial, (fun h => by cases h), ?_⟩)
          clear hK K
          refine can_done ?_
          go_wp2
          have hg3 := HS3.out.lo
          go_roundw
          case rel =>
            refine ⟨k + 1, g3, ws3, by omega, by go_num, ⟨blk_set (blk_set hbx3 0 _ _ rfl) 1 _ _ rfl⟩, ⟨blk_far (blk_far hyx3 (by show ¬ w.heap.size = B0; omega) _) (by show ¬ w.heap.size = B0; omega) _⟩, ⟨(HS3.out.mono (Nat.zero_le _)).move (by rw [size_set, size_set]; exact Nat.le_refl _) ((Below.heap_setCell _ _ _ _ (by show ¬ g3 = B0; omega)).trans (Below.heap_setCell _ _ _ _ (by show ¬ g3 = B0; omega)))⟩, ⟨by omega⟩, ⟨by rw [HT.out, runM_snoc, ← HM.out]; exact HM3.out⟩, ⟨below_set (below_set (below_seq HB.out HB3.out) (by omega) _ _) (by omega) _ _⟩⟩
          case measure => simp [intOf]; omega
        · obtain rfl : k = tn := by omega
          have HMR : Hd (marksW n ws = runM st q (bl t)) := ⟨by rw [HM.out, List.take_of_length_le (by rw [bl_len, HTN.out]; exact Nat.le_refl _)]⟩
          have HJ1 : Hd (∀ W : World, Below w.heap.size w W → _) := ⟨fun W hb => rrun_calls st A n c q S t W HN.out HN6.out (HNF.out hb) HOK.out (by rw [HTN.out]; omega)⟩
          rw [HR.out] at HJ1
          have HJ2 : Hd (∀ W : World, Below wr.heap.size wr W → _) := ⟨fun W hb => best_ok st A c q S g n K ws W (HNF.out (below_seq HB.out hb)) HCK.out HSX.out.ok (HSX.out.below hb).wd (HSX.out.below hb).hi (HTB.out (below_seq HB.out hb)) (H0.out (below_seq HB.out hb))⟩
          rw [HN.out, HKL.out, HMR.out, HR.out] at HJ2
          have HJ3 : Hd (∀ W : World, Below wr.heap.size wr W → _) := ⟨fun W hb => alive_ok st A n c q S g n K ws W HN.out (HNF.out (below_seq HB.out hb)) HCK.out HSX.out.ok (HSX.out.below hb).wd (HSX.out.below hb).hi (HTB.out (below_seq HB.out hb)) (H0.out (below_seq HB.out hb))⟩
          obtain ⟨al, hal⟩ : ∃ b, aliveM q (runM st q (bl t)) = b := ⟨_, rfl⟩
          rw [HKL.out, HMR.out, hal] at HJ3
          have HAL := Hd.mk hal
          clear hal
          have hadd : ∀ W, (Op.stringOp .add t more).run Tryd.prog W = .ok (.string (t ++ more)) W := fun W => run_string_add_sum (w := W) t _ (by rw [HTN.out, HMN.out]; omega)
          cases al with
          | true =>
            go_wp2_with (first
              | (go_at_call 41; go_must (refine Calls.mono (closeL_calls x3 (HTB.out (below_seq HB.out HX3.out)) (H0.out (below_seq HB.out HX3.out))) ?_; rintro e x9 ⟨rfl, hb_⟩; have HB9 := Hd.mk (below_seq (below_seq HB.out HX3.out) hb_); clear hb_))
              | (go_at_call 48; go_must (refine Calls.mono (HJ3.out x2 HX2.out) ?_; rintro e x3 ⟨rfl, hb_⟩; have HX3 := Hd.mk (below_seq HX2.out hb_); clear hb2c0 hb2f0 hb2c1 hb2f1 hb2l; clear hy2c0 hy2f0 hy2c1 hy2f1 hy2l; clear hb_))
              | (go_at_call 47; go_must (refine Calls.mono (HJ2.out x1 HX1.out) ?_; rintro e x2 ⟨rfl, hb_⟩; have HX2 := Hd.mk (below_seq HX1.out hb_); have hb2 := blk_below hb1 hb_; have hy2 := blk_below hy1 hb_; clear hb1c0 hb1f0 hb1c1 hb1f1 hb1l; clear hy1c0 hy1f0 hy1c1 hy1f1 hy1l; have hb2c0 := blk_cell hb2 0 _ rfl; have hb2f0 := blk_frozen hb2 0; have hb2c1 := blk_cell hb2 1 _ rfl; have hb2f1 := blk_frozen hb2 1; have hb2l := blk_lt hb2; have hy2c0 := blk_cell hy2 0 _ rfl; have hy2f0 := blk_frozen hy2 0; have hy2c1 := blk_cell hy2 1 _ rfl; have hy2f1 := blk_frozen hy2 1; have hy2l := blk_lt hy2; clear hb_))
              | (go_at_call 46; go_must (refine Calls.mono (HJ1.out wr HB.out) ?_; rintro e x1 ⟨rfl, hb_⟩; have HX1 := Hd.mk hb_; have hb1 := blk_below hbx hb_; have hy1 := blk_below hyx hb_; clear hbxc0 hbxf0 hbxc1 hbxf1 hbxl; clear hyxc0 hyxf0 hyxc1 hyxf1 hyxl; have hb1c0 := blk_cell hb1 0 _ rfl; have hb1f0 := blk_frozen hb1 0; have hb1c1 := blk_cell hb1 1 _ rfl; have hb1f1 := blk_frozen hb1 1; have hb1l := blk_lt hb1; have hy1c0 := blk_cell hy1 0 _ rfl; have hy1f0 := blk_frozen hy1 0; have hy1c1 := blk_cell hy1 1 _ rfl; have hy1f1 := blk_frozen hy1 1; have hy1l := blk_lt hy1; clear hb_)))
            go_ret
            exact ⟨rfl, HB9.out⟩
          | false =>
            have HJ4 : Hd (∀ W : World, Below w.heap.size w W → _) := ⟨fun W hb => rrun_calls st A n c q S (t ++ more) W HN.out HN6.out (HNF.out hb) HOK.out (by rw [ByteArray.size_append, HTN.out, HMN.out]; omega)⟩
            rw [bl_add, run_dead HOK.out _ _ HAL.out] at HJ4
            have TOK := Hd.mk trivial
            go_wp2_with (first
              | (go_at_call 41; go_must (refine Calls.mono (closeL_calls x4 (HTB.out (below_seq HB.out HX4.out)) (H0.out (below_seq HB.out HX4.out))) ?_; rintro e x9 ⟨rfl, hb_⟩; have HB9 := Hd.mk (below_seq (below_seq HB.out HX4.out) hb_); clear hb_))
              | (have hq_ := HX3; clear hq_; go_at_call 46; go_must (refine Calls.mono (HJ4.out x3 (below_seq HB.out HX3.out)) ?_; rintro e x4 ⟨rfl, hb_⟩; have HX4 := Hd.mk (below_seq HX3.out hb_); clear hy3c0 hy3f0 hy3c1 hy3f1 hy3l; clear hb_))
              | (go_at_call 48; go_must (refine Calls.mono (HJ3.out x2 HX2.out) ?_; rintro e x3 ⟨rfl, hb_⟩; have HX3 := Hd.mk (below_seq HX2.out hb_); have hy3 := blk_below hy2 hb_; clear hb2c0 hb2f0 hb2c1 hb2f1 hb2l; clear hy2c0 hy2f0 hy2c1 hy2f1 hy2l; have hy3c0 := blk_cell hy3 0 _ rfl; have hy3f0 := blk_frozen hy3 0; have hy3c1 := blk_cell hy3 1 _ rfl; have hy3f1 := blk_frozen hy3 1; have hy3l := blk_lt hy3; clear hb_))
              | (go_at_call 47; go_must (refine Calls.mono (HJ2.out x1 HX1.out) ?_; rintro e x2 ⟨rfl, hb_⟩; have HX2 := Hd.mk (below_seq HX1.out hb_); have hb2 := blk_below hb1 hb_; have hy2 := blk_below hy1 hb_; clear hb1c0 hb1f0 hb1c1 hb1f1 hb1l; clear hy1c0 hy1f0 hy1c1 hy1f1 hy1l; have hb2c0 := blk_cell hb2 0 _ rfl; have hb2f0 := blk_frozen hb2 0; have hb2c1 := blk_cell hb2 1 _ rfl; have hb2f1 := blk_frozen hb2 1; have hb2l := blk_lt hb2; have hy2c0 := blk_cell hy2 0 _ rfl; have hy2f0 := blk_frozen hy2 0; have hy2c1 := blk_cell hy2 1 _ rfl; have hy2f1 := blk_frozen hy2 1; have hy2l := blk_lt hy2; clear hb_))
              | (have hq_ := TOK; clear hq_ TOK; go_at_call 46; go_must (refine Calls.mono (HJ1.out wr HB.out) ?_; rintro e x1 ⟨rfl, hb_⟩; have HX1 := Hd.mk hb_; have hb1 := blk_below hbx hb_; have hy1 := blk_below hyx hb_; clear hbxc0 hbxf0 hbxc1 hbxf1 hbxl; clear hyxc0 hyxf0 hyxc1 hyxf1 hyxl; have hb1c0 := blk_cell hb1 0 _ rfl; have hb1f0 := blk_frozen hb1 0; have hb1c1 := blk_cell hb1 1 _ rfl; have hb1f1 := blk_frozen hb1 1; have hb1l := blk_lt hb1; have hy1c0 := blk_cell hy1 0 _ rfl; have hy1f0 := blk_frozen hy1 0; have hy1c1 := blk_cell hy1 1 _ rfl; have hy1f1 := blk_frozen hy1 1; have hy1l := blk_lt hy1; clear hb_)))
            go_ret
            exact ⟨rfl, HB9.out⟩
    · have HOK := Hd.mk hok
      rw [if_neg hok, if_neg hok] at HRUN
      have HRR := Hd.mk (fun (W : World) (hb : Below w.heap.size w W) => rright_calls st A n c q S W HN.out (HNF.out hb))
      rw [decide_eq_false hok] at HRR
      clear hok
      go_wp2_with (first
        | (go_at_call 41; go_must (refine Calls.mono (closeL_calls w3 (HTB.out HB3.out) (H0.out HB3.out)) ?_; rintro e w9 ⟨rfl, hb_⟩; have HB9 := Hd.mk (below_seq HB3.out hb_); clear hb_))
        | (go_at_call 43; go_must (refine Calls.mono (HRR.out w2 HB2.out) ?_; rintro e w3 ⟨rfl, hb_⟩; have HB3 := Hd.mk (below_seq HB2.out hb_); clear hb_))
        | (go_at_call 42; go_must (refine Calls.mono HRUN.out ?_; rintro e w2 ⟨rfl, hb_⟩; have HB2 := Hd.mk (below_seq HB1.out hb_); have hbx2 := blk_below hbx hb_; clear hbxc0 hbxf0 hbxc1 hbxf1 hbxl; have hbx2c0 := blk_cell hbx2 0 _ rfl; have hbx2f0 := blk_frozen hbx2 0; have hbx2c1 := blk_cell hbx2 1 _ rfl; have hbx2f1 := blk_frozen hbx2 1; have hbx2l := blk_lt hbx2; clear hb_)))
      go_ret
      exact ⟨rfl, HB9.out⟩
end Go.Proofs.YtbmpaokicphdjaaDoor.Fn

/- What the laws' automaton reads as. -/
namespace Go.Proofs.YtbmpaokicphdjaaDoor.Fn
open Go Go.RowKit Go.ChangeShapes Go.WideShapes Go.ChangeAt Go.Proofs.YtbmpaokicphdjaaDoor.Can Go.Proofs.YtbmpaokicphdjaaDoor.Base

theorem opens_struct5 {α β γ δ ε : Type} {P : Program} {t : TypeId} {a : Ty α} {b : Ty β} {c : Ty γ} {d : Ty δ} {e : Ty ε} {f0 f1 f2 f3 f4 : Field} {wa : α → Prop} {wb : β → Prop} {wc : γ → Prop} {wd : δ → Prop} {we : ε → Prop} (ht : P.underlying t = some (.struct #[f0, f1, f2, f3, f4]))
    (h0 : Opens P f0.type a wa) (h1 : Opens P f1.type b wb) (h2 : Opens P f2.type c wc) (h3 : Opens P f3.type d wd) (h4 : Opens P f4.type e we)
    (o0 : f0.offset = 0) (o1 : f1.offset = a.sz) (o2 : f2.offset = a.sz + b.sz) (o3 : f3.offset = a.sz + b.sz + c.sz) (o4 : f4.offset = a.sz + b.sz + c.sz + d.sz)
    (c0 : P.cellsOf f0.type = a.sz) (c1 : P.cellsOf f1.type = b.sz) (c2 : P.cellsOf f2.type = c.sz) (c3 : P.cellsOf f3.type = d.sz) (c4 : P.cellsOf f4.type = e.sz) (hs : P.cellsOf t = a.sz + b.sz + c.sz + d.sz + e.sz) :
    Opens P t (Ty.pair (Ty.pair (Ty.pair (Ty.pair a b) c) d) e) (fun x => wa x.1.1.1.1 ∧ wb x.1.1.1.2 ∧ wc x.1.1.2 ∧ wd x.1.2 ∧ we x.2) := by
  refine ⟨fun {H enc w fuel cs x} hd => ?_⟩
  obtain ⟨xs, n, _, _, hl, hn, hf⟩ := DataW.trod_struct ht hd
  have e0 := hf 0 f0 rfl
  have e1 := hf 1 f1 rfl
  have e2 := hf 2 f2 rfl
  have e3 := hf 3 f3 rfl
  have e4 := hf 4 f4 rfl
  rw [List.getElem?_eq_getElem (by simp [hn]), o0, c0, List.drop_zero] at e0
  rw [List.getElem?_eq_getElem (by simp [hn]), o1, c1] at e1
  rw [List.getElem?_eq_getElem (by simp [hn]), o2, c2] at e2
  rw [List.getElem?_eq_getElem (by simp [hn]), o3, c3] at e3
  rw [List.getElem?_eq_getElem (by simp [hn]), o4, c4] at e4
  obtain ⟨y0, w0, r0⟩ := h0.out e0
  obtain ⟨y1, w1, r1⟩ := h1.out e1
  obtain ⟨y2, w2, r2⟩ := h2.out e2
  obtain ⟨y3, w3, r3⟩ := h3.out e3
  obtain ⟨y4, w4, r4⟩ := h4.out e4
  rw [List.take_of_length_le (by rw [List.length_drop]; omega)] at r4
  have key : ∀ (m k : Nat), cs.take (m + k) = cs.take m ++ (cs.drop m).take k := fun m k => by rw [List.take_add]
  refine ⟨((((y0, y1), y2), y3), y4), ⟨w0, w1, w2, w3, w4⟩, cs.take (a.sz + b.sz + c.sz + d.sz), cs.drop (a.sz + b.sz + c.sz + d.sz), (List.take_append_drop _ _).symm, ⟨cs.take (a.sz + b.sz + c.sz), _, key _ _, ⟨cs.take (a.sz + b.sz), _, key _ _, ⟨cs.take a.sz, _, key _ _, r0, r1⟩, r2⟩, r3⟩, r4⟩

theorem opensI : Opens Tryd.prog 3 I (fun n => (Lit.int .i64 n).wf = true) := opens_int Tryd.underlying3
theorem opensSt : Opens Tryd.prog 71 stT (fun _ => True) :=
  (opens_struct5 (a := I) (b := I) (c := I) (d := Ty.slice I (by decide)) (e := I) Tryd.underlying71 opensI opensI opensI opensInts opensI (by kernel_rfl) (by kernel_rfl) (by kernel_rfl) (by kernel_rfl) (by kernel_rfl) (by kernel_rfl) (by kernel_rfl) (by kernel_rfl) (by kernel_rfl) (by kernel_rfl) (by kernel_rfl)).map (fun x => ⟨x.1.1.1.1, x.1.1.1.2, x.1.1.2, x.1.2, x.2⟩) (fun _ _ => trivial) (by
    rintro w S x cs ⟨_, c4, rfl, ⟨_, c3, rfl, ⟨_, c2, rfl, ⟨c0, c1, rfl, h0, h1⟩, h2⟩, h3⟩, h4⟩
    exact ⟨c0, c1 ++ (c2 ++ (c3 ++ c4)), by simp only [List.append_assoc], h0, c1, c2 ++ (c3 ++ c4), rfl, h1, c2, c3 ++ c4, rfl, h2, c3, c4, rfl, h3, h4⟩)
theorem opensStates : Opens Tryd.prog 56 (Ty.slice stT (by decide)) (fun _ => True) :=
  (opens_slice Tryd.underlying56 (by kernel_rfl) (by decide) opensSt).map id (fun _ _ => trivial) (fun _ _ _ _ h => h)
theorem opensNfa : Opens Tryd.prog 58 (Ty.pair I (Ty.slice stT (by decide))) (fun _ => True) :=
  (opens_struct2 (a := I) (b := Ty.slice stT (by decide)) Tryd.underlying58 opensI opensStates (by kernel_rfl) (by kernel_rfl) (by kernel_rfl) (by kernel_rfl) (by kernel_rfl)).map id (fun _ _ => trivial) (fun _ _ _ _ h => h)
theorem nfa_of {w : World} {S : Nat → Prop} {y : Int × List St} {z : Array Value} (h : (Ty.pair I (Ty.slice stT (by decide))).rel w S y z.toList) : ∃ A c, z = #[.int .i64 y.1, .slice A y.2.length c] ∧ Row stT w S A y.2.length y.2 := by
  obtain ⟨c0, c1, hz, h0, A, c, h1, _, _, hr⟩ := h
  have h0' : c0 = [.int .i64 y.1] := h0
  subst h0' h1
  exact ⟨A, c, Array.toList_inj.1 hz, hr⟩
end Go.Proofs.YtbmpaokicphdjaaDoor.Fn
