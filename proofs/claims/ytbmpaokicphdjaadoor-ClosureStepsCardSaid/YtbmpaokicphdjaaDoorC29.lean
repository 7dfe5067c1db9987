/- ClosureSteps: the walk, when the automaton may not be. -/
import Derived.Test.YtbmpaokicphdjaaDoorCI
namespace Go.Proofs.YtbmpaokicphdjaaDoor.Fn
open Go Go.RowKit Go.Proofs.YtbmpaokicphdjaaDoor.Can Go.Proofs.YtbmpaokicphdjaaDoor.Base
attribute [local go_sem] clsB AB.cell

set_option maxRecDepth 20000 in
set_option maxHeartbeats 8000000 in
theorem csteps_calls (st : Int) (A : Option Addr) (n c : Nat) (q : List St) (S : Nat → Prop) (Al : Option Addr) (nl cl : Nat) (l : List Int) (ch : Nat) (hch : ch < 256) (w : World) (hn : q.length = n) (hN : NF w S A q) (hS : ∀ k, S k → k < w.heap.size) (hL : Row I w S Al nl l) (hT : TabAt 0 Lib.deBruijn64tab w) (h0 : 0 < w.heap.size) :
    Calls Tryd.prog 10 #[.agg #[.int .i64 st, .slice A n c], .slice Al nl cl, .int .u8 ch] w fun e w' => e = .returned (.bool true) ∧ Below w.heap.size w w' := by
  have HTB : Hd (∀ {W : World}, Below w.heap.size w W → TabAt 0 Lib.deBruijn64tab W) := ⟨fun hb j hj => (hb.cell (p := ⟨0, j, none⟩) h0).trans (hT j hj)⟩
  have H0 : Hd (∀ {W : World}, Below w.heap.size w W → 0 < W.heap.size) := ⟨fun hb => Nat.lt_of_lt_of_le h0 hb.size⟩
  have HNF : Hd (∀ {W : World}, Below w.heap.size w W → NF W S A q) := ⟨fun hb => hN.below hb⟩
  have HLR : Hd (∀ {W : World}, Below w.heap.size w W → Row I W S Al nl l ∧ ∀ k, S k → k < W.heap.size) := ⟨fun hb => ⟨hL.below hS hb, fun k hk => Nat.lt_of_lt_of_le (hS k hk) hb.size⟩⟩
  have HN := Hd.mk hn
  have HFA := Hd.mk (far_calls st A n c q S (w.alloc (.cells #[.int .i64 st, .slice A n c] 58)) hn (hN.below (below_alloc (Below.refl _ _) _)))
  clear hT h0 hN hn hS hL
  go_enter Tryd.func10, Tryd.ntmps10
  go_upto_region 1 with fail
  go_cut [20] (fun v wx => ∃ gg : Bool, v = .bool gg ∧ Hd (gg = false → n ≤ 300 ∧ nl ≤ 30) ∧ Hd (wx.heap[w.heap.size]? = some (.cells #[.int .i64 st, .slice A n c] 58 (0, 0))) ∧ Hd (Below w.heap.size w wx))
  case first =>
    go_wp2_with (go_at_call 40; go_must (refine Calls.mono HFA.out ?_; rintro e w1 ⟨⟨fb, rfl, hfb⟩, hb_⟩; have HFB := Hd.mk hfb; have HB1 := Hd.mk (below_seq (below_alloc (Below.refl w.heap.size w) _) hb_); have hbx := blk_below (blk_new w (.cells #[.int .i64 st, .slice A n c] 58) _ rfl) hb_; have hbxc0 := blk_cell hbx 0 _ rfl; have hbxf0 := blk_frozen hbx 0; have hbxc1 := blk_cell hbx 1 _ rfl; have hbxf1 := blk_frozen hbx 1; have hbxl := blk_lt hbx; clear hb_ hfb))
    all_goals (go_meet; case rel => exact ⟨_, rfl, ⟨fun hg => by first | cases hg | (simp at hg; exact ⟨HFB.out (by first | rfl | assumption | simp_all), by omega⟩)⟩, ⟨hbx⟩, HB1⟩)
  case rest =>
  obtain ⟨gg, rfl, HGG, HBX, HB1⟩ := hcut
  clear HFA
  generalize wc = w1 at *
  cases gg with
  | true =>
    go_wp2_with (go_at_call 41; go_must (refine Calls.mono (closeL_calls w1 (HTB.out HB1.out) (H0.out HB1.out)) ?_; rintro e w9 ⟨rfl, hb_⟩; have HB9 := Hd.mk (below_seq HB1.out hb_); clear hb_))
    go_ret
    exact ⟨rfl, HB9.out⟩
  | false =>
    obtain ⟨hn3, hl3⟩ := HGG.out rfl
    clear HGG
    have h8 := of_calls n Al nl cl l S w1 (HLR.out HB1.out).2 (HLR.out HB1.out).1
    rw [roomR_id (by omega)] at h8
    obtain ⟨K, hK⟩ : ∃ K, (n + 63) / 64 = K := ⟨_, rfl⟩
    rw [hK] at h8
    have HK := Hd.mk hK; have HOF := Hd.mk h8
    clear h8 hK
    have hx1 := HBX.out
    have hx1c0 := blk_cell hx1 0 _ rfl; have hx1f0 := blk_frozen hx1 0; have hx1c1 := blk_cell hx1 1 _ rfl; have hx1f1 := blk_frozen hx1 1; have hx1l := blk_lt hx1
    go_upto_region 4 with (go_at_call 15; go_must (refine Calls.mono HOF.out ?_; rintro e w2 ⟨g, rfl, hg, hgl, hw2, hb2⟩; have HW2 := Hd.mk hw2; have HG2 := Hd.mk (And.intro hg hgl); have HB2 := Hd.mk hb2; clear hw2 hg hgl hb2))
    have hz2 := HB2.out.size
    have HV : Hd (Below w.heap.size w (w2.alloc (.cells #[.slice (some ⟨g, 0, none⟩) K K, .int .i64 n] 28))) := ⟨below_seq (below_seq HB1.out HB2.out) (below_alloc (Below.refl _ _) _)⟩
    have HV7 : Hd ((w2.alloc (.cells #[.slice (some ⟨g, 0, none⟩) K K, .int .i64 n] 28)).heap[w2.heap.size]? = some (.cells #[.slice (some ⟨g, 0, none⟩) K K, .int .i64 n] 28 (0, 0))) := ⟨blk_new _ _ _ rfl⟩
    have HV3 : Hd ((w2.alloc (.cells #[.slice (some ⟨g, 0, none⟩) K K, .int .i64 n] 28)).heap[w.heap.size]? = some (.cells #[.int .i64 st, .slice A n c] 58 (0, 0))) := ⟨blk_alloc (blk_below HBX.out HB2.out) _⟩
    have HVW : Hd (SetA (w2.alloc (.cells #[.slice (some ⟨g, 0, none⟩) K K, .int .i64 n] 28)) w1.heap.size g n (ofW n l)) := ⟨⟨HG2.out.1, by rw [size_alloc]; have := HG2.out.2; omega, HW2.out.below (below_alloc (Below.refl _ _) _), ofW_ok (by omega) l⟩⟩
    have hw3 : ¬ w.heap.size = g := by have := HG2.out.1; have := blk_lt HBX.out; omega
    have hp7 : ¬ w2.heap.size = g := by have := HG2.out.2; omega
    have hgw : w.heap.size ≤ g := by have := HG2.out.1; have := HB1.out.size; omega
    have hpw : w.heap.size < w2.heap.size := by have := HB1.out.size; have := blk_lt HBX.out; omega
    clear hx1c0 hx1f0 hx1c1 hx1f1 hx1l
    clear hx1 HBX HOF HW2 HG2
    generalize World.alloc w2 _ = V at *
    generalize w2.heap.size = p7 at *
    have hx3 := HV3.out
    have hx7 := HV7.out
    have hx3c0 := blk_cell hx3 0 _ rfl; have hx3f0 := blk_frozen hx3 0; have hx3c1 := blk_cell hx3 1 _ rfl; have hx3f1 := blk_frozen hx3 1; have hx3l := blk_lt hx3
    have hx7c0 := blk_cell hx7 0 _ rfl; have hx7f0 := blk_frozen hx7 0; have hx7c1 := blk_cell hx7 1 _ rfl; have hx7f1 := blk_frozen hx7 1; have hx7l := blk_lt hx7
    have HRR := Hd.mk (fun (W : World) (hb : Below w.heap.size w W) => rright_calls st A n c q S W HN.out (HNF.out hb))
    by_cases hok : okN st q
    · have HOK := Hd.mk hok
      rw [decide_eq_true hok] at HRR
      have hc : checkV st q = 0 := by rw [checkV_small (by rw [HN.out]; omega), if_pos hok]
      have HCK := Hd.mk hc
      have HN6 : Hd (n ≤ 65536) := ⟨by omega⟩
      have HLK : Hd (∀ {ws : List Nat}, Wok n ws → ws.length = K) := ⟨fun h => by rw [h.len]; exact HK.out⟩
      have h8 := close_ok st A n c q S g K (ofW n l) V HN.out (HNF.out HV.out) hc HVW.out.ok HVW.out.wd HVW.out.hi (by omega) (HTB.out HV.out) (H0.out HV.out)
      rw [HLK.out HVW.out.ok, ← among_of HN6.out] at h8
      have HCL := Hd.mk h8
      clear h8 hok hc
      go_upto_region 5 with (go_at_call 54; go_must (refine Calls.mono HCL.out ?_; rintro e w3 ⟨rfl, ws1, hk1, hw1, hm1, hf1⟩; have HK1 := Hd.mk hk1; have HW1 := Hd.mk hw1; have HM1 := Hd.mk hm1; have HF1 := Hd.mk hf1; clear hk1 hw1 hm1 hf1))
      have HB3 : Hd (Below w.heap.size w w3) := ⟨HV.out.trans (HF1.out.below HV.out.size (fun b hb h => by have h' : b = g := h; omega))⟩
      have hx33 := HF1.out.blk hx3 hw3
      have hx73 := HF1.out.blk hx7 hp7
      have hgh : g < w3.heap.size := Nat.lt_of_lt_of_le HVW.out.hi HF1.out.size
      obtain ⟨mi, hmi⟩ : ∃ m, closeM epsE q (amongM n l) = m := ⟨_, rfl⟩
      rw [hmi] at HM1
      have HMI := Hd.mk hmi
      have h8 := step_ok st A c q S g n K ch hch ws1 w3 (HNF.out HB3.out) HCK.out HK1.out HW1.out hgh (HTB.out HB3.out) (H0.out HB3.out)
      unfold setV at h8
      rw [HN.out, HLK.out HK1.out, HK.out, HM1.out] at h8
      have HST := Hd.mk h8
      have HSA : Hd (∀ W : World, Below w.heap.size w W → _) := ⟨fun W hb => start_ok st A c q S W (HNF.out hb) HCK.out⟩
      unfold setV at HSA
      rw [HN.out, HK.out] at HSA
      clear hx3c0 hx3f0 hx3c1 hx3f1 hx3l
      clear hx7c0 hx7f0 hx7c1 hx7f1 hx7l
      clear h8 hmi hx3 hx7 HF1 HVW HCL HV3 HV7
      have hx33c0 := blk_cell hx33 0 _ rfl; have hx33f0 := blk_frozen hx33 0; have hx33c1 := blk_cell hx33 1 _ rfl; have hx33f1 := blk_frozen hx33 1; have hx33l := blk_lt hx33
      have hx73c0 := blk_cell hx73 0 _ rfl; have hx73f0 := blk_frozen hx73 0; have hx73c1 := blk_cell hx73 1 _ rfl; have hx73f1 := blk_frozen hx73 1; have hx73l := blk_lt hx73
      go_upto_region 9 with (first
        | (go_at_call 43; go_must (refine Calls.mono (HRR.out _ HB5a.out) ?_; rintro e w6 ⟨rfl, hb_⟩; have HB6 := Hd.mk (below_seq HB5a.out hb_); have h9 := blk_below h9a hb_; have h11 := blk_below h11a hb_; have hx36 := blk_below hx35 hb_; have hx76 := blk_below hx75 hb_; have HW26 := Hd.mk (HW25.out.below hb_); have HW56 := Hd.mk (HW55.out.below hb_); have HW16 := Hd.mk (HW15.out.below hb_); have hz6 := hb_.size; clear hx35c0 hx35f0 hx35c1 hx35f1 hx35l; clear hx75c0 hx75f0 hx75c1 hx75f1 hx75l; clear hb_))
        | (go_at_call 44; go_must (refine Calls.mono (HSA.out _ HB4a.out) ?_; rintro e w5 ⟨g5, ws5, rfl, hs5, hm5, hb_⟩; have HM5 := Hd.mk hm5; have HB5a := Hd.mk (below_seq (below_seq HB4a.out hb_) (below_alloc (Below.refl _ _) (.cells #[.slice (some ⟨g5, 0, none⟩) K K, .int .i64 n] 28))); have h9a := blk_alloc (blk_below h9z hb_) (.cells #[.slice (some ⟨g5, 0, none⟩) K K, .int .i64 n] 28); have h11a := blk_new w5 (.cells #[.slice (some ⟨g5, 0, none⟩) K K, .int .i64 n] 28) _ rfl; have hx35 := blk_alloc (blk_below hx34 hb_) (.cells #[.slice (some ⟨g5, 0, none⟩) K K, .int .i64 n] 28); have hx75 := blk_alloc (blk_below hx74 hb_) (.cells #[.slice (some ⟨g5, 0, none⟩) K K, .int .i64 n] 28); have HW25 := Hd.mk ((HW24.out.below hb_).below (below_alloc (Below.refl _ _) (.cells #[.slice (some ⟨g5, 0, none⟩) K K, .int .i64 n] 28))); have HW15 := Hd.mk ((HW14.out.below hb_).below (below_alloc (Below.refl _ _) (.cells #[.slice (some ⟨g5, 0, none⟩) K K, .int .i64 n] 28))); have HW55 := Hd.mk ((hs5.mono (Nat.zero_le _)).below (below_alloc (Below.refl _ _) (.cells #[.slice (some ⟨g5, 0, none⟩) K K, .int .i64 n] 28))); clear hx34c0 hx34f0 hx34c1 hx34f1 hx34l; clear hx74c0 hx74f0 hx74c1 hx74f1 hx74l; have hx35c0 := blk_cell hx35 0 _ rfl; have hx35f0 := blk_frozen hx35 0; have hx35c1 := blk_cell hx35 1 _ rfl; have hx35f1 := blk_frozen hx35 1; have hx35l := blk_lt hx35; have hx75c0 := blk_cell hx75 0 _ rfl; have hx75f0 := blk_frozen hx75 0; have hx75c1 := blk_cell hx75 1 _ rfl; have hx75f1 := blk_frozen hx75 1; have hx75l := blk_lt hx75; clear hb_ hs5 hm5))
        | (go_at_call 45; go_must (refine Calls.mono HST.out ?_; rintro e w4 ⟨g2, ws2, rfl, hs2, hm2, hb_⟩; have HM2 := Hd.mk hm2; have HB4a := Hd.mk (below_seq (below_seq HB3.out hb_) (below_alloc (Below.refl _ _) (.cells #[.slice (some ⟨g2, 0, none⟩) K K, .int .i64 n] 28))); have h9z := blk_new w4 (.cells #[.slice (some ⟨g2, 0, none⟩) K K, .int .i64 n] 28) _ rfl; have hx34 := blk_alloc (blk_below hx33 hb_) (.cells #[.slice (some ⟨g2, 0, none⟩) K K, .int .i64 n] 28); have hx74 := blk_alloc (blk_below hx73 hb_) (.cells #[.slice (some ⟨g2, 0, none⟩) K K, .int .i64 n] 28); have HW24 := Hd.mk ((hs2.mono (Nat.zero_le _)).below (below_alloc (Below.refl _ _) (.cells #[.slice (some ⟨g2, 0, none⟩) K K, .int .i64 n] 28))); have HW14 : Hd (SetA (w4.alloc (.cells #[.slice (some ⟨g2, 0, none⟩) K K, .int .i64 n] 28)) 0 g n ws1) := ⟨(SetA.below ⟨Nat.zero_le _, hgh, HW1.out, HK1.out⟩ hb_).below (below_alloc (Below.refl _ _) _)⟩; clear hx33c0 hx33f0 hx33c1 hx33f1 hx33l; clear hx73c0 hx73f0 hx73c1 hx73f1 hx73l; have hx34c0 := blk_cell hx34 0 _ rfl; have hx34f0 := blk_frozen hx34 0; have hx34c1 := blk_cell hx34 1 _ rfl; have hx34f1 := blk_frozen hx34 1; have hx34l := blk_lt hx34; have hx74c0 := blk_cell hx74 0 _ rfl; have hx74f0 := blk_frozen hx74 0; have hx74c1 := blk_cell hx74 1 _ rfl; have hx74f1 := blk_frozen hx74 1; have hx74l := blk_lt hx74; clear hb_ hs2 hm2)))
      have hx36c0 := blk_cell hx36 0 _ rfl; have hx36f0 := blk_frozen hx36 0; have hx36c1 := blk_cell hx36 1 _ rfl; have hx36f1 := blk_frozen hx36 1; have hx36l := blk_lt hx36
      have HAM := Hd.mk (among_calls st A n c Al nl cl l S w6.drew HN6.out (HLR.out (below_drew1 HB6.out)).2 (HLR.out (below_drew1 HB6.out)).1)
      refine wp_region_can (.q [0, 1, 2] (.e 3 true (.e 4 false (.q [5] (.done))))) (clsB _) (by kernel_rfl) (by kernel_rfl) (by intro _ _ d _ _ h; cases d <;> exact h) (clsB_drew _) ?_
      refine can_q (l := [⟨_,_,_,_,_,_⟩, ⟨_,_,_,_,_,_⟩, ⟨_,_,_,_,_,_⟩]) rfl ?_
      repeat (go_big_quiet_step (fail))
      refine wpQuiet_nil ?_
      refine can_e (o := ⟨_,_,_,_,_,_⟩) rfl (fun K hK => ?_)
      go_wp2_with (go_at_call 52; go_must (refine Calls.mono HAM.out ?_; rintro e u1 ⟨A1, c1, rfl, hm_, hb_⟩; rw [size_drew] at hm_; have HMA := Hd.mk hm_; have HU1 := Hd.mk (below_undrew hb_); clear hm_ hb_))
      refine onK_normal (hK _ _ ⟨clsB _, clsB_of (by first | exact (HU1.out) | exact below_undrew (HU1.out)), fun _ _ h => h, ?_⟩)
      clear hK K
      have h8 := rclose_calls st A n c q S A1 c1 _ (fun k => w6.heap.size ≤ k ∧ k < u1.heap.size) u1 HN.out HN6.out (HNF.out (below_seq HB6.out HU1.out)) HOK.out (fun k hk => hk.2) (HMA.out.row HN6.out) HMA.out.nn
      rw [HMI.out] at h8
      have HRC := Hd.mk h8
      clear h8
      refine can_e (o := ⟨_,_,_,_,_,_⟩) rfl (fun K hK => ?_)
      go_wp2_with (go_at_call 55; go_must (refine Calls.mono HRC.out ?_; rintro e u2 ⟨A13, c13, rfl, hm_, hb_⟩; have HM13 := Hd.mk hm_; have HU2 := Hd.mk (below_seq HU1.out hb_); clear hm_ hb_))
      refine onK_normal (hK _ _ ⟨fun _ => True, trivial, (fun h => by cases h), ?_⟩)
      clear hK K
      refine can_q (l := [⟨_,_,_,_,_,_⟩]) rfl ?_
      repeat (go_big_quiet_step (fail))
      refine wpQuiet_nil ?_
      refine can_done ?_
      go_upto_region 10 with fail
      have HBU := Hd.mk (below_seq HB6.out HU2.out)
      have hy3 := blk_below hx36 HU2.out
      have hy7 := blk_below hx76 HU2.out
      have hy9 := blk_below h9 HU2.out
      have hy11 := blk_below h11 HU2.out
      have HS1 := Hd.mk (HW16.out.below HU2.out)
      have HS2 := Hd.mk (HW26.out.below HU2.out)
      have HS5 := Hd.mk (HW56.out.below HU2.out)
      have hzu := HU1.out.size
      have HM13' := Hd.mk (HM13.out.mono hzu)
      clear hx36c0 hx36f0 hx36c1 hx36f1 hx36l
      clear hx36 hx76 h9 h11 HW16 HW26 HW56 HMA HRC HAM HU1 HM13
      have hy3c0 := blk_cell hy3 0 _ rfl; have hy3f0 := blk_frozen hy3 0; have hy3c1 := blk_cell hy3 1 _ rfl; have hy3f1 := blk_frozen hy3 1; have hy3l := blk_lt hy3
      have hy7c0 := blk_cell hy7 0 _ rfl; have hy7f0 := blk_frozen hy7 0; have hy7c1 := blk_cell hy7 1 _ rfl; have hy7f1 := blk_frozen hy7 1; have hy7l := blk_lt hy7
      have hy9c0 := blk_cell hy9 0 _ rfl; have hy9f0 := blk_frozen hy9 0; have hy9c1 := blk_cell hy9 1 _ rfl; have hy9f1 := blk_frozen hy9 1; have hy9l := blk_lt hy9
      have hy11c0 := blk_cell hy11 0 _ rfl; have hy11f0 := blk_frozen hy11 0; have hy11c1 := blk_cell hy11 1 _ rfl; have hy11f1 := blk_frozen hy11 1; have hy11l := blk_lt hy11
      have hzu2 := HU2.out.size
      have HE1 : Hd (elemsI ws1 = numbersL mi) := ⟨by rw [elemsI_marks_eq HS1.out.ok, HM1.out]⟩
      have HE2 : Hd (elemsI ws2 = numbersL (stepM q ch mi)) := ⟨by rw [elemsI_marks_eq HS2.out.ok, HM2.out]⟩
      have HE5 : Hd (elemsI ws5 = numbersL (startM st q)) := ⟨by rw [elemsI_marks_eq HS5.out.ok, HM5.out]⟩
      have HALL := Hd.mk (fun (W : World) (hb : Below u2.heap.size u2 W) (g : Nat) (ws : List Nat) (h : SetA u2 0 g n ws) => all_calls (some ⟨g, 0, none⟩) K g n ws W h.ok (h.below hb).wd (h.below hb).hi (HTB.out (below_seq HBU.out hb)) (H0.out (below_seq HBU.out hb)))
      have HNUM := Hd.mk (fun (W : World) (A9 : Option Addr) (c9 base : Nat) (m : List Bool) (h : Mk W base A9 n c9 m) => numbersM_calls A9 n c9 m _ W HN6.out (fun k hk => hk.2) (h.row HN6.out))
      have HKL1 : Hd (ws1.length = K) := ⟨HLK.out HS1.out.ok⟩
      have HKL2 : Hd (ws2.length = K) := ⟨HLK.out HS2.out.ok⟩
      have HKL5 : Hd (ws5.length = K) := ⟨HLK.out HS5.out.ok⟩
      have H0U : Hd (Below u2.heap.size u2 u2) := ⟨Below.refl _ _⟩
      refine wp_region_can (.q [0, 1, 2, 3, 4, 5, 6, 7, 8, 9, 10, 11, 13] (.e 12 false (.e 14 false (.e 15 false (.q [16, 17, 18, 19, 21, 22, 23] (.e 20 true (.e 24 false (.e 25 false (.e 26 false (.q [27, 28, 29, 30, 32] (.e 31 true (.e 33 false (.e 34 false (.e 35 false (.q [36, 37] (.done)))))))))))))))) (clsB _) (by kernel_rfl) (by kernel_rfl) (by intro _ _ d _ _ h; cases d <;> exact h) (clsB_drew _) ?_
      refine can_q (l := [⟨_,_,_,_,_,_⟩, ⟨_,_,_,_,_,_⟩, ⟨_,_,_,_,_,_⟩, ⟨_,_,_,_,_,_⟩, ⟨_,_,_,_,_,_⟩, ⟨_,_,_,_,_,_⟩, ⟨_,_,_,_,_,_⟩, ⟨_,_,_,_,_,_⟩, ⟨_,_,_,_,_,_⟩, ⟨_,_,_,_,_,_⟩, ⟨_,_,_,_,_,_⟩, ⟨_,_,_,_,_,_⟩, ⟨_,_,_,_,_,_⟩]) rfl ?_
      repeat (go_big_quiet_step (fail))
      refine wpQuiet_nil ?_
      refine can_e (o := ⟨_,_,_,_,_,_⟩) rfl (fun K hK => ?_)
      go_wp2_with (go_at_call 23; go_must (have h9_ := HALL.out u2.drew (below_drew1 (Below.refl _ _)) g ws1 HS1.out; rw [HKL1.out] at h9_; refine Calls.mono h9_ ?_; clear h9_; rintro e v1 ⟨Av1, nv1, cv1, rfl, hr_, hb_⟩; (try rw [size_drew] at hr_); have HRv1 : Hd (Row I v1 (fun k => u2.heap.size ≤ k ∧ k < v1.heap.size) Av1 nv1 (elemsI ws1)) := ⟨hr_.mono (fun k hk => ⟨Nat.le_trans H0U.out.size hk.1, hk.2⟩)⟩; have Hv1 := Hd.mk (below_seq H0U.out (below_undrew hb_)); clear hr_ hb_))
      refine onK_normal (hK _ _ ⟨clsB _, clsB_of (by first | exact (Hv1.out) | exact below_undrew (Hv1.out)), fun _ _ h => h, ?_⟩)
      clear hK K
      have HJv2 := Hd.mk (HNUM.out v1 A13 c13 w6.heap.size (mi) (HM13'.out.below (Hv1.out |> fun h => h)))
      refine can_e (o := ⟨_,_,_,_,_,_⟩) rfl (fun K hK => ?_)
      go_wp2_with (go_at_call 50; go_must (refine Calls.mono HJv2.out ?_; rintro e v2 ⟨Av2, nv2, cv2, rfl, hr_, hb_⟩; have HRv2 : Hd (Row I v2 (fun k => u2.heap.size ≤ k ∧ k < v2.heap.size) Av2 nv2 (numbersL (mi))) := ⟨hr_.mono (fun k hk => ⟨Nat.le_trans Hv1.out.size hk.1, hk.2⟩)⟩; have Hv2 := Hd.mk (below_seq Hv1.out hb_); have HBv2 := Hd.mk hb_; clear hr_ hb_))
      refine onK_normal (hK _ _ ⟨clsB _, clsB_of (by first | exact (Hv2.out) | exact below_undrew (Hv2.out)), fun _ _ h => h, ?_⟩)
      clear hK K
      have HQv3 := HBv2
      have HJv3 := Hd.mk (same_calls Av1 Av2 nv1 nv2 cv1 cv2 (elemsI ws1) (numbersL (mi)) true (fun k => u2.heap.size ≤ k ∧ k < v1.heap.size) (fun k => u2.heap.size ≤ k ∧ k < v2.heap.size) v2 (fun k hk => Nat.lt_of_lt_of_le hk.2 HQv3.out.size) (fun k hk => hk.2) (HRv1.out.below (fun k hk => hk.2) HQv3.out) HRv2.out (decide_eq_true HE1.out))
      refine can_e (o := ⟨_,_,_,_,_,_⟩) rfl (fun K hK => ?_)
      go_wp2_with (go_at_call 17; go_must (refine Calls.mono HJv3.out ?_; rintro e v3 ⟨rfl, hb_⟩; have Hv3 := Hd.mk (below_seq Hv2.out hb_); clear hb_))
      refine onK_normal (hK _ _ ⟨clsB _, clsB_of (by first | exact (Hv3.out) | exact below_undrew (Hv3.out)), fun _ _ h => h, ?_⟩)
      clear hK K
      refine can_q (l := [⟨_,_,_,_,_,_⟩, ⟨_,_,_,_,_,_⟩, ⟨_,_,_,_,_,_⟩, ⟨_,_,_,_,_,_⟩, ⟨_,_,_,_,_,_⟩, ⟨_,_,_,_,_,_⟩, ⟨_,_,_,_,_,_⟩]) rfl ?_
      repeat (go_big_quiet_step (fail))
      refine wpQuiet_nil ?_
      refine can_e (o := ⟨_,_,_,_,_,_⟩) rfl (fun K hK => ?_)
      go_wp2_with (go_at_call 23; go_must (have h9_ := HALL.out v3 Hv3.out g2 ws2 HS2.out; rw [HKL2.out] at h9_; refine Calls.mono h9_ ?_; clear h9_; rintro e v4 ⟨Av4, nv4, cv4, rfl, hr_, hb_⟩; (try rw [size_drew] at hr_); have HRv4 : Hd (Row I v4 (fun k => u2.heap.size ≤ k ∧ k < v4.heap.size) Av4 nv4 (elemsI ws2)) := ⟨hr_.mono (fun k hk => ⟨Nat.le_trans Hv3.out.size hk.1, hk.2⟩)⟩; have Hv4 := Hd.mk (below_seq Hv3.out hb_); clear hr_ hb_))
      refine onK_normal (hK _ _ ⟨clsB _, clsB_of (by first | exact (Hv4.out) | exact below_undrew (Hv4.out)), fun _ _ h => h, ?_⟩)
      clear hK K
      have HJv5 := Hd.mk (rstep_calls st A n c q S A13 c13 mi (fun k => w6.heap.size ≤ k ∧ k < u2.heap.size) ch hch v4 HN.out HN6.out (HNF.out (below_seq HBU.out Hv4.out)) HOK.out (fun k hk => Nat.lt_of_lt_of_le hk.2 Hv4.out.size) ((HM13'.out.row HN6.out).below (fun k hk => hk.2) Hv4.out))
      refine can_e (o := ⟨_,_,_,_,_,_⟩) rfl (fun K hK => ?_)
      go_wp2_with (go_at_call 51; go_must (refine Calls.mono HJv5.out ?_; rintro e v5 ⟨A14, c14, rfl, hm_, hb_⟩; have HM14 := Hd.mk hm_; have Hv5 := Hd.mk (below_seq Hv4.out hb_); have HBv5 := Hd.mk hb_; clear hm_ hb_))
      refine onK_normal (hK _ _ ⟨clsB _, clsB_of (by first | exact (Hv5.out) | exact below_undrew (Hv5.out)), fun _ _ h => h, ?_⟩)
      clear hK K
      have HJv6 := Hd.mk (HNUM.out v5 A14 c14 v4.heap.size (stepM q ch mi) (HM14.out))
      refine can_e (o := ⟨_,_,_,_,_,_⟩) rfl (fun K hK => ?_)
      go_wp2_with (go_at_call 50; go_must (refine Calls.mono HJv6.out ?_; rintro e v6 ⟨Av6, nv6, cv6, rfl, hr_, hb_⟩; have HRv6 : Hd (Row I v6 (fun k => u2.heap.size ≤ k ∧ k < v6.heap.size) Av6 nv6 (numbersL (stepM q ch mi))) := ⟨hr_.mono (fun k hk => ⟨Nat.le_trans Hv5.out.size hk.1, hk.2⟩)⟩; have Hv6 := Hd.mk (below_seq Hv5.out hb_); have HBv6 := Hd.mk hb_; clear hr_ hb_))
      refine onK_normal (hK _ _ ⟨clsB _, clsB_of (by first | exact (Hv6.out) | exact below_undrew (Hv6.out)), fun _ _ h => h, ?_⟩)
      clear hK K
      have HQv7 := Hd.mk (below_seq HBv5.out HBv6.out)
      have HJv7 := Hd.mk (same_calls Av4 Av6 nv4 nv6 cv4 cv6 (elemsI ws2) (numbersL (stepM q ch mi)) true (fun k => u2.heap.size ≤ k ∧ k < v4.heap.size) (fun k => u2.heap.size ≤ k ∧ k < v6.heap.size) v6 (fun k hk => Nat.lt_of_lt_of_le hk.2 HQv7.out.size) (fun k hk => hk.2) (HRv4.out.below (fun k hk => hk.2) HQv7.out) HRv6.out (decide_eq_true HE2.out))
      refine can_e (o := ⟨_,_,_,_,_,_⟩) rfl (fun K hK => ?_)
      go_wp2_with (go_at_call 17; go_must (refine Calls.mono HJv7.out ?_; rintro e v7 ⟨rfl, hb_⟩; have Hv7 := Hd.mk (below_seq Hv6.out hb_); clear hb_))
      refine onK_normal (hK _ _ ⟨clsB _, clsB_of (by first | exact (Hv7.out) | exact below_undrew (Hv7.out)), fun _ _ h => h, ?_⟩)
      clear hK K
      refine can_q (l := [⟨_,_,_,_,_,_⟩, ⟨_,_,_,_,_,_⟩, ⟨_,_,_,_,_,_⟩, ⟨_,_,_,_,_,_⟩, ⟨_,_,_,_,_,_⟩]) rfl ?_
      repeat (go_big_quiet_step (fail))
      refine wpQuiet_nil ?_
      refine can_e (o := ⟨_,_,_,_,_,_⟩) rfl (fun K hK => ?_)
      go_wp2_with (go_at_call 23; go_must (have h9_ := HALL.out v7 Hv7.out g5 ws5 HS5.out; rw [HKL5.out] at h9_; refine Calls.mono h9_ ?_; clear h9_; rintro e v8 ⟨Av8, nv8, cv8, rfl, hr_, hb_⟩; (try rw [size_drew] at hr_); have HRv8 : Hd (Row I v8 (fun k => u2.heap.size ≤ k ∧ k < v8.heap.size) Av8 nv8 (elemsI ws5)) := ⟨hr_.mono (fun k hk => ⟨Nat.le_trans Hv7.out.size hk.1, hk.2⟩)⟩; have Hv8 := Hd.mk (below_seq Hv7.out hb_); clear hr_ hb_))
      refine onK_normal (hK _ _ ⟨clsB _, clsB_of (by first | exact (Hv8.out) | exact below_undrew (Hv8.out)), fun _ _ h => h, ?_⟩)
      clear hK K
      have HJv9 := Hd.mk (rstart_calls st A n c q S v8 HN.out HN6.out (HNF.out (below_seq HBU.out Hv8.out)) HOK.out)
      refine can_e (o := ⟨_,_,_,_,_,_⟩) rfl (fun K hK => ?_)
      go_wp2_with (go_at_call 56; go_must (refine Calls.mono HJv9.out ?_; rintro e v9 ⟨A15, c15, rfl, hm_, hb_⟩; have HM15 := Hd.mk hm_; have Hv9 := Hd.mk (below_seq Hv8.out hb_); have HBv9 := Hd.mk hb_; clear hm_ hb_))
      refine onK_normal (hK _ _ ⟨clsB _, clsB_of (by first | exact (Hv9.out) | exact below_undrew (Hv9.out)), fun _ _ h => h, ?_⟩)
      clear hK K
      have HJv10 := Hd.mk (HNUM.out v9 A15 c15 v8.heap.size (startM st q) (HM15.out))
      refine can_e (o := ⟨_,_,_,_,_,_⟩) rfl (fun K hK => ?_)
      go_wp2_with (go_at_call 50; go_must (refine Calls.mono HJv10.out ?_; rintro e v10 ⟨Av10, nv10, cv10, rfl, hr_, hb_⟩; have HRv10 : Hd (Row I v10 (fun k => u2.heap.size ≤ k ∧ k < v10.heap.size) Av10 nv10 (numbersL (startM st q))) := ⟨hr_.mono (fun k hk => ⟨Nat.le_trans Hv9.out.size hk.1, hk.2⟩)⟩; have Hv10 := Hd.mk (below_seq Hv9.out hb_); have HBv10 := Hd.mk hb_; clear hr_ hb_))
      refine onK_normal (hK _ _ ⟨clsB _, clsB_of (by first | exact (Hv10.out) | exact below_undrew (Hv10.out)), fun _ _ h => h, ?_⟩)
      clear hK K
      have HQv11 := Hd.mk (below_seq HBv9.out HBv10.out)
      have HJv11 := Hd.mk (same_calls Av8 Av10 nv8 nv10 cv8 cv10 (elemsI ws5) (numbersL (startM st q)) true (fun k => u2.heap.size ≤ k ∧ k < v8.heap.size) (fun k => u2.heap.size ≤ k ∧ k < v10.heap.size) v10 (fun k hk => Nat.lt_of_lt_of_le hk.2 HQv11.out.size) (fun k hk => hk.2) (HRv8.out.below (fun k hk => hk.2) HQv11.out) HRv10.out (decide_eq_true HE5.out))
      refine can_e (o := ⟨_,_,_,_,_,_⟩) rfl (fun K hK => ?_)
      go_wp2_with (go_at_call 17; go_must (refine Calls.mono HJv11.out ?_; rintro e v11 ⟨rfl, hb_⟩; have Hv11 := Hd.mk (below_seq Hv10.out hb_); clear hb_))
      refine onK_normal (hK _ _ ⟨fun _ => True, trivial, (fun h => by cases h), ?_⟩)
      clear hK K
      refine can_q (l := [⟨_,_,_,_,_,_⟩, ⟨_,_,_,_,_,_⟩]) rfl ?_
      repeat (go_big_quiet_step (fail))
      refine wpQuiet_nil ?_
      refine can_done ?_
      go_upto_region 12 with fail
      have zhy3 := blk_below hy3 Hv11.out
      have zhy7 := blk_below hy7 Hv11.out
      clear hy3c0 hy3f0 hy3c1 hy3f1 hy3l
      clear hy7c0 hy7f0 hy7c1 hy7f1 hy7l
      clear hy9c0 hy9f0 hy9c1 hy9f1 hy9l
      clear hy11c0 hy11f0 hy11c1 hy11f1 hy11l
      have zhy3c0 := blk_cell zhy3 0 _ rfl; have zhy3f0 := blk_frozen zhy3 0; have zhy3c1 := blk_cell zhy3 1 _ rfl; have zhy3f1 := blk_frozen zhy3 1; have zhy3l := blk_lt zhy3
      have zhy7c0 := blk_cell zhy7 0 _ rfl; have zhy7f0 := blk_frozen zhy7 0; have zhy7c1 := blk_cell zhy7 1 _ rfl; have zhy7f1 := blk_frozen zhy7 1; have zhy7l := blk_lt zhy7
      have HBV := Hd.mk (below_seq HBU.out Hv11.out)
      have HB12 := Hd.mk (fun (W : World) (hb : Below v11.heap.size v11 W) => best_ok st A c q S g n K ws1 W (HNF.out (below_seq HBV.out hb)) HCK.out HS1.out.ok (HS1.out.below (below_seq Hv11.out hb)).wd (HS1.out.below (below_seq Hv11.out hb)).hi (HTB.out (below_seq HBV.out hb)) (H0.out (below_seq HBV.out hb)))
      rw [HN.out, HKL1.out, HM1.out] at HB12
      have HA12 := Hd.mk (fun (W : World) (hb : Below v11.heap.size v11 W) => alive_ok st A n c q S g n K ws1 W HN.out (HNF.out (below_seq HBV.out hb)) HCK.out HS1.out.ok (HS1.out.below (below_seq Hv11.out hb)).wd (HS1.out.below (below_seq Hv11.out hb)).hi (HTB.out (below_seq HBV.out hb)) (H0.out (below_seq HBV.out hb)))
      rw [HKL1.out, HM1.out] at HA12
      have HRW := Hd.mk (fun (W : World) (hb : Below v11.heap.size v11 W) => (show Row bTy W (fun k => w6.heap.size ≤ k ∧ k < u2.heap.size) A13 n mi from (HM13'.out.row HN6.out).below (fun k hk => hk.2) (below_seq Hv11.out hb)))
      have HLT2 := Hd.mk (fun (W : World) (hb : Below v11.heap.size v11 W) (k : Nat) (hk : w6.heap.size ≤ k ∧ k < u2.heap.size) => (show k < W.heap.size from Nat.lt_of_lt_of_le hk.2 (below_seq Hv11.out hb).size))
      obtain ⟨r, hr⟩ : ∃ r, bestM q mi = r := ⟨_, rfl⟩
      obtain ⟨al, hal⟩ : ∃ r, aliveM q mi = r := ⟨_, rfl⟩
      rw [hr] at HB12
      rw [hal] at HA12
      refine wp_region_can (.q [0, 1, 3, 4] (.e 2 true (.e 5 false (.q [6, 7, 8, 9, 11, 12] (.e 10 true (.e 13 false (.q [14, 15, 16] (.e 17 false (.q [18, 19] (.done)))))))))) (clsB _) (by kernel_rfl) (by kernel_rfl) (by intro _ _ d _ _ h; cases d <;> exact h) (clsB_drew _) ?_
      refine can_q (l := [⟨_,_,_,_,_,_⟩, ⟨_,_,_,_,_,_⟩, ⟨_,_,_,_,_,_⟩, ⟨_,_,_,_,_,_⟩]) rfl ?_
      repeat (go_big_quiet_step (fail))
      refine wpQuiet_nil ?_
      refine can_e (o := ⟨_,_,_,_,_,_⟩) rfl (fun K hK => ?_)
      go_wp2_with (go_at_call 47; go_must (refine Calls.mono (HB12.out v11.drew (below_drew1 (Below.refl _ _))) ?_; rintro e x1 ⟨rfl, hb_⟩; have HX1 := Hd.mk (below_undrew hb_); clear hb_))
      refine onK_normal (hK _ _ ⟨clsB _, clsB_of (by first | exact (HX1.out) | exact below_undrew (HX1.out)), fun _ _ h => h, ?_⟩)
      clear hK K
      have h8 := rbest_calls st A n c q S A13 c13 mi _ x1 HN.out (HNF.out (below_seq HBV.out HX1.out)) (HLT2.out x1 HX1.out) (HRW.out x1 HX1.out)
      rw [hr] at h8
      have HJ := Hd.mk h8
      clear h8
      refine can_e (o := ⟨_,_,_,_,_,_⟩) rfl (fun K hK => ?_)
      go_wp2_with (go_at_call 53; go_must (refine Calls.mono HJ.out ?_; rintro e x2 ⟨rfl, hb_⟩; have HX2 := Hd.mk (below_seq HX1.out hb_); clear hb_))
      refine onK_normal (hK _ _ ⟨clsB _, clsB_of (by first | exact (HX2.out) | exact below_undrew (HX2.out)), fun _ _ h => h, ?_⟩)
      clear hK K
      refine can_q (l := [⟨_,_,_,_,_,_⟩, ⟨_,_,_,_,_,_⟩, ⟨_,_,_,_,_,_⟩, ⟨_,_,_,_,_,_⟩, ⟨_,_,_,_,_,_⟩, ⟨_,_,_,_,_,_⟩]) rfl ?_
      repeat (go_big_quiet_step (fail))
      refine wpQuiet_nil ?_
      refine can_e (o := ⟨_,_,_,_,_,_⟩) rfl (fun K hK => ?_)
      go_wp2_with (go_at_call 48; go_must (refine Calls.mono (HA12.out x2 HX2.out) ?_; rintro e x3 ⟨rfl, hb_⟩; have HX3 := Hd.mk (below_seq HX2.out hb_); clear hb_))
      refine onK_normal (hK _ _ ⟨clsB _, clsB_of (by first | exact (HX3.out) | exact below_undrew (HX3.out)), fun _ _ h => h, ?_⟩)
      clear hK K
      have h8 := ralive_calls st A n c q S A13 c13 mi _ x3 HN.out HN6.out (HNF.out (below_seq HBV.out HX3.out)) HOK.out (HLT2.out x3 HX3.out) (HRW.out x3 HX3.out) HM13'.out.nn
      rw [hal] at h8
      have HJ2 := Hd.mk h8
      clear h8
      refine can_e (o := ⟨_,_,_,_,_,_⟩) rfl (fun K hK => ?_)
      go_wp2_with (go_at_call 57; go_must (refine Calls.mono HJ2.out ?_; rintro e x4 ⟨rfl, hb_⟩; have HX4 := Hd.mk (below_seq HX3.out hb_); clear hb_))
      refine onK_normal (hK _ _ ⟨clsB _, clsB_of (by first | exact (HX4.out) | exact below_undrew (HX4.out)), fun _ _ h => h, ?_⟩)
      clear hK K
      refine can_q (l := [⟨_,_,_,_,_,_⟩, ⟨_,_,_,_,_,_⟩, ⟨_,_,_,_,_,_⟩]) rfl ?_
      repeat (go_big_quiet_step (fail))
      refine wpQuiet_nil ?_
      refine can_e (o := ⟨_,_,_,_,_,_⟩) rfl (fun K hK => ?_)
      go_wp2_with (go_at_call 41; go_must (refine Calls.mono (closeL_calls x4 (HTB.out (below_seq HBV.out HX4.out)) (H0.out (below_seq HBV.out HX4.out))) ?_; rintro e x5 ⟨rfl, hb_⟩; have HX5 := Hd.mk (below_seq HX4.out hb_); clear hb_))
      refine onK_normal (hK _ _ ⟨fun _ => True, trivial, (fun h => by cases h), ?_⟩)
      clear hK K
      refine can_q (l := [⟨_,_,_,_,_,_⟩, ⟨_,_,_,_,_,_⟩]) rfl ?_
      repeat (go_big_quiet_step (fail))
      refine wpQuiet_nil ?_
      refine can_done ?_
      go_wp2
      go_ret
      exact ⟨rfl, below_seq HBV.out HX5.out⟩
    · have HOK := Hd.mk hok
      rw [decide_eq_false hok] at HRR
      have hc3 : checkV st q = 3 := by rw [checkV_small (by rw [HN.out]; omega), if_neg hok]
      have hc : checkV st q ≠ 0 := by rw [hc3]; decide
      have HCB := Hd.mk (fun (W : World) (hb : Below w.heap.size w W) (sl rm : Value) => close_bad st A c q S sl rm W (HNF.out hb) hc)
      have HSB := Hd.mk (fun (W : World) (hb : Below w.heap.size w W) (sl rm : Value) => step_bad st A c q S sl rm ch W (HNF.out hb) hc)
      have HTB2 := Hd.mk (fun (W : World) (hb : Below w.heap.size w W) => start_bad st A c q S W (HNF.out hb) hc)
      have HBB := Hd.mk (fun (W : World) (hb : Below w.heap.size w W) (sl rm : Value) => best_bad st A c q S sl rm W (HNF.out hb) hc)
      have HAB := Hd.mk (fun (W : World) (hb : Below w.heap.size w W) (sl rm : Value) => alive_bad st A c q S sl rm W (HNF.out hb) hc)
      rw [HN.out] at HCB HSB HTB2 HBB HAB
      rw [hc3] at HCB HSB HTB2
      clear hok hc hc3
      go_wp2_with (first
        | (go_at_call 43; go_must (refine Calls.mono (HRR.out _ HV5a.out) ?_; rintro e w6 ⟨rfl, hb_⟩; have HV6 := Hd.mk (below_seq HV5a.out hb_); have h9 := blk_below h9a hb_; have h11 := blk_below h11a hb_; have hx35 := blk_below hx34 hb_; have hx75 := blk_below hx74 hb_; clear hx34c0 hx34f0 hx34c1 hx34f1 hx34l; clear hx74c0 hx74f0 hx74c1 hx74f1 hx74l; clear hb_))
        | (go_at_call 44; go_must (refine Calls.mono (HTB2.out _ HV4a.out) ?_; rintro e w5 ⟨rfl, hb_⟩; have HV5a := Hd.mk (below_seq (below_seq HV4a.out hb_) (below_alloc (Below.refl _ _) (.cells #[.slice none 0 0, .int .i64 0] 28))); have h9a := blk_alloc (blk_below h9z hb_) (.cells #[.slice none 0 0, .int .i64 0] 28); have h11a := blk_new w5 (.cells #[.slice none 0 0, .int .i64 0] 28) _ rfl; have hx34 := blk_alloc (blk_below hx33 hb_) (.cells #[.slice none 0 0, .int .i64 0] 28); have hx74 := blk_alloc (blk_below hx73 hb_) (.cells #[.slice none 0 0, .int .i64 0] 28); clear hx33c0 hx33f0 hx33c1 hx33f1 hx33l; clear hx73c0 hx73f0 hx73c1 hx73f1 hx73l; have hx34c0 := blk_cell hx34 0 _ rfl; have hx34f0 := blk_frozen hx34 0; have hx34c1 := blk_cell hx34 1 _ rfl; have hx34f1 := blk_frozen hx34 1; have hx34l := blk_lt hx34; have hx74c0 := blk_cell hx74 0 _ rfl; have hx74f0 := blk_frozen hx74 0; have hx74c1 := blk_cell hx74 1 _ rfl; have hx74f1 := blk_frozen hx74 1; have hx74l := blk_lt hx74; clear hb_))
        | (go_at_call 45; go_must (refine Calls.mono (HSB.out _ HV3'.out _ _) ?_; rintro e w4 ⟨rfl, hb_⟩; have HV4a := Hd.mk (below_seq (below_seq HV3'.out hb_) (below_alloc (Below.refl _ _) (.cells #[.slice none 0 0, .int .i64 0] 28))); have h9z := blk_new w4 (.cells #[.slice none 0 0, .int .i64 0] 28) _ rfl; have hx33 := blk_alloc (blk_below hx32 hb_) (.cells #[.slice none 0 0, .int .i64 0] 28); have hx73 := blk_alloc (blk_below hx72 hb_) (.cells #[.slice none 0 0, .int .i64 0] 28); clear hx32c0 hx32f0 hx32c1 hx32f1 hx32l; clear hx72c0 hx72f0 hx72c1 hx72f1 hx72l; have hx33c0 := blk_cell hx33 0 _ rfl; have hx33f0 := blk_frozen hx33 0; have hx33c1 := blk_cell hx33 1 _ rfl; have hx33f1 := blk_frozen hx33 1; have hx33l := blk_lt hx33; have hx73c0 := blk_cell hx73 0 _ rfl; have hx73f0 := blk_frozen hx73 0; have hx73c1 := blk_cell hx73 1 _ rfl; have hx73f1 := blk_frozen hx73 1; have hx73l := blk_lt hx73; clear hb_))
        | (go_at_call 54; go_must (refine Calls.mono (HCB.out _ HV.out _ _) ?_; rintro e w3 ⟨rfl, hb_⟩; have HV3' := Hd.mk (below_seq HV.out hb_); have hx32 := blk_below hx3 hb_; have hx72 := blk_below hx7 hb_; clear hx3c0 hx3f0 hx3c1 hx3f1 hx3l; clear hx7c0 hx7f0 hx7c1 hx7f1 hx7l; have hx32c0 := blk_cell hx32 0 _ rfl; have hx32f0 := blk_frozen hx32 0; have hx32c1 := blk_cell hx32 1 _ rfl; have hx32f1 := blk_frozen hx32 1; have hx32l := blk_lt hx32; have hx72c0 := blk_cell hx72 0 _ rfl; have hx72f0 := blk_frozen hx72 0; have hx72c1 := blk_cell hx72 1 _ rfl; have hx72f1 := blk_frozen hx72 1; have hx72l := blk_lt hx72; clear hb_)))
      have ec : ((elems ([] : List Nat)).length : Nat) = 0 := by decide
      have HCT := Hd.mk (fun (W : World) => count_calls none 0 0 0 [] W ok0 (.inl rfl))
      rw [ec] at HCT
      clear ec
      have h9c0 := blk_cell h9 0 _ rfl; have h9f0 := blk_frozen h9 0; have h9c1 := blk_cell h9 1 _ rfl; have h9f1 := blk_frozen h9 1; have h9l := blk_lt h9
      have h11c0 := blk_cell h11 0 _ rfl; have h11f0 := blk_frozen h11 0; have h11c1 := blk_cell h11 1 _ rfl; have h11f1 := blk_frozen h11 1; have h11l := blk_lt h11
      have hx35c0 := blk_cell hx35 0 _ rfl; have hx35f0 := blk_frozen hx35 0; have hx35c1 := blk_cell hx35 1 _ rfl; have hx35f1 := blk_frozen hx35 1; have hx35l := blk_lt hx35
      have hx75c0 := blk_cell hx75 0 _ rfl; have hx75f0 := blk_frozen hx75 0; have hx75c1 := blk_cell hx75 1 _ rfl; have hx75f1 := blk_frozen hx75 1; have hx75l := blk_lt hx75
      refine wp_region_can (.q [0, 1, 2, 3, 4, 5, 6, 7, 8, 9, 10, 11, 13] (.e 12 true (.e 14 false (.q [15, 16, 17, 18, 19, 20] (.e 21 false (.q [22, 23, 24, 25, 26] (.e 27 false (.q [28, 29, 30] (.e 31 false (.q [32, 33] (.done))))))))))) (clsB _) (by kernel_rfl) (by kernel_rfl) (by intro _ _ d _ _ h; cases d <;> exact h) (clsB_drew _) ?_
      refine can_q (l := [⟨_,_,_,_,_,_⟩, ⟨_,_,_,_,_,_⟩, ⟨_,_,_,_,_,_⟩, ⟨_,_,_,_,_,_⟩, ⟨_,_,_,_,_,_⟩, ⟨_,_,_,_,_,_⟩, ⟨_,_,_,_,_,_⟩, ⟨_,_,_,_,_,_⟩, ⟨_,_,_,_,_,_⟩, ⟨_,_,_,_,_,_⟩, ⟨_,_,_,_,_,_⟩, ⟨_,_,_,_,_,_⟩, ⟨_,_,_,_,_,_⟩]) rfl ?_
      repeat (go_big_quiet_step (fail))
      refine wpQuiet_nil ?_
      refine can_e (o := ⟨_,_,_,_,_,_⟩) rfl (fun K hK => ?_)
      go_wp2_with (go_at_call 25; go_must (refine Calls.mono (HCT.out w6.drew) ?_; rintro e u1 ⟨rfl, hb_⟩; have HU1 := Hd.mk (below_undrew hb_); clear hb_))
      refine onK_normal (hK _ _ ⟨clsB _, clsB_of (by first | exact (HU1.out) | exact below_undrew (HU1.out)), fun _ _ h => h, ?_⟩)
      clear hK K
      refine can_e (o := ⟨_,_,_,_,_,_⟩) rfl (fun K hK => ?_)
      go_wp2_with (go_at_call 25; go_must (refine Calls.mono (HCT.out u1) ?_; rintro e u2 ⟨rfl, hb_⟩; have HU2 := Hd.mk (below_seq HU1.out hb_); clear hb_))
      refine onK_normal (hK _ _ ⟨clsB _, clsB_of (by first | exact (HU2.out) | exact below_undrew (HU2.out)), fun _ _ h => h, ?_⟩)
      clear hK K
      refine can_q (l := [⟨_,_,_,_,_,_⟩, ⟨_,_,_,_,_,_⟩, ⟨_,_,_,_,_,_⟩, ⟨_,_,_,_,_,_⟩, ⟨_,_,_,_,_,_⟩, ⟨_,_,_,_,_,_⟩]) rfl ?_
      repeat (go_big_quiet_step (fail))
      refine wpQuiet_nil ?_
      refine can_e (o := ⟨_,_,_,_,_,_⟩) rfl (fun K hK => ?_)
      go_wp2_with (go_at_call 47; go_must (refine Calls.mono (HBB.out u2 (below_seq HV6.out HU2.out) _ _) ?_; rintro e u3 ⟨rfl, hb_⟩; have HU3 := Hd.mk (below_seq HU2.out hb_); clear hb_))
      refine onK_normal (hK _ _ ⟨clsB _, clsB_of (by first | exact (HU3.out) | exact below_undrew (HU3.out)), fun _ _ h => h, ?_⟩)
      clear hK K
      refine can_q (l := [⟨_,_,_,_,_,_⟩, ⟨_,_,_,_,_,_⟩, ⟨_,_,_,_,_,_⟩, ⟨_,_,_,_,_,_⟩, ⟨_,_,_,_,_,_⟩]) rfl ?_
      repeat (go_big_quiet_step (fail))
      refine wpQuiet_nil ?_
      refine can_e (o := ⟨_,_,_,_,_,_⟩) rfl (fun K hK => ?_)
      go_wp2_with (go_at_call 48; go_must (refine Calls.mono (HAB.out u3 (below_seq HV6.out HU3.out) _ _) ?_; rintro e u4 ⟨rfl, hb_⟩; have HU4 := Hd.mk (below_seq HU3.out hb_); clear hb_))
      refine onK_normal (hK _ _ ⟨clsB _, clsB_of (by first | exact (HU4.out) | exact below_undrew (HU4.out)), fun _ _ h => h, ?_⟩)
      clear hK K
      refine can_q (l := [⟨_,_,_,_,_,_⟩, ⟨_,_,_,_,_,_⟩, ⟨_,_,_,_,_,_⟩]) rfl ?_
      repeat (go_big_quiet_step (fail))
      refine wpQuiet_nil ?_
      refine can_e (o := ⟨_,_,_,_,_,_⟩) rfl (fun K hK => ?_)
      go_wp2_with (go_at_call 41; go_must (refine Calls.mono (closeL_calls u4 (HTB.out (below_seq HV6.out HU4.out)) (H0.out (below_seq HV6.out HU4.out))) ?_; rintro e u5 ⟨rfl, hb_⟩; have HU5 := Hd.mk (below_seq HU4.out hb_); clear hb_))
      refine onK_normal (hK _ _ ⟨fun _ => True, trivial, (fun h => by cases h), ?_⟩)
      clear hK K
      refine can_q (l := [⟨_,_,_,_,_,_⟩, ⟨_,_,_,_,_,_⟩]) rfl ?_
      repeat (go_big_quiet_step (fail))
      refine wpQuiet_nil ?_
      refine can_done ?_
      go_wp2
      go_ret
      exact ⟨rfl, below_seq HV6.out HU5.out⟩
end Go.Proofs.YtbmpaokicphdjaaDoor.Fn
