/- Texts: E14, E15, E16, E17. -/
import Derived.Test.YtbmpaokicphdjaaDoorED
import Derived.Deep.DeepCutAuto
import Derived.Deep.CutBlock
set_option linter.unusedVariables false
set_option linter.unusedSimpArgs false
/- SubsetBuilds: the walk. -/
namespace Go.Proofs.YtbmpaokicphdjaaDoor.Fn
open Go Go.RowKit Go.Proofs.YtbmpaokicphdjaaDoor.Can Go.Proofs.YtbmpaokicphdjaaDoor.Base
attribute [local go_sem] clsB AB.cell

theorem rbuild_good (st : Int) (A : Option Addr) (n c : Nat) (q : List St) (S : Nat → Prop) (most : Int) (w : World) (hn : q.length = n) (hN : NF w S A q) (hok : okN st q) (hn6 : n ≤ 65536) (hm1 : 0 ≤ most) (hm2 : most ≤ 1024)
    (D : List (List Bool) × List (List Int)) (hD : Good st q (fsOf q) most D) :
    Calls Tryd.prog 60 #[.agg #[.int .i64 st, .slice A n c], .int .i64 most] w fun e w' => ∃ (A1 A2 A3 : Option Addr) (n1 n2 n3 c1 c2 c3 : Nat), e = .returned (.tuple #[.agg #[.slice A1 n1 c1, .int .i64 (dfaOf q D).wid, .slice A2 n2 c2, .slice A3 n3 c3, .int .i64 0], .bool true]) ∧ Df.DF w' (fun k => w.heap.size ≤ k ∧ k < w'.heap.size) A1 A2 A3 n1 n2 n3 (dfaOf q D) ∧ Below w.heap.size w w' := by
  refine Calls.mono (rbuild_calls st A n c q S most w hn hN hok hn6 hm1 hm2) ?_
  rintro e w' ⟨⟨D', A1, A2, A3, n1, n2, n3, c1, c2, c3, h1, h2, h3⟩ | ⟨A1, A2, A3, n1, n2, n3, c1, c2, c3, wid, h1, h2⟩, hb⟩
  · obtain rfl := good_one hD h2
    exact ⟨A1, A2, A3, n1, n2, n3, c1, c2, c3, h1, h3, hb⟩
  · exact (good_bad hD h2).elim
theorem rbuild_bad (st : Int) (A : Option Addr) (n c : Nat) (q : List St) (S : Nat → Prop) (most : Int) (w : World) (hn : q.length = n) (hN : NF w S A q) (hok : okN st q) (hn6 : n ≤ 65536) (hm1 : 0 ≤ most) (hm2 : most ≤ 1024)
    (hB : Bad st q (fsOf q) most) :
    Calls Tryd.prog 60 #[.agg #[.int .i64 st, .slice A n c], .int .i64 most] w fun e w' => ∃ (A1 A2 A3 : Option Addr) (n1 n2 n3 c1 c2 c3 : Nat) (wid : Int), e = .returned (.tuple #[.agg #[.slice A1 n1 c1, .int .i64 wid, .slice A2 n2 c2, .slice A3 n3 c3, .int .i64 0], .bool false]) ∧ Below w.heap.size w w' := by
  refine Calls.mono (rbuild_calls st A n c q S most w hn hN hok hn6 hm1 hm2) ?_
  rintro e w' ⟨⟨D', A1, A2, A3, n1, n2, n3, c1, c2, c3, h1, h2, h3⟩ | ⟨A1, A2, A3, n1, n2, n3, c1, c2, c3, wid, h1, h2⟩, hb⟩
  · exact (good_bad h2 hB).elim
  · exact ⟨A1, A2, A3, n1, n2, n3, c1, c2, c3, wid, h1, hb⟩
theorem sameD_refl (d : Df.Df) : Df.sameD d d := ⟨rfl, rfl, rfl, rfl, rfl⟩

set_option maxRecDepth 20000 in
set_option maxHeartbeats 8000000 in
theorem sbuilds_calls (st : Int) (A : Option Addr) (n c : Nat) (q : List St) (S : Nat → Prop) (ch : Nat) (hch : ch < 256) (w : World) (hn : q.length = n) (hN : NF w S A q) (hT : TabAt 0 Lib.deBruijn64tab w) (h0 : 0 < w.heap.size) :
    Calls Tryd.prog 11 #[.agg #[.int .i64 st, .slice A n c], .int .u8 ch] w fun e w' => e = .returned (.bool true) ∧ Below w.heap.size w w' := by
  have HTB : Hd (∀ {W : World}, Below w.heap.size w W → TabAt 0 Lib.deBruijn64tab W) := ⟨fun hb j hj => (hb.cell (p := ⟨0, j, none⟩) h0).trans (hT j hj)⟩
  have H0 : Hd (∀ {W : World}, Below w.heap.size w W → 0 < W.heap.size) := ⟨fun hb => Nat.lt_of_lt_of_le h0 hb.size⟩
  have HNF : Hd (∀ {W : World}, Below w.heap.size w W → NF W S A q) := ⟨fun hb => hN.below hb⟩
  have HN := Hd.mk hn
  have HFA := Hd.mk (far_calls st A n c q S (w.alloc (.cells #[.int .i64 st, .slice A n c] 58)) hn (hN.below (below_alloc (Below.refl _ _) _)))
  have hmN := hN.row.le
  rw [hn] at hmN
  clear hT h0 hN hn
  go_enter Tryd.func11, Tryd.ntmps11
  go_upto_region 1 with fail
  go_cut [16] (fun v wx => ∃ gg : Bool, v = .bool gg ∧ Hd (gg = false → n ≤ 20) ∧ Hd (wx.heap[w.heap.size]? = some (.cells #[.int .i64 st, .slice A n c] 58 (0, 0))) ∧ Hd (Below w.heap.size w wx))
  case first =>
    go_wp2_with (go_at_call 40; go_must (refine Calls.mono HFA.out ?_; rintro e w1 ⟨⟨fb, rfl, hfb⟩, hb_⟩; have HB1 := Hd.mk (below_seq (below_alloc (Below.refl w.heap.size w) _) hb_); have hbx := blk_below (blk_new w (.cells #[.int .i64 st, .slice A n c] 58) _ rfl) hb_; have hbxc0 := blk_cell hbx 0 _ rfl; have hbxf0 := blk_frozen hbx 0; have hbxc1 := blk_cell hbx 1 _ rfl; have hbxf1 := blk_frozen hbx 1; have hbxl := blk_lt hbx; clear hb_ hfb))
    all_goals (go_meet; case rel => exact ⟨_, rfl, ⟨fun hg => by first | cases hg | (simp at hg; omega)⟩, ⟨hbx⟩, HB1⟩)
  case rest =>
  obtain ⟨gg, rfl, HGG, HBX, HB1⟩ := hcut
  clear HFA
  generalize wc = w1 at *
  cases gg with
  | true =>
    go_wp2_with (go_at_call 58; go_must (refine Calls.mono (subL_calls w1 (HTB.out HB1.out) (H0.out HB1.out)) ?_; rintro e w9 ⟨rfl, hb_⟩; have HB9 := Hd.mk (below_seq HB1.out hb_); clear hb_))
    go_ret
    exact ⟨rfl, HB9.out⟩
  | false =>
    have hn2 := HGG.out rfl
    clear HGG
    have hbx := HBX.out
    clear HBX
    have hcs : checkV st q = if okN st q then 0 else 3 := checkV_small (by rw [HN.out]; omega)
    have hcr : (0 : Int) ≤ ch ∧ (ch : Int) ≤ 1024 := by omega
    have HRR := Hd.mk (fun (W : World) (hb : Below w.heap.size w W) => rright_calls st A n c q S W HN.out (HNF.out hb))
    by_cases hok : okN st q
    case neg =>
      rw [decide_eq_false hok] at HRR
      rw [if_neg hok] at hcs
      have HBF := Hd.mk (fun (W : World) (hb : Below w.heap.size w W) => build_form st A n c q S ch W HN.out (HNF.out hb) (by rw [hcs]; decide))
      unfold zD at HBF
      rw [hcs] at HBF
      clear hcs
      have hbxc0 := blk_cell hbx 0 _ rfl; have hbxf0 := blk_frozen hbx 0; have hbxc1 := blk_cell hbx 1 _ rfl; have hbxf1 := blk_frozen hbx 1; have hbxl := blk_lt hbx
      go_upto_region 4 with (go_at_call 59; go_must (refine Calls.mono (HBF.out w1 HB1.out) ?_; rintro e w2 ⟨rfl, hb_⟩; have HB2 := Hd.mk (below_seq HB1.out hb_); have hbx2 := blk_below hbx hb_; clear hb_))
      clear hbxc0 hbxf0 hbxc1 hbxf1 hbxl
      have hx5 := blk_new w2 (.cells #[.slice none 0 0, .int .i64 0, .slice none 0 0, .slice none 0 0, .int .i64 0] 90) _ rfl
      have HBV := Hd.mk (below_seq HB2.out (below_alloc (Below.refl _ _) (.cells #[.slice none 0 0, .int .i64 0, .slice none 0 0, .slice none 0 0, .int .i64 0] 90)))
      have hbv := blk_alloc hbx2 (.cells #[.slice none 0 0, .int .i64 0, .slice none 0 0, .slice none 0 0, .int .i64 0] 90)
      generalize World.alloc w2 _ = V at *
      generalize w2.heap.size = p at *
      have hx5c0 := blk_cell hx5 0 _ rfl; have hx5f0 := blk_frozen hx5 0; have hx5c1 := blk_cell hx5 1 _ rfl; have hx5f1 := blk_frozen hx5 1; have hx5c2 := blk_cell hx5 2 _ rfl; have hx5f2 := blk_frozen hx5 2; have hx5c3 := blk_cell hx5 3 _ rfl; have hx5f3 := blk_frozen hx5 3; have hx5c4 := blk_cell hx5 4 _ rfl; have hx5f4 := blk_frozen hx5 4; have hx5l := blk_lt hx5
      have hbvc0 := blk_cell hbv 0 _ rfl; have hbvf0 := blk_frozen hbv 0; have hbvc1 := blk_cell hbv 1 _ rfl; have hbvf1 := blk_frozen hbv 1; have hbvl := blk_lt hbv
      go_wp2_with (first
        | (go_at_call 58; go_must (refine Calls.mono (subL_calls w3 (HTB.out HB3.out) (H0.out HB3.out)) ?_; rintro e w9 ⟨rfl, hb_⟩; have HB9 := Hd.mk (below_seq HB3.out hb_); clear hb_))
        | (go_at_call 43; go_must (refine Calls.mono (HRR.out V HBV.out) ?_; rintro e w3 ⟨rfl, hb_⟩; have HB3 := Hd.mk (below_seq HBV.out hb_); have hx53 := blk_below hx5 hb_; clear hx5c0 hx5f0 hx5c1 hx5f1 hx5c2 hx5f2 hx5c3 hx5f3 hx5c4 hx5f4 hx5l; have hx53c0 := blk_cell hx53 0 _ rfl; have hx53f0 := blk_frozen hx53 0; have hx53c1 := blk_cell hx53 1 _ rfl; have hx53f1 := blk_frozen hx53 1; have hx53c2 := blk_cell hx53 2 _ rfl; have hx53f2 := blk_frozen hx53 2; have hx53c3 := blk_cell hx53 3 _ rfl; have hx53f3 := blk_frozen hx53 3; have hx53c4 := blk_cell hx53 4 _ rfl; have hx53f4 := blk_frozen hx53 4; have hx53l := blk_lt hx53; clear hb_)))
      go_ret
      exact ⟨rfl, HB9.out⟩
    rw [decide_eq_true hok] at HRR
    rw [if_pos hok] at hcs
    have hmo : (if 1024 < (ch : Int) then 1024 else (ch : Int)) = (ch : Int) := if_neg (by omega)
    rcases good_or_bad st q (fsOf q) ch with ⟨D, hD⟩ | hB
    case inr =>
      have HBF := Hd.mk (fun (W : World) (hb : Below w.heap.size w W) => build_bad st A n c q S ch ch W HN.out (HNF.out hb) hcs hcr.1 hmo (HTB.out hb) (H0.out hb) hB)
      have HRB := Hd.mk (fun (W : World) (hb : Below w.heap.size w W) => rbuild_bad st A n c q S ch W HN.out (HNF.out hb) hok (by omega) hcr.1 hcr.2 hB)
      unfold zD at HBF
      clear hcs hok hB hmo
      have hbxc0 := blk_cell hbx 0 _ rfl; have hbxf0 := blk_frozen hbx 0; have hbxc1 := blk_cell hbx 1 _ rfl; have hbxf1 := blk_frozen hbx 1; have hbxl := blk_lt hbx
      go_upto_region 4 with (go_at_call 59; go_must (refine Calls.mono (HBF.out w1 HB1.out) ?_; rintro e w2 ⟨rfl, hb_⟩; have HB2 := Hd.mk (below_seq HB1.out hb_); have hbx2 := blk_below hbx hb_; clear hb_))
      clear hbxc0 hbxf0 hbxc1 hbxf1 hbxl
      have hx5 := blk_new w2 (.cells #[.slice none 0 0, .int .i64 0, .slice none 0 0, .slice none 0 0, .int .i64 0] 90) _ rfl
      have HBV := Hd.mk (below_seq HB2.out (below_alloc (Below.refl _ _) (.cells #[.slice none 0 0, .int .i64 0, .slice none 0 0, .slice none 0 0, .int .i64 0] 90)))
      have hbv := blk_alloc hbx2 (.cells #[.slice none 0 0, .int .i64 0, .slice none 0 0, .slice none 0 0, .int .i64 0] 90)
      generalize World.alloc w2 _ = V at *
      generalize w2.heap.size = p at *
      have hx5c0 := blk_cell hx5 0 _ rfl; have hx5f0 := blk_frozen hx5 0; have hx5c1 := blk_cell hx5 1 _ rfl; have hx5f1 := blk_frozen hx5 1; have hx5c2 := blk_cell hx5 2 _ rfl; have hx5f2 := blk_frozen hx5 2; have hx5c3 := blk_cell hx5 3 _ rfl; have hx5f3 := blk_frozen hx5 3; have hx5c4 := blk_cell hx5 4 _ rfl; have hx5f4 := blk_frozen hx5 4; have hx5l := blk_lt hx5
      have hbvc0 := blk_cell hbv 0 _ rfl; have hbvf0 := blk_frozen hbv 0; have hbvc1 := blk_cell hbv 1 _ rfl; have hbvf1 := blk_frozen hbv 1; have hbvl := blk_lt hbv
      go_upto_region 7 with (first
        | (go_at_call 60; go_must (refine Calls.mono (HRB.out w3 HB3.out) ?_; rintro e w4 ⟨B1, B2, B3, m1, m2, m3, d1, d2, d3, wid, rfl, hb_⟩; have HB4 := Hd.mk (below_seq HB3.out hb_); have hx54 := blk_below hx53 hb_; clear hb_))
        | (go_at_call 43; go_must (refine Calls.mono (HRR.out V HBV.out) ?_; rintro e w3 ⟨rfl, hb_⟩; have HB3 := Hd.mk (below_seq HBV.out hb_); have hx53 := blk_below hx5 hb_; have hbv3 := blk_below hbv hb_; clear hx5c0 hx5f0 hx5c1 hx5f1 hx5c2 hx5f2 hx5c3 hx5f3 hx5c4 hx5f4 hx5l; clear hbvc0 hbvf0 hbvc1 hbvf1 hbvl; have hbv3c0 := blk_cell hbv3 0 _ rfl; have hbv3f0 := blk_frozen hbv3 0; have hbv3c1 := blk_cell hbv3 1 _ rfl; have hbv3f1 := blk_frozen hbv3 1; have hbv3l := blk_lt hbv3; clear hb_)))
      have hx56 := blk_alloc hx54 (.cells #[.slice B1 m1 d1, .int .i64 wid, .slice B2 m2 d2, .slice B3 m3 d3, .int .i64 0] 90)
      have HBX := Hd.mk (below_seq HB4.out (below_alloc (Below.refl _ _) (.cells #[.slice B1 m1 d1, .int .i64 wid, .slice B2 m2 d2, .slice B3 m3 d3, .int .i64 0] 90)))
      generalize World.alloc w4 _ = X at *
      have hx56c0 := blk_cell hx56 0 _ rfl; have hx56f0 := blk_frozen hx56 0; have hx56c1 := blk_cell hx56 1 _ rfl; have hx56f1 := blk_frozen hx56 1; have hx56c2 := blk_cell hx56 2 _ rfl; have hx56f2 := blk_frozen hx56 2; have hx56c3 := blk_cell hx56 3 _ rfl; have hx56f3 := blk_frozen hx56 3; have hx56c4 := blk_cell hx56 4 _ rfl; have hx56f4 := blk_frozen hx56 4; have hx56l := blk_lt hx56
      go_wp2_with (go_at_call 58; go_must (refine Calls.mono (subL_calls X (HTB.out HBX.out) (H0.out HBX.out)) ?_; rintro e w9 ⟨rfl, hb_⟩; have HB9 := Hd.mk (below_seq HBX.out hb_); clear hb_))
      go_ret
      exact ⟨rfl, HB9.out⟩
    have HBF := Hd.mk (fun (W : World) (hb : Below w.heap.size w W) => build_good st A n c q S ch ch W HN.out (HNF.out hb) hcs hcr.1 hmo (HTB.out hb) (H0.out hb) D hD)
    have HRB := Hd.mk (fun (W : World) (hb : Below w.heap.size w W) => rbuild_good st A n c q S ch W HN.out (HNF.out hb) hok (by omega) hcr.1 hcr.2 D hD)
    have hokd := okD_build hok hcr.2 hD
    obtain ⟨dd, hdd⟩ : ∃ d, dfaOf q D = d := ⟨_, rfl⟩
    have hs0 : dd.st = 0 := by rw [← hdd]; rfl
    rw [hdd] at HBF HRB hokd
    obtain ⟨wd, hwd⟩ : ∃ x, dd.wid = x := ⟨_, rfl⟩
    have HWD := Hd.mk (And.intro hs0 hwd)
    have HOKD := Hd.mk hokd
    rw [hwd] at HBF HRB
    clear hcs hok hD hmo hdd hs0 hwd hokd
    have hbxc0 := blk_cell hbx 0 _ rfl; have hbxf0 := blk_frozen hbx 0; have hbxc1 := blk_cell hbx 1 _ rfl; have hbxf1 := blk_frozen hbx 1; have hbxl := blk_lt hbx
    go_upto_region 4 with (go_at_call 59; go_must (refine Calls.mono (HBF.out w1 HB1.out) ?_; rintro e w2 ⟨A1, A2, A3, n1, n2, n3, c1, c2, c3, rfl, hd_, hb_⟩; have HD2 := Hd.mk hd_; have HB2 := Hd.mk (below_seq HB1.out hb_); have hbx2 := blk_below hbx hb_; clear hb_ hd_))
    clear hbxc0 hbxf0 hbxc1 hbxf1 hbxl
    have hx5 := blk_new w2 (.cells #[.slice A1 n1 c1, .int .i64 wd, .slice A2 n2 c2, .slice A3 n3 c3, .int .i64 0] 90) _ rfl
    have HBV := Hd.mk (below_seq HB2.out (below_alloc (Below.refl _ _) (.cells #[.slice A1 n1 c1, .int .i64 wd, .slice A2 n2 c2, .slice A3 n3 c3, .int .i64 0] 90)))
    have HDV := Hd.mk (HD2.out.below (below_alloc (Below.refl _ _) (.cells #[.slice A1 n1 c1, .int .i64 wd, .slice A2 n2 c2, .slice A3 n3 c3, .int .i64 0] 90)))
    have hbv := blk_alloc hbx2 (.cells #[.slice A1 n1 c1, .int .i64 wd, .slice A2 n2 c2, .slice A3 n3 c3, .int .i64 0] 90)
    clear HD2
    generalize World.alloc w2 _ = V at *
    generalize w2.heap.size = p at *
    have hx5c0 := blk_cell hx5 0 _ rfl; have hx5f0 := blk_frozen hx5 0; have hx5c1 := blk_cell hx5 1 _ rfl; have hx5f1 := blk_frozen hx5 1; have hx5c2 := blk_cell hx5 2 _ rfl; have hx5f2 := blk_frozen hx5 2; have hx5c3 := blk_cell hx5 3 _ rfl; have hx5f3 := blk_frozen hx5 3; have hx5c4 := blk_cell hx5 4 _ rfl; have hx5f4 := blk_frozen hx5 4; have hx5l := blk_lt hx5
    have hbvc0 := blk_cell hbv 0 _ rfl; have hbvf0 := blk_frozen hbv 0; have hbvc1 := blk_cell hbv 1 _ rfl; have hbvf1 := blk_frozen hbv 1; have hbvl := blk_lt hbv
    go_upto_region 7 with (first
      | (go_at_call 60; go_must (refine Calls.mono (HRB.out w3 HB3.out) ?_; rintro e w4 ⟨B1, B2, B3, m1, m2, m3, d1, d2, d3, rfl, hd_, hb_⟩; have HE4 := Hd.mk hd_; have HB4 := Hd.mk (below_seq HB3.out hb_); have hx54 := blk_below hx53 hb_; have HD4 := Hd.mk (HD3.out.below hb_); clear hb_ hd_))
      | (go_at_call 43; go_must (refine Calls.mono (HRR.out V HBV.out) ?_; rintro e w3 ⟨rfl, hb_⟩; have HB3 := Hd.mk (below_seq HBV.out hb_); have hx53 := blk_below hx5 hb_; have hbv3 := blk_below hbv hb_; have HD3 := Hd.mk (HDV.out.below hb_); clear hx5c0 hx5f0 hx5c1 hx5f1 hx5c2 hx5f2 hx5c3 hx5f3 hx5c4 hx5f4 hx5l; clear hbvc0 hbvf0 hbvc1 hbvf1 hbvl; have hbv3c0 := blk_cell hbv3 0 _ rfl; have hbv3f0 := blk_frozen hbv3 0; have hbv3c1 := blk_cell hbv3 1 _ rfl; have hbv3f1 := blk_frozen hbv3 1; have hbv3l := blk_lt hbv3; clear hb_)))
    have hx56 := blk_alloc hx54 (.cells #[.slice B1 m1 d1, .int .i64 wd, .slice B2 m2 d2, .slice B3 m3 d3, .int .i64 0] 90)
    have hx7 := blk_new w4 (.cells #[.slice B1 m1 d1, .int .i64 wd, .slice B2 m2 d2, .slice B3 m3 d3, .int .i64 0] 90) _ rfl
    have HBX := Hd.mk (below_seq HB4.out (below_alloc (Below.refl _ _) (.cells #[.slice B1 m1 d1, .int .i64 wd, .slice B2 m2 d2, .slice B3 m3 d3, .int .i64 0] 90)))
    have HDX := Hd.mk (HD4.out.below (below_alloc (Below.refl _ _) (.cells #[.slice B1 m1 d1, .int .i64 wd, .slice B2 m2 d2, .slice B3 m3 d3, .int .i64 0] 90)))
    have HEX := Hd.mk (HE4.out.below (below_alloc (Below.refl _ _) (.cells #[.slice B1 m1 d1, .int .i64 wd, .slice B2 m2 d2, .slice B3 m3 d3, .int .i64 0] 90)))
    clear HD4 HE4 HD3 HDV
    generalize World.alloc w4 _ = X at *
    generalize w4.heap.size = pp at *
    have HJ1 := Hd.mk (Df.rdsame_calls A1 A2 A3 B1 B2 B3 n1 n2 n3 c1 c2 c3 m1 m2 m3 d1 d2 d3 dd dd _ _ X HDX.out HEX.out)
    have HJ2 := Hd.mk (fun (W : World) (hb : Below X.heap.size X W) => Df.rdright_calls A1 A2 A3 n1 n2 n3 c1 c2 c3 dd _ W (HDX.out.below hb))
    rw [decide_eq_true (sameD_refl dd), HWD.out.1, HWD.out.2] at HJ1
    rw [decide_eq_true HOKD.out, HWD.out.1, HWD.out.2] at HJ2
    have hx56c0 := blk_cell hx56 0 _ rfl; have hx56f0 := blk_frozen hx56 0; have hx56c1 := blk_cell hx56 1 _ rfl; have hx56f1 := blk_frozen hx56 1; have hx56c2 := blk_cell hx56 2 _ rfl; have hx56f2 := blk_frozen hx56 2; have hx56c3 := blk_cell hx56 3 _ rfl; have hx56f3 := blk_frozen hx56 3; have hx56c4 := blk_cell hx56 4 _ rfl; have hx56f4 := blk_frozen hx56 4; have hx56l := blk_lt hx56
    have hx7c0 := blk_cell hx7 0 _ rfl; have hx7f0 := blk_frozen hx7 0; have hx7c1 := blk_cell hx7 1 _ rfl; have hx7f1 := blk_frozen hx7 1; have hx7c2 := blk_cell hx7 2 _ rfl; have hx7f2 := blk_frozen hx7 2; have hx7c3 := blk_cell hx7 3 _ rfl; have hx7f3 := blk_frozen hx7 3; have hx7c4 := blk_cell hx7 4 _ rfl; have hx7f4 := blk_frozen hx7 4; have hx7l := blk_lt hx7
    go_wp2_with (first
      | (go_at_call 58; go_must (refine Calls.mono (subL_calls x2 (HTB.out HX2.out) (H0.out HX2.out)) ?_; rintro e w9 ⟨rfl, hb_⟩; have HB9 := Hd.mk (below_seq HX2.out hb_); clear hb_))
      | (go_at_call 62; go_must (refine Calls.mono (HJ2.out x1 HX1.out) ?_; rintro e x2 ⟨rfl, hb_⟩; have HX2 := Hd.mk (below_seq HBX.out (below_seq HX1.out hb_)); clear hb_))
      | (go_at_call 61; go_must (refine Calls.mono HJ1.out ?_; rintro e x1 ⟨rfl, hb_⟩; have HX1 := Hd.mk hb_; have hx561 := blk_below hx56 hb_; clear hx56c0 hx56f0 hx56c1 hx56f1 hx56c2 hx56f2 hx56c3 hx56f3 hx56c4 hx56f4 hx56l; clear hx7c0 hx7f0 hx7c1 hx7f1 hx7c2 hx7f2 hx7c3 hx7f3 hx7c4 hx7f4 hx7l; have hx561c0 := blk_cell hx561 0 _ rfl; have hx561f0 := blk_frozen hx561 0; have hx561c1 := blk_cell hx561 1 _ rfl; have hx561f1 := blk_frozen hx561 1; have hx561c2 := blk_cell hx561 2 _ rfl; have hx561f2 := blk_frozen hx561 2; have hx561c3 := blk_cell hx561 3 _ rfl; have hx561f3 := blk_frozen hx561 3; have hx561c4 := blk_cell hx561 4 _ rfl; have hx561f4 := blk_frozen hx561 4; have hx561l := blk_lt hx561; clear hb_)))
    go_ret
    exact ⟨rfl, HB9.out⟩
end Go.Proofs.YtbmpaokicphdjaaDoor.Fn

/- SubsetRuns: the walk. -/
namespace Go.Proofs.YtbmpaokicphdjaaDoor.Fn
open Go Go.RowKit Go.Proofs.YtbmpaokicphdjaaDoor.Can Go.Proofs.YtbmpaokicphdjaaDoor.Base
attribute [local go_sem] clsB AB.cell

set_option maxRecDepth 20000 in
set_option maxHeartbeats 8000000 in
theorem sruns_calls (st : Int) (A : Option Addr) (n c : Nat) (q : List St) (S : Nat → Prop) (t : ByteArray) (w : World) (hn : q.length = n) (hN : NF w S A q) (hT : TabAt 0 Lib.deBruijn64tab w) (h0 : 0 < w.heap.size) :
    Calls Tryd.prog 12 #[.agg #[.int .i64 st, .slice A n c], .string t] w fun e w' => e = .returned (.bool true) ∧ Below w.heap.size w w' := by
  have HTB : Hd (∀ {W : World}, Below w.heap.size w W → TabAt 0 Lib.deBruijn64tab W) := ⟨fun hb j hj => (hb.cell (p := ⟨0, j, none⟩) h0).trans (hT j hj)⟩
  have H0 : Hd (∀ {W : World}, Below w.heap.size w W → 0 < W.heap.size) := ⟨fun hb => Nat.lt_of_lt_of_le h0 hb.size⟩
  have HNF : Hd (∀ {W : World}, Below w.heap.size w W → NF W S A q) := ⟨fun hb => hN.below hb⟩
  have HN := Hd.mk hn
  have HFA := Hd.mk (far_calls st A n c q S (w.alloc (.cells #[.int .i64 st, .slice A n c] 58)) hn (hN.below (below_alloc (Below.refl _ _) _)))
  have HRR := Hd.mk (fun (W : World) (hb : Below w.heap.size w W) => rright_calls st A n c q S W hn (hN.below hb))
  have hmN := hN.row.le
  rw [hn] at hmN
  obtain ⟨ok, hok⟩ : ∃ b, decide (okN st q) = b := ⟨_, rfl⟩
  rw [hok] at HRR
  have HOK := Hd.mk hok
  obtain ⟨tn, htn⟩ : ∃ m, t.size = m := ⟨_, rfl⟩
  have HTN := Hd.mk htn
  clear hT h0 hN hn hok
  go_enter Tryd.func12, Tryd.ntmps12
  go_upto_region 1 with fail
  go_cut [26] (fun v wx => ∃ gg : Bool, v = .bool gg ∧ Hd (gg = false → n ≤ 20 ∧ ok = true ∧ tn ≤ 30) ∧ Hd (wx.heap[w.heap.size]? = some (.cells #[.int .i64 st, .slice A n c] 58 (0, 0))) ∧ Hd (Below w.heap.size w wx))
  case first =>
    go_wp2_with (first
      | (go_at_call 43; go_must (refine Calls.mono (HRR.out w1 HB1.out) ?_; rintro e w2 ⟨rfl, hb_⟩; have HB2 := Hd.mk (below_seq HB1.out hb_); have hbx2 := blk_below hbx hb_; clear hb_))
      | (go_at_call 40; go_must (refine Calls.mono HFA.out ?_; rintro e w1 ⟨⟨fb, rfl, hfb⟩, hb_⟩; have HB1 := Hd.mk (below_seq (below_alloc (Below.refl w.heap.size w) _) hb_); have hbx := blk_below (blk_new w (.cells #[.int .i64 st, .slice A n c] 58) _ rfl) hb_; have hbxc0 := blk_cell hbx 0 _ rfl; have hbxf0 := blk_frozen hbx 0; have hbxc1 := blk_cell hbx 1 _ rfl; have hbxf1 := blk_frozen hbx 1; have hbxl := blk_lt hbx; clear hb_ hfb)))
    all_goals (go_meet; case rel => exact ⟨_, rfl, ⟨fun hg => by first | cases hg | (simp at hg; refine ⟨by omega, ?_, by omega⟩; first | rfl | assumption | simp_all)⟩, ⟨by first | exact hbx2 | exact hbx⟩, by first | exact HB2 | exact HB1⟩)
  case rest =>
  obtain ⟨gg, rfl, HGG, HBX, HB1⟩ := hcut
  clear HFA HRR
  generalize wc = w1 at *
  cases gg with
  | true =>
    go_wp2_with (go_at_call 58; go_must (refine Calls.mono (subL_calls w1 (HTB.out HB1.out) (H0.out HB1.out)) ?_; rintro e w9 ⟨rfl, hb_⟩; have HB9 := Hd.mk (below_seq HB1.out hb_); clear hb_))
    go_ret
    exact ⟨rfl, HB9.out⟩
  | false =>
    obtain ⟨hn2, rfl, ht3⟩ := HGG.out rfl
    clear HGG
    have hbx := HBX.out
    clear HBX
    have hok : okN st q := of_decide_eq_true HOK.out
    have hcs : checkV st q = if okN st q then 0 else 3 := checkV_small (by rw [HN.out]; omega)
    rw [if_pos hok] at hcs
    have hmo : (if 1024 < (1024 : Int) then 1024 else (1024 : Int)) = (1024 : Int) := rfl
    rcases good_or_bad st q (fsOf q) 1024 with ⟨D, hD⟩ | hB
    case inr =>
      have HBF := Hd.mk (fun (W : World) (hb : Below w.heap.size w W) => build_bad st A n c q S 1024 1024 W HN.out (HNF.out hb) hcs (by decide) hmo (HTB.out hb) (H0.out hb) hB)
      have HRB := Hd.mk (fun (W : World) (hb : Below w.heap.size w W) => rbuild_bad st A n c q S 1024 W HN.out (HNF.out hb) hok (by omega) (by decide) (by decide) hB)
      unfold zD at HBF
      clear hcs hok hB hmo
      have hbxc0 := blk_cell hbx 0 _ rfl; have hbxf0 := blk_frozen hbx 0; have hbxc1 := blk_cell hbx 1 _ rfl; have hbxf1 := blk_frozen hbx 1; have hbxl := blk_lt hbx
      go_upto_region 4 with (go_at_call 59; go_must (refine Calls.mono (HBF.out w1 HB1.out) ?_; rintro e w2 ⟨rfl, hb_⟩; have HB2 := Hd.mk (below_seq HB1.out hb_); have hbx2 := blk_below hbx hb_; clear hb_))
      clear hbxc0 hbxf0 hbxc1 hbxf1 hbxl
      have HBV := Hd.mk (below_seq HB2.out (below_alloc (Below.refl _ _) (.cells #[.slice none 0 0, .int .i64 0, .slice none 0 0, .slice none 0 0, .int .i64 0] 90)))
      have hbv := blk_alloc hbx2 (.cells #[.slice none 0 0, .int .i64 0, .slice none 0 0, .slice none 0 0, .int .i64 0] 90)
      generalize World.alloc w2 _ = V at *
      generalize w2.heap.size = p at *
      have hbvc0 := blk_cell hbv 0 _ rfl; have hbvf0 := blk_frozen hbv 0; have hbvc1 := blk_cell hbv 1 _ rfl; have hbvf1 := blk_frozen hbv 1; have hbvl := blk_lt hbv
      go_upto_region 6 with (go_at_call 60; go_must (refine Calls.mono (HRB.out V HBV.out) ?_; rintro e w4 ⟨B1, B2, B3, m1, m2, m3, d1, d2, d3, wid, rfl, hb_⟩; have HB4 := Hd.mk (below_seq HBV.out hb_); clear hb_))
      have HBX := Hd.mk (below_seq HB4.out (below_alloc (Below.refl _ _) (.cells #[.slice B1 m1 d1, .int .i64 wid, .slice B2 m2 d2, .slice B3 m3 d3, .int .i64 0] 90)))
      generalize World.alloc w4 _ = X at *
      go_wp2_with (go_at_call 58; go_must (refine Calls.mono (subL_calls X (HTB.out HBX.out) (H0.out HBX.out)) ?_; rintro e w9 ⟨rfl, hb_⟩; have HB9 := Hd.mk (below_seq HBX.out hb_); clear hb_))
      go_ret
      exact ⟨rfl, HB9.out⟩
    have HBF := Hd.mk (fun (W : World) (hb : Below w.heap.size w W) => build_good st A n c q S 1024 1024 W HN.out (HNF.out hb) hcs (by decide) hmo (HTB.out hb) (H0.out hb) D hD)
    have HNR := Hd.mk (fun (W : World) (hb : Below w.heap.size w W) => rrun_calls st A n c q S t W HN.out (by omega) (HNF.out hb) hok (by rw [HTN.out]; omega))
    obtain ⟨r, hr⟩ : ∃ r, bestM q (runM st q (bl t)) = r := ⟨_, rfl⟩
    have hrv : Df.runV (dfaOf q D) (Df.bl t) = r := (runV_build hok (by decide) hD (bl t)).trans hr
    rw [hr] at HNR
    obtain ⟨dd, hdd⟩ : ∃ d, dfaOf q D = d := ⟨_, rfl⟩
    have hs0 : dd.st = 0 := by rw [← hdd]; rfl
    rw [hdd] at HBF hrv
    obtain ⟨wd, hwd⟩ : ∃ x, dd.wid = x := ⟨_, rfl⟩
    have HWD := Hd.mk (And.intro hs0 hwd)
    have HRV := Hd.mk hrv
    rw [hwd] at HBF
    clear hcs hok hD hmo hdd hs0 hwd hr hrv
    have hbxc0 := blk_cell hbx 0 _ rfl; have hbxf0 := blk_frozen hbx 0; have hbxc1 := blk_cell hbx 1 _ rfl; have hbxf1 := blk_frozen hbx 1; have hbxl := blk_lt hbx
    go_upto_region 4 with (go_at_call 59; go_must (refine Calls.mono (HBF.out w1 HB1.out) ?_; rintro e w2 ⟨A1, A2, A3, n1, n2, n3, c1, c2, c3, rfl, hd_, hb_⟩; have HD2 := Hd.mk hd_; have HB2 := Hd.mk (below_seq HB1.out hb_); have hbx2 := blk_below hbx hb_; clear hb_ hd_))
    clear hbxc0 hbxf0 hbxc1 hbxf1 hbxl
    have hx5 := blk_new w2 (.cells #[.slice A1 n1 c1, .int .i64 wd, .slice A2 n2 c2, .slice A3 n3 c3, .int .i64 0] 90) _ rfl
    have HBV := Hd.mk (below_seq HB2.out (below_alloc (Below.refl _ _) (.cells #[.slice A1 n1 c1, .int .i64 wd, .slice A2 n2 c2, .slice A3 n3 c3, .int .i64 0] 90)))
    have HDV := Hd.mk (HD2.out.below (below_alloc (Below.refl _ _) (.cells #[.slice A1 n1 c1, .int .i64 wd, .slice A2 n2 c2, .slice A3 n3 c3, .int .i64 0] 90)))
    have hbv := blk_alloc hbx2 (.cells #[.slice A1 n1 c1, .int .i64 wd, .slice A2 n2 c2, .slice A3 n3 c3, .int .i64 0] 90)
    clear HD2
    generalize World.alloc w2 _ = V at *
    generalize w2.heap.size = p at *
    have HJ1 := Hd.mk (Df.drun_calls A1 A2 A3 n1 n2 n3 c1 c2 c3 dd _ t (by rw [HTN.out]; omega) V.drew (HDV.out.below (below_drew1 (Below.refl _ _))))
    rw [HRV.out, HWD.out.1, HWD.out.2] at HJ1
    clear HRV
    have hx5c0 := blk_cell hx5 0 _ rfl; have hx5f0 := blk_frozen hx5 0; have hx5c1 := blk_cell hx5 1 _ rfl; have hx5f1 := blk_frozen hx5 1; have hx5c2 := blk_cell hx5 2 _ rfl; have hx5f2 := blk_frozen hx5 2; have hx5c3 := blk_cell hx5 3 _ rfl; have hx5f3 := blk_frozen hx5 3; have hx5c4 := blk_cell hx5 4 _ rfl; have hx5f4 := blk_frozen hx5 4; have hx5l := blk_lt hx5
    have hbvc0 := blk_cell hbv 0 _ rfl; have hbvf0 := blk_frozen hbv 0; have hbvc1 := blk_cell hbv 1 _ rfl; have hbvf1 := blk_frozen hbv 1; have hbvl := blk_lt hbv
    go_wp2
    refine wp_region_can (.q [0, 1, 3, 4] (.e 2 true (.e 5 false (.q [6, 7] (.e 8 false (.q [9, 10] (.done))))))) (clsB _) (by kernel_rfl) (by kernel_rfl) (by intro _ _ d _ _ h; cases d <;> exact h) (clsB_drew _) ?_
    refine can_q (l := [⟨_,_,_,_,_,_⟩, ⟨_,_,_,_,_,_⟩, ⟨_,_,_,_,_,_⟩, ⟨_,_,_,_,_,_⟩]) rfl ?_
    repeat (go_big_quiet_step (fail))
    refine wpQuiet_nil ?_
    refine can_e (o := ⟨_,_,_,_,_,_⟩) rfl (fun K hK => ?_)
    go_wp2_with (go_at_call 63; go_must (refine Calls.mono HJ1.out ?_; rintro e x1 ⟨rfl, hb_⟩; have HX1 := Hd.mk (below_undrew hb_); clear hb_))
    refine onK_normal (hK _ _ ⟨clsB _, clsB_of (by first | exact (HX1.out) | exact below_undrew (HX1.out)), fun _ _ h => h, ?_⟩)
    clear hK K
    refine can_e (o := ⟨_,_,_,_,_,_⟩) rfl (fun K hK => ?_)
    go_wp2_with (go_at_call 46; go_must (refine Calls.mono (HNR.out x1 (below_seq HBV.out HX1.out)) ?_; rintro e x2 ⟨rfl, hb_⟩; have HX2 := Hd.mk (below_seq HBV.out (below_seq HX1.out hb_)); clear hb_))
    refine onK_normal (hK _ _ ⟨fun _ => True, trivial, (fun h => by cases h), ?_⟩)
    clear hK K
    refine can_q (l := [⟨_,_,_,_,_,_⟩, ⟨_,_,_,_,_,_⟩]) rfl ?_
    repeat (go_big_quiet_step (fail))
    refine wpQuiet_nil ?_
    refine can_e (o := ⟨_,_,_,_,_,_⟩) rfl (fun K hK => ?_)
    go_wp2_with (go_at_call 58; go_must (refine Calls.mono (subL_calls x2 (HTB.out HX2.out) (H0.out HX2.out)) ?_; rintro e x3 ⟨rfl, hb_⟩; have HX3 := Hd.mk (below_seq HX2.out hb_); clear hb_))
    refine onK_normal (hK _ _ ⟨fun _ => True, trivial, (fun h => by cases h), ?_⟩)
    clear hK K
    refine can_q (l := [⟨_,_,_,_,_,_⟩, ⟨_,_,_,_,_,_⟩]) rfl ?_
    repeat (go_big_quiet_step (fail))
    refine wpQuiet_nil ?_
    refine can_done ?_
    go_wp2
    go_ret
    exact ⟨rfl, HX3.out⟩
end Go.Proofs.YtbmpaokicphdjaaDoor.Fn

/- SubsetLooks: the walk. -/
namespace Go.Proofs.YtbmpaokicphdjaaDoor.Fn
open Go Go.RowKit Go.Proofs.YtbmpaokicphdjaaDoor.Can Go.Proofs.YtbmpaokicphdjaaDoor.Base
attribute [local go_sem] clsB AB.cell

theorem toV_neg (d : Df.Df) (c : Nat) : Df.toV d (-1) c = -1 := by
  unfold Df.toV Df.nextD
  rw [if_pos (show (-1 : Int) < 0 by decide)]
  split <;> rfl
theorem toV_end (d : Df.Df) (c n : Nat) (hn : d.nxt.length = n) : Df.toV d n c = -1 := by
  have e : d.nxt.getD (n : Int).toNat [] = [] := by
    rw [List.getD_eq_getElem?_getD, List.getElem?_eq_none (by rw [hn]; omega)]; rfl
  unfold Df.toV Df.nextD
  rw [if_neg (show ¬ (n : Int) < 0 by omega), e]
  split <;> simp

set_option maxRecDepth 20000 in
set_option maxHeartbeats 8000000 in
theorem slooks_calls (A1 A2 A3 B1 B2 B3 : Option Addr) (n1 n2 n3 c1 c2 c3 m1 m2 m3 e1 e2 e3 : Nat) (d x : Df.Df) (S T : Nat → Prop) (t : ByteArray) (w : World) (hD : Df.DF w S A1 A2 A3 n1 n2 n3 d) (hX : Df.DF w T B1 B2 B3 m1 m2 m3 x) (hT : TabAt 0 Lib.deBruijn64tab w) (h0 : 0 < w.heap.size) :
    Calls Tryd.prog 13 #[.agg #[.slice A1 n1 c1, .int .i64 d.wid, .slice A2 n2 c2, .slice A3 n3 c3, .int .i64 d.st], .agg #[.slice B1 m1 e1, .int .i64 x.wid, .slice B2 m2 e2, .slice B3 m3 e3, .int .i64 x.st], .string t] w fun e w' => e = .returned (.bool true) ∧ Below w.heap.size w w' := by
  have HTB : Hd (∀ {W : World}, Below w.heap.size w W → TabAt 0 Lib.deBruijn64tab W) := ⟨fun hb j hj => (hb.cell (p := ⟨0, j, none⟩) h0).trans (hT j hj)⟩
  have H0 : Hd (∀ {W : World}, Below w.heap.size w W → 0 < W.heap.size) := ⟨fun hb => Nat.lt_of_lt_of_le h0 hb.size⟩
  have HF1 := Hd.mk (fun (W : World) (hb : Below w.heap.size w W) => Df.rdfar_calls A1 A2 A3 n1 n2 n3 c1 c2 c3 d S W (hD.below hb))
  have HF2 := Hd.mk (fun (W : World) (hb : Below w.heap.size w W) => Df.rdfar_calls B1 B2 B3 m1 m2 m3 e1 e2 e3 x T W (hX.below hb))
  have HRR := Hd.mk (fun (W : World) (hb : Below w.heap.size w W) => Df.rdright_calls A1 A2 A3 n1 n2 n3 c1 c2 c3 d S W (hD.below hb))
  have HDR := Hd.mk (fun (W : World) (hb : Below w.heap.size w W) => Df.dright_calls A1 A2 A3 n1 n2 n3 c1 c2 c3 d S W (hD.below hb))
  obtain ⟨tn, htn⟩ : ∃ n, t.size = n := ⟨_, rfl⟩
  have HDU := Hd.mk (fun (W : World) (hb : Below w.heap.size w W) (h : t.size ≤ 140737488351232) => Df.drun_calls A1 A2 A3 n1 n2 n3 c1 c2 c3 d S t h W (hD.below hb))
  have HRU := Hd.mk (fun (W : World) (hb : Below w.heap.size w W) (h : t.size ≤ 140737488351232) => Df.rrun_calls A1 A2 A3 n1 n2 n3 c1 c2 c3 d S t h W (hD.below hb))
  have HDS := Hd.mk (fun (W : World) (hb : Below w.heap.size w W) => Df.dsame_calls A1 A2 A3 B1 B2 B3 n1 n2 n3 c1 c2 c3 m1 m2 m3 e1 e2 e3 d x S T W (hD.below hb) (hX.below hb))
  have HRS := Hd.mk (fun (W : World) (hb : Below w.heap.size w W) => Df.rdsame_calls A1 A2 A3 B1 B2 B3 n1 n2 n3 c1 c2 c3 m1 m2 m3 e1 e2 e3 d x S T W (hD.below hb) (hX.below hb))
  have HRT := Hd.mk (fun (W : World) (hb : Below w.heap.size w W) (hok : Df.okD d) (s : Int) (ch : Nat) (hch : ch < 256) => Df.rto_calls A1 A2 A3 n1 n2 n3 c1 c2 c3 d S s ch hch W (hD.below hb) hok)
  have HDT := Hd.mk (fun (W : World) (hb : Below w.heap.size w W) (s : Int) (ch : Nat) (hch : ch < 256) => Df.dto_calls A1 A2 A3 n1 n2 n3 c1 c2 c3 d S s ch hch W (hD.below hb))
  obtain ⟨rb, hrb⟩ : ∃ b, decide (Df.okD d) = b := ⟨_, rfl⟩
  obtain ⟨rv, hrv⟩ : ∃ b, Df.runV d (Df.bl t) = b := ⟨_, rfl⟩
  obtain ⟨sb, hsb⟩ : ∃ b, decide (Df.sameD d x) = b := ⟨_, rfl⟩
  rw [hrb] at HRR HDR
  rw [hrv, htn] at HDU HRU
  rw [hsb] at HDS HRS
  have HRB := Hd.mk hrb
  have HN2 := Hd.mk hD.nxt.1
  have HTN := Hd.mk htn
  have hm2 := hD.nxt.le
  obtain ⟨wd, hwd⟩ : ∃ v, d.wid = v := ⟨_, rfl⟩
  obtain ⟨sd, hsd⟩ : ∃ v, d.st = v := ⟨_, rfl⟩
  obtain ⟨wx, hwx⟩ : ∃ v, x.wid = v := ⟨_, rfl⟩
  obtain ⟨sx, hsx⟩ : ∃ v, x.st = v := ⟨_, rfl⟩
  rw [hwd, hsd] at HF1 HRR HDR HDU HRU HDS HRS HRT HDT
  rw [hwx, hsx] at HF2 HDS HRS
  rw [hwd, hsd, hwx, hsx]
  have hq1 : (rb != rb) = false := by cases rb <;> rfl
  have hq2 : (sb != sb) = false := by cases sb <;> rfl
  have hq3 : ((rv : Int) != rv) = false := by simp
  clear hT h0 hD hX hrb hrv hsb hwd hsd hwx hsx
  go_enter Tryd.func13, Tryd.ntmps13
  go_upto_region 1 with fail
  have hx3 := blk_alloc (blk_new w (.cells #[.slice A1 n1 c1, .int .i64 wd, .slice A2 n2 c2, .slice A3 n3 c3, .int .i64 sd] 90) _ rfl) (.cells #[.slice B1 m1 e1, .int .i64 wx, .slice B2 m2 e2, .slice B3 m3 e3, .int .i64 sx] 90)
  have hx4 := blk_new (w.alloc (.cells #[.slice A1 n1 c1, .int .i64 wd, .slice A2 n2 c2, .slice A3 n3 c3, .int .i64 sd] 90)) (.cells #[.slice B1 m1 e1, .int .i64 wx, .slice B2 m2 e2, .slice B3 m3 e3, .int .i64 sx] 90) (w.heap.size + 1) (by rw [size_alloc])
  have HBV : Hd (Below w.heap.size w ((w.alloc (.cells #[.slice A1 n1 c1, .int .i64 wd, .slice A2 n2 c2, .slice A3 n3 c3, .int .i64 sd] 90)).alloc (.cells #[.slice B1 m1 e1, .int .i64 wx, .slice B2 m2 e2, .slice B3 m3 e3, .int .i64 sx] 90))) := ⟨below_alloc (below_alloc (Below.refl _ _) _) _⟩
  generalize World.alloc (w.alloc _) _ = V at *
  have hx3c0 := blk_cell hx3 0 _ rfl; have hx3f0 := blk_frozen hx3 0; have hx3c1 := blk_cell hx3 1 _ rfl; have hx3f1 := blk_frozen hx3 1; have hx3c2 := blk_cell hx3 2 _ rfl; have hx3f2 := blk_frozen hx3 2; have hx3c3 := blk_cell hx3 3 _ rfl; have hx3f3 := blk_frozen hx3 3; have hx3c4 := blk_cell hx3 4 _ rfl; have hx3f4 := blk_frozen hx3 4; have hx3l := blk_lt hx3
  have hx4c0 := blk_cell hx4 0 _ rfl; have hx4f0 := blk_frozen hx4 0; have hx4c1 := blk_cell hx4 1 _ rfl; have hx4f1 := blk_frozen hx4 1; have hx4c2 := blk_cell hx4 2 _ rfl; have hx4f2 := blk_frozen hx4 2; have hx4c3 := blk_cell hx4 3 _ rfl; have hx4f3 := blk_frozen hx4 3; have hx4c4 := blk_cell hx4 4 _ rfl; have hx4f4 := blk_frozen hx4 4; have hx4l := blk_lt hx4
  go_cut [21] (fun v wx => ∃ gg : Bool, v = .bool gg ∧ Hd (gg = false → tn ≤ 30) ∧ Hd (Below V.heap.size V wx)) 
  case first =>
    go_wp2_with (first
      | (have hq_ := HB1; clear hq_; go_at_call 64; go_must (refine Calls.mono (HF2.out w1 (below_seq HBV.out HB1.out)) ?_; rintro e w2 ⟨⟨fb2, rfl⟩, hb_⟩; have HB2 := Hd.mk (below_seq HB1.out hb_); clear hb_))
      | (go_at_call 64; go_must (refine Calls.mono (HF1.out V HBV.out) ?_; rintro e w1 ⟨⟨fb, rfl⟩, hb_⟩; have HB1 := Hd.mk hb_; have hx41 := blk_below hx4 hb_; clear hx4c0 hx4f0 hx4c1 hx4f1 hx4c2 hx4f2 hx4c3 hx4f3 hx4c4 hx4f4 hx4l; have hx41c0 := blk_cell hx41 0 _ rfl; have hx41f0 := blk_frozen hx41 0; have hx41c1 := blk_cell hx41 1 _ rfl; have hx41f1 := blk_frozen hx41 1; have hx41c2 := blk_cell hx41 2 _ rfl; have hx41f2 := blk_frozen hx41 2; have hx41c3 := blk_cell hx41 3 _ rfl; have hx41f3 := blk_frozen hx41 3; have hx41c4 := blk_cell hx41 4 _ rfl; have hx41f4 := blk_frozen hx41 4; have hx41l := blk_lt hx41; clear hb_)))
    all_goals (go_meet; case rel => exact ⟨_, rfl, ⟨fun hg => by first | cases hg | (simp at hg; omega)⟩, by first | exact HB2 | exact HB1⟩)
  case rest =>
  clear hx3c0 hx3f0 hx3c1 hx3f1 hx3c2 hx3f2 hx3c3 hx3f3 hx3c4 hx3f4 hx3l
  clear hx4c0 hx4f0 hx4c1 hx4f1 hx4c2 hx4f2 hx4c3 hx4f3 hx4c4 hx4f4 hx4l
  obtain ⟨gg, rfl, HGG, HB1⟩ := hcut
  generalize wc = w1 at *
  have hx31 := blk_below hx3 HB1.out
  have hx41 := blk_below hx4 HB1.out
  have HV1 := Hd.mk (below_seq HBV.out HB1.out)
  clear hx3 hx4 HBV HB1
  cases gg with
  | true =>
    go_wp2_with (go_at_call 58; go_must (refine Calls.mono (subL_calls w1 (HTB.out HV1.out) (H0.out HV1.out)) ?_; rintro e w9 ⟨rfl, hb_⟩; have HB9 := Hd.mk (below_seq HV1.out hb_); clear hb_))
    go_ret
    exact ⟨rfl, HB9.out⟩
  | false =>
    have ht3 := HGG.out rfl
    have ht4 : tn ≤ 140737488351232 := by omega
    clear HGG
    have hx31c0 := blk_cell hx31 0 _ rfl; have hx31f0 := blk_frozen hx31 0; have hx31c1 := blk_cell hx31 1 _ rfl; have hx31f1 := blk_frozen hx31 1; have hx31c2 := blk_cell hx31 2 _ rfl; have hx31f2 := blk_frozen hx31 2; have hx31c3 := blk_cell hx31 3 _ rfl; have hx31f3 := blk_frozen hx31 3; have hx31c4 := blk_cell hx31 4 _ rfl; have hx31f4 := blk_frozen hx31 4; have hx31l := blk_lt hx31
    go_upto_region 4 with (go_at_call 62; go_must (refine Calls.mono (HRR.out w1 HV1.out) ?_; rintro e w2 ⟨rfl, hb_⟩; have HV2 := Hd.mk (below_seq HV1.out hb_); have hx32 := blk_below hx31 hb_; have hx42 := blk_below hx41 hb_; clear hb_))
    clear hx31c0 hx31f0 hx31c1 hx31f1 hx31c2 hx31f2 hx31c3 hx31f3 hx31c4 hx31f4 hx31l
    have hx32c0 := blk_cell hx32 0 _ rfl; have hx32f0 := blk_frozen hx32 0; have hx32c1 := blk_cell hx32 1 _ rfl; have hx32f1 := blk_frozen hx32 1; have hx32c2 := blk_cell hx32 2 _ rfl; have hx32f2 := blk_frozen hx32 2; have hx32c3 := blk_cell hx32 3 _ rfl; have hx32f3 := blk_frozen hx32 3; have hx32c4 := blk_cell hx32 4 _ rfl; have hx32f4 := blk_frozen hx32 4; have hx32l := blk_lt hx32
    have hx42c0 := blk_cell hx42 0 _ rfl; have hx42f0 := blk_frozen hx42 0; have hx42c1 := blk_cell hx42 1 _ rfl; have hx42f1 := blk_frozen hx42 1; have hx42c2 := blk_cell hx42 2 _ rfl; have hx42f2 := blk_frozen hx42 2; have hx42c3 := blk_cell hx42 3 _ rfl; have hx42f3 := blk_frozen hx42 3; have hx42c4 := blk_cell hx42 4 _ rfl; have hx42f4 := blk_frozen hx42 4; have hx42l := blk_lt hx42
    refine wp_region_can (.q [0, 2] (.e 1 false (.q [3, 4, 5, 6, 8, 9] (.e 7 true (.e 10 false (.q [11, 12, 13, 14, 15, 17, 18] (.e 16 true (.e 19 false (.q [20, 21] (.done)))))))))) (clsB _) (by kernel_rfl) (by kernel_rfl) (by intro _ _ d _ _ h; cases d <;> exact h) (clsB_drew _) ?_
    refine can_q (l := [⟨_,_,_,_,_,_⟩, ⟨_,_,_,_,_,_⟩]) rfl ?_
    repeat (go_big_quiet_step (fail))
    refine wpQuiet_nil ?_
    refine can_e (o := ⟨_,_,_,_,_,_⟩) rfl (fun K hK => ?_)
    go_wp2_with (go_at_call 65; go_must (refine Calls.mono (HDR.out w2.drew (below_drew1 HV2.out)) ?_; rintro e x1 ⟨rfl, hb_⟩; have HX1 := Hd.mk (below_undrew hb_); clear hb_))
    refine onK_normal (hK _ _ ⟨clsB _, clsB_of (by first | exact (HX1.out) | exact below_undrew (HX1.out)), fun _ _ h => h, ?_⟩)
    clear hK K
    refine can_q (l := [⟨_,_,_,_,_,_⟩, ⟨_,_,_,_,_,_⟩, ⟨_,_,_,_,_,_⟩, ⟨_,_,_,_,_,_⟩, ⟨_,_,_,_,_,_⟩, ⟨_,_,_,_,_,_⟩]) rfl ?_
    repeat (go_big_quiet_step (fail))
    refine wpQuiet_nil ?_
    refine can_e (o := ⟨_,_,_,_,_,_⟩) rfl (fun K hK => ?_)
    go_wp2_with (go_at_call 63; go_must (refine Calls.mono (HDU.out x1 (below_seq HV2.out HX1.out) ht4) ?_; rintro e x2 ⟨rfl, hb_⟩; have HX2 := Hd.mk (below_seq HX1.out hb_); clear hb_))
    refine onK_normal (hK _ _ ⟨clsB _, clsB_of (by first | exact (HX2.out) | exact below_undrew (HX2.out)), fun _ _ h => h, ?_⟩)
    clear hK K
    refine can_e (o := ⟨_,_,_,_,_,_⟩) rfl (fun K hK => ?_)
    go_wp2_with (go_at_call 66; go_must (refine Calls.mono (HRU.out x2 (below_seq HV2.out HX2.out) ht4) ?_; rintro e x3 ⟨rfl, hb_⟩; have HX3 := Hd.mk (below_seq HX2.out hb_); clear hb_))
    refine onK_normal (hK _ _ ⟨clsB _, clsB_of (by first | exact (HX3.out) | exact below_undrew (HX3.out)), fun _ _ h => h, ?_⟩)
    clear hK K
    refine can_q (l := [⟨_,_,_,_,_,_⟩, ⟨_,_,_,_,_,_⟩, ⟨_,_,_,_,_,_⟩, ⟨_,_,_,_,_,_⟩, ⟨_,_,_,_,_,_⟩, ⟨_,_,_,_,_,_⟩, ⟨_,_,_,_,_,_⟩]) rfl ?_
    repeat (go_big_quiet_step (fail))
    refine wpQuiet_nil ?_
    refine can_e (o := ⟨_,_,_,_,_,_⟩) rfl (fun K hK => ?_)
    go_wp2_with (go_at_call 67; go_must (refine Calls.mono (HDS.out x3 (below_seq HV2.out HX3.out)) ?_; rintro e x4 ⟨rfl, hb_⟩; have HX4 := Hd.mk (below_seq HX3.out hb_); clear hb_))
    refine onK_normal (hK _ _ ⟨clsB _, clsB_of (by first | exact (HX4.out) | exact below_undrew (HX4.out)), fun _ _ h => h, ?_⟩)
    clear hK K
    refine can_e (o := ⟨_,_,_,_,_,_⟩) rfl (fun K hK => ?_)
    go_wp2_with (go_at_call 61; go_must (refine Calls.mono (HRS.out x4 (below_seq HV2.out HX4.out)) ?_; rintro e x5 ⟨rfl, hb_⟩; have HX5 := Hd.mk (below_seq HX4.out hb_); clear hb_))
    refine onK_normal (hK _ _ ⟨fun _ => True, trivial, (fun h => by cases h), ?_⟩)
    clear hK K
    refine can_q (l := [⟨_,_,_,_,_,_⟩, ⟨_,_,_,_,_,_⟩]) rfl ?_
    repeat (go_big_quiet_step (fail))
    refine wpQuiet_nil ?_
    refine can_done ?_
    go_wp2
    clear hx32c0 hx32f0 hx32c1 hx32f1 hx32c2 hx32f2 hx32c3 hx32f3 hx32c4 hx32f4 hx32l
    clear hx42c0 hx42f0 hx42c1 hx42f1 hx42c2 hx42f2 hx42c3 hx42f3 hx42c4 hx42f4 hx42l
    have hy3 := blk_below hx32 HX5.out
    have HV5 := Hd.mk (below_seq HV2.out HX5.out)
    have HY3 := Hd.mk hy3
    clear hx31 hx41 hx32 hx42 HX5 HX4 HX3 HX2 HX1 HF1 HF2 HRR HDR HDU HRU HDS HRS hq1 hq2 hq3 hy3 HV1 HV2
    obtain ⟨Wo, hWo⟩ : ∃ W, W = x5 := ⟨_, rfl⟩
    subst hWo
    go_loopw [8] (fun i wr => ∃ k : Nat, k ≤ tn ∧ i = .int .i64 k ∧ Hd (Below Wo.heap.size Wo wr)) (fun i _ => tn - (intOf i).toNat)
    case atStart => exact ⟨0, Nat.zero_le _, rfl, ⟨Below.refl _ _⟩⟩
    case round =>
      obtain ⟨k, hk, rfl, HB⟩ := hrel
      have hy3 := blk_below HY3.out HB.out
      by_cases hlt : k < tn
      · obtain ⟨b9, hb9⟩ : ∃ b, (bl t)[k]? = some b := ⟨_, List.getElem?_eq_getElem (by rw [bl_len, HTN.out]; exact hlt)⟩
        have hix : ∀ W, (Instr.index 9 (.string t) (.int .i64 k)).run Tryd.prog W = .ok (.int .u8 (b9.toNat : Int)) W := index_at t k b9 hb9
        have hch : b9.toNat < 256 := b9.toNat_lt
        obtain ⟨ch, hcc⟩ : ∃ m : Nat, b9.toNat = m := ⟨_, rfl⟩
        rw [hcc] at hix hch
        have HJD := Hd.mk (fun (W : World) (hb : Below wr.heap.size wr W) (s : Int) => HDT.out W (below_seq (below_seq HV5.out HB.out) hb) s ch hch)
        have HJR := Hd.mk (fun (hok : Df.okD d) (W : World) (hb : Below wr.heap.size wr W) (s : Int) => HRT.out W (below_seq (below_seq HV5.out HB.out) hb) hok s ch hch)
        clear hb9 hcc
        have hy3c0 := blk_cell hy3 0 _ rfl; have hy3f0 := blk_frozen hy3 0; have hy3c1 := blk_cell hy3 1 _ rfl; have hy3f1 := blk_frozen hy3 1; have hy3c2 := blk_cell hy3 2 _ rfl; have hy3f2 := blk_frozen hy3 2; have hy3c3 := blk_cell hy3 3 _ rfl; have hy3f3 := blk_frozen hy3 3; have hy3c4 := blk_cell hy3 4 _ rfl; have hy3f4 := blk_frozen hy3 4; have hy3l := blk_lt hy3
        cases rb with
        | false =>
          have hokd : ¬ Df.okD d := of_decide_eq_false HRB.out
          have HTV : Hd (∀ s, Df.toV d s ch = -1) := ⟨fun s => by unfold Df.toV; rw [if_neg hokd]⟩
          go_wp2
          refine wp_region_can (.q [0, 1, 2, 3, 4, 6] (.e 5 false (.q [7] (.done)))) (clsB _) (by kernel_rfl) (by kernel_rfl) (by intro _ _ d _ _ h; cases d <;> exact h) (clsB_drew _) ?_
          refine can_q (l := [⟨_,_,_,_,_,_⟩, ⟨_,_,_,_,_,_⟩, ⟨_,_,_,_,_,_⟩, ⟨_,_,_,_,_,_⟩, ⟨_,_,_,_,_,_⟩, ⟨_,_,_,_,_,_⟩]) rfl ?_
          repeat (go_big_quiet_step (fail))
          refine wpQuiet_nil ?_
          refine can_e (o := ⟨_,_,_,_,_,_⟩) rfl (fun K hK => ?_)
          go_wp2_with (go_at_call 69; go_must (refine Calls.mono (HJD.out wr.drew (below_drew1 (Below.refl _ _)) _) ?_; rintro e x1 ⟨rfl, hb_⟩; have HX1 := Hd.mk (below_undrew hb_); rw [HTV.out]; clear hb_))
          refine onK_normal (hK _ _ ⟨fun _ => True, trivial, (fun h => by cases h), ?_⟩)
          clear hK K
          refine can_q (l := [⟨_,_,_,_,_,_⟩]) rfl ?_
          repeat (go_big_quiet_step (fail))
          refine wpQuiet_nil ?_
          refine can_done ?_
          go_wp2
          go_roundw
          case rel => exact ⟨k + 1, by omega, by go_num, ⟨below_seq HB.out HX1.out⟩⟩
          case measure => simp [intOf]; omega
        | true =>
          have hokd : Df.okD d := of_decide_eq_true HRB.out
          have HTV : Hd (∀ s, Df.toV d s ch = Df.nextD d s ch) := ⟨fun s => by unfold Df.toV; rw [if_pos hokd]⟩
          have HJR2 := Hd.mk (HJR.out hokd)
          go_wp2
          refine wp_region_can (.q [0, 1, 2, 3, 4] (.e 5 false (.q [6] (.done)))) (clsB _) (by kernel_rfl) (by kernel_rfl) (by intro _ _ d _ _ h; cases d <;> exact h) (clsB_drew _) ?_
          refine can_q (l := [⟨_,_,_,_,_,_⟩, ⟨_,_,_,_,_,_⟩, ⟨_,_,_,_,_,_⟩, ⟨_,_,_,_,_,_⟩, ⟨_,_,_,_,_,_⟩]) rfl ?_
          repeat (go_big_quiet_step (fail))
          refine wpQuiet_nil ?_
          refine can_e (o := ⟨_,_,_,_,_,_⟩) rfl (fun K hK => ?_)
          go_wp2_with (go_at_call 68; go_must (refine Calls.mono (HJR2.out wr.drew (below_drew1 (Below.refl _ _)) _) ?_; rintro e x1 ⟨rfl, hb_⟩; have HX1 := Hd.mk (below_undrew hb_); have hy31 := blk_below hy3 HX1.out; clear hb_))
          refine onK_normal (hK _ _ ⟨fun _ => True, trivial, (fun h => by cases h), ?_⟩)
          clear hK K
          refine can_q (l := [⟨_,_,_,_,_,_⟩]) rfl ?_
          repeat (go_big_quiet_step (fail))
          refine wpQuiet_nil ?_
          refine can_done ?_
          clear hy3c0 hy3f0 hy3c1 hy3f1 hy3c2 hy3f2 hy3c3 hy3f3 hy3c4 hy3f4 hy3l
          have hy31c0 := blk_cell hy31 0 _ rfl; have hy31f0 := blk_frozen hy31 0; have hy31c1 := blk_cell hy31 1 _ rfl; have hy31f1 := blk_frozen hy31 1; have hy31c2 := blk_cell hy31 2 _ rfl; have hy31f2 := blk_frozen hy31 2; have hy31c3 := blk_cell hy31 3 _ rfl; have hy31f3 := blk_frozen hy31 3; have hy31c4 := blk_cell hy31 4 _ rfl; have hy31f4 := blk_frozen hy31 4; have hy31l := blk_lt hy31
          go_wp2
          refine wp_region_can (.q [0, 1, 2, 3, 4, 6] (.e 5 false (.q [7] (.done)))) (clsB _) (by kernel_rfl) (by kernel_rfl) (by intro _ _ d _ _ h; cases d <;> exact h) (clsB_drew _) ?_
          refine can_q (l := [⟨_,_,_,_,_,_⟩, ⟨_,_,_,_,_,_⟩, ⟨_,_,_,_,_,_⟩, ⟨_,_,_,_,_,_⟩, ⟨_,_,_,_,_,_⟩, ⟨_,_,_,_,_,_⟩]) rfl ?_
          repeat (go_big_quiet_step (fail))
          refine wpQuiet_nil ?_
          refine can_e (o := ⟨_,_,_,_,_,_⟩) rfl (fun K hK => ?_)
          go_wp2_with (go_at_call 69; go_must (refine Calls.mono (HJD.out x1.drew (below_drew1 HX1.out) _) ?_; rintro e x2 ⟨rfl, hb_⟩; have HX2 := Hd.mk (below_seq HX1.out (below_undrew hb_)); rw [HTV.out]; clear hb_))
          refine onK_normal (hK _ _ ⟨fun _ => True, trivial, (fun h => by cases h), ?_⟩)
          clear hK K
          refine can_q (l := [⟨_,_,_,_,_,_⟩]) rfl ?_
          repeat (go_big_quiet_step (fail))
          refine wpQuiet_nil ?_
          refine can_done ?_
          go_wp2
          go_roundw
          case rel => exact ⟨k + 1, by omega, by go_num, ⟨below_seq HB.out HX2.out⟩⟩
          case measure => simp [intOf]; omega
      · obtain rfl : k = tn := by omega
        have HJD := Hd.mk (fun (W : World) (hb : Below wr.heap.size wr W) (s : Int) => HDT.out W (below_seq (below_seq HV5.out HB.out) hb) s 97 (by decide))
        have HT1 := Hd.mk (toV_neg d 97)
        have HT2 := Hd.mk (toV_end d 97 n2 HN2.out)
        have HV6 := Hd.mk (below_seq HV5.out HB.out)
        have hy3c0 := blk_cell hy3 0 _ rfl; have hy3f0 := blk_frozen hy3 0; have hy3c1 := blk_cell hy3 1 _ rfl; have hy3f1 := blk_frozen hy3 1; have hy3c2 := blk_cell hy3 2 _ rfl; have hy3f2 := blk_frozen hy3 2; have hy3c3 := blk_cell hy3 3 _ rfl; have hy3f3 := blk_frozen hy3 3; have hy3c4 := blk_cell hy3 4 _ rfl; have hy3f4 := blk_frozen hy3 4; have hy3l := blk_lt hy3
        go_wp2_with (first
          | (go_at_call 58; go_must (refine Calls.mono (subL_calls x2 (HTB.out (below_seq HV6.out HX2.out)) (H0.out (below_seq HV6.out HX2.out))) ?_; rintro e x3 ⟨rfl, hb_⟩; have HX3 := Hd.mk (below_seq (below_seq HV6.out HX2.out) hb_); clear hb_))
          | (have hq_ := HX1; clear hq_; go_at_call 69; go_must (refine Calls.mono (HJD.out x1 HX1.out _) ?_; rintro e x2 ⟨rfl, hb_⟩; have HX2 := Hd.mk (below_seq HX1.out hb_); rw [HT2.out]; clear hb_))
          | (go_at_call 69; go_must (refine Calls.mono (HJD.out wr (Below.refl _ _) _) ?_; rintro e x1 ⟨rfl, hb_⟩; have HX1 := Hd.mk hb_; rw [HT1.out]; have hy31 := blk_below hy3 hb_; clear hy3c0 hy3f0 hy3c1 hy3f1 hy3c2 hy3f2 hy3c3 hy3f3 hy3c4 hy3f4 hy3l; have hy31c0 := blk_cell hy31 0 _ rfl; have hy31f0 := blk_frozen hy31 0; have hy31c1 := blk_cell hy31 1 _ rfl; have hy31f1 := blk_frozen hy31 1; have hy31c2 := blk_cell hy31 2 _ rfl; have hy31f2 := blk_frozen hy31 2; have hy31c3 := blk_cell hy31 3 _ rfl; have hy31f3 := blk_frozen hy31 3; have hy31c4 := blk_cell hy31 4 _ rfl; have hy31f4 := blk_frozen hy31 4; have hy31l := blk_lt hy31; clear hb_)))
        go_ret
        exact ⟨rfl, HX3.out⟩
end Go.Proofs.YtbmpaokicphdjaaDoor.Fn

/- Automata of one state, handed in. -/
namespace Go.Proofs.YtbmpaokicphdjaaDoor.Fn
open Go Go.RowKit Go.Proofs.YtbmpaokicphdjaaDoor.Can Go.Proofs.YtbmpaokicphdjaaDoor.Base

theorem opensRowsD : Opens Tryd.prog 49 (Ty.slice Df.II (by decide)) (fun xs => ∀ x ∈ xs, ∀ y ∈ x, (Lit.int .i64 y).wf = true) := opens_slice Tryd.underlying49 (by kernel_rfl) (by decide) opensInts
theorem opensDfa : Opens Tryd.prog 90 (Ty.pair (Ty.pair (Ty.pair (Ty.pair (Ty.slice I (by decide)) I) (Ty.slice Df.II (by decide))) (Ty.slice I (by decide))) I) (fun _ => True) :=
  (opens_struct5 (a := Ty.slice I (by decide)) (b := I) (c := Ty.slice Df.II (by decide)) (d := Ty.slice I (by decide)) (e := I) Tryd.underlying90 opensInts opensI opensRowsD opensInts opensI (by kernel_rfl) (by kernel_rfl) (by kernel_rfl) (by kernel_rfl) (by kernel_rfl) (by kernel_rfl) (by kernel_rfl) (by kernel_rfl) (by kernel_rfl) (by kernel_rfl) (by kernel_rfl)).map id (fun _ _ => trivial) (fun _ _ _ _ h => h)
theorem dfa_of {w : World} {S : Nat → Prop} {y : (((List Int × Int) × List (List Int)) × List Int) × Int} {z : Array Value} (hS : ∀ k, S k → k < w.heap.size)
    (h : (Ty.pair (Ty.pair (Ty.pair (Ty.pair (Ty.slice I (by decide)) I) (Ty.slice Df.II (by decide))) (Ty.slice I (by decide))) I).rel w S y z.toList) :
    ∃ (A1 A2 A3 : Option Addr) (c1 c2 c3 : Nat) (d : Df.Df), z = #[.slice A1 d.cls.length c1, .int .i64 d.wid, .slice A2 d.nxt.length c2, .slice A3 d.tag.length c3, .int .i64 d.st] ∧ Df.DF w S A1 A2 A3 d.cls.length d.nxt.length d.tag.length d := by
  obtain ⟨_, e4, hz, ⟨_, e3, rfl, ⟨_, e2, rfl, ⟨e0, e1, rfl, ⟨A1, c1, rfl, _, _, h1⟩, hw⟩, ⟨A2, c2, rfl, _, _, h2⟩⟩, ⟨A3, c3, rfl, _, _, h3⟩⟩, hs⟩ := h
  have hw' : e1 = [.int .i64 y.1.1.1.2] := hw
  have hs' : e4 = [.int .i64 y.2] := hs
  subst hw' hs'
  exact ⟨A1, A2, A3, c1, c2, c3, ⟨y.1.1.1.1, y.1.1.1.2, y.1.1.2, y.1.2, y.2⟩, Array.toList_inj.1 hz, h1, h2, h3, hS⟩
end Go.Proofs.YtbmpaokicphdjaaDoor.Fn
