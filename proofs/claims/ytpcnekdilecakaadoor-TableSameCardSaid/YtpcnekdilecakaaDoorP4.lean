/- An automaton that is written: the walk. -/
import Derived.Test.YtpcnekdilecakaaDoorP3
set_option linter.unusedVariables false
set_option linter.unusedSimpArgs false
namespace Go.Proofs.YtpcnekdilecakaaDoor.Tb
open Go Go.RowKit Go.Proofs.YtpcnekdilecakaaDoor.Can Go.Proofs.YtpcnekdilecakaaDoor.Base
attribute [local go_sem] clsB AB.cell

theorem w1_len (n : Int) : (w1 n).length = 1 := rfl
theorem w2_len (n : Int) : (w2 n).length = 2 := rfl
set_option maxRecDepth 20000 in
set_option maxHeartbeats 8000000 in
theorem wdfa_calls (w : World) (base p : Nat) (v : Value) (xs : List UInt8) (A1 A2 A3 : Option Addr) (n1 n2 n3 c1 c2 c3 m : Nat) (d : Df.Df) (S : Nat → Prop) (hw : Wr w base p v xs) (hD : Df.DF w S A1 A2 A3 n1 n2 n3 d) (hS : ∀ k, S k → k ≠ p ∧ v.ownBlock ≠ some k) (hb : DB m d) (hm : m ≤ 128) (hl : xs.length + 1000000 ≤ 140737488355328) :
    Calls Tryd.prog 20 #[.pointer (some ⟨p, 0, none⟩), .agg #[.slice A1 n1 c1, .int .i64 d.wid, .slice A2 n2 c2, .slice A3 n3 c3, .int .i64 d.st]] w fun e w' => (∃ u, e = .returned u) ∧ ∃ v', Wr w' base p v' (xs ++ wdfa d) ∧ Gs p v w v' w' := by
  have hm1 := hD.cls.le; have hm2 := hD.nxt.le; have hm3 := hD.tag.le
  obtain ⟨W0, hW0⟩ : ∃ W0, w.alloc (.cells #[.slice A1 n1 c1, .int .i64 d.wid, .slice A2 n2 c2, .slice A3 n3 c3, .int .i64 d.st] 47) = W0 := ⟨_, rfl⟩
  have hBW : Below w.heap.size w W0 := by rw [← hW0]; exact below_alloc (Below.refl _ _) _
  have hs0 : W0.heap.size = w.heap.size + 1 := by rw [← hW0, size_alloc]
  have hx : W0.heap[w.heap.size]? = some (.cells #[.slice A1 n1 c1, .int .i64 d.wid, .slice A2 n2 c2, .slice A3 n3 c3, .int .i64 d.st] 47 (0, 0)) := by rw [← hW0]; exact blk_new _ _ _ rfl
  have HBW := Hd.mk hBW
  have HW := Hd.mk (hw.below hBW)
  have HG0 := Hd.mk (hw.gs hBW)
  have hpl := blk_lt hw.obj
  have HQ : Hd (w.heap.size ≠ p ∧ v.ownBlock ≠ some w.heap.size) := ⟨by omega, hw.own.ne_new (Nat.le_refl _)⟩
  obtain ⟨wd, hwd⟩ : ∃ x, d.wid = x := ⟨_, rfl⟩
  obtain ⟨st, hst⟩ : ∃ x, d.st = x := ⟨_, rfl⟩
  have HST := Hd.mk hst
  have hst0 := hb.st0; have hst1 := hb.st1
  rw [hst] at hst0 hst1
  rw [hwd, hst] at hW0 hx ⊢
  have HX : Hd (∀ v' w', Gs p v W0 v' w' → w'.heap[w.heap.size]? = some (.cells #[.slice A1 n1 c1, .int .i64 wd, .slice A2 n2 c2, .slice A3 n3 c3, .int .i64 st] 47 (0, 0))) := ⟨fun v' w' h => h.blk hx HQ.out.1 HQ.out.2⟩
  have HDW : Hd (∀ v' w', Gs p v W0 v' w' → Df.DF w' S A1 A2 A3 n1 n2 n3 d) := ⟨fun v' w' h => df_fr (hD.below hBW) h.fr fun b hb e => by rcases e with e | e; exact (hS b hb).1 e; exact (hS b hb).2 e⟩
  have HSS : Hd (∀ k, S k → k < W0.heap.size ∧ k ≠ p ∧ v.ownBlock ≠ some k) := ⟨fun k hk => ⟨Nat.lt_of_lt_of_le (hD.lt k hk) hBW.size, hS k hk⟩⟩
  have HN1 := Hd.mk hD.cls.1; have HN2 := Hd.mk hD.nxt.1; have HN3 := Hd.mk hD.tag.1
  have HB := Hd.mk hb
  have HL := Hd.mk hl
  have hn1 : n1 = 256 := by rw [← hD.cls.1]; exact hb.cl
  have hn2 : n2 ≤ 1024 := by rw [← hD.nxt.1]; exact hb.nl
  have hn3 : n3 = n2 := by rw [← hD.tag.1, ← hD.nxt.1]; exact hb.tl
  have HNN := Hd.mk (And.intro hn1 hn3)
  have HCL : Hd ((wcl 0 d.cls).length ≤ 512) := ⟨by have := wcl_len 0 d.cls; rw [hb.cl] at this; exact this⟩
  clear hn1 hn3 hwd hst hBW hw hS hD hb hl hs0
  go_enter Tryd.func20, Tryd.ntmps20
  go_upto_region 1 with fail
  clear hW0
  have hxc0 := blk_cell hx 0 _ rfl; have hxf0 := blk_frozen hx 0; have hxc1 := blk_cell hx 1 _ rfl; have hxf1 := blk_frozen hx 1; have hxc2 := blk_cell hx 2 _ rfl; have hxf2 := blk_frozen hx 2; have hxc3 := blk_cell hx 3 _ rfl; have hxf3 := blk_frozen hx 3; have hxc4 := blk_cell hx 4 _ rfl; have hxf4 := blk_frozen hx 4; have hxl := blk_lt hx
  have TOK := Hd.mk trivial
  go_wp2_with (first
    | (have hq_ := HV2; clear hq_; go_at_call 50; go_must (refine Calls.mono (two_calls wB base p v2 ((xs ++ wcl 0 d.cls) ++ w2 n2) (st + 1) HV2.out (by simp only [List.length_append, w2_len]; have := HCL.out; have := HL.out; omega)) ?_; rintro e wC ⟨⟨u, rfl⟩, v3, hw3, hg3⟩; have HV3 := Hd.mk hw3; have HG3 := Hd.mk (HG2.out.trans hg3); have hx3 := HX.out _ _ HG3.out; clear hx2c0 hx2f0 hx2c1 hx2f1 hx2c2 hx2f2 hx2c3 hx2f3 hx2c4 hx2f4 hx2l; have hx3c0 := blk_cell hx3 0 _ rfl; have hx3f0 := blk_frozen hx3 0; have hx3c1 := blk_cell hx3 1 _ rfl; have hx3f1 := blk_frozen hx3 1; have hx3c2 := blk_cell hx3 2 _ rfl; have hx3f2 := blk_frozen hx3 2; have hx3c3 := blk_cell hx3 3 _ rfl; have hx3f3 := blk_frozen hx3 3; have hx3c4 := blk_cell hx3 4 _ rfl; have hx3f4 := blk_frozen hx3 4; have hx3l := blk_lt hx3; clear hw3 hg3))
    | (have hq_ := HV1; clear hq_; go_at_call 50; go_must (refine Calls.mono (two_calls wA base p v1 (xs ++ wcl 0 d.cls) n2 HV1.out (by simp only [List.length_append]; have := HCL.out; have := HL.out; omega)) ?_; rintro e wB ⟨⟨u, rfl⟩, v2, hw2, hg2⟩; have HV2 := Hd.mk hw2; have HG2 := Hd.mk (HG1.out.trans hg2); have hx2 := HX.out _ _ HG2.out; clear hx1c0 hx1f0 hx1c1 hx1f1 hx1c2 hx1f2 hx1c3 hx1f3 hx1c4 hx1f4 hx1l; have hx2c0 := blk_cell hx2 0 _ rfl; have hx2f0 := blk_frozen hx2 0; have hx2c1 := blk_cell hx2 1 _ rfl; have hx2f1 := blk_frozen hx2 1; have hx2c2 := blk_cell hx2 2 _ rfl; have hx2f2 := blk_frozen hx2 2; have hx2c3 := blk_cell hx2 3 _ rfl; have hx2f3 := blk_frozen hx2 3; have hx2c4 := blk_cell hx2 4 _ rfl; have hx2f4 := blk_frozen hx2 4; have hx2l := blk_lt hx2; clear hw2 hg2))
    | (go_at_call 49; go_must (refine Calls.mono (class_calls W0 base p v xs A1 n1 c1 d.cls S HW.out (HDW.out _ _ (Gs.refl _ _ _)).cls HSS.out (by have := HL.out; have := HNN.out.1; omega)) ?_; rintro e wA ⟨⟨u, rfl⟩, v1, hw1, hg1⟩; have HV1 := Hd.mk hw1; have HG1 := Hd.mk hg1; have hx1 := HX.out _ _ HG1.out; clear hxc0 hxf0 hxc1 hxf1 hxc2 hxf2 hxc3 hxf3 hxc4 hxf4 hxl; have hx1c0 := blk_cell hx1 0 _ rfl; have hx1f0 := blk_frozen hx1 0; have hx1c1 := blk_cell hx1 1 _ rfl; have hx1f1 := blk_frozen hx1 1; have hx1c2 := blk_cell hx1 2 _ rfl; have hx1f2 := blk_frozen hx1 2; have hx1c3 := blk_cell hx1 3 _ rfl; have hx1f3 := blk_frozen hx1 3; have hx1c4 := blk_cell hx1 4 _ rfl; have hx1f4 := blk_frozen hx1 4; have hx1l := blk_lt hx1; clear hw1 hg1)))
  obtain ⟨hd, hhd⟩ : ∃ hd, wcl 0 d.cls ++ w2 n2 ++ w2 (st + 1) = hd := ⟨_, rfl⟩
  have HHL : Hd (hd.length ≤ 600) := ⟨by rw [← hhd]; simp only [List.length_append, w2_len]; have := HCL.out; omega⟩
  have HV : Hd (Wr wC base p v3 (xs ++ hd)) := ⟨by have h9 := HV3.out; rw [← hhd]; simp only [List.append_assoc] at h9 ⊢; exact h9⟩
  have HHD : Hd (wdfa d = hd ++ (d.tag.zip d.nxt).flatMap wstate) := ⟨by rw [← hhd]; unfold wdfa; rw [HN2.out, HST.out]⟩
  have HZL : Hd (∀ k, (((d.tag.zip d.nxt).take k).flatMap wstate).length ≤ k * 513) := ⟨fun k => states_len HB.out k⟩
  have HZZ : Hd (∀ k, n2 ≤ k → (d.tag.zip d.nxt).take k = d.tag.zip d.nxt) := ⟨fun k hk => List.take_of_length_le (by rw [List.length_zip, HN2.out]; omega)⟩
  clear hhd HV3 HV2 HV1 HG1 HG2 HCL
  go_loopw [25] (fun i wr => ∃ (k : Nat) (v' : Value), k ≤ n2 ∧ i = .int .i64 k ∧ Hd (Wr wr base p v' (xs ++ hd ++ ((d.tag.zip d.nxt).take k).flatMap wstate)) ∧ Hd (Gs p v W0 v' wr)) (fun i _ => n2 - (intOf i).toNat)
  case atStart => exact ⟨0, v3, Nat.zero_le _, rfl, ⟨by rw [List.take_zero, List.flatMap_nil, List.append_nil]; exact HV.out⟩, HG3⟩
  case round =>
    obtain ⟨k, va, hk, rfl, HVA, HGA⟩ := hrel
    have hxa := HX.out _ _ HGA.out
    clear hx3c0 hx3f0 hx3c1 hx3f1 hx3c2 hx3f2 hx3c3 hx3f3 hx3c4 hx3f4 hx3l
    have hxac0 := blk_cell hxa 0 _ rfl; have hxaf0 := blk_frozen hxa 0; have hxac1 := blk_cell hxa 1 _ rfl; have hxaf1 := blk_frozen hxa 1; have hxac2 := blk_cell hxa 2 _ rfl; have hxaf2 := blk_frozen hxa 2; have hxac3 := blk_cell hxa 3 _ rfl; have hxaf3 := blk_frozen hxa 3; have hxac4 := blk_cell hxa 4 _ rfl; have hxaf4 := blk_frozen hxa 4; have hxal := blk_lt hxa
    by_cases hlt : k < n2
    · have HDA := Hd.mk (HDW.out _ _ HGA.out)
      obtain ⟨b1, o1, Ar, cr, r, rfl, hb1, hr, hcr, -, -, hrow⟩ := Df.rows_get HDA.out.nxt k hlt
      obtain ⟨b2, o2, tg, rfl, -, hb2, ht, hct⟩ := HDA.out.tag.get_int k (by have := HNN.out.2; omega)
      have hn32 : k < n3 := by have := HNN.out.2; omega
      have hlr := HB.out.row r (List.mem_of_getElem? hr)
      have hlt2 := HB.out.tag tg (List.mem_of_getElem? ht)
      have HRX := Hd.mk hlr.2
      have hr256 := hlr.1
      have ht0 : -1 ≤ tg := hlt2.1
      have ht1 : tg < 128 := by have := hlt2.2; omega
      have HZ := Hd.mk (flat_snoc wstate (zip_get ht hr))
      obtain ⟨nr, hnr⟩ : ∃ x, r.length = x := ⟨_, rfl⟩
      rw [hnr] at hcr hrow hr256
      have HNR := Hd.mk hnr
      have HROW := Hd.mk hrow
      have HSA : Hd (∀ q, S q → q < wr.heap.size ∧ q ≠ p ∧ va.ownBlock ≠ some q) := ⟨fun q hq => ⟨Nat.lt_of_lt_of_le (HSS.out q hq).1 HGA.out.fr.size, (HSS.out q hq).2.1, HGA.out.ne (HSS.out q hq).1 (HSS.out q hq).2.2⟩⟩
      have HK0 := HZL.out k
      have HKL : Hd ((xs ++ hd ++ ((d.tag.zip d.nxt).take k).flatMap wstate).length + 1000 ≤ 140737488355328) := ⟨by simp only [List.length_append]; have := HL.out; have := HHL.out; have := Nat.mul_le_mul_right 513 (show k ≤ 1023 by omega); omega⟩
      clear ht hr hlr hlt2 hnr hrow HK0
      generalize hys : xs ++ hd ++ ((d.tag.zip d.nxt).take k).flatMap wstate = ys at HVA HKL
      have HYS := Hd.mk hys
      clear hys
      go_wp2_with (go_at_call 18; go_must (refine Calls.mono (one_calls wr base p va ys (tg + 1) HVA.out (by have := HKL.out; omega)) ?_; rintro e wA ⟨⟨u, rfl⟩, v1, hw1, hg1⟩; have HV1 := Hd.mk hw1; have HG1 := Hd.mk hg1; have hx1 := HX.out _ _ (HGA.out.trans hg1); clear hxac0 hxaf0 hxac1 hxaf1 hxac2 hxaf2 hxac3 hxaf3 hxac4 hxaf4 hxal; have hx1c0 := blk_cell hx1 0 _ rfl; have hx1f0 := blk_frozen hx1 0; have hx1c1 := blk_cell hx1 1 _ rfl; have hx1f1 := blk_frozen hx1 1; have hx1c2 := blk_cell hx1 2 _ rfl; have hx1f2 := blk_frozen hx1 2; have hx1c3 := blk_cell hx1 3 _ rfl; have hx1f3 := blk_frozen hx1 3; have hx1c4 := blk_cell hx1 4 _ rfl; have hx1f4 := blk_frozen hx1 4; have hx1l := blk_lt hx1; clear hw1 hg1))
      obtain ⟨wq, rfl⟩ : ∃ x, x = wr := ⟨_, rfl⟩
      go_loopw [40] (fun i wr => ∃ (j : Nat) (v' : Value), j ≤ nr ∧ i = .int .i64 j ∧ Hd (Wr wr base p v' (ys ++ (w1 (tg + 1) ++ wrow (r.take j)))) ∧ Hd (Gs p va wq v' wr)) (fun i _ => nr - (intOf i).toNat)
      case atStart => exact ⟨0, v1, Nat.zero_le _, rfl, ⟨by rw [List.take_zero]; show Wr _ _ _ _ (ys ++ (w1 (tg + 1) ++ [])); rw [List.append_nil]; exact HV1.out⟩, HG1⟩
      case round =>
        obtain ⟨j, vb, hj, rfl, HVB, HGB⟩ := hrel
        by_cases hlj : j < nr
        · have HRB : Hd (Row I wr S Ar nr r) := ⟨HGB.out.fr.row HROW.out fun b hb => ⟨(HSA.out b hb).1, fun e => by rcases e with e | e; exact (HSA.out b hb).2.1 e; exact (HSA.out b hb).2.2 e⟩⟩
          obtain ⟨b3, o3, x, rfl, -, hb3, hxr, hcx⟩ := HRB.out.get_int j hlj
          have hbx := HRX.out x (List.mem_of_getElem? hxr)
          have hx0 : -1 ≤ x := hbx.1
          have hx9 : x < 1024 := hbx.2
          have HWS := Hd.mk (wrow_snoc hxr)
          have HLB : Hd ((ys ++ (w1 (tg + 1) ++ wrow (r.take j))).length + 2 ≤ 140737488355328) := ⟨by simp only [List.length_append, w1_len, wrow_len, List.length_take]; have := HKL.out; omega⟩
          clear hxr hbx
          go_wp2_with (go_at_call 50; go_must (refine Calls.mono (two_calls wr base p vb _ (x + 1) HVB.out HLB.out) ?_; rintro e wB ⟨⟨u, rfl⟩, v2, hw2, hg2⟩; have HV2 := Hd.mk hw2; have HG2 := Hd.mk (HGB.out.trans hg2); clear hw2 hg2))
          go_roundw
          case rel => exact ⟨j + 1, v2, by omega, by go_num, ⟨by rw [HWS.out]; have h9 := HV2.out; simp only [List.append_assoc] at h9 ⊢; exact h9⟩, HG2⟩
          case measure => simp [intOf]; omega
        · obtain rfl : j = nr := by omega
          have HVE : Hd (Wr wr base p vb (xs ++ hd ++ ((d.tag.zip d.nxt).take (k + 1)).flatMap wstate)) := ⟨by have h9 := HVB.out; rw [Df.take_all HNR.out] at h9; rw [HZ.out, ← List.append_assoc, HYS.out]; exact h9⟩
          go_wp2
          go_roundw
          case rel => exact ⟨k + 1, vb, by omega, by go_num, HVE, ⟨HGA.out.trans HGB.out⟩⟩
          case measure => simp [intOf]; omega
    · obtain rfl : k = n2 := by omega
      go_wp2
      go_end0
      exact ⟨⟨_, rfl⟩, va, by have h9 := HVA.out; rw [HZZ.out k (Nat.le_refl _)] at h9; rw [HHD.out, ← List.append_assoc]; exact h9, HG0.out.trans HGA.out⟩
end Go.Proofs.YtpcnekdilecakaaDoor.Tb
