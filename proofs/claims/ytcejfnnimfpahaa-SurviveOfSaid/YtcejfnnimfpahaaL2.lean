/- SurviveOf: the walk. -/
import Derived.Test.YtcejfnnimfpahaaS19
namespace Go.Proofs.Ytcejfnnimfpahaa.Fn
open Go Go.RowKit Go.Proofs.Ytcejfnnimfpahaa.Can Go.Proofs.Ytcejfnnimfpahaa.Base
attribute [local go_sem] clsB AB.cell
attribute [local go_sem high] eq27_same
theorem info55 : (Try.prog.info? 55).map (fun i => i.size) = some 14 := by kernel_rfl
/-- What the three acts have made. -/
structure Six (base : Nat) (d4 d9 d10 : Bool) (M : St) (U : World) (v21 v26 v7 : Value) (F1 F2 : Nat → Prop) : Prop where
  a : d4 = true → ∃ A n c, v21 = .slice A n c ∧ Row eT U F1 A n M.l
  b : d9 = true → ∃ r : RS, v26 = .agg #[.int .i64 r.at_.at_, .int .i64 r.at_.mode, .slice r.AF r.nF r.cF, .slice r.AT r.nT r.cT] ∧ Rd U F2 r M
  c : d10 = true → ∃ g, v7 = .pointer (some ⟨g, 0, none⟩) ∧ base ≤ g ∧ g < U.heap.size ∧ U.heap[g]? = some (.cells #[.int .i64 0, .int .i64 0, .slice none 0 0, .slice none 0 0] 42 (0, 0)) ∧ ¬ F1 g ∧ ¬ F2 g
  f1 : ∀ k, F1 k → base ≤ k ∧ k < U.heap.size
  f2 : ∀ k, F2 k → base ≤ k ∧ k < U.heap.size
theorem Six.grow {base : Nat} {d4 d9 d10 : Bool} {M : St} {U U' : World} {v21 v26 v7 : Value} {F1 F2 : Nat → Prop} (h : Six base d4 d9 d10 M U v21 v26 v7 F1 F2) (hb : Below U.heap.size U U') : Six base d4 d9 d10 M U' v21 v26 v7 F1 F2 := by
  have hz := hb.size
  refine ⟨fun hd => ?_, fun hd => ?_, fun hd => ?_, fun k hk => ⟨(h.f1 k hk).1, by have := (h.f1 k hk).2; omega⟩, fun k hk => ⟨(h.f2 k hk).1, by have := (h.f2 k hk).2; omega⟩⟩
  · obtain ⟨A, n, c, rfl, hr⟩ := h.a hd
    exact ⟨A, n, c, rfl, hr.below (fun k hk => (h.f1 k hk).2) hb⟩
  · obtain ⟨r, rfl, hr⟩ := h.b hd
    exact ⟨r, rfl, hr.below (fun k hk => (h.f2 k hk).2) hb⟩
  · obtain ⟨g, rfl, h1, h2, h3, h4, h5⟩ := h.c hd
    exact ⟨g, rfl, h1, by omega, blk_below h3 hb, h4, h5⟩
set_option maxRecDepth 20000 in
set_option maxHeartbeats 8000000 in
theorem ofl_calls (mode : Int) (A : Option Addr) (c : Nat) (xs : List Ev) (S : Nat → Prop) (w : World) (hS : ∀ k, S k → k < w.heap.size) (hC : Row evT w S A xs.length xs) (hw : EvWf xs) (hc : xs.length ≤ c) :
    Calls Try.prog 4 #[.int .i64 mode, .slice A xs.length c] w fun e w' => e = .returned (.bool true) ∧ Below w.heap.size w w' := by
  obtain ⟨n, hn⟩ : ∃ n, xs.length = n := ⟨_, rfl⟩
  rw [hn] at hC hc ⊢
  have hmN := hC.le
  have HN := Hd.mk hn; have HS := Hd.mk hS; have HC := Hd.mk hC; have HW := Hd.mk hw; have HCc := Hd.mk hc
  clear hn hS hC hw hc
  go_enter Try.func4, Try.ntmps4
  go_wp2_with (first
    | (have hq_ := HB1; clear hq_; go_at_call 5; go_must (refine Calls.mono (alive_calls _) ?_; rintro e w2 ⟨rfl, hb2⟩))
    | (go_at_call 11; go_must (refine Calls.mono (far_calls A n c xs S w HS.out HC.out) ?_; rintro e w1 ⟨⟨bF, rfl, hF, hb1⟩⟩; have HF := Hd.mk hF; have HB1 := Hd.mk hb1; clear hF hb1)))
  · go_ret
    exact ⟨rfl, below_seq HB1.out hb2⟩
  · have hbF : bF = false := by assumption
    have hn80 : n ≤ 80 := HF.out hbF
    clear HF
    subst hbF
    rw [show wrap64 ((n : Int) + 1) = ((n + 1 : Nat) : Int) by unfold wrap64; omega]
    obtain ⟨N1, hN1⟩ : ∃ m : Nat, n + 1 = m := ⟨_, rfl⟩
    have hN81 : N1 ≤ 81 := by omega
    rw [hN1]
    have HN1 := Hd.mk hN1
    clear hN1
    go_loopw [14] (fun i wr => ∃ k : Nat, k ≤ N1 ∧ i = .int .i64 k ∧ Hd (Below w.heap.size w wr)) (fun i _ => N1 - (intOf i).toNat)
    case atStart => exact ⟨0, Nat.zero_le _, rfl, HB1⟩
    case round =>
      clear HB1
      obtain ⟨k, hk, rfl, HB⟩ := hrel
      by_cases hlt : k < N1
      · obtain ⟨i55, hi55, hz55⟩ : ∃ i, Try.prog.info? 55 = some i ∧ i.size = 14 := by
          have := info55
          cases h : Try.prog.info? 55 with
          | none => rw [h] at this; cases this
          | some i => exact ⟨i, rfl, by rw [h] at this; simpa using this⟩
        obtain ⟨A1, hcut, hrow, _⟩ := cut_to evT 37 55 Try.underlying37 hi55 hz55 A n c k (by have := HN1.out; omega) HCc.out
        have hk1 : ∀ W, (Instr.slice 37 (.slice A n c) none (some (.int .i64 k)) none).run Try.prog W = .ok (.slice A1 k c) W := fun W => hcut W .i64
        obtain ⟨ys, hys⟩ : ∃ ys, xs.take k = ys := ⟨_, rfl⟩
        have HY : Hd (ys.length = k) := ⟨by rw [← hys, List.length_take, HN.out]; have := HN1.out; omega⟩
        have HR : Hd (∀ W', Below w.heap.size w W' → Row evT W' S A1 ys.length ys) := ⟨fun W' hb => by rw [HY.out, ← hys]; exact hrow W' S xs (HC.out.below HS.out hb)⟩
        have HWF : Hd (EvWf ys) := ⟨fun v hv => HW.out v (List.mem_of_mem_take (by rw [hys]; exact hv))⟩
        have HL : Hd (ys.length ≤ 1000000) := ⟨by rw [HY.out]; have := HN1.out; omega⟩
        clear hi55 hz55 hcut hrow hys
        obtain ⟨M, hM⟩ : ∃ M, (runM mode ys).s = M := ⟨_, rfl⟩
        have HM := Hd.mk hM; clear hM
        have HZ : Hd (w.heap.size ≤ wr.heap.size) := ⟨HB.out.size⟩
        go_wp2
        refine wp_region_can (.q [0, 1, 2, 3, 5, 6, 7, 8] (.inv [4, 9, 10] (.q [11] (.e 12 false (.done))))) (clsB _) (by kernel_rfl) (by kernel_rfl) (by intro _ _ d _ _ h; cases d <;> exact h) (clsB_drew _) ?_
        refine can_q (l := [⟨_,_,_,_,_,_⟩, ⟨_,_,_,_,_,_⟩, ⟨_,_,_,_,_,_⟩, ⟨_,_,_,_,_,_⟩, ⟨_,_,_,_,_,_⟩, ⟨_,_,_,_,_,_⟩, ⟨_,_,_,_,_,_⟩, ⟨_,_,_,_,_,_⟩]) rfl ?_
        repeat (go_big_quiet_step (fail))
        refine wpQuiet_nil ?_
        refine can_inv (fun D a U => ∃ (v21 v26 v7 : Value) (F1 F2 : Nat → Prop), a = ⟨(Value.int .i64 mode :: .slice A n c :: undef :: undef :: u4 :: .int .i64 k :: u6 :: v7 :: .slice A n c :: .bool false :: undef :: .slice A n c :: .int .i64 n :: .int .i64 N1 :: .int .i64 k :: .bool true :: .int .i64 k :: .int .i64 mode :: .slice A n c :: .int .i64 k :: .slice A1 k c :: v21 :: .int .i64 mode :: .slice A n c :: .int .i64 k :: .slice A1 k c :: v26 :: u27 :: u28 :: u29 :: u30 :: u31 :: u32 :: u33 :: u34 :: u35 :: u36 :: u37 :: u38 :: u39 :: u40 :: u41 :: u42 :: u43 :: u44 :: u45 :: u46 :: u47 :: u48 :: u49 :: u50 :: u51 :: u52 :: u53 :: u54 :: u55 :: u56 :: u57 :: u58 :: u59 :: u60 :: u61 :: u62 :: undef :: []).toArray, []⟩ ∧ Hd (Below wr.heap.size wr U) ∧ Hd (Six wr.heap.size (D 4) (D 9) (D 10) M U v21 v26 v7 F1 F2)) ?_ ?_ ?_ ?_
        · exact ⟨_, _, _, fun _ => False, fun _ => False, rfl, ⟨below_drew1 (Below.refl _ _)⟩, ⟨⟨fun h => (by cases h), fun h => (by cases h), fun h => (by cases h), fun k h => h.elim, fun k h => h.elim⟩⟩⟩
        · rintro D a U ⟨_, _, _, _, _, _, hb, _⟩
          exact clsB_of hb.out
        · intro i hi
          simp only [List.mem_cons, List.not_mem_nil, or_false] at hi
          rcases hi with rfl | rfl | rfl
          · rintro D a U ⟨v21, v26, v7, F1, F2, rfl, HBU, HX⟩ hd hp
            have HZU : Hd (wr.heap.size ≤ U.heap.size) := ⟨HBU.out.size⟩
            refine op_of_list (o := ⟨_,_,_,_,_,_⟩) rfl (fun K hK => ?_)
            go_wp2_with (go_at_call 12; go_must (have h9 := of_calls mode A1 c ys S U (fun k hk => by have := HS.out k hk; have := HZ.out; have := HZU.out; omega) (HR.out _ (below_seq HB.out HBU.out)) HWF.out HL.out; rw [HY.out, HM.out] at h9; refine Calls.mono h9 ?_; clear h9; rintro e w2 ⟨A2, n2, c2, rfl, hr2, hb2⟩; have HR2 := Hd.mk hr2; have HB2 := Hd.mk hb2; clear hr2 hb2))
            have HG := HX.out.grow HB2.out
            refine onK_normal (hK _ _ ⟨_, v26, v7, fun k => U.heap.size ≤ k ∧ k < w2.heap.size, F2, rfl, ⟨below_seq HBU.out HB2.out⟩, ⟨⟨fun _ => ⟨A2, n2, c2, rfl, HR2.out⟩, HG.b, fun hd => ?_, fun k hk => ⟨by have := HZU.out; omega, hk.2⟩, HG.f2⟩⟩⟩)
            obtain ⟨g, hg1, hg2, hg3, hg4, hg5, hg6⟩ := HG.c hd
            obtain ⟨g', hg1', _, hg3', _⟩ := HX.out.c hd
            rw [hg1] at hg1'
            cases hg1'
            exact ⟨g, hg1, hg2, hg3, hg4, fun h => by omega, hg6⟩
          · rintro D a U ⟨v21, v26, v7, F1, F2, rfl, HBU, HX⟩ hd hp
            have HZU : Hd (wr.heap.size ≤ U.heap.size) := ⟨HBU.out.size⟩
            refine op_of_list (o := ⟨_,_,_,_,_,_⟩) rfl (fun K hK => ?_)
            go_wp2_with (go_at_call 13; go_must (have h9 := rof_calls mode A1 c ys S U (fun k hk => by have := HS.out k hk; have := HZ.out; have := HZU.out; omega) (HR.out _ (below_seq HB.out HBU.out)) HL.out; rw [HY.out, HM.out] at h9; refine Calls.mono h9 ?_; clear h9; rintro e w2 ⟨r2, rfl, hr2, hb2⟩; have HR2 := Hd.mk hr2; have HB2 := Hd.mk hb2; clear hr2 hb2))
            have HG := HX.out.grow HB2.out
            refine onK_normal (hK _ _ ⟨v21, _, v7, F1, fun k => U.heap.size ≤ k ∧ k < w2.heap.size, rfl, ⟨below_seq HBU.out HB2.out⟩, ⟨⟨HG.a, fun _ => ⟨r2, rfl, HR2.out⟩, fun hd => ?_, HG.f1, fun k hk => ⟨by have := HZU.out; omega, hk.2⟩⟩⟩⟩)
            obtain ⟨g, hg1, hg2, hg3, hg4, hg5, hg6⟩ := HG.c hd
            obtain ⟨g', hg1', _, hg3', _⟩ := HX.out.c hd
            rw [hg1] at hg1'
            cases hg1'
            exact ⟨g, hg1, hg2, hg3, hg4, hg5, fun h => by omega⟩
          · rintro D a U ⟨v21, v26, v7, F1, F2, rfl, HBU, HX⟩ hd hp
            have HZU : Hd (wr.heap.size ≤ U.heap.size) := ⟨HBU.out.size⟩
            refine op_of_list (o := ⟨_,_,_,_,_,_⟩) rfl (fun K hK => ?_)
            go_wp2_with fail
            have hb2 : Below U.heap.size U (U.alloc (.cells #[.int .i64 0, .int .i64 0, .slice none 0 0, .slice none 0 0] 42)) := below_alloc (Below.refl _ _) _
            have HG := HX.out.grow hb2
            refine onK_normal (hK _ _ ⟨v21, v26, _, F1, F2, rfl, ⟨below_seq HBU.out hb2⟩, ⟨⟨HG.a, HG.b, fun _ => ⟨U.heap.size, rfl, HZU.out, by rw [size_alloc]; omega, blk_new _ _ _ rfl, fun h => by have := (HX.out.f1 _ h).2; omega, fun h => by have := (HX.out.f2 _ h).2; omega⟩, HG.f1, HG.f2⟩⟩⟩)
        · rintro D a U ⟨v21, v26, v7, F1, F2, rfl, HBU, HX⟩ hall
          obtain ⟨A2, n2, c2, rfl, hr2⟩ := HX.out.a (hall 4 (by decide))
          obtain ⟨r, rfl, hrd⟩ := HX.out.b (hall 9 (by decide))
          obtain ⟨g, rfl, hg2, hg3, hg4, hg5, hg6⟩ := HX.out.c (hall 10 (by decide))
          have HR2 := Hd.mk hr2; have HRd := Hd.mk hrd; have HG2 := Hd.mk hg2; have HG4 := Hd.mk hg4; have HG5 := Hd.mk hg5; have HG6 := Hd.mk hg6
          have hg4c0 := blk_cell hg4 0 _ rfl; have hg4f0 := blk_frozen hg4 0; have hg4c1 := blk_cell hg4 1 _ rfl; have hg4f1 := blk_frozen hg4 1; have hg4c2 := blk_cell hg4 2 _ rfl; have hg4f2 := blk_frozen hg4 2; have hg4c3 := blk_cell hg4 3 _ rfl; have hg4f3 := blk_frozen hg4 3; have hg4l := blk_lt hg4
          clear hr2 hrd hg2 hg4 hg5 hg6 hall
          obtain ⟨sp, AF, nF, cF, AT, nT, cT⟩ := r
          have e1 : sp = M.at_ := HRd.out.at_
          subst e1
          obtain rfl : nF = n2 := by have a := HRd.out.F.1; have b := HR2.out.1; simp at a; omega
          obtain rfl : nT = nF := by have a := HRd.out.T.1; have b := HR2.out.1; simp at a; omega
          refine can_q (l := [⟨_,_,_,_,_,_⟩]) rfl ?_
          repeat (go_big_quiet_step (fail))
          refine wpQuiet_nil ?_
          refine can_e (o := ⟨_,_,_,_,_,_⟩) rfl (fun K hK => ?_)
          go_wp2_with fail
          refine onK_normal (hK _ _ ⟨fun _ => True, trivial, (fun h => by cases h), ?_⟩)
          clear hK K
          refine can_done ?_
          go_wp2
          have hfr := Fr.set (Fr.set (Fr.set (Fr.set (Fr.refl (fun k => k = g) U) (.inl rfl) 0 (.int .i64 M.at_.at_)) (.inl rfl) 1 (.int .i64 M.at_.mode)) (.inl rfl) 2 (.slice AF nT cF)) (.inl rfl) 3 (.slice AT nT cT)
          have hq5 := blk_set (blk_set (blk_set (blk_set HG4.out 0 (.int .i64 M.at_.at_) _ rfl) 1 (.int .i64 M.at_.mode) _ rfl) 2 (.slice AF nT cF) _ rfl) 3 (.slice AT nT cT) _ rfl
          have hrowL := hfr.row HR2.out (fun q hq => ⟨(HX.out.f1 q hq).2, fun h => HG5.out (h ▸ hq)⟩)
          have hrowF := hfr.row HRd.out.F (fun q hq => ⟨(HX.out.f2 q hq).2, fun h => HG6.out (h ▸ hq)⟩)
          have hrowT := hfr.row HRd.out.T (fun q hq => ⟨(HX.out.f2 q hq).2, fun h => HG6.out (h ▸ hq)⟩)
          have hbV : Below w.heap.size w _ := (below_seq HB.out HBU.out).trans (hfr.below (by have := HB.out.size; have := HBU.out.size; omega) (fun b hb hx => by have := HG2.out; have := HZ.out; show False; have hx' : b = g := hx; omega))
          have hsz := hfr.size
          clear hg4c0 hg4f0 hg4c1 hg4f1 hg4c2 hg4f2 hg4c3 hg4f3 hg4l
          generalize World.setCell _ _ _ = V at hfr hq5 hrowL hrowF hrowT hbV hsz ⊢
          have HRL := Hd.mk hrowL; have HRF := Hd.mk hrowF; have HRT := Hd.mk hrowT; have HBV := Hd.mk hbV
          have HF1 : Hd (∀ q, F1 q → q < V.heap.size) := ⟨fun q hq => by have := (HX.out.f1 q hq).2; omega⟩
          have HF2 : Hd (∀ q, F2 q → q < V.heap.size) := ⟨fun q hq => by have := (HX.out.f2 q hq).2; omega⟩
          have HM6 : Hd (nT ≤ 1000000) := ⟨by have a := HR2.out.1; have b := runM_len mode ys; have := HL.out; rw [HM.out] at b; omega⟩
          clear hfr hrowL hrowF hrowT hbV hsz HX HRd HR2 HG4 HG5 HG6
          have HSV : Hd (∀ q, S q → q < V.heap.size) := ⟨fun q hq => by have := HS.out q hq; have := HBV.out.size; omega⟩
          have hq5c0 := blk_cell hq5 0 _ rfl; have hq5f0 := blk_frozen hq5 0; have hq5c1 := blk_cell hq5 1 _ rfl; have hq5f1 := blk_frozen hq5 1; have hq5c2 := blk_cell hq5 2 _ rfl; have hq5f2 := blk_frozen hq5 2; have hq5c3 := blk_cell hq5 3 _ rfl; have hq5f3 := blk_frozen hq5 3; have hq5l := blk_lt hq5
          obtain ⟨bb, hbb⟩ : ∃ bb, pureL ys = bb := ⟨_, rfl⟩
          have hbe : (bb != bb) = false := by simp
          have HBB := Hd.mk hbb; clear hbb
          refine wp_region_can (.q [0, 2, 3] (.e 1 true (.e 4 false (.q [5, 6, 7, 9, 10] (.e 8 true (.e 11 false (.q [12, 13, 14, 15, 16, 17, 18, 20, 21] (.e 19 true (.q [22, 23, 24, 25, 26, 27, 29, 30, 31] (.e 28 true (.e 32 false (.q [33, 34] (.done))))))))))))) (clsB _) (by kernel_rfl) (by kernel_rfl) (by intro _ _ d _ _ h; cases d <;> exact h) (clsB_drew _) ?_
          refine can_q (l := [⟨_,_,_,_,_,_⟩, ⟨_,_,_,_,_,_⟩, ⟨_,_,_,_,_,_⟩]) rfl ?_
          repeat (go_big_quiet_step (fail))
          refine wpQuiet_nil ?_
          refine can_e (o := ⟨_,_,_,_,_,_⟩) rfl (fun K hK => ?_)
          go_wp2_with (go_at_call 15; go_must (refine Calls.mono (spots_calls A2 nT c2 M.l F1 V.drew (fun q hq => HF1.out q hq) (HRL.out.move (fun _ _ => rfl)) HM6.out) ?_; rintro e w2 ⟨A3, c3, rfl, hr3, hb2⟩; replace hb2 := below_undrew hb2; have HR3 := Hd.mk hr3; have HB2 := Hd.mk hb2; clear hr3 hb2))
          refine onK_normal (hK _ _ ⟨clsB _, clsB_of (by first | exact (HB2.out) | exact below_undrew (HB2.out)), fun _ _ h => h, ?_⟩)
          clear hK K
          refine can_e (o := ⟨_,_,_,_,_,_⟩) rfl (fun K hK => ?_)
          go_wp2_with (go_at_call 14; go_must (refine Calls.mono (sameS_calls A3 AF c3 cF nT (M.l.map (·.at_)) _ F2 w2 (fun q hq => hq.2) (fun q hq => by have := HF2.out q hq; have := HB2.out.size; omega) HR3.out (HRF.out.below HF2.out HB2.out)) ?_; rintro e w3 ⟨rfl, hb3⟩; have HB3 := Hd.mk (below_seq HB2.out hb3); clear hb3))
          refine onK_normal (hK _ _ ⟨clsB _, clsB_of (by first | exact (HB3.out) | exact below_undrew (HB3.out)), fun _ _ h => h, ?_⟩)
          clear hK K
          refine can_q (l := [⟨_,_,_,_,_,_⟩, ⟨_,_,_,_,_,_⟩, ⟨_,_,_,_,_,_⟩, ⟨_,_,_,_,_,_⟩, ⟨_,_,_,_,_,_⟩]) rfl ?_
          repeat (go_big_quiet_step (fail))
          refine wpQuiet_nil ?_
          refine can_e (o := ⟨_,_,_,_,_,_⟩) rfl (fun K hK => ?_)
          go_wp2_with (go_at_call 6; go_must (refine Calls.mono (tokens_calls A2 nT c2 M.l F1 w3 (fun q hq => by have := HF1.out q hq; have := HB3.out.size; omega) (HRL.out.below HF1.out HB3.out) HM6.out) ?_; rintro e w4 ⟨A4, c4, rfl, hr4, hb4⟩; have HR4 := Hd.mk hr4; have HB4 := Hd.mk (below_seq HB3.out hb4); clear hr4 hb4))
          refine onK_normal (hK _ _ ⟨clsB _, clsB_of (by first | exact (HB4.out) | exact below_undrew (HB4.out)), fun _ _ h => h, ?_⟩)
          clear hK K
          refine can_e (o := ⟨_,_,_,_,_,_⟩) rfl (fun K hK => ?_)
          go_wp2_with (go_at_call 16; go_must (refine Calls.mono (sameT_calls A4 AT c4 cT nT (M.l.map (·.tok)) _ F2 w4 (fun q hq => hq.2) (fun q hq => by have := HF2.out q hq; have := HB4.out.size; omega) HR4.out (HRT.out.below HF2.out HB4.out)) ?_; rintro e w5 ⟨rfl, hb5⟩; have HB5 := Hd.mk (below_seq HB4.out hb5); clear hb5))
          refine onK_normal (hK _ _ ⟨clsB _, clsB_of (by first | exact (HB5.out) | exact below_undrew (HB5.out)), fun _ _ h => h, ?_⟩)
          clear hK K
          refine can_q (l := [⟨_,_,_,_,_,_⟩, ⟨_,_,_,_,_,_⟩, ⟨_,_,_,_,_,_⟩, ⟨_,_,_,_,_,_⟩, ⟨_,_,_,_,_,_⟩, ⟨_,_,_,_,_,_⟩, ⟨_,_,_,_,_,_⟩, ⟨_,_,_,_,_,_⟩, ⟨_,_,_,_,_,_⟩]) rfl ?_
          repeat (go_big_quiet_step (fail))
          refine wpQuiet_nil ?_
          refine can_e (o := ⟨_,_,_,_,_,_⟩) rfl (fun K hK => ?_)
          go_wp2_with (go_at_call 17; go_must (have h9 := spot_calls mode A1 c ys S w5 (fun q hq => by have := HSV.out q hq; have := HB5.out.size; omega) (HR.out _ (below_seq HBV.out HB5.out)) HWF.out HL.out; rw [HY.out, HM.out] at h9; refine Calls.mono h9 ?_; clear h9; rintro e w6 ⟨rfl, hb6⟩; have HB6 := Hd.mk (below_seq HB5.out hb6); clear hb6; unfold spotV))
          refine onK_normal (hK _ _ ⟨clsB _, clsB_of (by first | exact (HB6.out) | exact below_undrew (HB6.out)), fun _ _ h => h, ?_⟩)
          clear hK K
          refine can_q (l := [⟨_,_,_,_,_,_⟩, ⟨_,_,_,_,_,_⟩, ⟨_,_,_,_,_,_⟩, ⟨_,_,_,_,_,_⟩, ⟨_,_,_,_,_,_⟩, ⟨_,_,_,_,_,_⟩, ⟨_,_,_,_,_,_⟩, ⟨_,_,_,_,_,_⟩, ⟨_,_,_,_,_,_⟩]) rfl ?_
          repeat (go_big_quiet_step (fail))
          refine wpQuiet_nil ?_
          refine can_e (o := ⟨_,_,_,_,_,_⟩) rfl (fun K hK => ?_)
          go_wp2_with (go_at_call 18; go_must (have h9 := pure_calls A1 ys.length c ys S w6 (fun q hq => by have := HSV.out q hq; have := HB6.out.size; omega) (HR.out _ (below_seq HBV.out HB6.out)); rw [HY.out, HBB.out] at h9; refine Calls.mono h9 ?_; clear h9; rintro e w7 ⟨rfl, hb7⟩; have HB7 := Hd.mk (below_seq HB6.out hb7); clear hb7))
          refine onK_normal (hK _ _ ⟨clsB _, clsB_of (by first | exact (HB7.out) | exact below_undrew (HB7.out)), fun _ _ h => h, ?_⟩)
          clear hK K
          refine can_e (o := ⟨_,_,_,_,_,_⟩) rfl (fun K hK => ?_)
          go_wp2_with (go_at_call 19; go_must (have h9 := rpure_calls A1 ys.length c ys S w7 (fun q hq => by have := HSV.out q hq; have := HB7.out.size; omega) (HR.out _ (below_seq HBV.out HB7.out)); rw [HY.out, HBB.out] at h9; refine Calls.mono h9 ?_; clear h9; rintro e w8 ⟨rfl, hb8⟩; have HB8 := Hd.mk (below_seq HB7.out hb8); clear hb8))
          refine onK_normal (hK _ _ ⟨clsB _, clsB_of (by first | exact (HB8.out) | exact below_undrew (HB8.out)), fun _ _ h => h, ?_⟩)
          clear hK K
          refine can_q (l := [⟨_,_,_,_,_,_⟩, ⟨_,_,_,_,_,_⟩]) rfl ?_
          repeat (go_big_quiet_step (fail))
          refine wpQuiet_nil ?_
          refine can_done ?_
          go_wp2
          go_roundw
          case rel => exact ⟨k + 1, by omega, by go_num, ⟨below_seq HBV.out HB8.out⟩⟩
          case measure => simp [intOf]; omega
      · obtain rfl : k = N1 := by omega
        go_wp2_with (go_at_call 5; go_must (refine Calls.mono (alive_calls _) ?_; rintro e w2 ⟨rfl, hb2⟩))
        go_ret
        exact ⟨rfl, below_seq HB.out hb2⟩
end Go.Proofs.Ytcejfnnimfpahaa.Fn
