/- What the reference's pop computes. -/
import Derived.Test.YtcejfnnimfpahaaS14
namespace Go.Proofs.Ytcejfnnimfpahaa.Fn
open Go Go.RowKit Go.Proofs.Ytcejfnnimfpahaa.Can Go.Proofs.Ytcejfnnimfpahaa.Base
attribute [local go_sem] clsB AB.cell

/-- A row that is begun, and filled. -/
structure PG {α : Type} (T : Ty α) (e : TypeId) (z : Nat) (xs : List α) (d1 d2 : Bool) (w : World) (o : Option Nat) (v1 v2 : Value) : Prop where
  m : d2 = true → d1 = true
  n : d1 = false → o = none
  a : d1 = true → d2 = false → v1.ownBlock = o ∧ Mine T w z e v1 []
  b : d2 = true → v2.ownBlock = o ∧ Mine T w z e v2 xs
theorem PG.keep {α : Type} {T : Ty α} {e : TypeId} {z : Nat} {xs : List α} {d1 d2 : Bool} {w w' : World} {o : Option Nat} {v1 v2 : Value} (h : PG T e z xs d1 d2 w o v1 v2) (hm : ∀ k, o = some k → w'.heap[k]? = w.heap[k]?) (hz : w.heap.size ≤ w'.heap.size) : PG T e z xs d1 d2 w' o v1 v2 :=
  ⟨h.m, h.n, fun h1 h2 => ⟨(h.a h1 h2).1, (h.a h1 h2).2.mv (fun k hk => hm k (by rw [← (h.a h1 h2).1]; exact hk)) hz⟩, fun h1 => ⟨(h.b h1).1, (h.b h1).2.mv (fun k hk => hm k (by rw [← (h.b h1).1]; exact hk)) hz⟩⟩
set_option maxRecDepth 20000 in
theorem pop_nil (r : RS) (s : St) (S : Nat → Prop) (w : World) (h : Rd w S r s) (hl : s.l = []) :
    Calls Try.prog 25 #[.agg #[.int .i64 r.at_.at_, .int .i64 r.at_.mode, .slice r.AF r.nF r.cF, .slice r.AT r.nT r.cT]] w fun e w' => ∃ r', e = .returned (.agg #[.int .i64 r'.at_.at_, .int .i64 r'.at_.mode, .slice r'.AF r'.nF r'.cF, .slice r'.AT r'.nT r'.cT]) ∧ Rd w' (fun k => w.heap.size ≤ k ∧ k < w'.heap.size) r' s ∧ Below w.heap.size w w' := by
  have HR := Hd.mk h
  have hF0 : r.nF = 0 := by have := h.F.1; rw [hl] at this; simpa using this.symm
  have hT0 : r.nT = 0 := by have := h.T.1; rw [hl] at this; simpa using this.symm
  have HF0 := Hd.mk hF0; have HL := Hd.mk hl
  clear h hF0 hl
  rw [hT0]
  go_enter Try.func25, Try.ntmps25
  go_wp2
  refine bodyPost_ret (results_cell_row rfl _ _ (w.heap.size + 1) 42 #[.int .i64 r.at_.at_, .int .i64 r.at_.mode, .slice r.AF r.nF r.cF, .slice r.AT 0 r.cT] (0, 0) _ rfl (blk_new _ _ _ (by rw [size_alloc])) Try.underlying42 rfl (by kernel_rfl)) rfl ?_
  refine ⟨r, by rw [hT0], ⟨HR.out.at_, by rw [HF0.out, HL.out]; exact Row.nil _ _ _ _, by rw [hT0, HL.out]; exact Row.nil _ _ _ _, HR.out.capF, HR.out.capT, HR.out.nilF, HR.out.nilT⟩, (by repeat (first | (with_reducible assumption) | (with_reducible exact Below.refl _ _) | (with_reducible apply below_drewL) | (with_reducible apply below_alloc) | (with_reducible apply below_drew1) | (with_reducible apply below_drewN) | (refine below_set ?_ (by first | omega | (simp only [size_alloc, size_drew, size_set]; omega)) _ _)))⟩
set_option maxRecDepth 20000 in
set_option maxHeartbeats 4000000 in
theorem pop_some (r : RS) (s : St) (l : List E) (x : E) (S : Nat → Prop) (w : World) (hS : ∀ k, S k → k < w.heap.size) (h : Rd w S r s) (hsl : s.l = l ++ [x]) (hl : l.length ≤ 1000000) :
    Calls Try.prog 25 #[.agg #[.int .i64 r.at_.at_, .int .i64 r.at_.mode, .slice r.AF r.nF r.cF, .slice r.AT r.nT r.cT]] w fun e w' => ∃ r', e = .returned (.agg #[.int .i64 r'.at_.at_, .int .i64 r'.at_.mode, .slice r'.AF r'.nF r'.cF, .slice r'.AT r'.nT r'.cT]) ∧ Rd w' (fun k => w.heap.size ≤ k ∧ k < w'.heap.size) r' ⟨x.at_, l⟩ ∧ Below w.heap.size w w' := by
  obtain ⟨sp, AF, nF, cF, AT, nT, cT⟩ := r
  have hat := h.at_
  simp only [] at hat
  subst hat
  obtain ⟨m, hm⟩ : ∃ m, l.length = m := ⟨_, rfl⟩
  have hnF : nF = m + 1 := by have := h.F.1; rw [hsl] at this; simp at this; omega
  have hnT : nT = m + 1 := by have := h.T.1; rw [hsl] at this; simp at this; omega
  have hmI : (nT : Int) - 1 = (m : Int) := by omega
  have hn0J : ((nT : Int) == 0) = false := by simp; omega
  have hn0 : ¬ (nT : Int) = 0 := by omega
  obtain ⟨i27, hi27, _, hz27, _⟩ := info_of info27
  obtain ⟨i29, hi29, _, hz29, _⟩ := info_of info29
  obtain ⟨A1, hcut1, hrow1, hnil1⟩ := cut_to spotT 40 27 Try.underlying40 hi27 hz27 AF nF cF m (by omega) h.capF
  obtain ⟨A2, hcut2, hrow2, hnil2⟩ := cut_to tokT 24 29 Try.underlying24 hi29 hz29 AT nT cT m (by omega) h.capT
  have hr1 : Row spotT w S A1 m (l.map (·.at_)) := by
    have := hrow1 w S _ h.F
    rwa [hsl, List.map_append, List.take_append_of_le_length (by rw [List.length_map]; omega), List.take_of_length_le (by rw [List.length_map]; omega)] at this
  have hr2 : Row tokT w S A2 m (l.map (·.tok)) := by
    have := hrow2 w S _ h.T
    rwa [hsl, List.map_append, List.take_append_of_le_length (by rw [List.length_map]; omega), List.take_of_length_le (by rw [List.length_map]; omega)] at this
  obtain ⟨b, off, y, hAF, hb, hy, hc0, hc1⟩ := spot_get h.F m (show m < nF by omega)
  have hyx : y = x.at_ := by rw [hsl, List.map_append, List.getElem?_append_right (by rw [List.length_map]; omega), List.length_map, hm, Nat.sub_self] at hy; simpa using hy.symm
  subst hyx
  subst hAF
  have hk1 : ∀ W, (Instr.slice 40 (.slice (some ⟨b, off, none⟩) nF cF) none (some (.int .i64 m)) none).run Try.prog W = .ok (.slice A1 m cF) W := fun W => hcut1 W .i64
  have hk2 : ∀ W, (Instr.slice 24 (.slice AT nT cT) none (some (.int .i64 m)) none).run Try.prog W = .ok (.slice A2 m cT) W := fun W => hcut2 W .i64
  have HS := Hd.mk hS; have HR1 := Hd.mk hr1; have HR2 := Hd.mk hr2; have HN1 := Hd.mk (hnil1 h.nilF); have HN2 := Hd.mk (hnil2 h.nilT)
  have hmF : m < nF := by omega
  have hm9 : m ≤ 1000000 := by omega
  clear hS h hsl hm hy hi27 hz27 hi29 hz29 hcut1 hcut2 hrow1 hrow2 hnil1 hnil2 hr1 hr2 hnF hnT
  go_enter Try.func25, Try.ntmps25
  go_wp2
  generalize hV : World.alloc _ _ = V
  have HBV : Below w.heap.size w V := below_of hV (by repeat (first | (with_reducible assumption) | (with_reducible exact Below.refl _ _) | (with_reducible apply below_drewL) | (with_reducible apply below_alloc) | (with_reducible apply below_drew1) | (with_reducible apply below_drewN) | (refine below_set ?_ (by first | omega | (simp only [size_alloc, size_drew, size_set]; omega)) _ _)))
  have zV : Hd (V.heap.size = w.heap.size + 1 + 1) := ⟨by rw [← hV]; simp only [size_alloc]⟩
  have V0 := at_of hV (blk_alloc (blk_new _ _ _ rfl) _)
  have V0l := blk_lt V0
  have V1 := at_of hV (blk_new _ _ _ rfl)
  simp only [size_alloc] at V1
  have V1l := blk_lt V1
  clear hV
  have V0c0 := blk_cell V0 0 _ rfl
  have V0f0 := blk_frozen V0 0
  have V0c1 := blk_cell V0 1 _ rfl
  have V0f1 := blk_frozen V0 1
  have V0c2 := blk_cell V0 2 _ rfl
  have V0f2 := blk_frozen V0 2
  have V0c3 := blk_cell V0 3 _ rfl
  have V0f3 := blk_frozen V0 3
  have V1c0 := blk_cell V1 0 _ rfl
  have V1f0 := blk_frozen V1 0
  have V1c1 := blk_cell V1 1 _ rfl
  have V1f1 := blk_frozen V1 1
  have V1c2 := blk_cell V1 2 _ rfl
  have V1f2 := blk_frozen V1 2
  have V1c3 := blk_cell V1 3 _ rfl
  have V1f3 := blk_frozen V1 3
  have HV := Hd.mk HBV
  have HV1 := Hd.mk V1
  have hd0 := (HBV.cell (p := ⟨b, off + m * 2, none⟩) hb).trans hc0
  have hd1 := (HBV.cell (p := ⟨b, off + m * 2 + 1, none⟩) hb).trans hc1
  have hbV : b < V.heap.size := Nat.lt_of_lt_of_le hb HBV.size
  clear V0 V1 HBV zV hc0 hc1
  refine wp_region_can (.q [0, 1, 2, 3, 4, 5, 7, 8, 9, 10, 11, 14, 15, 16, 17, 18] (.inv [6, 12, 13] (.e 19 true (.q [20] (.e 21 false (.done)))))) (clsB _) (by kernel_rfl) (by kernel_rfl) (by intro _ _ d _ _ h; cases d <;> exact h) (clsB_drew _) ?_
  refine can_q (l := [⟨_,_,_,_,_,_⟩, ⟨_,_,_,_,_,_⟩, ⟨_,_,_,_,_,_⟩, ⟨_,_,_,_,_,_⟩, ⟨_,_,_,_,_,_⟩, ⟨_,_,_,_,_,_⟩, ⟨_,_,_,_,_,_⟩, ⟨_,_,_,_,_,_⟩, ⟨_,_,_,_,_,_⟩, ⟨_,_,_,_,_,_⟩, ⟨_,_,_,_,_,_⟩, ⟨_,_,_,_,_,_⟩, ⟨_,_,_,_,_,_⟩, ⟨_,_,_,_,_,_⟩, ⟨_,_,_,_,_,_⟩, ⟨_,_,_,_,_,_⟩]) rfl ?_
  repeat (go_big_quiet_step (fail))
  refine wpQuiet_nil ?_
  refine can_inv (fun D a U => ∃ (v16 v22 v23 : Value) (O : Nat → Option Nat), a = ⟨#[.agg #[.int .i64 s.at_.at_, .int .i64 s.at_.mode, .slice (some ⟨b, off, none⟩) nF cF, .slice AT nT cT], .pointer (some ⟨w.heap.size, 0, none⟩), .pointer (some ⟨w.heap.size + 1, 0, none⟩), .int .i64 nT, .pointer (some ⟨w.heap.size, 3, none⟩), .slice AT nT cT, .int .i64 nT, .int .i64 nT, .bool false, undef, .pointer (some ⟨w.heap.size, 2, none⟩), .slice (some ⟨b, off, none⟩) nF cF, .int .i64 nT, .int .i64 m, .pointer (some ⟨b, off + m * 2, none⟩), .agg #[.int .i64 x.at_.at_, .int .i64 x.at_.mode], v16, .pointer (some ⟨w.heap.size, 2, none⟩), .slice (some ⟨b, off, none⟩) nF cF, .int .i64 nT, .int .i64 m, .slice A1 m cF, v22, v23, .pointer (some ⟨w.heap.size, 3, none⟩), .slice AT nT cT, .int .i64 nT, .int .i64 m, .slice A2 m cT, undef, undef], []⟩ ∧ Hd (Below V.heap.size V U) ∧ Hd (Tags V.heap.size U O) ∧
    Hd (PG spotT 27 V.heap.size (l.map (·.at_)) (D 6) (D 12) U (O 0) v16 v22) ∧ Hd (PG tokT 29 V.heap.size (l.map (·.tok)) (D 13) false U (O 1) v23 undef)) ?_ ?_ ?_ ?_
  · exact ⟨_, _, _, fun _ => none, rfl, ⟨below_drew1 (Below.refl _ _)⟩, ⟨Tags.nil _ _⟩, ⟨⟨fun h => (by cases h), fun _ => rfl, fun h => (by cases h), fun h => (by cases h)⟩⟩, ⟨⟨fun h => (by cases h), fun _ => rfl, fun h => (by cases h), fun h => (by cases h)⟩⟩⟩
  · rintro D a U ⟨_, _, _, _, _, hb, _⟩
    exact clsB_of hb.out
  · intro i hi
    simp only [List.mem_cons, List.not_mem_nil, or_false] at hi
    rcases hi with rfl | rfl | rfl
    · rintro D a U ⟨v16, v22, v23, O, rfl, HB, HTg, HPF, HPT⟩ hd hp
      have hzU := HB.out.size
      have HU := Hd.mk hzU
      refine op_of_list (o := ⟨_,_,_,_,_,_⟩) rfl (fun K hK => ?_)
      go_wp2_with fail
      refine onK_normal (hK _ _ ⟨_, v22, v23, putO O 0 (some U.heap.size), rfl, ⟨below_alloc HB.out _⟩, ⟨HTg.out.step (.inr rfl) HU.out (by rw [size_alloc]; omega) (fun k hk => by cases hk; rw [size_alloc]; omega)⟩, ⟨⟨fun _ => rfl, fun h => (by cases h), fun _ _ => ⟨by rw [putO_same]; rfl, Mine.empty spotT U rfl HU.out⟩, fun h => absurd (HPF.out.m h) (by rw [hd]; simp)⟩⟩, ⟨by rw [putO_ne (by decide)]; exact HPT.out.keep (fun k hk => Below.heap_alloc U _ k (HTg.out.lt 1 k hk).2) (by first | exact hz1 | (rw [size_alloc]; omega))⟩⟩)
    · rintro D a U ⟨v16, v22, v23, O, rfl, HB, HTg, HPF, HPT⟩ hd hp
      have hzU := HB.out.size
      have HU := Hd.mk hzU
      have h6 : D 6 = true := hp 6 (of_decide_eq_true (by kernel_rfl)) (by decide)
      obtain ⟨how, hM0⟩ := HPF.out.a h6 hd
      have HOW := Hd.mk how; have HM0 := Hd.mk hM0; clear how hM0
      refine op_of_list (o := ⟨_,_,_,_,_,_⟩) rfl (fun K hK => ?_)
      go_wp2_with (at_builtin; go_must (refine append_row spotT spot_flat rfl (.tmp 16) (.tmp 21) 40 27 _ 16 rfl Try.underlying40 info27 rfl (by decide) (by decide) V.heap.size v16 [] (l.map (·.at_)) A1 m cF rfl rfl HN1.out HM0.out (HR1.out.below HS.out (HV.out.trans (HB.out.mono HV.out.size))) (fun k hk => ⟨by have := HS.out k hk; have := HV.out.size; omega, HM0.out.ne_old (by have := HS.out k hk; have := HV.out.size; omega)⟩) hzU (by simp only [List.length_nil]; omega) ?_; intro v1 w1 hM1 hb1 hk1 hat1; have HM1 := Hd.mk hM1; have HB1 := Hd.mk hb1; have HAT := Hd.mk hat1; have HKK : Hd (∀ k, k < U.heap.size → O 0 ≠ some k → w1.heap[k]? = U.heap[k]?) := ⟨fun k hk hne => hk1 k hk (by rw [HOW.out]; exact hne)⟩; clear hM1 hb1 hk1 hat1))
      have hz1 := HB1.out.size
      refine onK_normal (hK _ _ ⟨v16, v1, v23, putO O 0 v1.ownBlock, rfl, ⟨HB.out.trans HB1.out⟩, ⟨HTg.out.step (by rw [← HOW.out]; exact HAT.out) HU.out HB1.out.size (fun k hk => (HM1.out.lt hk).1)⟩, ⟨⟨fun _ => h6, fun h => absurd h6 (by rw [show D 6 = false from h]; simp), fun _ h => (by cases h), fun _ => ⟨by rw [putO_same], by have := HM1.out; rwa [List.nil_append] at this⟩⟩⟩, ⟨by rw [putO_ne (by decide)]; exact HPT.out.keep (fun k hk => HTg.out.other (c := 0) (j := 1) HKK.out (by decide) hk) (by first | exact hz1 | (rw [size_alloc]; omega))⟩⟩)
    · rintro D a U ⟨v16, v22, v23, O, rfl, HB, HTg, HPF, HPT⟩ hd hp
      have hzU := HB.out.size
      have HU := Hd.mk hzU
      refine op_of_list (o := ⟨_,_,_,_,_,_⟩) rfl (fun K hK => ?_)
      go_wp2_with fail
      refine onK_normal (hK _ _ ⟨v16, v22, _, putO O 1 (some U.heap.size), rfl, ⟨below_alloc HB.out _⟩, ⟨HTg.out.step (.inr rfl) HU.out (by rw [size_alloc]; omega) (fun k hk => by cases hk; rw [size_alloc]; omega)⟩, ⟨by rw [putO_ne (by decide)]; exact HPF.out.keep (fun k hk => Below.heap_alloc U _ k (HTg.out.lt 0 k hk).2) (by first | exact hz1 | (rw [size_alloc]; omega))⟩, ⟨⟨fun h => (by cases h), fun h => (by cases h), fun _ _ => ⟨by rw [putO_same]; rfl, Mine.empty tokT U rfl HU.out⟩, fun h => (by cases h)⟩⟩⟩)
  · rintro D a U ⟨v16, v22, v23, O, rfl, HB, HTg, HPF, HPT⟩ hall
    obtain ⟨how, hM0⟩ := HPF.out.b (hall 12 (by decide))
    obtain ⟨how2, hM2⟩ := HPT.out.a (hall 13 (by decide)) rfl
    obtain ⟨A5, n5, c5, rfl, hn5, hc5, hA5, hr5⟩ := hM0.formN
    have HA5 := Hd.mk hA5; have HOW := Hd.mk how; have HOW2 := Hd.mk how2; have HM0 := Hd.mk hM0; have HM2 := Hd.mk hM2
    have hc2 := blk_below HV1.out HB.out
    have hzU := HB.out.size
    clear how hM0 how2 hM2 hr5 hA5 hn5 hall
    have HC2 := Hd.mk hc2
    clear hc2
    refine can_e (o := ⟨_,_,_,_,_,_⟩) rfl (fun K hK => ?_)
    go_wp2_with (at_builtin; go_must (refine append_row tokT tok_flat rfl (.tmp 23) (.tmp 28) 24 29 _ 48 rfl Try.underlying24 info29 rfl (by decide) (by decide) V.heap.size v23 [] (l.map (·.tok)) A2 m cT rfl rfl HN2.out HM2.out (HR2.out.below HS.out (HV.out.trans (HB.out.mono HV.out.size))) (fun k hk => ⟨by have := HS.out k hk; have := HV.out.size; omega, HM2.out.ne_old (by have := HS.out k hk; have := HV.out.size; omega)⟩) hzU (by simp only [List.length_nil]; omega) ?_; intro v4 w4 hM4 hb4 hk4 hat4; rw [List.nil_append] at hM4; obtain ⟨A4, n4, c4, rfl, hn4, hc4, hA4, hr4⟩ := hM4.formN; have HR4 := Hd.mk hr4; have HA4 := Hd.mk hA4; have HB4 := Hd.mk (HB.out.trans hb4); have HM1 := Hd.mk (HM0.out.mv (w' := w4) (fun k hk => hk4 k (HM0.out.lt hk).1 (by rw [HOW2.out]; exact HTg.out.dist 0 1 k (by decide) (by rw [← HOW.out]; exact hk))) hb4.size); have hq5 := hk4 (w.heap.size + 1) (blk_lt HC2.out) (by rw [HOW2.out]; intro h; have := (HTg.out.lt 1 _ h).1; omega); replace hq5 := hq5.trans HC2.out; clear hM4 hb4 hk4 hat4 hr4 hA4 hn4; have hq5c0 := blk_cell hq5 0 _ rfl; have hq5f0 := blk_frozen hq5 0; have hq5c1 := blk_cell hq5 1 _ rfl; have hq5f1 := blk_frozen hq5 1; have hq5c2 := blk_cell hq5 2 _ rfl; have hq5f2 := blk_frozen hq5 2; have hq5c3 := blk_cell hq5 3 _ rfl; have hq5f3 := blk_frozen hq5 3; have hq5l := blk_lt hq5))
    refine onK_normal (hK _ _ ⟨clsB _, clsB_of (by first | exact (HB4.out) | exact below_undrew (HB4.out)), fun _ _ h => h, ?_⟩)
    clear hK K
    refine can_q (l := [⟨_,_,_,_,_,_⟩]) rfl ?_
    repeat (go_big_quiet_step (fail))
    refine wpQuiet_nil ?_
    refine can_e (o := ⟨_,_,_,_,_,_⟩) rfl (fun K hK => ?_)
    go_wp2_with fail
    refine onK_normal (hK _ _ ⟨fun _ => True, trivial, (fun h => by cases h), ?_⟩)
    clear hK K
    refine can_done ?_
    go_wp2
    refine bodyPost_ret (results_cell_row rfl _ _ (w.heap.size + 1) 42 #[.int .i64 x.at_.at_, .int .i64 x.at_.mode, .slice A5 n5 c5, .slice A4 n4 c4] (0, 0) _ rfl (blk_set (blk_set (blk_set (blk_set hq5 0 _ _ rfl) 1 _ _ rfl) 2 _ _ rfl) 3 _ _ rfl) Try.underlying42 rfl (by kernel_rfl)) rfl ?_
    have hfr := Fr.set (Fr.set (Fr.set (Fr.set (Fr.refl (fun k => k = w.heap.size + 1) w4) (.inl rfl) 0 (.int .i64 x.at_.at_)) (.inl rfl) 1 (.int .i64 x.at_.mode)) (.inl rfl) 2 (.slice A5 n5 c5)) (.inl rfl) 3 (.slice A4 n4 c4)
    obtain ⟨A5', n5', c5', he1, _, hc5', _, hr5'⟩ := HM1.out.formN
    cases he1
    have hVs := HV.out.size
    have hz4 : ∀ k, k < w4.heap.size → k < ((((w4.setCell ⟨w.heap.size + 1, 0, none⟩ (.int .i64 x.at_.at_)).setCell ⟨w.heap.size + 1, 1, none⟩ (.int .i64 x.at_.mode)).setCell ⟨w.heap.size + 1, 2, none⟩ (.slice A5 n5 c5)).setCell ⟨w.heap.size + 1, 3, none⟩ (.slice A4 n4 c4)).heap.size := fun k hk => by simp only [size_set]; exact hk
    refine ⟨⟨x.at_, A5, n5, c5, A4, n4, c4⟩, rfl, ⟨rfl, ?_, ?_, hc5', hc4, HA5.out, HA4.out⟩, ?_⟩
    · exact (hfr.row hr5' (fun k hk => ⟨hk.2, by have := hk.1; show ¬ k = _; omega⟩)).mono fun k hk => ⟨by have := hk.1; omega, hz4 k hk.2⟩
    · exact (hfr.row HR4.out (fun k hk => ⟨hk.2, by have := hk.1; show ¬ k = _; omega⟩)).mono fun k hk => ⟨by have := hk.1; omega, hz4 k hk.2⟩
    · exact (HV.out.trans (HB4.out.mono HV.out.size)).trans (hfr.below (n := w.heap.size) (by have := HB4.out.size; omega) (fun b hb hx => by omega))
end Go.Proofs.Ytcejfnnimfpahaa.Fn
