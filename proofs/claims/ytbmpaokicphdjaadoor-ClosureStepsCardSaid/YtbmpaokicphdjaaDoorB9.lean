/- All: a set's numbers, in a row. -/
import Derived.Test.YtbmpaokicphdjaaDoorB8
import Derived.RangeFuncBox
import Derived.Maps.AppendAt
namespace Go.Proofs.YtbmpaokicphdjaaDoor.Fn
open Go Go.RowKit Go.Shelf Go.Proofs.YtbmpaokicphdjaaDoor.Can Go.Proofs.YtbmpaokicphdjaaDoor.Base
attribute [local go_sem] Oper.semAt_some
theorem info3 : (Tryd.prog.info? 3).map (fun i => (i.zero, i.size, i.bytes)) = some (some (.int .i64 0), 1, 8) := by kernel_rfl
def iN (x : Nat) : Value := .int .i64 (x : Int)
theorem cells_int (w : World) (S : Nat → Prop) (l : List Int) : Cells I w S l (l.map (Value.int .i64)) := by
  refine ⟨by show _ = l.length * 1; rw [List.length_map, Nat.mul_one], fun j p hj => ?_⟩
  show ((l.map (Value.int .i64)).drop (j * 1)).take 1 = [.int .i64 p]
  rw [Nat.mul_one]
  apply List.ext_getElem?
  intro i
  rw [List.getElem?_take]
  split
  · obtain rfl : i = 0 := by omega
    rw [List.getElem?_drop, Nat.add_zero, List.getElem?_map, hj]
    rfl
  · rw [List.getElem?_eq_none (by simp; omega)]
theorem row_low {W : World} {b b' : Nat} {e : TypeId} {sz : Nat} {v : Value} {k : Nat} {xs : List Value} (h : W.ownsRow b e sz v k xs) (hb : b' ≤ b) : W.ownsRow b' e sz v k xs := by
  refine ⟨h.1, ?_⟩
  rcases h.2 with h0 | ⟨g, cap, cur, h1, h2, h3⟩
  · exact .inl h0
  · exact .inr ⟨g, cap, cur, h1, Nat.le_trans hb h2, h3⟩
set_option maxRecDepth 100000 in
set_option maxHeartbeats 4000000 in
theorem all_calls (A : Option Addr) (c g r : Nat) (ws : List Nat) (w : World) (hK : Wok r ws) (h1 : Wd w A g ws) (hg : g < w.heap.size) (hT : TabAt 0 Lib.deBruijn64tab w) (h0 : 0 < w.heap.size) :
    Calls Tryd.prog 23 #[.agg #[.slice A ws.length c, .int .i64 r]] w fun e w' => ∃ A' n' c', e = .returned (.slice A' n' c') ∧ Row I w' (fun k => w.heap.size ≤ k ∧ k < w'.heap.size) A' n' ((elems ws).map fun x : Nat => (x : Int)) ∧ Below w.heap.size w w' := by
  obtain ⟨i0, hi, hz0, hz1, hz2⟩ := info_parts info3
  refine (callsIn_wide (n := 6)).1 ?_
  refine callsIn_of_wp_marks Tryd.func23 rfl trivial ?_ rfl
  simp only [Tryd.ntmps23, List.size_toArray, List.length_cons, List.length_nil, Nat.reduceAdd, Nat.reduceSub, Array.replicate_succ, Array.replicate_zero, List.push_toArray, List.append_toArray, List.nil_append, List.cons_append]
  have hm1 : ws.length ≤ 1100 := by have := hK.len; have := hK.small; omega
  obtain ⟨m, hme⟩ : ∃ m, ws.length = m := ⟨_, rfl⟩
  have HK := Hd.mk hK; have H1 := Hd.mk h1; have HT := Hd.mk hT; have HM := Hd.mk hme; have HI := Hd.mk (And.intro hi (And.intro hz0 (And.intro hz1 hz2)))
  rw [hme] at hm1 ⊢
  clear hK h1 hT hme hi hz0 hz1 hz2
  gi_wp2_with (refine ⟨trivial, ?_⟩; gi_at_call 72; refine (callsIn_wide.2 (each_calls A m c r _)).mono ?_; rintro e w' ⟨rfl, rfl⟩)
  generalize hV : World.alloc _ _ = V
  have HBV : Below w.heap.size w V := below_of hV (by repeat (first | (with_reducible assumption) | (with_reducible exact Below.refl _ _) | (with_reducible apply below_drewL) | (with_reducible apply below_alloc) | (with_reducible apply below_drew1) | (with_reducible apply below_drewN) | (refine below_set ?_ (by first | omega | (simp only [size_alloc, size_drew, size_set]; omega)) _ _)))
  have zV : Hd (V.heap.size = w.heap.size + 1 + 1 + 1) := ⟨by rw [← hV]; simp only [size_alloc]⟩
  have V0 := at_of hV (blk_alloc (blk_alloc (blk_new _ _ _ rfl) _) _)
  have V0l := blk_lt V0
  have V1 := at_of hV (blk_alloc (blk_new _ _ _ rfl) _)
  simp only [size_alloc] at V1
  have V1l := blk_lt V1
  have V2 := at_of hV (blk_new _ _ _ rfl)
  simp only [size_alloc] at V2
  have V2l := blk_lt V2
  clear hV
  have hzV : V.heap.size = w.heap.size + 3 := by rw [zV.out]
  obtain ⟨Bx, hBx⟩ : ∃ Bx, w.heap.size + 1 + 1 = Bx := ⟨_, rfl⟩
  rw [hBx] at V2 V2l ⊢
  obtain ⟨Bo, hBo⟩ : ∃ Bo, w.heap.size + 1 = Bo := ⟨_, rfl⟩
  rw [hBo] at V1 V1l ⊢
  have hV2c : V.cell? ⟨Bx, 0, none⟩ = some (.slice A ws.length c) := by rw [HM.out]; exact blk_cell V2 0 _ rfl
  have HTV : Hd (TabAt 0 Lib.deBruijn64tab V) := ⟨fun j hj => (HBV.cell (p := ⟨0, j, none⟩) h0).trans (HT.out j hj)⟩
  have HSEQ := each_stops 5 (by omega) Bx g c A ws HK.out.lt (by rw [HM.out]; omega) V V2l hV2c (H1.out.below HBV) HTV.out (by omega)
  have hBox : Boxed V Bo 24 (.slice none 0 0) := V1
  have HBV' := Hd.mk HBV
  clear V0 V1 V2 V0l V1l V2l zV HBV hV2c
  refine wpIn_rangeFunc_ownF rfl (by omega) (gf := 104) (lb := #[.pointer (some ⟨Bx, 0, none⟩)]) rfl trivial (enters_of Tryd.func104 (by kernel_rfl) rfl)
    HSEQ (fun h k => h.trans k) (kept_b (fun k hk => by rcases hk with rfl | rfl | rfl <;> omega)) (Below.refl _ _) (fun _ => rfl)
    (fun pre W => (∃ v, Boxed W Bo 24 v ∧ W.ownsRow V.heap.size 3 1 v pre.length (pre.map iN) ∧ True) ∧ (Below w.heap.size w W ∧ V.heap.size ≤ W.heap.size))
    (fun _ _ _ => False)
    (OwnFrom.and (Own.from (holdsRow_own V.heap.size Bo 24 3 1 (fun pre : List Nat => pre.length) (fun pre => pre.map iN) (fun _ _ => True)) _) (fun s A B row hs hg hr => ⟨hs.1.grown hg hs.1.size (fun k hk => by have := (hr k hk).1; omega), Nat.le_trans hs.2 hg.size⟩))
    (fun _ _ _ _ _ hs _ _ => hs)
    ⟨⟨_, hBox, World.ownsRow_nil _ _ _ _, trivial⟩, HBV'.out, Nat.le_refl _⟩
    (fun x => { tmps := #[.agg #[.slice A m c, .int .i64 r], .pointer (some ⟨w.heap.size, 0, none⟩), .slice none 0 0, .pointer (some ⟨Bo, 0, none⟩), .int .i64 x, .agg #[.slice A m c, .int .i64 r], .func (.func 104) #[] #[.pointer (some ⟨Bx, 0, none⟩)], .int .i64 x, undef, undef, undef, undef, undef], defers := [] }) ?assign ?body ?done ?stop
  case assign =>
    intro l x W K hK
    gi_wp2
    exact hK
  case body =>
    clear HSEQ hBox
    rintro l pre x W ⟨⟨v, hv, hrow, _⟩, hB, hVW⟩ hlt
    have hc := hv.cell
    have HB := Hd.mk hB; have HR := Hd.mk hrow; have HV := Hd.mk hv
    have hpl : pre.length < 70400 := by have := HM.out; omega
    clear hB hrow hlt
    gi_wp2_with (gi_at_builtin; refine wpListIn_append_own _ rfl _ _ 24 rfl V.heap.size 3 i0 (.int .i64 0) 1 8 Tryd.underlying24 HI.out.1 HI.out.2.1 HI.out.2.2.1 HI.out.2.2.2 rfl (by decide) _ _ _ rfl (HR.out.alloc _) ⟨W.heap.size, 0, none⟩ 1 1 [iN x] rfl rfl (cell_one_new _ _ _) (by simp [iN, Value.oneCell']) (by simp only [maxLen]; omega) (by omega) (by simp; omega) ?_; intro v' w1 hown' hgrow _; obtain ⟨g', cap', rfl⟩ := ownsRow_succ hown'; obtain ⟨hv1, hv2, hr2, hk2, hb2⟩ := HV.out.appended (by decide) (row_low HR.out (Nat.zero_le _)) (Nat.zero_le _) (Nat.zero_le _) (row_low hown' (Nat.zero_le _)) hgrow; have hr3 := hown'.kept (grownBy_setCell' w1 Bo (.slice (some ⟨g', 0, none⟩) (pre.length + 1) cap')) (.inr (hv1.not_row (by decide) hown').symm); have hc1 := hv1.cell; have hf1 := hv1.frozen; have HK2 := Hd.mk hk2; have HV2 := Hd.mk hv2; have HR3 := Hd.mk hr3; have HG := Hd.mk hgrow; clear hk2 hv2 hr2 hb2 hr3 hown' hgrow hv1)
    have hown : ∀ k, v.ownBlock = some k → V.heap.size ≤ k := fun k hk => by
      rcases HR.out.2 with ⟨rfl, _⟩ | ⟨g9, _, _, rfl, h9, _⟩
      · cases hk
      · have := ownBlock_eq hk; omega
    refine ⟨HK2.out, ?_, ⟨_, HV2.out, by rw [List.length_append, List.map_append]; exact HR3.out, trivial⟩, ?_, ?_⟩
    · intro k hk
      have hk1 : k < V.heap.size ∧ ¬ k = Bo := by rcases hk with rfl | rfl | rfl <;> omega
      exact (Below.heap_setCell w1 ⟨Bo, 0, none⟩ _ k hk1.2).trans ((HG.out.block k (by simp; omega) (fun h => by have := hown k h.symm; omega)).trans (Below.heap_alloc W _ k (by omega)))
    · exact ((HB.out.alloc HB.out.size _).grown HG.out (by simp; have := HB.out.size; omega) (fun k hk => by have := hown k hk; omega)).setCell (p := ⟨Bo, 0, none⟩) (by show _ ≤ Bo; omega) _
    · have := HG.out.size
      rw [size_alloc] at this
      rw [size_set]; omega
  case done =>
    clear HSEQ hBox
    rintro D ys W hD rfl ⟨⟨v, hv, hrow, _⟩, hB, hVW⟩ hK
    have hc := hv.cell
    gi_wp2
    refine ⟨by simp, .inl ⟨_, _, rfl, run_takeDeferred hK, ?_⟩⟩
    have hrow' := ownsRow_putObj hrow (.deferred none) hK rfl
    refine ⟨_, results_tmp rfl _ _ _, ?_⟩
    have hM : Mine I (W.putObj D (.deferred none)) V.heap.size 3 v ((elems ws).map fun x : Nat => (x : Int)) := ⟨((elems ws).map fun x : Nat => (x : Int)).map (Value.int .i64), by rw [List.length_map, List.map_map]; exact hrow', cells_int _ _ _, fun _ h => h.elim⟩
    obtain ⟨A', n', c', rfl, _, _, _, hrow9⟩ := hM.formN
    exact ⟨A', n', c', rfl, hrow9.mono (fun k hk => ⟨by have := hk.1; omega, hk.2⟩), hB.trans (belowK_b (w := w) (Nat.le_refl _) W D _ _ (by omega) hK rfl rfl)⟩
  case stop =>
    rintro D c pre W _ _ h _
    exact h.elim
end Go.Proofs.YtbmpaokicphdjaaDoor.Fn
