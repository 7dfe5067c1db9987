/- The law's own example. -/
import Derived.Test.YtbmpaokicphdjaaDoorB15
namespace Go.Proofs.YtbmpaokicphdjaaDoor.Fn
open Go Go.RowKit Go.Proofs.YtbmpaokicphdjaaDoor.Can Go.Proofs.YtbmpaokicphdjaaDoor.Base
attribute [local go_sem] clsB AB.cell

theorem lit_row (w : World) (l : List Int) (hl : l.length ≤ 9223372036854775807) {n : Nat} (hn : n = w.heap.size) : Row I (w.alloc (.cells (l.map (Value.int .i64)).toArray 3)) (fun k => k = n) (some ⟨n, 0, none⟩) l.length l := by
  subst hn
  refine (cells_int _ _ l).row rfl hl fun j u hu => ?_
  rw [Nat.zero_add]
  exact blk_cell (blk_new _ _ _ rfl) j u (by rw [List.getElem?_toArray]; exact hu)
theorem r9 : roomR 9 = 9 := by decide +kernel
theorem ex1 : ofW 9 [3, 1, 12] = [10] := by decide +kernel
theorem ex2 : (elems [10]).map (fun x : Nat => (x : Int)) = [1, 3] := by decide +kernel
theorem ex3 : (elems [10]).length = 2 := by decide +kernel
theorem ex4 : addO 9 [10] 3 = false := by decide +kernel
theorem ex5 : addW 9 [10] 3 = [10] := by decide +kernel
theorem ex6 : addO 9 [10] 8 = true := by decide +kernel
theorem ex7 : addW 9 [10] 8 = [266] := by decide +kernel
theorem ex8 : dropO 9 [266] 1 = true := by decide +kernel
theorem ok10 : Wok 9 [10] := by have := ofW_ok (room := 9) (by decide) [3, 1, 12]; rwa [ex1] at this
theorem ok266 : Wok 9 [266] := by have := ok10.add 8; rwa [ex7] at this
set_option maxRecDepth 20000 in
set_option maxHeartbeats 2000000 in
theorem alive_calls (w : World) (hT : TabAt 0 Lib.deBruijn64tab w) (h0 : 0 < w.heap.size) : Calls Tryd.prog 14 #[] w fun e w' => e = .returned (.bool true) ∧ Below w.heap.size w w' := by
  have HT := Hd.mk hT; have H0 := Hd.mk h0; clear hT h0
  have tabB : ∀ {W : World}, Below w.heap.size w W → TabAt 0 Lib.deBruijn64tab W := fun hb j hj => (hb.cell (p := ⟨0, j, none⟩) H0.out).trans (HT.out j hj)
  have TAB := Hd.mk @tabB; clear tabB
  go_enter Tryd.func14, Tryd.ntmps14
  go_wp2_with (go_at_call 15; go_must (have h9 := of_calls 9 (some ⟨w.heap.size, 0, none⟩) 3 3 [3, 1, 12] (fun k => k = w.heap.size) (w.alloc (.cells #[.int .i64 3, .int .i64 1, .int .i64 12] 3)) (fun k hk => by rw [size_alloc]; omega) (lit_row w [3, 1, 12] (by decide) rfl); rw [r9, ex1] at h9; refine Calls.mono h9 ?_; clear h9; rintro e w1 ⟨g, rfl, hg, hgl, hwd, hb1⟩))
  have hbw := below_seq (below_alloc (Below.refl w.heap.size w) (.cells #[.int .i64 3, .int .i64 1, .int .i64 12] 3)) hb1
  have hz1 := hb1.size
  rw [size_alloc] at hg hz1
  generalize hV : World.alloc w1 _ = V
  have hv1 : V.heap[w1.heap.size]? = some (.cells #[.slice (some ⟨g, 0, none⟩) 1 1, .int .i64 9] 28 (0, 0)) := by rw [← hV]; exact blk_new _ _ _ rfl
  have hwV : Wd V (some ⟨g, 0, none⟩) g [10] := by rw [← hV]; exact hwd.below (below_alloc (Below.refl _ _) _)
  have hbV : Below w.heap.size w V := by rw [← hV]; exact below_alloc hbw _
  have hgV : g < V.heap.size := by rw [← hV, size_alloc]; omega
  have hne : ¬ w1.heap.size = g := by omega
  have hgw : w.heap.size ≤ g := by omega
  have HV1 := Hd.mk hv1; have HWV := Hd.mk hwV; have HBV := Hd.mk hbV
  clear hV hv1 hwV hbV hwd hbw hb1 hgl hg hz1
  generalize w1.heap.size = p1 at *
  go_wp2_with (go_at_call 23; go_must (refine Calls.mono (all_calls (some ⟨g, 0, none⟩) 1 g 9 [10] V ok10 HWV.out hgV (TAB.out HBV.out) (by have := HBV.out.size; have := H0.out; omega)) ?_; rintro e w2 ⟨A2, n2, c2, rfl, hr2, hb2⟩; rw [ex2] at hr2; have HR2 := Hd.mk hr2; have HB2 := Hd.mk hb2; clear hr2 hb2))
  go_wp2_with (go_at_call 17; go_must (refine Calls.mono (same_calls A2 (some ⟨w2.heap.size, 0, none⟩) n2 2 c2 2 [1, 3] [1, 3] true _ (fun k => k = w2.heap.size) (w2.alloc (.cells #[.int .i64 1, .int .i64 3] 3)) (fun k hk => by have := hk.2; rw [size_alloc]; omega) (fun k hk => by rw [size_alloc]; omega) (HR2.out.below (fun k hk => hk.2) (below_alloc (Below.refl _ _) _)) (lit_row w2 [1, 3] (by decide) rfl) (decide_eq_true rfl)) ?_; rintro e w3 ⟨rfl, hb3⟩; have HB3 := Hd.mk (below_seq HB2.out (below_seq (below_alloc (Below.refl _ _) _) hb3)); clear hb3; have h3 := blk_below HV1.out HB3.out; have h3c0 := blk_cell h3 0 _ rfl; have h3f0 := blk_frozen h3 0; have h3c1 := blk_cell h3 1 _ rfl; have h3f1 := blk_frozen h3 1; have h3l := blk_lt h3))
  go_wp2_with (go_at_call 25; go_must (have h9 := count_calls (some ⟨g, 0, none⟩) 1 g 9 [10] w3 ok10 (HWV.out.below HB3.out); rw [ex3] at h9; refine Calls.mono h9 ?_; clear h9; rintro e w4 ⟨rfl, hb4⟩; have HB4 := Hd.mk (below_seq HB3.out hb4); clear hb4; clear h3c0 h3f0 h3c1 h3f1 h3l; have h4 := blk_below HV1.out HB4.out; have h4c0 := blk_cell h4 0 _ rfl; have h4f0 := blk_frozen h4 0; have h4c1 := blk_cell h4 1 _ rfl; have h4f1 := blk_frozen h4 1; have h4l := blk_lt h4))
  go_wp2_with (go_at_call 26; go_must (refine Calls.mono (room_calls (some ⟨g, 0, none⟩) 1 1 9 w4) ?_; rintro e w5 ⟨rfl, hb5⟩; have HB5 := Hd.mk (below_seq HB4.out hb5); clear hb5; clear h4c0 h4f0 h4c1 h4f1 h4l; have h5 := blk_below HV1.out HB5.out; have h5c0 := blk_cell h5 0 _ rfl; have h5f0 := blk_frozen h5 0; have h5c1 := blk_cell h5 1 _ rfl; have h5f1 := blk_frozen h5 1; have h5l := blk_lt h5))
  have TOK := Hd.mk trivial
  go_wp2_with (have hq_ := TOK; clear hq_ TOK; go_at_call 21; go_must (have h9 := add_calls (some ⟨g, 0, none⟩) 1 g 9 3 [10] w5 ok10 (HWV.out.below HB5.out); rw [ex4, ex5] at h9; refine Calls.mono h9 ?_; clear h9; rintro e w6 ⟨rfl, hf6, hw6⟩; have HF6 := Hd.mk (hf6.mono (Y := fun k => k = g) (fun _ h => h.1)); have HW6 := Hd.mk hw6; clear hf6 hw6; clear h5c0 h5f0 h5c1 h5f1 h5l; have h6 := HF6.out.blk h5 hne; have h6c0 := blk_cell h6 0 _ rfl; have h6f0 := blk_frozen h6 0; have h6c1 := blk_cell h6 1 _ rfl; have h6f1 := blk_frozen h6 1; have h6l := blk_lt h6))
  have TOK := Hd.mk trivial
  go_wp2_with (have hq_ := TOK; clear hq_ TOK; go_at_call 21; go_must (have h9 := add_calls (some ⟨g, 0, none⟩) 1 g 9 8 [10] w6 ok10 HW6.out; rw [ex6, ex7] at h9; refine Calls.mono h9 ?_; clear h9; rintro e w7 ⟨rfl, hf7, hw7⟩; have HF7 := Hd.mk (hf7.mono (Y := fun k => k = g) (fun _ h => h.1)); have HW7 := Hd.mk hw7; clear hf7 hw7; clear h6c0 h6f0 h6c1 h6f1 h6l; have h7 := HF7.out.blk h6 hne; have h7c0 := blk_cell h7 0 _ rfl; have h7f0 := blk_frozen h7 0; have h7c1 := blk_cell h7 1 _ rfl; have h7f1 := blk_frozen h7 1; have h7l := blk_lt h7))
  go_wp2_with (go_at_call 22; go_must (have h9 := less_calls (some ⟨g, 0, none⟩) 1 g 9 1 [266] w7 ok266 HW7.out; rw [ex8] at h9; refine Calls.mono h9 ?_; clear h9; rintro e w8 ⟨rfl, hf8, hw8⟩; have HF8 := Hd.mk (hf8.mono (Y := fun k => k = g) (fun _ h => h.1)); clear hf8 hw8))
  go_ret
  exact ⟨rfl, (below_seq HBV.out HB5.out).trans (((HF6.out.trans HF7.out).trans HF8.out).below (below_seq HBV.out HB5.out).size (fun b hb hx => by have hx' : b = g := hx; omega))⟩
end Go.Proofs.YtbmpaokicphdjaaDoor.Fn
