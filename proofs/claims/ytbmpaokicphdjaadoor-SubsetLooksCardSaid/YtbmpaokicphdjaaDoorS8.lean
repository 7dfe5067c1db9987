/- Put, whatever comes of it; the law's own example. -/
import Derived.Test.YtbmpaokicphdjaaDoorS7
set_option linter.unusedVariables false
set_option linter.unusedSimpArgs false
namespace Go.Proofs.YtbmpaokicphdjaaDoor.Fn
open Go Go.RowKit Go.Proofs.YtbmpaokicphdjaaDoor.Can Go.Proofs.YtbmpaokicphdjaaDoor.Base
attribute [local go_sem] clsB AB.cell

theorem Tbl.fr_below {w w' : World} {base p : Nat} {F : Nat → Prop} {room : Nat} {xs : List (Nat × List Nat)} (h : Tbl w base p F room xs) (hf : Fr F w w') (hb : base ≤ w.heap.size) : Below base w w' := hf.below hb (fun b hb hF => by have := (h.fb b hF).1; omega)
theorem tab_below {w w' : World} {n : Nat} (h0 : 0 < n) (hb : Below n w w') (hT : TabAt 0 Lib.deBruijn64tab w) : TabAt 0 Lib.deBruijn64tab w' := fun j hj => (World.cell?_of_block (w := w) (hb.block 0 h0)).trans (hT j hj)
theorem put_any (base p room : Nat) (F : Nat → Prop) (xs : List (Nat × List Nat)) (A : Option Addr) (c gs r : Nat) (ws : List Nat) (w : World) (hB : Tbl w base p F room xs) (hK : Wok r ws) (h1 : Wd w A gs ws) (hT : TabAt 0 Lib.deBruijn64tab w) (h0 : 0 < w.heap.size) (hf : xs.length < room) (hb0 : 0 < base) :
    Calls Tryd.prog 30 #[.pointer (some ⟨p, 0, none⟩), .agg #[.slice A ws.length c, .int .i64 r]] w fun e w' => ∃ (k : Nat) (b : Bool) (F' : Nat → Prop) (xs' : List (Nat × List Nat)), e = .returned (.tuple #[.int .i64 k, .bool b]) ∧ k ≤ 65536 ∧ Tbl w' base p F' room xs' ∧ Fr F w w' ∧ (∀ k, F' k → F k ∨ w.heap.size ≤ k) ∧ elemsI ws ∈ xs'.map lst ∧ (∀ y ∈ xs.map lst, y ∈ xs'.map lst) ∧ xs'.length ≤ xs.length + 1 := by
  by_cases hk : elemsI ws ∈ xs.map lst
  · obtain ⟨k, hk2, hk3⟩ := List.mem_iff_getElem.1 hk
    have hk4 : (xs.map lst)[k]? = some (elemsI ws) := by rw [List.getElem?_eq_getElem hk2, hk3]
    refine Calls.mono (put_old base p room k F xs A c gs r ws w hB hK h1 hT h0 hk4) ?_
    rintro e w' ⟨rfl, hb⟩
    rw [List.length_map] at hk2
    have := hB.xr
    have := hB.r2
    exact ⟨k, false, F, xs, rfl, by omega, hB.below hb, Fr.of_below hb, fun k h => .inl h, hk, fun y hy => hy, by omega⟩
  · refine Calls.mono (put_new base p room F xs A c gs r ws w hB hK h1 hT h0 hk hf hb0) ?_
    rintro e w' ⟨rfl, F', h2, h3, h4⟩
    have := hB.xr
    have := hB.r2
    refine ⟨xs.length, true, F', _, rfl, by omega, h2, h3, h4, ?_, fun y hy => ?_, by rw [List.length_append]; simp⟩
    · rw [List.map_append]; exact List.mem_append_right _ (List.mem_singleton.2 rfl)
    · rw [List.map_append]; exact List.mem_append_left _ hy
theorem r5b : roomR 5 = 5 := by decide +kernel
theorem rS9 : roomS 9 = 9 := by decide +kernel
theorem xa1 : elemsI (ofW 5 [1]) = [1] := by decide +kernel
theorem xa2 : elemsI (ofW 5 [2]) = [2] := by decide +kernel
theorem xa3 : elemsI (ofW 9 [1]) = [1] := by decide +kernel
set_option maxHeartbeats 2000000 in
theorem aliveS_calls (w : World) (hT : TabAt 0 Lib.deBruijn64tab w) (h0 : 0 < w.heap.size) : Calls Tryd.prog 33 #[] w fun e w' => e = .returned (.bool true) ∧ Below w.heap.size w w' := by
  have HT := Hd.mk hT; have H0 := Hd.mk h0
  clear hT
  go_enter Tryd.func33, Tryd.ntmps33
  go_wp2_with (go_at_call 29; go_must (refine Calls.mono (snew_calls 9 w HT.out H0.out) ?_; rintro e w1 ⟨F, rfl, hB, hb⟩; rw [rS9] at hB; have HB := Hd.mk hB; have HW := Hd.mk hb; clear hB hb))
  have hz1 := HW.out.size
  have TOK := Hd.mk trivial
  go_wp2_with (first
    | (go_at_call 30; have hq_ := HO1; clear hq_; go_must (have h9 := put_new w.heap.size w.heap.size 9 F [] (some ⟨g1, 0, none⟩) 1 g1 5 (ofW 5 [1]) v1 (HB.out.below HV1.out) (ofW_ok (by decide) _) HO1.out (tab_below H0.out (HW.out.trans (HV1.out.mono hz1)) HT.out) (by have := HV1.out.size; omega) (by simp) (by decide) h0; rw [ofW_len, show (5 + 63) / 64 = 1 from rfl] at h9; refine Calls.mono h9 ?_; clear h9; rintro e w2 ⟨rfl, F2, hB2, hf2, hn2⟩; have HB2 := Hd.mk hB2; have HW2 : Hd (Below w.heap.size w w2) := ⟨(HW.out.trans (HV1.out.mono hz1)).trans ((HB.out.below HV1.out).fr_below hf2 (by have := HV1.out.size; omega))⟩; clear hB2 hf2 hn2))
    | (have hq_ := TOK; clear hq_ TOK; go_at_call 15; go_must (have h9 := of_calls 5 (some ⟨w1.heap.size, 0, none⟩) 1 1 [1] (fun k => k = w1.heap.size) (w1.alloc (.cells #[.int .i64 1] 3)) (fun k hk => by rw [size_alloc, hk]; omega) (lit_row w1 [1] (by decide) rfl); rw [r5b, show (5 + 63) / 64 = 1 from rfl] at h9; refine Calls.mono h9 ?_; clear h9; rintro e v1 ⟨g1, rfl, -, -, hw, hb⟩; have HO1 := Hd.mk hw; have HV1 := Hd.mk (below_seq (below_alloc (Below.refl _ _) _) hb); clear hw hb)))
  have hz2 := HW2.out.size
  have TOK := Hd.mk trivial
  go_wp2_with (first
    | (go_at_call 30; have hq_ := HO2; clear hq_; go_must (have h9 := put_new w.heap.size w.heap.size 9 F2 [(5, ofW 5 [1])] (some ⟨g2, 0, none⟩) 1 g2 5 (ofW 5 [2]) v2 (HB2.out.below HV2.out) (ofW_ok (by decide) _) HO2.out (tab_below H0.out (HW2.out.trans (HV2.out.mono hz2)) HT.out) (by have := HV2.out.size; omega) (by decide +kernel) (by decide) h0; rw [ofW_len, show (5 + 63) / 64 = 1 from rfl] at h9; refine Calls.mono h9 ?_; clear h9; rintro e w3 ⟨rfl, F3, hB3, hf3, hn3⟩; have HB3 := Hd.mk hB3; have HW3 : Hd (Below w.heap.size w w3) := ⟨(HW2.out.trans (HV2.out.mono hz2)).trans ((HB2.out.below HV2.out).fr_below hf3 (by have := HV2.out.size; omega))⟩; clear hB3 hf3 hn3))
    | (have hq_ := TOK; clear hq_ TOK; go_at_call 15; go_must (have h9 := of_calls 5 (some ⟨w2.heap.size, 0, none⟩) 1 1 [2] (fun k => k = w2.heap.size) (w2.alloc (.cells #[.int .i64 2] 3)) (fun k hk => by rw [size_alloc, hk]; omega) (lit_row w2 [2] (by decide) rfl); rw [r5b, show (5 + 63) / 64 = 1 from rfl] at h9; refine Calls.mono h9 ?_; clear h9; rintro e v2 ⟨g2, rfl, -, -, hw, hb⟩; have HO2 := Hd.mk hw; have HV2 := Hd.mk (below_seq (below_alloc (Below.refl _ _) _) hb); clear hw hb)))
  have hz3 := HW3.out.size
  have TOK := Hd.mk trivial
  go_wp2_with (first
    | (go_at_call 31; have hq_ := HW4; clear hq_; go_must (refine Calls.mono (len_calls w.heap.size w.heap.size 9 F3 [(5, ofW 5 [1]), (5, ofW 5 [2])] w4 HB4.out) ?_; rintro e w5 ⟨rfl, rfl⟩))
    | (go_at_call 30; have hq_ := HO3; clear hq_; go_must (have h9 := put_old w.heap.size w.heap.size 9 0 F3 [(5, ofW 5 [1]), (5, ofW 5 [2])] (some ⟨g3, 0, none⟩) 1 g3 9 (ofW 9 [1]) v3 (HB3.out.below HV3.out) (ofW_ok (by decide) _) HO3.out (tab_below H0.out (HW3.out.trans (HV3.out.mono hz3)) HT.out) (by have := HV3.out.size; omega) (by decide +kernel); rw [ofW_len, show (9 + 63) / 64 = 1 from rfl] at h9; refine Calls.mono h9 ?_; clear h9; rintro e w4 ⟨rfl, hb4⟩; have HW4 : Hd (Below w.heap.size w w4) := ⟨(HW3.out.trans (HV3.out.mono hz3)).trans (hb4.mono (by have := HV3.out.size; omega))⟩; have HB4 := Hd.mk ((HB3.out.below HV3.out).below hb4); clear hb4))
    | (have hq_ := TOK; clear hq_ TOK; go_at_call 15; go_must (have h9 := of_calls 9 (some ⟨w3.heap.size, 0, none⟩) 1 1 [1] (fun k => k = w3.heap.size) (w3.alloc (.cells #[.int .i64 1] 3)) (fun k hk => by rw [size_alloc, hk]; omega) (lit_row w3 [1] (by decide) rfl); rw [r9, show (9 + 63) / 64 = 1 from rfl] at h9; refine Calls.mono h9 ?_; clear h9; rintro e v3 ⟨g3, rfl, -, -, hw, hb⟩; have HO3 := Hd.mk hw; have HV3 := Hd.mk (below_seq (below_alloc (Below.refl _ _) _) hb); clear hw hb)))
  go_ret
  exact ⟨rfl, HW4.out⟩
end Go.Proofs.YtbmpaokicphdjaaDoor.Fn
