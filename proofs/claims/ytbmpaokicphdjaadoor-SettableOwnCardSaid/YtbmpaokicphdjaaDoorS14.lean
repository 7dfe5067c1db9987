/- SettableOwn: the walk. -/
import Derived.Test.YtbmpaokicphdjaaDoorS13
namespace Go.Proofs.YtbmpaokicphdjaaDoor.Fn
open Go Go.RowKit Go.Proofs.YtbmpaokicphdjaaDoor.Can Go.Proofs.YtbmpaokicphdjaaDoor.Base
attribute [local go_sem] clsB AB.cell

theorem r100 : roomR 100 = 100 := by decide +kernel
theorem rS5 : roomS 5 = 5 := by decide +kernel
set_option maxRecDepth 20000 in
set_option maxHeartbeats 8000000 in
theorem sown_calls (A : Option Addr) (c : Nat) (ls : List Int) (n : Int) (S : Nat → Prop) (w : World) (hS : ∀ k, S k → k < w.heap.size) (hC : Row I w S A ls.length ls) (hT : TabAt 0 Lib.deBruijn64tab w) (h0 : 0 < w.heap.size) :
    Calls Tryd.prog 9 #[.slice A ls.length c, .int .i64 n] w fun e w' => e = .returned (.bool true) ∧ Below w.heap.size w w' := by
  obtain ⟨z, hz⟩ : ∃ n, ls.length = n := ⟨_, rfl⟩
  rw [hz] at hC ⊢
  have hmN := hC.le
  have HS := Hd.mk hS; have HC := Hd.mk hC; have HT := Hd.mk hT; have H0 := Hd.mk h0
  clear hz hS hC hT h0
  have tabB : ∀ {W : World}, Below w.heap.size w W → TabAt 0 Lib.deBruijn64tab W := fun hb j hj => (hb.cell (p := ⟨0, j, none⟩) H0.out).trans (HT.out j hj)
  have TAB := Hd.mk @tabB; clear tabB
  have alB : ∀ {W : World}, Below w.heap.size w W → Calls Tryd.prog 33 #[] W fun e w' => e = .returned (.bool true) ∧ Below w.heap.size w w' := fun hb => Calls.mono (aliveS_calls _ (TAB.out hb) (Nat.lt_of_lt_of_le H0.out hb.size)) (by rintro e w' ⟨rfl, hb2⟩; exact ⟨rfl, below_seq hb hb2⟩)
  have AL := Hd.mk @alB; clear alB
  by_cases h20 : 20 < z
  · go_enter Tryd.func9, Tryd.ntmps9
    go_wp2_with (go_at_call 33; go_must (refine Calls.mono (AL.out (Below.refl _ _)) ?_; rintro e w2 ⟨rfl, hb2⟩))
    go_ret
    exact ⟨rfl, hb2⟩
  have hnew := snew_calls 5 w HT.out H0.out
  rw [rS5] at hnew
  have HNEW := Hd.mk hnew; clear hnew
  go_enter Tryd.func9, Tryd.ntmps9
  go_wp2_with (first
    | (go_at_call 15; have hq_ := HB1; clear hq_; go_must (have h9 := of_calls 100 A z c ls S w1 (fun q hq => Nat.lt_of_lt_of_le (HS.out q hq) HB1.out.size) (HC.out.below HS.out HB1.out); rw [r100, show (100 + 63) / 64 = 2 from rfl] at h9; refine Calls.mono h9 ?_; clear h9; rintro e w2 ⟨g1, rfl, hg1, hgl1, hw, hb⟩; have HO1 := Hd.mk hw; have HB2 := Hd.mk hb; clear hw hb))
    | (go_at_call 29; go_must (refine Calls.mono HNEW.out ?_; rintro e w1 ⟨F1, rfl, hB, hb⟩; have HT1 := Hd.mk hB; have HB1 := Hd.mk hb; clear hB hb)))
  clear HNEW
  generalize hV : World.alloc w2 _ = V
  have HV6 : Hd (V.heap[w2.heap.size]? = some (.cells #[.slice (some ⟨g1, 0, none⟩) 2 2, .int .i64 100] 28 (0, 0))) := ⟨by rw [← hV]; exact blk_new _ _ _ rfl⟩
  have HBV : Hd (Below w1.heap.size w1 V) := ⟨by rw [← hV]; exact below_alloc HB2.out _⟩
  have HWV : Hd (Wd V (some ⟨g1, 0, none⟩) g1 (ofW 100 ls)) := ⟨by rw [← hV]; exact HO1.out.below (below_alloc (Below.refl _ _) _)⟩
  have hgV : g1 < w2.heap.size := hgl1
  have h2V : w2.heap.size < V.heap.size := blk_lt HV6.out
  have h11 := HB1.out.size
  have h0w := H0.out
  clear hV hgl1
  obtain ⟨b6, hb6⟩ : ∃ b, w2.heap.size = b := ⟨_, rfl⟩
  rw [hb6] at HV6 hgV h2V ⊢
  clear hb6
  obtain ⟨W, hW⟩ : ∃ W, ofW 100 ls = W := ⟨_, rfl⟩
  have HK : Hd (Wok 100 W ∧ W.length = 2) := ⟨by rw [← hW]; exact ofW_ok (by decide) _, by rw [← hW, ofW_len]⟩
  rw [hW] at HWV
  clear hW HO1
  have hv6 := HV6.out
  have hv6c0 := blk_cell hv6 0 _ rfl; have hv6f0 := blk_frozen hv6 0; have hv6c1 := blk_cell hv6 1 _ rfl; have hv6f1 := blk_frozen hv6 1; have hv6l := blk_lt hv6
  go_wp2_with (first
    | (go_at_call 30; have hq_ := HB3; clear hq_; go_must (have h9 := put_new w.heap.size w.heap.size 5 F1 [] (some ⟨g1, 0, none⟩) 2 g1 100 W w3 ((HT1.out.below HBV.out).below HB3.out) HK.out.1 (HWV.out.below HB3.out) (TAB.out (below_seq HB1.out (below_seq HBV.out HB3.out))) (by have := HB3.out.size; omega) (by simp) (by decide) h0w; rw [HK.out.2] at h9; refine Calls.mono h9 ?_; clear h9; rintro e w4 ⟨rfl, F4, hB4, hf4, hn4⟩; have HT4 : Hd (Tbl w4 w.heap.size w.heap.size F4 5 [(100, W)]) := ⟨hB4⟩; have HF4 := Hd.mk hf4; have HN4 := Hd.mk hn4; have h34 := hf4.size; have hv64 := hf4.blk hv63 (fun h => by have := (HT1.out.fb _ h).2; omega); clear hv63c0 hv63f0 hv63c1 hv63f1 hv63l; have hv64c0 := blk_cell hv64 0 _ rfl; have hv64f0 := blk_frozen hv64 0; have hv64c1 := blk_cell hv64 1 _ rfl; have hv64f1 := blk_frozen hv64 1; have hv64l := blk_lt hv64; clear hB4 hf4 hn4))
    | (go_at_call 23; go_must (have h9 := all_calls (some ⟨g1, 0, none⟩) 2 g1 100 W V HK.out.1 HWV.out (by omega) (TAB.out (below_seq HB1.out HBV.out)) (by have := HBV.out.size; omega); rw [HK.out.2] at h9; refine Calls.mono h9 ?_; clear h9; rintro e w3 ⟨A3, n3, c3, rfl, hr3, hb3⟩; have HR3 : Hd (Row I w3 (fun k => V.heap.size ≤ k ∧ k < w3.heap.size) A3 n3 (elemsI W)) := ⟨hr3⟩; have HB3 := Hd.mk hb3; have hv63 := blk_below hv6 hb3; clear hv6c0 hv6f0 hv6c1 hv6f1 hv6l; have hv63c0 := blk_cell hv63 0 _ rfl; have hv63f0 := blk_frozen hv63 0; have hv63c1 := blk_cell hv63 1 _ rfl; have hv63f1 := blk_frozen hv63 1; have hv63l := blk_lt hv63; clear hr3 hb3)))
  have HW4 : Hd (Wd w4 (some ⟨g1, 0, none⟩) g1 W) := ⟨(HWV.out.below HB3.out).fr HF4.out (fun h => by have := (HT1.out.fb _ h).2; omega)⟩
  have HR4 : Hd (Row I w4 (fun k => V.heap.size ≤ k ∧ k < w3.heap.size) A3 n3 (elemsI W)) := ⟨HF4.out.row HR3.out (fun q hq => ⟨hq.2, fun h => by have := (HT1.out.fb _ h).2; have := hq.1; omega⟩)⟩
  have HB4 : Hd (Below w.heap.size w w4) := ⟨(below_seq HB1.out (below_seq HBV.out HB3.out)).trans (((HT1.out.below HBV.out).below HB3.out).fr_below HF4.out (by have := HB3.out.size; omega))⟩
  have hn4F : ∀ k, F4 k → k < w1.heap.size ∨ w3.heap.size ≤ k := fun k hk => by
    rcases HN4.out k hk with h | h
    · exact .inl (HT1.out.fb k h).2
    · exact .inr h
  have HNF := Hd.mk hn4F
  have h3V := HB3.out.size
  clear hn4F HF4 HN4 HWV HB3 HBV HB2 HT1 HR3
  have TOK := Hd.mk trivial
  go_wp2_with (first
    | (go_at_call 39; have hq_ := HF6; clear hq_; go_must (refine Calls.mono (get_calls w.heap.size w.heap.size 5 0 F4 [(100, W)] (100, W) w6 HT6.out rfl) ?_; rintro e w7 ⟨g2, rfl, -, hg2, hgl2, hw2, hb2⟩; rw [HK.out.2]; have HW7 := Hd.mk hw2; have HB67 := Hd.mk hb2; clear hw2 hb2))
    | (go_at_call 22; have hq_ := HF5; clear hq_; go_must (have h9 := less_calls (some ⟨g1, 0, none⟩) 2 g1 100 0 (addW 100 W n) w5 (HK.out.1.add n) HW5.out; rw [addW_len, HK.out.2] at h9; refine Calls.mono h9 ?_; clear h9; rintro e w6 ⟨rfl, hf, -⟩; have HF6 := Hd.mk (HF5.out.trans (hf.mono (Y := fun k => k = g1) (fun _ h => h.1))); have HT6 := Hd.mk (HT4.out.fr HF6.out (fun k hk h => by have h' : k = g1 := h; rcases HNF.out k hk with h2 | h2 <;> omega)); have h56 := HF6.out.size; clear hf))
    | (have hq_ := TOK; clear hq_ TOK; go_at_call 21; go_must (have h9 := add_calls (some ⟨g1, 0, none⟩) 2 g1 100 n W w4 HK.out.1 HW4.out; rw [HK.out.2] at h9; refine Calls.mono h9 ?_; clear h9; rintro e w5 ⟨rfl, hf, hw5⟩; have HF5 := Hd.mk (hf.mono (Y := fun k => k = g1) (fun _ h => h.1)); have HW5 := Hd.mk hw5; have hv65 := HF5.out.blk hv64 (by show ¬ b6 = g1; omega); clear hv64c0 hv64f0 hv64c1 hv64f1 hv64l; have hv65c0 := blk_cell hv65 0 _ rfl; have hv65f0 := blk_frozen hv65 0; have hv65c1 := blk_cell hv65 1 _ rfl; have hv65f1 := blk_frozen hv65 1; have hv65l := blk_lt hv65; clear hf hw5)))
  clear hv65c0 hv65f0 hv65c1 hv65f1 hv65l
  clear hv65 hv64 hv63 hv6
  generalize hV7 : World.alloc w7 _ = V7
  have HV8 : Hd (V7.heap[w7.heap.size]? = some (.cells #[.slice (some ⟨g2, 0, none⟩) 2 2, .int .i64 100] 28 (0, 0))) := ⟨by rw [← hV7]; exact blk_new _ _ _ rfl⟩
  have HB7 : Hd (Below w6.heap.size w6 V7) := ⟨by rw [← hV7]; exact below_alloc HB67.out _⟩
  have HWV7 : Hd (Wd V7 (some ⟨g2, 0, none⟩) g2 W) := ⟨by rw [← hV7]; exact HW7.out.below (below_alloc (Below.refl _ _) _)⟩
  have HT7 := Hd.mk (HT6.out.below HB7.out)
  have HR6 : Hd (Row I w6 (fun k => V.heap.size ≤ k ∧ k < w3.heap.size) A3 n3 (elemsI W)) := ⟨HF6.out.row HR4.out (fun q hq => ⟨by have := hq.2; omega, fun h => by have h' : q = g1 := h; have := hq.1; omega⟩)⟩
  have HR7 := Hd.mk (HR6.out.below (fun q hq => by have := hq.2; omega) HB7.out)
  have HW7' : Hd (Below w.heap.size w V7) := ⟨(HB4.out.trans (HF6.out.below (by omega) (fun b hb h => by have h' : b = g1 := h; omega))).trans (HB7.out.mono (by omega))⟩
  have h87 : w7.heap.size < V7.heap.size := blk_lt HV8.out
  have h67 := HB67.out.size
  have h6F : ∀ k, F4 k → k < w6.heap.size := fun k hk => (HT6.out.fb k hk).2
  have H6F := Hd.mk h6F
  clear hV7 h6F HF6 HF5 HW5 HW4 HT4 HR4 HB4 HNF HB67 HW7 HR6 HB7 HT6
  obtain ⟨b8, hb8⟩ : ∃ b, w7.heap.size = b := ⟨_, rfl⟩
  rw [hb8] at HV8 h87 hgl2 h67 ⊢
  clear hb8
  have hv8 := HV8.out
  have hv8c0 := blk_cell hv8 0 _ rfl; have hv8f0 := blk_frozen hv8 0; have hv8c1 := blk_cell hv8 1 _ rfl; have hv8f1 := blk_frozen hv8 1; have hv8l := blk_lt hv8
  have h3w6 : w3.heap.size ≤ w6.heap.size := by omega
  have hww6 : w.heap.size ≤ w6.heap.size := by omega
  clear h34 h56 h3V h2V hgV h11 hg1
  have TOK := Hd.mk trivial
  go_wp2_with (first
    | (go_at_call 39; have hq_ := HF9; clear hq_; go_must (refine Calls.mono (get_calls w.heap.size w.heap.size 5 0 F4 [(100, W)] (100, W) w9 HT9.out rfl) ?_; rintro e w10 ⟨g3, rfl, -, hg3, hgl3, hw3, hb3⟩; rw [HK.out.2]; have HW10 := Hd.mk hw3; have HB10 := Hd.mk hb3; clear hw3 hb3))
    | (go_at_call 22; have hq_ := HF8; clear hq_; go_must (have h9 := less_calls (some ⟨g2, 0, none⟩) 2 g2 100 1 (addW 100 W n) w8 (HK.out.1.add n) HW8.out; rw [addW_len, HK.out.2] at h9; refine Calls.mono h9 ?_; clear h9; rintro e w9 ⟨rfl, hf, -⟩; have HF9 := Hd.mk (HF8.out.trans (hf.mono (Y := fun k => k = g2) (fun _ h => h.1))); have HT9 := Hd.mk (HT7.out.fr HF9.out (fun k hk h => by have h' : k = g2 := h; have := H6F.out k hk; omega)); have h79 := HF9.out.size; clear hf))
    | (have hq_ := TOK; clear hq_ TOK; go_at_call 21; go_must (have h9 := add_calls (some ⟨g2, 0, none⟩) 2 g2 100 n W V7 HK.out.1 HWV7.out; rw [HK.out.2] at h9; refine Calls.mono h9 ?_; clear h9; rintro e w8 ⟨rfl, hf, hw8⟩; have HF8 := Hd.mk (hf.mono (Y := fun k => k = g2) (fun _ h => h.1)); have HW8 := Hd.mk hw8; have hv88 := HF8.out.blk hv8 (by show ¬ b8 = g2; omega); clear hv8c0 hv8f0 hv8c1 hv8f1 hv8l; have hv88c0 := blk_cell hv88 0 _ rfl; have hv88f0 := blk_frozen hv88 0; have hv88c1 := blk_cell hv88 1 _ rfl; have hv88f1 := blk_frozen hv88 1; have hv88l := blk_lt hv88; clear hf hw8)))
  clear hv88c0 hv88f0 hv88c1 hv88f1 hv88l
  clear hv88 hv8
  generalize hVA : World.alloc (World.alloc w10 _) _ = VA
  have HVA : Hd (VA.heap[w10.heap.size]? = some (.cells #[.slice (some ⟨g3, 0, none⟩) 2 2, .int .i64 100] 28 (0, 0))) := ⟨by rw [← hVA]; exact blk_alloc (blk_new _ _ _ rfl) _⟩
  have HVZ : Hd (VA.heap[w10.heap.size + 1]? = some (.cells zeroTab 82 (0, 0))) := ⟨by rw [← hVA]; exact blk_new _ _ _ (by rw [size_alloc])⟩
  have HBA : Hd (Below w9.heap.size w9 VA) := ⟨by rw [← hVA]; exact below_alloc (below_alloc HB10.out _) _⟩
  have HWA : Hd (Wd VA (some ⟨g3, 0, none⟩) g3 W) := ⟨by rw [← hVA]; exact HW10.out.below (below_alloc (below_alloc (Below.refl _ _) _) _)⟩
  have HR9 : Hd (Row I w9 (fun k => V.heap.size ≤ k ∧ k < w3.heap.size) A3 n3 (elemsI W)) := ⟨HF9.out.row HR7.out (fun q hq => ⟨by have := hq.2; omega, fun h => by have h' : q = g2 := h; have := hq.2; omega⟩)⟩
  have HRA := Hd.mk (HR9.out.below (fun q hq => by have := hq.2; omega) HBA.out)
  have HWW : Hd (Below w.heap.size w VA) := ⟨(HW7'.out.trans (HF9.out.below (by omega) (fun b hb h => by have h' : b = g2 := h; omega))).trans (HBA.out.mono (by omega))⟩
  have hgA : g3 < VA.heap.size := by rw [← hVA, size_alloc, size_alloc]; omega
  have h3A : w3.heap.size ≤ VA.heap.size := by have := HBA.out.size; omega
  have h0A : 0 < VA.heap.size := by omega
  have HNZ := Hd.mk (fun (U : World) (hb : Below VA.heap.size VA U) => (show NoT U (some ⟨w10.heap.size + 1, 0, none⟩) from .inr ⟨_, rfl, blk_below HVZ.out hb⟩))
  clear hVA HF9 HR9 HR7 HBA HB10 HW10 HT9 HT7 HW7' HF8 HW8 HWV7 H6F HV8 HV6 HVZ
  obtain ⟨b10, hb10⟩ : ∃ b, w10.heap.size = b := ⟨_, rfl⟩
  rw [hb10] at HVA HNZ ⊢
  clear hb10 hgl3 hg3 h79 hgl2 h67 h87 hg2 h3w6 hww6 h20
  have hvA := HVA.out
  have hvAc0 := blk_cell hvA 0 _ rfl; have hvAf0 := blk_frozen hvA 0; have hvAc1 := blk_cell hvA 1 _ rfl; have hvAf1 := blk_frozen hvA 1; have hvAl := blk_lt hvA
  have TOK := Hd.mk trivial
  have h1e : (0 : Int) + 0 = 0 := rfl
  go_wp2_with (first
    | (have hq_ := TKF; clear hq_; go_at_call 33; go_must (refine Calls.mono (AL.out (below_seq HWW.out HB9.out)) ?_; rintro e u10 ⟨rfl, hb⟩; have HBZ := Hd.mk hb; clear hb))
    | (have hq_ := TKE; clear hq_ TKE; go_at_call 38; go_must (refine Calls.mono (no_full (HNZ.out _ HB8.out)) ?_; rintro e u9 ⟨rfl, hb⟩; have HB9 := Hd.mk (below_seq HB8.out hb); have TKF := Hd.mk trivial; clear hb))
    | (have hq_ := TKD; clear hq_ TKD; go_at_call 38; go_must (refine Calls.mono (no_full (q := none) (.inl rfl)) ?_; rintro e u8 ⟨rfl, hb⟩; have HB8 := Hd.mk (below_seq HB7.out hb); have TKE := Hd.mk trivial; clear hb))
    | (have hq_ := TKC; clear hq_ TKC; go_at_call 31; go_must (refine Calls.mono (no_len (HNZ.out _ HB7.out)) ?_; rintro e u ⟨rfl, hu⟩; obtain rfl : u7 = u := hu.symm; have TKD := Hd.mk trivial))
    | (have hq_ := TKB; clear hq_ TKB; go_at_call 31; go_must (refine Calls.mono (no_len (q := none) (.inl rfl)) ?_; rintro e u ⟨rfl, hu⟩; obtain rfl : u7 = u := hu.symm; have TKC := Hd.mk trivial))
    | (have hq_ := TKA; clear hq_ TKA; go_at_call 17; go_must (refine Calls.mono (same_calls A6 A3 n6 n3 c6 c3 (elemsI W) (elemsI W) true _ _ u6 (fun q hq => hq.2) (fun q hq => by have := hq.2; have := HB6.out.size; omega) HR6.out (HRA.out.below (fun q hq => by have := hq.2; omega) HB6.out) (decide_eq_true rfl)) ?_; rintro e u7 ⟨rfl, hb⟩; have HB7 := Hd.mk (below_seq HB6.out hb); have TKB := Hd.mk trivial; clear hb))
    | (have hq_ := TK9; clear hq_ TK9; go_at_call 23; go_must (have h9 := all_calls (some ⟨g3, 0, none⟩) 2 g3 100 W (World.alloc u4 (.cells #[.slice none 0 0, .int .i64 0] 28)) HK.out.1 (HWA.out.below (below_alloc HB4.out _)) (by rw [size_alloc]; have := HB4.out.size; omega) (TAB.out (below_seq HWW.out (below_alloc HB4.out _))) (by rw [size_alloc]; omega); rw [HK.out.2] at h9; refine Calls.mono h9 ?_; clear h9; rintro e u6 ⟨A6, n6, c6, rfl, hr, hb⟩; have HR6 : Hd (Row I u6 (fun k => u4.heap.size + 1 ≤ k ∧ k < u6.heap.size) A6 n6 (elemsI W)) := ⟨by rw [size_alloc] at hr; exact hr⟩; have HB6 := Hd.mk (below_seq (below_alloc HB4.out _) hb); have TKA := Hd.mk trivial; clear hr hb))
    | (have hq_ := TK8; clear hq_ TK8; go_at_call 32; go_must (refine Calls.mono (no_load (HNZ.out _ (below_alloc HB4.out _))) ?_; rintro e u ⟨rfl, rfl⟩; have TK9 := Hd.mk trivial; have hvB := blk_below HVA.out (below_alloc HB4.out (.cells #[.slice none 0 0, .int .i64 0] 28)); have hvBc0 := blk_cell hvB 0 _ rfl; have hvBf0 := blk_frozen hvB 0; have hvBc1 := blk_cell hvB 1 _ rfl; have hvBf1 := blk_frozen hvB 1; have hvBl := blk_lt hvB))
    | (have hq_ := TK7; clear hq_ TK7; go_at_call 39; go_must (refine Calls.mono (get_nil 0 u3) ?_; rintro e u4 ⟨rfl, hb⟩; have HB4 := Hd.mk (below_seq HB3.out hb); have TK8 := Hd.mk trivial; clear hb; clear hvA3c0 hvA3f0 hvA3c1 hvA3f1 hvA3l))
    | (have hq_ := TK6; clear hq_ TK6; go_at_call 36; go_must (refine Calls.mono (no_find (HNZ.out _ HB2.out) (some ⟨g3, 0, none⟩) 2 2 100) ?_; rintro e u3 ⟨rfl, hb⟩; have HB3 := Hd.mk (below_seq HB2.out hb); have TK7 := Hd.mk trivial; clear hb; clear hvA2c0 hvA2f0 hvA2c1 hvA2f1 hvA2l; have hvA3 := blk_below HVA.out HB3.out; have hvA3c0 := blk_cell hvA3 0 _ rfl; have hvA3f0 := blk_frozen hvA3 0; have hvA3c1 := blk_cell hvA3 1 _ rfl; have hvA3f1 := blk_frozen hvA3 1; have hvA3l := blk_lt hvA3))
    | (have hq_ := TK5; clear hq_ TK5; go_at_call 30; go_must (refine Calls.mono (no_put (HNZ.out _ HB1.out) (some ⟨g3, 0, none⟩) 2 2 100) ?_; rintro e u2 ⟨rfl, hb⟩; have HB2 := Hd.mk (below_seq HB1.out hb); have TK6 := Hd.mk trivial; clear hb; clear hvA1c0 hvA1f0 hvA1c1 hvA1f1 hvA1l; have hvA2 := blk_below HVA.out HB2.out; have hvA2c0 := blk_cell hvA2 0 _ rfl; have hvA2f0 := blk_frozen hvA2 0; have hvA2c1 := blk_cell hvA2 1 _ rfl; have hvA2f1 := blk_frozen hvA2 1; have hvA2l := blk_lt hvA2))
    | (have hq_ := TOK; clear hq_ TOK; go_at_call 30; go_must (refine Calls.mono (no_put (w := VA) (q := none) (.inl rfl) (some ⟨g3, 0, none⟩) 2 2 100) ?_; rintro e u1 ⟨rfl, hb⟩; have HB1 := Hd.mk hb; have TK5 := Hd.mk trivial; clear hb; clear hvAc0 hvAf0 hvAc1 hvAf1 hvAl; have hvA1 := blk_below HVA.out HB1.out; have hvA1c0 := blk_cell hvA1 0 _ rfl; have hvA1f0 := blk_frozen hvA1 0; have hvA1c1 := blk_cell hvA1 1 _ rfl; have hvA1f1 := blk_frozen hvA1 1; have hvA1l := blk_lt hvA1)))
  go_ret
  exact ⟨rfl, HBZ.out⟩
end Go.Proofs.YtbmpaokicphdjaaDoor.Fn
