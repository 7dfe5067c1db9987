/- SettableLoads: the walk. -/
import Derived.Test.YtbmpaokicphdjaaDoorS8
namespace Go.Proofs.YtbmpaokicphdjaaDoor.Fn
open Go Go.RowKit Go.Proofs.YtbmpaokicphdjaaDoor.Can Go.Proofs.YtbmpaokicphdjaaDoor.Base
attribute [local go_sem] clsB AB.cell

theorem r20 : roomR 20 = 20 := by decide +kernel
theorem r1000b : roomR 1000 = 1000 := by decide +kernel
theorem rS2000 : roomS 2000 = 2000 := by decide +kernel
/-- The numbers of a set of one number. -/
theorem one_elem (i : Nat) (hi : i < 1000) : elemsI (ofW 1000 [(i : Int)]) = [(i : Int)] := by
  refine sorted_ext (elemsI_sorted _) (by simp) fun y => ?_
  rw [mem_elemsI (ofW_ok (by decide) _)]
  unfold ofW
  rw [of_bit _ (Wok.made (by decide)), made_bit _ _ (by decide), Bool.false_or, decide_eq_true_iff, List.mem_singleton, List.mem_singleton]
  unfold inR
  constructor
  · rintro ⟨⟨h1, h2⟩, h3, h4⟩; omega
  · rintro rfl; exact ⟨⟨by omega, by omega⟩, by omega, by omega⟩
theorem len_of_sub {L : List (List Int)} {m : Nat} (h : ∀ j : Nat, j < m → [(j : Int)] ∈ L) : m ≤ L.length := by
  have hn : ((List.range m).map fun j : Nat => [(j : Int)]).Nodup := by
    unfold List.Nodup
    rw [List.pairwise_map]
    exact List.nodup_range.imp fun h e => h (by have := e; simp at this; omega)
  have hs : ∀ x ∈ (List.range m).map (fun j : Nat => [(j : Int)]), x ∈ L := fun x hx => by
    obtain ⟨j, hj, rfl⟩ := List.mem_map.1 hx
    exact h j (List.mem_range.1 hj)
  have := hn.length_le_of_subset hs
  rwa [List.length_map, List.length_range] at this
set_option maxHeartbeats 4000000 in
theorem loads_calls (n : Nat) (hn : n ≤ 65535) (w : World) (hT : TabAt 0 Lib.deBruijn64tab w) (h0 : 0 < w.heap.size) : Calls Tryd.prog 5 #[.int .u16 n] w fun e w' => e = .returned (.bool true) ∧ Below w.heap.size w w' := by
  have HT := Hd.mk hT; have H0 := Hd.mk h0
  clear hT
  obtain ⟨m, hm⟩ : ∃ m, n % 700 = m := ⟨_, rfl⟩
  have hm7 : m < 700 := by omega
  have hmI : (n : Int) % 700 = (m : Int) := by omega
  go_enter Tryd.func5, Tryd.ntmps5
  go_wp2_with (go_at_call 29; go_must (refine Calls.mono (snew_calls 2000 w HT.out H0.out) ?_; rintro e w1 ⟨F, rfl, hB, hb⟩; rw [rS2000] at hB; have HB := Hd.mk hB; have HW := Hd.mk hb; clear hB hb))
  clear hmI
  go_loopw [15] (fun i wr => ∃ (k : Nat) (F : Nat → Prop) (xs : List (Nat × List Nat)), k ≤ m ∧ i = .int .i64 k ∧ Hd (Tbl wr w.heap.size w.heap.size F 2000 xs) ∧ Hd (xs.length ≤ 2 * k ∧ ∀ j : Nat, j < k → [(j : Int)] ∈ xs.map lst) ∧ Hd (Below w.heap.size w wr)) (fun i _ => m - (intOf i).toNat)
  case atStart => exact ⟨0, F, [], Nat.zero_le _, rfl, HB, ⟨Nat.zero_le _, fun j hj => absurd hj (Nat.not_lt_zero j)⟩, HW⟩
  case round =>
    obtain ⟨k, F1, xs, hk, rfl, HB1, HX, HW1⟩ := hrel
    have hz1 := HW1.out.size
    by_cases hlt : k < m
    · obtain ⟨a, ha⟩ : ∃ a, k % 10 = a := ⟨_, rfl⟩
      obtain ⟨b0, hb0⟩ : ∃ a, k / 10 = a := ⟨_, rfl⟩
      obtain ⟨b1, hb1⟩ : ∃ a, b0 % 10 = a := ⟨_, rfl⟩
      obtain ⟨b, hb⟩ : ∃ a, 10 + b1 = a := ⟨_, rfl⟩
      obtain ⟨c, hc⟩ : ∃ a, k / 100 = a := ⟨_, rfl⟩
      have ea : (k : Int) % 10 = (a : Int) := by omega
      have eb0 : (k : Int) / 10 = (b0 : Int) := by omega
      have eb1 : (b0 : Int) % 10 = (b1 : Int) := by omega
      have eb : (10 : Int) + (b1 : Int) = (b : Int) := by omega
      have ec : (k : Int) / 100 = (c : Int) := by omega
      clear ha hb0 hb1 hb hc
      have TOK := Hd.mk trivial
      go_wp2_with (first
        | (go_at_call 30; have hq_ := HO1; clear hq_; go_must (have h9 := put_any w.heap.size w.heap.size 2000 F1 xs (some ⟨g1, 0, none⟩) 1 g1 20 (ofW 20 [(a : Int), (b : Int), (c : Int)]) v1 (HB1.out.below HV1.out) (ofW_ok (by decide) _) HO1.out (tab_below H0.out (HW1.out.trans (HV1.out.mono hz1)) HT.out) (by have := HV1.out.size; omega) (by have := HX.out.1; omega) h0; rw [ofW_len, show (20 + 63) / 64 = 1 from rfl] at h9; refine Calls.mono h9 ?_; clear h9; rintro e w2 ⟨k2, fr2, F2, xs2, rfl, hk2, hB2, hf2, hn2, -, hsub2, hlen2⟩; have HB2 := Hd.mk hB2; have HW2 : Hd (Below w.heap.size w w2) := ⟨(HW1.out.trans (HV1.out.mono hz1)).trans ((HB1.out.below HV1.out).fr_below hf2 (by have := HV1.out.size; omega))⟩; have HS2 := Hd.mk (And.intro hsub2 hlen2); clear hB2 hf2 hn2 hsub2 hlen2))
        | (have hq_ := TOK; clear hq_ TOK; go_at_call 15; go_must (have h9 := of_calls 20 (some ⟨wr.heap.size, 0, none⟩) 3 3 [(a : Int), (b : Int), (c : Int)] (fun k => k = wr.heap.size) (wr.alloc (.cells #[.int .i64 a, .int .i64 b, .int .i64 c] 3)) (fun k hk => by rw [size_alloc, hk]; omega) (lit_row wr [(a : Int), (b : Int), (c : Int)] (by simp) rfl); rw [r20, show (20 + 63) / 64 = 1 from rfl] at h9; refine Calls.mono h9 ?_; clear h9; rintro e v1 ⟨g1, rfl, -, -, hw, hb⟩; have HO1 := Hd.mk hw; have HV1 := Hd.mk (below_seq (below_alloc (Below.refl _ _) _) hb); clear hw hb)))
      obtain ⟨L2, hL2⟩ : ∃ n, xs2.length = n := ⟨_, rfl⟩
      have hL2k : L2 ≤ 2000 := by have := HX.out.1; have := HS2.out.2; omega
      have HL2 := Hd.mk hL2
      clear hL2
      have hz2 := HW2.out.size
      have TOK := Hd.mk trivial
      go_wp2_with (first
        | (go_at_call 30; have hq_ := HO3; clear hq_; go_must (have h9 := put_any w.heap.size w.heap.size 2000 F2 xs2 (some ⟨g3, 0, none⟩) 16 g3 1000 (ofW 1000 [(k : Int)]) v3 (HB2.out.below HV3.out) (ofW_ok (by decide) _) HO3.out (tab_below H0.out (HW2.out.trans (HV3.out.mono hz2)) HT.out) (by have := HV3.out.size; omega) (by have := HX.out.1; have := HS2.out.2; omega) h0; rw [ofW_len, show (1000 + 63) / 64 = 16 from rfl, one_elem k (by omega)] at h9; refine Calls.mono h9 ?_; clear h9; rintro e w4 ⟨k4, fr4, F4, xs4, rfl, hk4, hB4, hf4, hn4, hin4, hsub4, hlen4⟩; have HB4 := Hd.mk hB4; have HW4 : Hd (Below w.heap.size w w4) := ⟨(HW2.out.trans (HV3.out.mono hz2)).trans ((HB2.out.below HV3.out).fr_below hf4 (by have := HV3.out.size; omega))⟩; have HS4 := Hd.mk (And.intro hin4 (And.intro hsub4 hlen4)); clear hB4 hf4 hn4 hin4 hsub4 hlen4))
        | (have hq_ := TOK; clear hq_ TOK; go_at_call 15; go_must (have h9 := of_calls 1000 (some ⟨w2.heap.size, 0, none⟩) 1 1 [(k : Int)] (fun k => k = w2.heap.size) (w2.alloc (.cells #[.int .i64 k] 3)) (fun k hk => by rw [size_alloc, hk]; omega) (lit_row w2 [(k : Int)] (by simp) rfl); rw [r1000b, show (1000 + 63) / 64 = 16 from rfl] at h9; refine Calls.mono h9 ?_; clear h9; rintro e v3 ⟨g3, rfl, -, -, hw, hb⟩; have HO3 := Hd.mk hw; have HV3 := Hd.mk (below_seq (below_alloc (Below.refl _ _) _) hb); clear hw hb))
        | (go_at_call 31; go_must (have h9 := len_calls w.heap.size w.heap.size 2000 F2 xs2 w2 HB2.out; rw [HL2.out] at h9; refine Calls.mono h9 ?_; clear h9; rintro e w3 ⟨rfl, hw3⟩; obtain rfl : w2 = w3 := hw3.symm)))
      all_goals
        go_roundw
        case rel =>
          refine ⟨k + 1, F4, xs4, by omega, by go_num, HB4, ⟨by have := HX.out.1; have := HS2.out.2; have := HS4.out.2.2; omega, fun j hj => ?_⟩, HW4⟩
          rcases Nat.lt_or_ge j k with h | h
          · exact HS4.out.2.1 _ (HS2.out.1 _ (HX.out.2 j h))
          · obtain rfl : j = k := by omega
            exact HS4.out.1
        case measure => simp [intOf]; omega
    · obtain rfl : k = m := by omega
      have HLEN := Hd.mk (len_of_sub HX.out.2)
      rw [List.length_map] at HLEN
      obtain ⟨L, hL⟩ : ∃ n, xs.length = n := ⟨_, rfl⟩
      rw [hL] at HLEN
      have hLk : k ≤ L := HLEN.out
      have hLx : L ≤ 2 * k := by have := HX.out.1; rwa [hL] at this
      have HL := Hd.mk hL
      clear hL
      have hj1 : ((L : Int) == (L : Int)) = true := by simp
      go_wp2_with (first
        | (go_at_call 33; go_must (refine Calls.mono (aliveS_calls w2 (tab_below H0.out HW2.out HT.out) (by have := HW2.out.size; omega)) ?_; rintro e w3 ⟨rfl, hb3⟩; have HW3 : Hd (Below w.heap.size w w3) := ⟨HW2.out.trans (hb3.mono HW2.out.size)⟩))
        | (go_at_call 31; have hq_ := HW2; clear hq_; go_must (have h9 := len_calls w.heap.size w.heap.size 2000 F1 xs w2 HB2.out; rw [HL.out] at h9; refine Calls.mono h9 ?_; clear h9; rintro e w3 ⟨rfl, hw3⟩; obtain rfl : w2 = w3 := hw3.symm))
        | (go_at_call 32; go_must (have h9 := load_calls w.heap.size w.heap.size 2000 F1 xs wr HB1.out; rw [HL.out] at h9; refine Calls.mono h9 ?_; clear h9; rintro e w2 ⟨pl, rfl, hpl, hpl6, hb2⟩; have HB2 := Hd.mk (HB1.out.below hb2); have HW2 : Hd (Below w.heap.size w w2) := ⟨HW1.out.trans (hb2.mono hz1)⟩; clear hb2)))
      go_ret
      exact ⟨rfl, HW3.out⟩
end Go.Proofs.YtbmpaokicphdjaaDoor.Fn
