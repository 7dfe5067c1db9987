/- What Ids and Len compute; the law's own example. -/
import Derived.Test.YtofknjoaemiebaaM4
namespace Go.Proofs.Ytofknjoaemiebaa.Fn
open Go Go.RowKit Go.Proofs.Ytofknjoaemiebaa.Can Go.Proofs.Ytofknjoaemiebaa.Base
attribute [local go_sem] clsB AB.cell clsX AX.cell

theorem ids_calls {p r m c B : Nat} {L} {w : World} (h : Tab (Value.int .i64) 54 64 w p r m c B L) (hB : B ≤ 1000000) : Calls Try.prog 16 #[.pointer (some ⟨p, 0, none⟩)] w fun e w' =>
    ∃ A c', e = .returned (.slice A (idsUpto L m).length c') ∧ (idsUpto L m).length ≤ c' ∧ (A = none → c' = 0) ∧ Row I w' (fun k => w.heap.size ≤ k ∧ k < w'.heap.size) A (idsUpto L m).length (idsUpto L m) ∧ Below w.heap.size w w' := by
  have h1 := h.max
  have H := Hd.mk h; clear h
  go_enter Try.func16, Try.ntmps16
  go_wp2_with (go_at_call 21; go_must (refine Calls.mono (room_int (H.out.below (by repeat (first | (with_reducible assumption) | (with_reducible exact Below.refl _ _) | (with_reducible apply below_drewL) | (with_reducible apply below_alloc) | (with_reducible apply below_drew1) | (with_reducible apply below_drewN) | (refine below_set ?_ (by first | omega | (simp only [size_alloc, size_drew, size_set]; omega)) _ _))))) ?_; rintro e w1 ⟨rfl, hw⟩; subst hw))
  go_loopw [3, 7] (fun v i wr => ∃ k : Nat, k ≤ m ∧ i = .int .i64 k ∧ Hd (Mine I wr w1.heap.size 3 v (idsUpto L k)) ∧ Hd (Below w1.heap.size w1 wr)) (fun _ i _ => m - (intOf i).toNat)
  case atStart => exact ⟨0, Nat.zero_le _, rfl, ⟨Mine.nil _ _ _ _⟩, ⟨Below.refl _ _⟩⟩
  case round =>
    obtain ⟨k, hk, rfl, HM, hb⟩ := hrel
    have hkl := idsUpto_len L k
    by_cases hlt : k < m
    · obtain ⟨A, c', hv, hc', hA, hR⟩ := HM.out.form
      obtain ⟨n, hn⟩ : ∃ n, (idsUpto L k).length = n := ⟨_, rfl⟩
      rw [hn] at hv hc' hR hkl
      subst hv
      have HN := Hd.mk hn; clear hn hR
      have H1 := Hd.mk (H.out.below hb.out)
      obtain ⟨s, hx⟩ : ∃ s, L[k]? = some s := ⟨_, List.getElem?_eq_getElem (by rw [H.out.len]; exact hlt)⟩
      have hc0 : wr.cell? ⟨r, k * 4, none⟩ = some (.bool s.taken) := H1.out.row.cell (j := 0) (slot_len _) hx rfl
      have hc1 : wr.cell? ⟨r, k * 4 + 1, none⟩ = some (.int .i64 s.times) := H1.out.row.cell (slot_len _) hx rfl
      have hc2 : wr.cell? ⟨r, k * 4 + 2, none⟩ = some (.int .i64 s.low) := H1.out.row.cell (slot_len _) hx rfl
      have hrl := H1.out.row.lt
      have hs := H1.out.str
      have hstep : idsUpto L (k + 1) = idsUpto L k ++ if s.taken then [(numb m k s : Int)] else [] := by
        simp only [idsUpto, hx, H.out.len]
      have hsc0 := blk_cell hs 0 _ rfl; have hsf0 := blk_frozen hs 0; have hsl := blk_lt hs
      cases ht : s.taken with
      | false =>
        have HS : Hd (idsUpto L k = idsUpto L (k + 1)) := ⟨by rw [hstep, ht]; simp⟩
        rw [ht] at hc0
        clear hstep hx hs
        go_wp2_with (go_at_call 28; go_must (refine Calls.mono (free_calls _ _ _ _) ?_; rintro e w2 ⟨rfl, hb2⟩))
        go_roundw
        case rel => exact ⟨k + 1, by omega, by go_num, ⟨by rw [← HS.out]; exact HM.out.below hb2⟩, ⟨below_seq hb.out hb2⟩⟩
        case measure => simp [intOf]; omega
      | true =>
        obtain ⟨y, hy⟩ : ∃ y : Nat, numb m k s = y := ⟨_, rfl⟩
        have HS : Hd (idsUpto L k ++ [(y : Int)] = idsUpto L (k + 1)) := ⟨by rw [hstep, ht, hy]; rfl⟩
        have HY := Hd.mk hy
        rw [ht] at hc0
        have HX2 := Hd.mk hx
        clear hstep hx hy hs
        go_wp2_with (first
          | (at_builtin; go_must (refine append_snoc I (Ty.int_flat _) rfl (.tmp 20) (.tmp 24) 39 3 _ 8 rfl Try.underlying39 info3 rfl (by decide) (by decide) w1.heap.size (.slice A n c') (idsUpto L k) y [.int .i64 y] w3.heap.size rfl rfl (blk_new _ _ _ rfl) rfl (HM3.out.below (by repeat (first | (with_reducible assumption) | (with_reducible exact Below.refl _ _) | (with_reducible apply below_drewL) | (with_reducible apply below_alloc) | (with_reducible apply below_drew1) | (with_reducible apply below_drewN) | (refine below_set ?_ (by first | omega | (simp only [size_alloc, size_drew, size_set]; omega)) _ _)))) (HM3.out.ne_new (Nat.le_refl _)) (by simp only [size_alloc, size_drew]; have := HB3.out.size; omega) (by rw [HN.out]; omega) ?_; intro v4 w4 hM4 hb4 hk4 hat4; have HB4 := Hd.mk (Below.trans (HB3.out.alloc HB3.out.size _) hb4); have HM4 := Hd.mk hM4; clear hM4 hk4 hat4 hb4))
          | (go_at_call 29; have hq_ := hb2; clear hq_; go_must (refine Calls.mono (number_int (H1.out.below hb2) hB HX2.out) ?_; rintro e w3 ⟨he, hb3⟩; rw [HY.out] at he; subst he; have HM3 := Hd.mk ((HM.out.below hb2).below hb3); have HB3 := Hd.mk (below_seq (below_seq hb.out hb2) hb3)))
          | (go_at_call 28; go_must (refine Calls.mono (free_calls _ _ _ _) ?_; rintro e w2 ⟨rfl, hb2⟩)))
        go_roundw
        case rel => exact ⟨k + 1, by omega, by go_num, ⟨by rw [← HS.out]; exact HM4.out⟩, HB4⟩
        case measure => simp [intOf]; omega
    · obtain rfl : k = m := by omega
      obtain ⟨A, c', hv, hc', hA, hR⟩ := HM.out.form
      subst hv
      go_wp2
      go_ret
      exact ⟨A, c', rfl, hc', hA, hR, hb.out⟩
theorem len_calls {p r m c B : Nat} {L} {w : World} (h : Tab (Value.int .i64) 54 64 w p r m c B L) (hB : B ≤ 1000000) : Calls Try.prog 18 #[.pointer (some ⟨p, 0, none⟩)] w fun e w' => e = .returned (.int .i64 (idsUpto L m).length) ∧ Below w.heap.size w w' := by
  have h1 := h.max
  have hl := idsUpto_len L m
  have H := Hd.mk h; clear h
  obtain ⟨n, hn⟩ : ∃ n, (idsUpto L m).length = n := ⟨_, rfl⟩
  have HN := Hd.mk hn
  rw [hn] at hl ⊢
  clear hn
  go_enter Try.func18, Try.ntmps18
  go_wp2_with (go_at_call 16; go_must (refine Calls.mono (ids_calls (H.out.below (by repeat (first | (with_reducible assumption) | (with_reducible exact Below.refl _ _) | (with_reducible apply below_drewL) | (with_reducible apply below_alloc) | (with_reducible apply below_drew1) | (with_reducible apply below_drewN) | (refine below_set ?_ (by first | omega | (simp only [size_alloc, size_drew, size_set]; omega)) _ _)))) hB) ?_; rintro e w1 ⟨A, c', he, hc', hA, hR, hb⟩; rw [HN.out] at he; subst he; have HR := Hd.mk hR; clear hR))
  go_ret
  exact ⟨rfl, hb⟩

set_option maxRecDepth 20000 in
set_option maxHeartbeats 2000000 in
theorem alive_calls (w : World) : Calls Try.prog 6 #[] w fun e w' => e = .returned (.bool true) ∧ Below w.heap.size w w' := by
  go_enter Try.func6, Try.ntmps6
  go_wp2_with (first
    | (go_at_call 27; go_must (refine Calls.mono (low_str 9 h6) ?_; rintro e w8 ⟨he, f8⟩; obtain rfl : e = .returned (.int .i64 4) := he))
    | (go_at_call 26; go_must (refine Calls.mono (get_str (id := 2) (i := 0) (s := ⟨true, 1, 6, ⟨#[119]⟩⟩) h6 (by decide) rfl rfl) ?_; rintro e w7 ⟨rfl, f7⟩; replace h6 := h6.below f7))
    | (go_at_call 24; have hq_ := f4; clear hq_; go_must (refine Calls.mono (set_str (i := 0) (s := ⟨false, 1, 0, ByteArray.empty⟩) ⟨#[119]⟩ 6 h5 (by decide) (fun j hj => absurd hj (Nat.not_lt_zero j)) rfl rfl) ?_; rintro e w6 ⟨he, h, f6⟩; obtain rfl : e = .returned (.tuple #[.int .i64 2, .int .i64 0]) := he; have h6 : Tab Value.string 68 70 w6 p r 2 2 1 [⟨true, 1, 6, ⟨#[119]⟩⟩, ⟨true, 0, 4, ⟨#[121]⟩⟩] := h; clear h))
    | (go_at_call 25; go_must (refine Calls.mono (rel_str (id := 0) (i := 0) (s := ⟨true, 0, 3, ⟨#[120]⟩⟩) h3 (by decide) rfl rfl) ?_; rintro e w5 ⟨rfl, h, f4⟩; have h5 : Tab Value.string 68 70 w5 p r 2 2 1 [⟨false, 1, 0, ByteArray.empty⟩, ⟨true, 0, 4, ⟨#[121]⟩⟩] := h; clear h))
    | (go_at_call 24; have hq_ := f2; clear hq_; go_must (refine Calls.mono (setfull_str ⟨#[122]⟩ 5 h2 (by intro s hs; simp at hs; rcases hs with rfl | rfl <;> rfl)) ?_; rintro e w3 ⟨rfl, f3⟩; have h3 := h2.below f3))
    | (go_at_call 24; have hq_ := f1; clear hq_; go_must (refine Calls.mono (set_str (i := 1) (s := slot0 ByteArray.empty) ⟨#[121]⟩ 4 h1 (by decide) (by intro j hj s hs; obtain rfl : j = 0 := (by omega); simp at hs; subst hs; rfl) rfl rfl) ?_; rintro e w2 ⟨he, h, f2⟩; obtain rfl : e = .returned (.tuple #[.int .i64 1, .int .i64 0]) := he; have h2 : Tab Value.string 68 70 w2 p r 2 2 0 [⟨true, 0, 3, ⟨#[120]⟩⟩, ⟨true, 0, 4, ⟨#[121]⟩⟩] := h; clear h))
    | (go_at_call 24; go_must (refine Calls.mono (set_str (i := 0) (s := slot0 ByteArray.empty) ⟨#[120]⟩ 3 h0 (by decide) (fun j hj => absurd hj (Nat.not_lt_zero j)) rfl rfl) ?_; rintro e w1 ⟨he, h, f1⟩; obtain rfl : e = .returned (.tuple #[.int .i64 0, .int .i64 0]) := he; have h1 : Tab Value.string 68 70 w1 p r 2 2 0 [⟨true, 0, 3, ⟨#[120]⟩⟩, slot0 ByteArray.empty] := h; clear h))
    | (go_at_call 23; go_must (refine Calls.mono (new_str 2 w) ?_; rintro e w0 ⟨p, r, rfl, hp, hr, h0, hb0⟩; replace h0 : Tab Value.string 68 70 w0 p r 2 2 0 [slot0 ByteArray.empty, slot0 ByteArray.empty] := h0)))
  go_ret
  exact ⟨rfl, Fr.seq hb0 (f1.trans (f2.trans ((Fr.of_below f3).trans (f4.trans (f6.trans ((Fr.of_below f7).trans (Fr.of_below f8))))))) hb0.size (fun b hb hx => by omega)⟩
end Go.Proofs.Ytofknjoaemiebaa.Fn
