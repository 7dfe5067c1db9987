/- What find, Get compute. -/
import Derived.Test.YtofknjoaemiebaaM1
namespace Go.Proofs.Ytofknjoaemiebaa.Fn
open Go Go.RowKit Go.Proofs.Ytofknjoaemiebaa.Can Go.Proofs.Ytofknjoaemiebaa.Base
attribute [local go_sem] clsB AB.cell

theorem findI_neg {α : Type} {L : List (Slot α)} {id : Int} (h : id < 0) : findI L id = -1 := by unfold findI findL; rw [if_pos h]
theorem findI_nat {α : Type} {L : List (Slot α)} {n m i : Nat} {s : Slot α} (hm : L.length = m) (hi : n % m = i) (hs : L[i]? = some s) : findI L (n : Int) = if s.taken = true ∧ numb m i s = n then (i : Int) else -1 := by
  subst hm hi
  unfold findI findL
  rw [if_neg (by omega)]
  simp only [Int.toNat_natCast, hs]
  by_cases h : s.taken = true ∧ numb L.length (n % L.length) s = n
  · rw [if_pos ⟨h.1, by rw [h.2]⟩, if_pos h]
  · rw [if_neg (fun hh => h ⟨hh.1, by have := hh.2; omega⟩), if_neg h]
theorem findI_some {α : Type} {L : List (Slot α)} {id : Int} {i : Nat} (h : findI L id = i) : findL L id = some i := by
  unfold findI at h
  cases hf : findL L id with
  | none => rw [hf] at h; simp at h
  | some j => rw [hf] at h; simp at h; rw [Int.ofNat_inj.1 h]
theorem findL_slot {α : Type} {L : List (Slot α)} {id : Int} {i : Nat} (h : findL L id = some i) : ∃ s, L[i]? = some s ∧ s.taken = true ∧ (numb L.length i s : Int) = id := by
  unfold findL at h
  split at h
  · cases h
  · split at h
    · rename_i s hs
      split at h
      · rename_i hc
        simp at h; subst h
        exact ⟨s, hs, hc.1, hc.2⟩
      · cases h
    · cases h

theorem find_int {p r m c B : Nat} {L} (id : Int) {w : World} (h : Tab (Value.int .i64) 54 64 w p r m c B L) (hB : B ≤ 1000000) : Calls Try.prog 30 #[.pointer (some ⟨p, 0, none⟩), .int .i64 id] w fun e w' => e = .returned (.int .i64 (findI L id)) ∧ Below w.heap.size w w' := by
  have hs := h.str
  have h1 := h.max
  have h2 := h.pos
  have hm0 : ¬ (m : Int) = 0 := by omega
  have hm0b : ((m : Int) == 0) = false := by simpa using hm0
  have hsc0 := blk_cell hs 0 _ rfl; have hsf0 := blk_frozen hs 0; have hsl := blk_lt hs
  by_cases hid : id < 0
  · rw [findI_neg hid]
    have H := Hd.mk h; clear h
    go_enter Try.func30, Try.ntmps30
    go_wp2_with (go_at_call 21; go_must (refine Calls.mono (room_int (H.out.below (by repeat (first | (with_reducible assumption) | (with_reducible exact Below.refl _ _) | (with_reducible apply below_drewL) | (with_reducible apply below_alloc) | (with_reducible apply below_drew1) | (with_reducible apply below_drewN) | (refine below_set ?_ (by first | omega | (simp only [size_alloc, size_drew, size_set]; omega)) _ _))))) ?_; rintro e w1 ⟨rfl, rfl⟩))
    go_ret
    exact ⟨rfl, (by repeat (first | (with_reducible assumption) | (with_reducible exact Below.refl _ _) | (with_reducible apply below_drewL) | (with_reducible apply below_alloc) | (with_reducible apply below_drew1) | (with_reducible apply below_drewN) | (refine below_set ?_ (by first | omega | (simp only [size_alloc, size_drew, size_set]; omega)) _ _)))⟩
  · obtain ⟨n, rfl⟩ : ∃ n : Nat, id = n := ⟨id.toNat, by omega⟩
    obtain ⟨i, hi⟩ : ∃ i, n % m = i := ⟨_, rfl⟩
    have him : i < m := by rw [← hi]; exact Nat.mod_lt _ h2
    have hiI : (n : Int) % (m : Int) = i := by rw [← hi]; simp
    obtain ⟨s, hx⟩ : ∃ s, L[i]? = some s := ⟨_, List.getElem?_eq_getElem (by rw [h.len]; exact him)⟩
    rw [findI_nat h.len hi hx]
    have HX := Hd.mk hx
    have hc0 : w.cell? ⟨r, i * 4, none⟩ = some (.bool s.taken) := h.row.cell (j := 0) (slot_len _) hx rfl
    have hc1 : w.cell? ⟨r, i * 4 + 1, none⟩ = some (.int .i64 s.times) := h.row.cell (slot_len _) hx rfl
    have hc2 : w.cell? ⟨r, i * 4 + 2, none⟩ = some (.int .i64 s.low) := h.row.cell (slot_len _) hx rfl
    have hlt := h.row.lt
    have H := Hd.mk h; clear h hx hi
    cases ht : s.taken with
    | false =>
      rw [ht] at hc0
      rw [if_neg (by simp)]
      go_enter Try.func30, Try.ntmps30
      go_wp2_with (first | (go_at_call 28; go_must (refine Calls.mono (free_calls _ _ _ _) ?_; rintro e w2 ⟨rfl, hb2⟩)) | (go_at_call 21; go_must (refine Calls.mono (room_int (H.out.below (by repeat (first | (with_reducible assumption) | (with_reducible exact Below.refl _ _) | (with_reducible apply below_drewL) | (with_reducible apply below_alloc) | (with_reducible apply below_drew1) | (with_reducible apply below_drewN) | (refine below_set ?_ (by first | omega | (simp only [size_alloc, size_drew, size_set]; omega)) _ _))))) ?_; rintro e w1 ⟨rfl, rfl⟩)))
      go_ret
      exact ⟨rfl, (by repeat (first | (with_reducible assumption) | (with_reducible exact Below.refl _ _) | (with_reducible apply below_drewL) | (with_reducible apply below_alloc) | (with_reducible apply below_drew1) | (with_reducible apply below_drewN) | (refine below_set ?_ (by first | omega | (simp only [size_alloc, size_drew, size_set]; omega)) _ _)))⟩
    | true =>
      rw [ht] at hc0
      obtain ⟨N, hN⟩ : ∃ N, numb m i s = N := ⟨_, rfl⟩
      rw [hN]
      have HN := Hd.mk hN; clear hN ht
      by_cases he : N = n
      · subst he
        rw [if_pos ⟨rfl, rfl⟩]
        go_enter Try.func30, Try.ntmps30
        go_wp2_with (first | (go_at_call 29; have hq_ := hb2; clear hq_; go_must (refine Calls.mono (number_int (H.out.below (below_seq (by repeat (first | (with_reducible assumption) | (with_reducible exact Below.refl _ _) | (with_reducible apply below_drewL) | (with_reducible apply below_alloc) | (with_reducible apply below_drew1) | (with_reducible apply below_drewN) | (refine below_set ?_ (by first | omega | (simp only [size_alloc, size_drew, size_set]; omega)) _ _))) hb2)) hB HX.out) ?_; rintro e w3 ⟨he, hb3⟩; rw [HN.out] at he; subst he)) | (go_at_call 28; go_must (refine Calls.mono (free_calls _ _ _ _) ?_; rintro e w2 ⟨rfl, hb2⟩)) | (go_at_call 21; go_must (refine Calls.mono (room_int (H.out.below (by repeat (first | (with_reducible assumption) | (with_reducible exact Below.refl _ _) | (with_reducible apply below_drewL) | (with_reducible apply below_alloc) | (with_reducible apply below_drew1) | (with_reducible apply below_drewN) | (refine below_set ?_ (by first | omega | (simp only [size_alloc, size_drew, size_set]; omega)) _ _))))) ?_; rintro e w1 ⟨rfl, rfl⟩)))
        go_ret
        exact ⟨rfl, below_seq hb2 hb3⟩
      · rw [if_neg (by simp [he])]
        have he' : ¬ (N : Int) = n := by omega
        go_enter Try.func30, Try.ntmps30
        go_wp2_with (first | (go_at_call 29; have hq_ := hb2; clear hq_; go_must (refine Calls.mono (number_int (H.out.below (below_seq (by repeat (first | (with_reducible assumption) | (with_reducible exact Below.refl _ _) | (with_reducible apply below_drewL) | (with_reducible apply below_alloc) | (with_reducible apply below_drew1) | (with_reducible apply below_drewN) | (refine below_set ?_ (by first | omega | (simp only [size_alloc, size_drew, size_set]; omega)) _ _))) hb2)) hB HX.out) ?_; rintro e w3 ⟨he, hb3⟩; rw [HN.out] at he; subst he)) | (go_at_call 28; go_must (refine Calls.mono (free_calls _ _ _ _) ?_; rintro e w2 ⟨rfl, hb2⟩)) | (go_at_call 21; go_must (refine Calls.mono (room_int (H.out.below (by repeat (first | (with_reducible assumption) | (with_reducible exact Below.refl _ _) | (with_reducible apply below_drewL) | (with_reducible apply below_alloc) | (with_reducible apply below_drew1) | (with_reducible apply below_drewN) | (refine below_set ?_ (by first | omega | (simp only [size_alloc, size_drew, size_set]; omega)) _ _))))) ?_; rintro e w1 ⟨rfl, rfl⟩)))
        go_ret
        exact ⟨rfl, below_seq hb2 hb3⟩
theorem find_str {p r m c B : Nat} {L} (id : Int) {w : World} (h : Tab (Value.string) 68 70 w p r m c B L) (hB : B ≤ 1000000) : Calls Try.prog 34 #[.pointer (some ⟨p, 0, none⟩), .int .i64 id] w fun e w' => e = .returned (.int .i64 (findI L id)) ∧ Below w.heap.size w w' := by
  have hs := h.str
  have h1 := h.max
  have h2 := h.pos
  have hm0 : ¬ (m : Int) = 0 := by omega
  have hm0b : ((m : Int) == 0) = false := by simpa using hm0
  have hsc0 := blk_cell hs 0 _ rfl; have hsf0 := blk_frozen hs 0; have hsl := blk_lt hs
  by_cases hid : id < 0
  · rw [findI_neg hid]
    have H := Hd.mk h; clear h
    go_enter Try.func34, Try.ntmps34
    go_wp2_with (go_at_call 32; go_must (refine Calls.mono (room_str (H.out.below (by repeat (first | (with_reducible assumption) | (with_reducible exact Below.refl _ _) | (with_reducible apply below_drewL) | (with_reducible apply below_alloc) | (with_reducible apply below_drew1) | (with_reducible apply below_drewN) | (refine below_set ?_ (by first | omega | (simp only [size_alloc, size_drew, size_set]; omega)) _ _))))) ?_; rintro e w1 ⟨rfl, rfl⟩))
    go_ret
    exact ⟨rfl, (by repeat (first | (with_reducible assumption) | (with_reducible exact Below.refl _ _) | (with_reducible apply below_drewL) | (with_reducible apply below_alloc) | (with_reducible apply below_drew1) | (with_reducible apply below_drewN) | (refine below_set ?_ (by first | omega | (simp only [size_alloc, size_drew, size_set]; omega)) _ _)))⟩
  · obtain ⟨n, rfl⟩ : ∃ n : Nat, id = n := ⟨id.toNat, by omega⟩
    obtain ⟨i, hi⟩ : ∃ i, n % m = i := ⟨_, rfl⟩
    have him : i < m := by rw [← hi]; exact Nat.mod_lt _ h2
    have hiI : (n : Int) % (m : Int) = i := by rw [← hi]; simp
    obtain ⟨s, hx⟩ : ∃ s, L[i]? = some s := ⟨_, List.getElem?_eq_getElem (by rw [h.len]; exact him)⟩
    rw [findI_nat h.len hi hx]
    have HX := Hd.mk hx
    have hc0 : w.cell? ⟨r, i * 4, none⟩ = some (.bool s.taken) := h.row.cell (j := 0) (slot_len _) hx rfl
    have hc1 : w.cell? ⟨r, i * 4 + 1, none⟩ = some (.int .i64 s.times) := h.row.cell (slot_len _) hx rfl
    have hc2 : w.cell? ⟨r, i * 4 + 2, none⟩ = some (.int .i64 s.low) := h.row.cell (slot_len _) hx rfl
    have hlt := h.row.lt
    have H := Hd.mk h; clear h hx hi
    cases ht : s.taken with
    | false =>
      rw [ht] at hc0
      rw [if_neg (by simp)]
      go_enter Try.func34, Try.ntmps34
      go_wp2_with (first | (go_at_call 28; go_must (refine Calls.mono (free_calls _ _ _ _) ?_; rintro e w2 ⟨rfl, hb2⟩)) | (go_at_call 32; go_must (refine Calls.mono (room_str (H.out.below (by repeat (first | (with_reducible assumption) | (with_reducible exact Below.refl _ _) | (with_reducible apply below_drewL) | (with_reducible apply below_alloc) | (with_reducible apply below_drew1) | (with_reducible apply below_drewN) | (refine below_set ?_ (by first | omega | (simp only [size_alloc, size_drew, size_set]; omega)) _ _))))) ?_; rintro e w1 ⟨rfl, rfl⟩)))
      go_ret
      exact ⟨rfl, (by repeat (first | (with_reducible assumption) | (with_reducible exact Below.refl _ _) | (with_reducible apply below_drewL) | (with_reducible apply below_alloc) | (with_reducible apply below_drew1) | (with_reducible apply below_drewN) | (refine below_set ?_ (by first | omega | (simp only [size_alloc, size_drew, size_set]; omega)) _ _)))⟩
    | true =>
      rw [ht] at hc0
      obtain ⟨N, hN⟩ : ∃ N, numb m i s = N := ⟨_, rfl⟩
      rw [hN]
      have HN := Hd.mk hN; clear hN ht
      by_cases he : N = n
      · subst he
        rw [if_pos ⟨rfl, rfl⟩]
        go_enter Try.func34, Try.ntmps34
        go_wp2_with (first | (go_at_call 33; have hq_ := hb2; clear hq_; go_must (refine Calls.mono (number_str (H.out.below (below_seq (by repeat (first | (with_reducible assumption) | (with_reducible exact Below.refl _ _) | (with_reducible apply below_drewL) | (with_reducible apply below_alloc) | (with_reducible apply below_drew1) | (with_reducible apply below_drewN) | (refine below_set ?_ (by first | omega | (simp only [size_alloc, size_drew, size_set]; omega)) _ _))) hb2)) hB HX.out) ?_; rintro e w3 ⟨he, hb3⟩; rw [HN.out] at he; subst he)) | (go_at_call 28; go_must (refine Calls.mono (free_calls _ _ _ _) ?_; rintro e w2 ⟨rfl, hb2⟩)) | (go_at_call 32; go_must (refine Calls.mono (room_str (H.out.below (by repeat (first | (with_reducible assumption) | (with_reducible exact Below.refl _ _) | (with_reducible apply below_drewL) | (with_reducible apply below_alloc) | (with_reducible apply below_drew1) | (with_reducible apply below_drewN) | (refine below_set ?_ (by first | omega | (simp only [size_alloc, size_drew, size_set]; omega)) _ _))))) ?_; rintro e w1 ⟨rfl, rfl⟩)))
        go_ret
        exact ⟨rfl, below_seq hb2 hb3⟩
      · rw [if_neg (by simp [he])]
        have he' : ¬ (N : Int) = n := by omega
        go_enter Try.func34, Try.ntmps34
        go_wp2_with (first | (go_at_call 33; have hq_ := hb2; clear hq_; go_must (refine Calls.mono (number_str (H.out.below (below_seq (by repeat (first | (with_reducible assumption) | (with_reducible exact Below.refl _ _) | (with_reducible apply below_drewL) | (with_reducible apply below_alloc) | (with_reducible apply below_drew1) | (with_reducible apply below_drewN) | (refine below_set ?_ (by first | omega | (simp only [size_alloc, size_drew, size_set]; omega)) _ _))) hb2)) hB HX.out) ?_; rintro e w3 ⟨he, hb3⟩; rw [HN.out] at he; subst he)) | (go_at_call 28; go_must (refine Calls.mono (free_calls _ _ _ _) ?_; rintro e w2 ⟨rfl, hb2⟩)) | (go_at_call 32; go_must (refine Calls.mono (room_str (H.out.below (by repeat (first | (with_reducible assumption) | (with_reducible exact Below.refl _ _) | (with_reducible apply below_drewL) | (with_reducible apply below_alloc) | (with_reducible apply below_drew1) | (with_reducible apply below_drewN) | (refine below_set ?_ (by first | omega | (simp only [size_alloc, size_drew, size_set]; omega)) _ _))))) ?_; rintro e w1 ⟨rfl, rfl⟩)))
        go_ret
        exact ⟨rfl, below_seq hb2 hb3⟩
end Go.Proofs.Ytofknjoaemiebaa.Fn
