/- What Get, Release and Set compute. -/
import Derived.Test.YtofknjoaemiebaaM2
namespace Go.Proofs.Ytofknjoaemiebaa.Fn
open Go Go.RowKit Go.Proofs.Ytofknjoaemiebaa.Can Go.Proofs.Ytofknjoaemiebaa.Base
attribute [local go_sem] clsB AB.cell clsX AX.cell

theorem findI_of {α : Type} {L : List (Slot α)} {id : Int} {i : Nat} (h : findL L id = some i) : findI L id = i := by unfold findI; rw [h]
theorem findI_no {α : Type} {L : List (Slot α)} {id : Int} (h : findL L id = none) : findI L id = -1 := by unfold findI; rw [h]
/-- A slot that has been released. -/
def freed {α : Type} (z : α) (s : Slot α) : Slot α := ⟨false, s.times + 1, 0, z⟩
def took {α : Type} (s : Slot α) (v : α) (low : Int) : Slot α := ⟨true, s.times, low, v⟩

theorem getno_str {p r m c B : Nat} {L} {id : Int} {w : World} (h : Tab (Value.string) 68 70 w p r m c B L) (hB : B ≤ 1000000) (hf : findL L id = none) : Calls Try.prog 26 #[.pointer (some ⟨p, 0, none⟩), .int .i64 id] w fun e w' => e = .returned (.tuple #[.string ByteArray.empty, .int .i64 12]) ∧ Below w.heap.size w w' := by
  have H := Hd.mk h; have HF := Hd.mk (findI_no hf); clear h hf
  go_enter Try.func26, Try.ntmps26
  go_wp2_with (go_at_call 34; go_must (refine Calls.mono (find_str id (H.out.below (by repeat (first | (with_reducible assumption) | (with_reducible exact Below.refl _ _) | (with_reducible apply below_drewL) | (with_reducible apply below_alloc) | (with_reducible apply below_drew1) | (with_reducible apply below_drewN) | (refine below_set ?_ (by first | omega | (simp only [size_alloc, size_drew, size_set]; omega)) _ _)))) hB) ?_; rintro e w1 ⟨he, hb1⟩; rw [HF.out] at he; subst he))
  go_ret2
  exact ⟨rfl, hb1⟩
theorem get_str {p r m c B i : Nat} {L s} {id : Int} {w : World} (h : Tab (Value.string) 68 70 w p r m c B L) (hB : B ≤ 1000000) (hf : findL L id = some i) (hx : L[i]? = some s) : Calls Try.prog 26 #[.pointer (some ⟨p, 0, none⟩), .int .i64 id] w fun e w' => e = .returned (.tuple #[(Value.string) s.v, .int .i64 0]) ∧ Below w.heap.size w w' := by
  have hi : i < m := by rw [← h.len]; exact (List.getElem?_eq_some_iff.1 hx).1
  have h1 := h.max
  have H := Hd.mk h; have HF := Hd.mk (findI_of hf); have HX := Hd.mk hx; clear h hf hx
  go_enter Try.func26, Try.ntmps26
  go_wp2_with (go_at_call 34; go_must (refine Calls.mono (find_str id (H.out.below (by repeat (first | (with_reducible assumption) | (with_reducible exact Below.refl _ _) | (with_reducible apply below_drewL) | (with_reducible apply below_alloc) | (with_reducible apply below_drew1) | (with_reducible apply below_drewN) | (refine below_set ?_ (by first | omega | (simp only [size_alloc, size_drew, size_set]; omega)) _ _)))) hB) ?_; rintro e w1 ⟨he, hb1⟩; rw [HF.out] at he; subst he; have H1 := Hd.mk (H.out.below hb1); have hs := H1.out.str; have hsc0 := blk_cell hs 0 _ rfl; have hsf0 := blk_frozen hs 0; have hsl := blk_lt hs; have hc3 : w1.cell? ⟨r, i * 4 + 3, none⟩ = some ((Value.string) s.v) := H1.out.row.cell (slot_len _) HX.out rfl; have hlt := H1.out.row.lt))
  go_ret2
  exact ⟨rfl, hb1⟩
theorem relno_str {p r m c B : Nat} {L} {id : Int} {w : World} (h : Tab (Value.string) 68 70 w p r m c B L) (hB : B ≤ 1000000) (hf : findL L id = none) : Calls Try.prog 25 #[.pointer (some ⟨p, 0, none⟩), .int .i64 id] w fun e w' => e = .returned (.int .i64 12) ∧ Below w.heap.size w w' := by
  have H := Hd.mk h; have HF := Hd.mk (findI_no hf); clear h hf
  go_enter Try.func25, Try.ntmps25
  go_wp2_with (go_at_call 34; go_must (refine Calls.mono (find_str id (H.out.below (by repeat (first | (with_reducible assumption) | (with_reducible exact Below.refl _ _) | (with_reducible apply below_drewL) | (with_reducible apply below_alloc) | (with_reducible apply below_drew1) | (with_reducible apply below_drewN) | (refine below_set ?_ (by first | omega | (simp only [size_alloc, size_drew, size_set]; omega)) _ _)))) hB) ?_; rintro e w1 ⟨he, hb1⟩; rw [HF.out] at he; subst he))
  go_ret
  exact ⟨rfl, hb1⟩
theorem rel_str {p r m c B i : Nat} {L s} {id : Int} {w : World} (h : Tab (Value.string) 68 70 w p r m c B L) (hB : B ≤ 1000000) (hf : findL L id = some i) (hx : L[i]? = some s) : Calls Try.prog 25 #[.pointer (some ⟨p, 0, none⟩), .int .i64 id] w fun e w' => e = .returned (.int .i64 0) ∧ Tab (Value.string) 68 70 w' p r m c (B + 1) (L.set i (freed ByteArray.empty s)) ∧ Fr (fun b => b = r) w w' := by
  have hi : i < m := by rw [← h.len]; exact (List.getElem?_eq_some_iff.1 hx).1
  have h1 := h.max
  have hne : ¬ r = p := Ne.symm h.ne
  have hne2 : ¬ p = r := h.ne
  have htm : s.times ≤ 1000000 := Nat.le_trans (h.tms s (List.mem_of_getElem? hx)) hB
  have H := Hd.mk h; have HF := Hd.mk (findI_of hf); have HX := Hd.mk hx; clear h hf hx
  go_enter Try.func25, Try.ntmps25
  go_wp2_with (go_at_call 34; go_must (refine Calls.mono (find_str id (H.out.below (by repeat (first | (with_reducible assumption) | (with_reducible exact Below.refl _ _) | (with_reducible apply below_drewL) | (with_reducible apply below_alloc) | (with_reducible apply below_drew1) | (with_reducible apply below_drewN) | (refine below_set ?_ (by first | omega | (simp only [size_alloc, size_drew, size_set]; omega)) _ _)))) hB) ?_; rintro e w1 ⟨he, hb1⟩; rw [HF.out] at he; subst he; have H1 := Hd.mk (H.out.below hb1); have hs := H1.out.str; have hsc0 := blk_cell hs 0 _ rfl; have hsf0 := blk_frozen hs 0; have hsl := blk_lt hs; have hc0 : w1.cell? ⟨r, i * 4, none⟩ = some (.bool s.taken) := H1.out.row.cell (j := 0) (slot_len _) HX.out rfl; have hc1 : w1.cell? ⟨r, i * 4 + 1, none⟩ = some (.int .i64 s.times) := H1.out.row.cell (slot_len _) HX.out rfl; have hc2 : w1.cell? ⟨r, i * 4 + 2, none⟩ = some (.int .i64 s.low) := H1.out.row.cell (slot_len _) HX.out rfl; have hc3 : w1.cell? ⟨r, i * 4 + 3, none⟩ = some ((Value.string) s.v) := H1.out.row.cell (slot_len _) HX.out rfl; have hlt := H1.out.row.lt; have hf0 := H1.out.row.frozen (i * 4); have hf1 := H1.out.row.frozen (i * 4 + 1); have hf2 := H1.out.row.frozen (i * 4 + 2); have hf3 := H1.out.row.frozen (i * 4 + 3)))
  refine wp_region_can (.q [0, 1, 2, 3, 4, 5, 6, 7, 8, 9, 10, 11, 12, 13, 14, 15, 16, 17] (.e 18 false (.done))) (clsB _) (by kernel_rfl) (by kernel_rfl) (by intro _ _ d _ _ h; cases d <;> exact h) (clsB_drew _) ?_
  refine can_q (l := [⟨_,_,_,_,_,_⟩, ⟨_,_,_,_,_,_⟩, ⟨_,_,_,_,_,_⟩, ⟨_,_,_,_,_,_⟩, ⟨_,_,_,_,_,_⟩, ⟨_,_,_,_,_,_⟩, ⟨_,_,_,_,_,_⟩, ⟨_,_,_,_,_,_⟩, ⟨_,_,_,_,_,_⟩, ⟨_,_,_,_,_,_⟩, ⟨_,_,_,_,_,_⟩, ⟨_,_,_,_,_,_⟩, ⟨_,_,_,_,_,_⟩, ⟨_,_,_,_,_,_⟩, ⟨_,_,_,_,_,_⟩, ⟨_,_,_,_,_,_⟩, ⟨_,_,_,_,_,_⟩, ⟨_,_,_,_,_,_⟩]) rfl ?_
  repeat (go_big_quiet_step (fail))
  refine wpQuiet_nil ?_
  refine can_e (o := ⟨_,_,_,_,_,_⟩) rfl (fun K hK => ?_)
  go_wp2_with fail
  refine onK_normal (hK _ _ ⟨fun _ => True, trivial, (fun h => by cases h), ?_⟩)
  clear hK K
  refine can_done ?_
  go_wp2
  go_ret
  refine ⟨rfl, ⟨?_, ?_, H1.out.ne, by rw [List.length_set]; exact H1.out.len, H1.out.cap, H1.out.pos, h1, ?_⟩, ?_⟩
  · exact blk_drew (blk_far (blk_far (blk_far (blk_far hs hne2 _) hne2 _) hne2 _) hne2 _)
  · have hil : i < L.length := by rw [H.out.len]; exact hi
    have q0 := H1.out.row.set0 (y := (⟨false, s.times, s.low, s.v⟩ : Slot _)) (v := .bool false) (slot_len _) HX.out (by decide) rfl
    have q1 := q0.set (j := 1) (x := ⟨false, s.times, s.low, s.v⟩) (y := (⟨false, s.times + 1, s.low, s.v⟩ : Slot _)) (v := .int .i64 ((s.times : Int) + 1)) (slot_len _) (by rw [List.getElem?_set_self hil]) (by decide) rfl
    have q2 := q1.set (j := 2) (x := ⟨false, s.times + 1, s.low, s.v⟩) (y := (⟨false, s.times + 1, 0, s.v⟩ : Slot _)) (v := .int .i64 0) (slot_len _) (by rw [List.getElem?_set_self (by simpa using hil)]) (by decide) rfl
    have q3 := q2.set (j := 3) (x := ⟨false, s.times + 1, 0, s.v⟩) (y := (⟨false, s.times + 1, 0, ByteArray.empty⟩ : Slot _)) (v := .string ByteArray.empty) (slot_len _) (by rw [List.getElem?_set_self (by simpa using hil)]) (by decide) rfl
    simp only [List.set_set] at q3
    exact q3.move rfl
  · intro x hx'
    rcases List.mem_or_eq_of_mem_set hx' with hx' | rfl
    · have := H1.out.tms x hx'; omega
    · have := H1.out.tms s (List.mem_of_getElem? HX.out); simp only [freed]; omega
  · exact (Fr.set (Fr.set (Fr.set (Fr.set (Fr.of_below (X := fun b => b = r) hb1) (.inl rfl) _ _) (.inl rfl) _ _) (.inl rfl) _ _) (.inl rfl) _ _).drew
theorem setfull_str {p r m c B : Nat} {L} (v : ByteArray) (low : Int) {w : World} (h : Tab (Value.string) 68 70 w p r m c B L) (hf : ∀ s ∈ L, s.taken = true) : Calls Try.prog 24 #[.pointer (some ⟨p, 0, none⟩), (Value.string) v, .int .i64 low] w fun e w' => e = .returned (.tuple #[.int .i64 0, .int .i64 6]) ∧ Below w.heap.size w w' := by
  have h1 := h.max
  have H := Hd.mk h; have HF := Hd.mk hf; clear h hf
  go_enter Try.func24, Try.ntmps24
  go_wp2_with (go_at_call 32; go_must (refine Calls.mono (room_str (H.out.below (by repeat (first | (with_reducible assumption) | (with_reducible exact Below.refl _ _) | (with_reducible apply below_drewL) | (with_reducible apply below_alloc) | (with_reducible apply below_drew1) | (with_reducible apply below_drewN) | (refine below_set ?_ (by first | omega | (simp only [size_alloc, size_drew, size_set]; omega)) _ _))))) ?_; rintro e w1 ⟨rfl, hw⟩; subst hw))
  go_loopw [11] (fun i wr => ∃ k : Nat, k ≤ m ∧ i = .int .i64 k ∧ Hd (Below w1.heap.size w1 wr)) (fun i _ => m - (intOf i).toNat)
  case atStart => exact ⟨0, Nat.zero_le _, rfl, ⟨Below.refl _ _⟩⟩
  case round =>
    obtain ⟨k, hk, rfl, hb⟩ := hrel
    by_cases hlt : k < m
    · have H1 := Hd.mk (H.out.below hb.out)
      obtain ⟨s, hx⟩ : ∃ s, L[k]? = some s := ⟨_, List.getElem?_eq_getElem (by rw [H.out.len]; exact hlt)⟩
      have hc0 : wr.cell? ⟨r, k * 4, none⟩ = some (.bool true) := H1.out.row.cell (j := 0) (slot_len _) hx (by rw [← HF.out s (List.mem_of_getElem? hx)]; rfl)
      have hc1 : wr.cell? ⟨r, k * 4 + 1, none⟩ = some (.int .i64 s.times) := H1.out.row.cell (slot_len _) hx rfl
      have hc2 : wr.cell? ⟨r, k * 4 + 2, none⟩ = some (.int .i64 s.low) := H1.out.row.cell (slot_len _) hx rfl
      have hrl := H1.out.row.lt
      have hs := H1.out.str
      have hsc0 := blk_cell hs 0 _ rfl; have hsf0 := blk_frozen hs 0; have hsl := blk_lt hs
      clear hs hx
      go_wp2_with (go_at_call 28; go_must (refine Calls.mono (free_calls _ _ _ _) ?_; rintro e w2 ⟨rfl, hb2⟩))
      go_roundw
      case rel => exact ⟨k + 1, by omega, by go_num, ⟨below_seq hb.out hb2⟩⟩
      case measure => simp [intOf]; omega
    · obtain rfl : k = m := by omega
      go_wp2
      go_ret2
      exact ⟨rfl, hb.out⟩
theorem set_str {p r m c B i : Nat} {L s} (v : ByteArray) (low : Int) {w : World} (h : Tab (Value.string) 68 70 w p r m c B L) (hB : B ≤ 1000000) (hf : ∀ j, j < i → ∀ s, L[j]? = some s → s.taken = true) (hx : L[i]? = some s) (ht : s.taken = false) :
    Calls Try.prog 24 #[.pointer (some ⟨p, 0, none⟩), (Value.string) v, .int .i64 low] w fun e w' => e = .returned (.tuple #[.int .i64 (numb m i s : Nat), .int .i64 0]) ∧ Tab (Value.string) 68 70 w' p r m c B (L.set i (took s v low)) ∧ Fr (fun b => b = r) w w' := by
  have h1 := h.max
  have hi : i < m := by rw [← h.len]; exact (List.getElem?_eq_some_iff.1 hx).1
  have hne : ¬ r = p := Ne.symm h.ne
  have hne2 : ¬ p = r := h.ne
  have H := Hd.mk h; have HF := Hd.mk hf; have HX := Hd.mk hx; have HT := Hd.mk ht; clear h hf hx ht
  go_enter Try.func24, Try.ntmps24
  go_wp2_with (go_at_call 32; go_must (refine Calls.mono (room_str (H.out.below (by repeat (first | (with_reducible assumption) | (with_reducible exact Below.refl _ _) | (with_reducible apply below_drewL) | (with_reducible apply below_alloc) | (with_reducible apply below_drew1) | (with_reducible apply below_drewN) | (refine below_set ?_ (by first | omega | (simp only [size_alloc, size_drew, size_set]; omega)) _ _))))) ?_; rintro e w1 ⟨rfl, hw⟩; subst hw))
  go_loopw [11] (fun x wr => ∃ k : Nat, k ≤ i ∧ x = .int .i64 k ∧ Hd (Below w1.heap.size w1 wr)) (fun x _ => m - (intOf x).toNat)
  case atStart => exact ⟨0, Nat.zero_le _, rfl, ⟨Below.refl _ _⟩⟩
  case round =>
    obtain ⟨k, hk, rfl, hb⟩ := hrel
    have H1 := Hd.mk (H.out.below hb.out)
    have hs := H1.out.str
    have hsc0 := blk_cell hs 0 _ rfl; have hsf0 := blk_frozen hs 0; have hsl := blk_lt hs
    have hrl := H1.out.row.lt
    by_cases hlt : k < i
    · obtain ⟨s', hx⟩ : ∃ s', L[k]? = some s' := ⟨_, List.getElem?_eq_getElem (by rw [H.out.len]; omega)⟩
      have hc0 : wr.cell? ⟨r, k * 4, none⟩ = some (.bool true) := H1.out.row.cell (j := 0) (slot_len _) hx (by rw [← HF.out k hlt s' hx]; rfl)
      have hc1 : wr.cell? ⟨r, k * 4 + 1, none⟩ = some (.int .i64 s'.times) := H1.out.row.cell (slot_len _) hx rfl
      have hc2 : wr.cell? ⟨r, k * 4 + 2, none⟩ = some (.int .i64 s'.low) := H1.out.row.cell (slot_len _) hx rfl
      clear hs hx
      go_wp2_with (go_at_call 28; go_must (refine Calls.mono (free_calls _ _ _ _) ?_; rintro e w2 ⟨rfl, hb2⟩))
      go_roundw
      case rel => exact ⟨k + 1, by omega, by go_num, ⟨below_seq hb.out hb2⟩⟩
      case measure => simp [intOf]; omega
    · obtain rfl : k = i := by omega
      have hc0 : wr.cell? ⟨r, k * 4, none⟩ = some (.bool false) := H1.out.row.cell (j := 0) (slot_len _) HX.out (by rw [← HT.out]; rfl)
      have hc1 : wr.cell? ⟨r, k * 4 + 1, none⟩ = some (.int .i64 s.times) := H1.out.row.cell (slot_len _) HX.out rfl
      have hc2 : wr.cell? ⟨r, k * 4 + 2, none⟩ = some (.int .i64 s.low) := H1.out.row.cell (slot_len _) HX.out rfl
      go_wp2_with (go_at_call 28; go_must (refine Calls.mono (free_calls _ _ _ _) ?_; rintro e w2 ⟨rfl, hb2⟩; have H2 := Hd.mk (H1.out.below hb2); have hs2 := blk_below hs hb2; clear hsc0 hsf0 hsl; clear hc0 hc1 hc2 hs hrl; have hs2c0 := blk_cell hs2 0 _ rfl; have hs2f0 := blk_frozen hs2 0; have hs2l := blk_lt hs2; have hd0 : w2.cell? ⟨r, k * 4, none⟩ = some (.bool false) := H2.out.row.cell (j := 0) (slot_len _) HX.out (by rw [← HT.out]; rfl); have hd2 : w2.cell? ⟨r, k * 4 + 2, none⟩ = some (.int .i64 s.low) := H2.out.row.cell (slot_len _) HX.out rfl; have hd3 : w2.cell? ⟨r, k * 4 + 3, none⟩ = some ((Value.string) s.v) := H2.out.row.cell (slot_len _) HX.out rfl; have hrl := H2.out.row.lt; have hf0 := H2.out.row.frozen (k * 4); have hf2 := H2.out.row.frozen (k * 4 + 2); have hf3 := H2.out.row.frozen (k * 4 + 3)))
      refine wp_region_can (.q [0, 1, 2, 3, 4, 5, 6, 7, 8, 9, 10, 11, 12, 13, 14, 15, 16, 17, 18] (.e 19 true (.q [20, 21, 22] (.e 23 true (.q [24, 25, 26] (.e 27 false (.done))))))) (clsX (fun b => b = r) _) (by kernel_rfl) (by kernel_rfl) (by intro _ _ d _ _ h; cases d <;> exact h) (clsX_drew _ _) ?_
      refine can_q (l := [⟨_,_,_,_,_,_⟩, ⟨_,_,_,_,_,_⟩, ⟨_,_,_,_,_,_⟩, ⟨_,_,_,_,_,_⟩, ⟨_,_,_,_,_,_⟩, ⟨_,_,_,_,_,_⟩, ⟨_,_,_,_,_,_⟩, ⟨_,_,_,_,_,_⟩, ⟨_,_,_,_,_,_⟩, ⟨_,_,_,_,_,_⟩, ⟨_,_,_,_,_,_⟩, ⟨_,_,_,_,_,_⟩, ⟨_,_,_,_,_,_⟩, ⟨_,_,_,_,_,_⟩, ⟨_,_,_,_,_,_⟩, ⟨_,_,_,_,_,_⟩, ⟨_,_,_,_,_,_⟩, ⟨_,_,_,_,_,_⟩, ⟨_,_,_,_,_,_⟩]) rfl ?_
      repeat (go_big_quiet_step (fail))
      refine wpQuiet_nil ?_
      refine can_e (o := ⟨_,_,_,_,_,_⟩) rfl (fun K hK => ?_)
      go_wp2_with fail
      first | refine onK_normal (hK _ _ ⟨clsX _ _, clsX_drew _ _, fun _ => clsX_next ?_ ?_, ?_⟩) | refine onK_normal (hK _ _ ⟨clsX _ _, clsX_self _ _, fun _ => clsX_next ?_ ?_, ?_⟩)
      · simp only [size_alloc, size_drew, size_set]; omega
      · intro b_ hb_ hW_; repeat (first | rfl | (rw [Below.heap_setCell _ _ _ _ (by intro he_; exact hW_ (by first | exact he_ | exact .inl he_ | exact .inr he_))]) | (rw [Below.heap_alloc _ _ _ (by simp only [size_alloc, size_drew, size_set]; omega)]))
      clear hK K
      refine can_q (l := [⟨_,_,_,_,_,_⟩, ⟨_,_,_,_,_,_⟩, ⟨_,_,_,_,_,_⟩]) rfl ?_
      repeat (go_big_quiet_step (fail))
      refine wpQuiet_nil ?_
      refine can_e (o := ⟨_,_,_,_,_,_⟩) rfl (fun K hK => ?_)
      go_wp2_with fail
      first | refine onK_normal (hK _ _ ⟨clsX _ _, clsX_drew _ _, fun _ => clsX_next ?_ ?_, ?_⟩) | refine onK_normal (hK _ _ ⟨clsX _ _, clsX_self _ _, fun _ => clsX_next ?_ ?_, ?_⟩)
      · simp only [size_alloc, size_drew, size_set]; omega
      · intro b_ hb_ hW_; repeat (first | rfl | (rw [Below.heap_setCell _ _ _ _ (by intro he_; exact hW_ (by first | exact he_ | exact .inl he_ | exact .inr he_))]) | (rw [Below.heap_alloc _ _ _ (by simp only [size_alloc, size_drew, size_set]; omega)]))
      clear hK K
      refine can_q (l := [⟨_,_,_,_,_,_⟩, ⟨_,_,_,_,_,_⟩, ⟨_,_,_,_,_,_⟩]) rfl ?_
      repeat (go_big_quiet_step (fail))
      refine wpQuiet_nil ?_
      refine can_e (o := ⟨_,_,_,_,_,_⟩) rfl (fun K hK => ?_)
      go_wp2_with fail
      refine onK_normal (hK _ _ ⟨fun _ => True, trivial, (fun h => by cases h), ?_⟩)
      clear hK K
      refine can_done ?_
      generalize hW : World.drew (World.setCell _ _ _) = W
      have hil : k < L.length := by rw [H.out.len]; exact hi
      have q3 := H2.out.row.set (j := 3) (x := s) (y := (⟨false, s.times, s.low, v⟩ : Slot _)) (v := (Value.string) v) (slot_len _) HX.out (by decide) (by rw [← HT.out]; rfl)
      have q2 := q3.set (j := 2) (x := ⟨false, s.times, s.low, v⟩) (y := (⟨false, s.times, low, v⟩ : Slot _)) (v := .int .i64 low) (slot_len _) (by rw [List.getElem?_set_self hil]) (by decide) rfl
      have q0 := q2.set0 (x := ⟨false, s.times, low, v⟩) (y := (⟨true, s.times, low, v⟩ : Slot _)) (v := .bool true) (slot_len _) (by rw [List.getElem?_set_self (by simpa using hil)]) (by decide) rfl
      simp only [List.set_set] at q0
      have hT : Hd (Tab (Value.string) 68 70 W p r m c B (L.set k (took s v low))) := ⟨by
        rw [← hW]
        refine ⟨blk_drew (blk_far (blk_far (blk_far hs2 hne2 _) hne2 _) hne2 _), q0.move rfl, H2.out.ne, by rw [List.length_set]; exact H2.out.len, H2.out.cap, H2.out.pos, h1, fun x hx' => ?_⟩
        rcases List.mem_or_eq_of_mem_set hx' with hx' | rfl
        · exact H2.out.tms x hx'
        · exact H2.out.tms s (List.mem_of_getElem? HX.out)⟩
      have hF : Hd (Fr (fun b => b = r) w1 W) := ⟨by
        rw [← hW]
        exact (Fr.set (Fr.set (Fr.set ((Fr.of_below (X := fun b => b = r) hb.out).trans (Fr.of_below hb2)) (.inl rfl) _ _) (.inl rfl) _ _) (.inl rfl) _ _).drew⟩
      have hSg : (L.set k (took s v low))[k]? = some (took s v low) := List.getElem?_set_self hil
      have HS := Hd.mk hSg; clear hSg q0 q2 q3 hW H1 H2 hb2
      clear hs2c0 hs2f0 hs2l
      clear hs2 hd0 hd2 hd3 hrl hf0 hf2 hf3
      go_wp2_with (go_at_call 33; go_must (refine Calls.mono (number_str hT.out hB HS.out) ?_; rintro e w3 ⟨rfl, hb3⟩))
      go_ret2
      exact ⟨rfl, hT.out.below hb3, hF.out.trans (Fr.of_below hb3)⟩
theorem getno_int {p r m c B : Nat} {L} {id : Int} {w : World} (h : Tab (Value.int .i64) 54 64 w p r m c B L) (hB : B ≤ 1000000) (hf : findL L id = none) : Calls Try.prog 11 #[.pointer (some ⟨p, 0, none⟩), .int .i64 id] w fun e w' => e = .returned (.tuple #[.int .i64 0, .int .i64 12]) ∧ Below w.heap.size w w' := by
  have H := Hd.mk h; have HF := Hd.mk (findI_no hf); clear h hf
  go_enter Try.func11, Try.ntmps11
  go_wp2_with (go_at_call 30; go_must (refine Calls.mono (find_int id (H.out.below (by repeat (first | (with_reducible assumption) | (with_reducible exact Below.refl _ _) | (with_reducible apply below_drewL) | (with_reducible apply below_alloc) | (with_reducible apply below_drew1) | (with_reducible apply below_drewN) | (refine below_set ?_ (by first | omega | (simp only [size_alloc, size_drew, size_set]; omega)) _ _)))) hB) ?_; rintro e w1 ⟨he, hb1⟩; rw [HF.out] at he; subst he))
  go_ret2
  exact ⟨rfl, hb1⟩
theorem get_int {p r m c B i : Nat} {L s} {id : Int} {w : World} (h : Tab (Value.int .i64) 54 64 w p r m c B L) (hB : B ≤ 1000000) (hf : findL L id = some i) (hx : L[i]? = some s) : Calls Try.prog 11 #[.pointer (some ⟨p, 0, none⟩), .int .i64 id] w fun e w' => e = .returned (.tuple #[(Value.int .i64) s.v, .int .i64 0]) ∧ Below w.heap.size w w' := by
  have hi : i < m := by rw [← h.len]; exact (List.getElem?_eq_some_iff.1 hx).1
  have h1 := h.max
  have H := Hd.mk h; have HF := Hd.mk (findI_of hf); have HX := Hd.mk hx; clear h hf hx
  go_enter Try.func11, Try.ntmps11
  go_wp2_with (go_at_call 30; go_must (refine Calls.mono (find_int id (H.out.below (by repeat (first | (with_reducible assumption) | (with_reducible exact Below.refl _ _) | (with_reducible apply below_drewL) | (with_reducible apply below_alloc) | (with_reducible apply below_drew1) | (with_reducible apply below_drewN) | (refine below_set ?_ (by first | omega | (simp only [size_alloc, size_drew, size_set]; omega)) _ _)))) hB) ?_; rintro e w1 ⟨he, hb1⟩; rw [HF.out] at he; subst he; have H1 := Hd.mk (H.out.below hb1); have hs := H1.out.str; have hsc0 := blk_cell hs 0 _ rfl; have hsf0 := blk_frozen hs 0; have hsl := blk_lt hs; have hc3 : w1.cell? ⟨r, i * 4 + 3, none⟩ = some ((Value.int .i64) s.v) := H1.out.row.cell (slot_len _) HX.out rfl; have hlt := H1.out.row.lt))
  go_ret2
  exact ⟨rfl, hb1⟩
theorem relno_int {p r m c B : Nat} {L} {id : Int} {w : World} (h : Tab (Value.int .i64) 54 64 w p r m c B L) (hB : B ≤ 1000000) (hf : findL L id = none) : Calls Try.prog 13 #[.pointer (some ⟨p, 0, none⟩), .int .i64 id] w fun e w' => e = .returned (.int .i64 12) ∧ Below w.heap.size w w' := by
  have H := Hd.mk h; have HF := Hd.mk (findI_no hf); clear h hf
  go_enter Try.func13, Try.ntmps13
  go_wp2_with (go_at_call 30; go_must (refine Calls.mono (find_int id (H.out.below (by repeat (first | (with_reducible assumption) | (with_reducible exact Below.refl _ _) | (with_reducible apply below_drewL) | (with_reducible apply below_alloc) | (with_reducible apply below_drew1) | (with_reducible apply below_drewN) | (refine below_set ?_ (by first | omega | (simp only [size_alloc, size_drew, size_set]; omega)) _ _)))) hB) ?_; rintro e w1 ⟨he, hb1⟩; rw [HF.out] at he; subst he))
  go_ret
  exact ⟨rfl, hb1⟩
theorem rel_int {p r m c B i : Nat} {L s} {id : Int} {w : World} (h : Tab (Value.int .i64) 54 64 w p r m c B L) (hB : B ≤ 1000000) (hf : findL L id = some i) (hx : L[i]? = some s) : Calls Try.prog 13 #[.pointer (some ⟨p, 0, none⟩), .int .i64 id] w fun e w' => e = .returned (.int .i64 0) ∧ Tab (Value.int .i64) 54 64 w' p r m c (B + 1) (L.set i (freed 0 s)) ∧ Fr (fun b => b = r) w w' := by
  have hi : i < m := by rw [← h.len]; exact (List.getElem?_eq_some_iff.1 hx).1
  have h1 := h.max
  have hne : ¬ r = p := Ne.symm h.ne
  have hne2 : ¬ p = r := h.ne
  have htm : s.times ≤ 1000000 := Nat.le_trans (h.tms s (List.mem_of_getElem? hx)) hB
  have H := Hd.mk h; have HF := Hd.mk (findI_of hf); have HX := Hd.mk hx; clear h hf hx
  go_enter Try.func13, Try.ntmps13
  go_wp2_with (go_at_call 30; go_must (refine Calls.mono (find_int id (H.out.below (by repeat (first | (with_reducible assumption) | (with_reducible exact Below.refl _ _) | (with_reducible apply below_drewL) | (with_reducible apply below_alloc) | (with_reducible apply below_drew1) | (with_reducible apply below_drewN) | (refine below_set ?_ (by first | omega | (simp only [size_alloc, size_drew, size_set]; omega)) _ _)))) hB) ?_; rintro e w1 ⟨he, hb1⟩; rw [HF.out] at he; subst he; have H1 := Hd.mk (H.out.below hb1); have hs := H1.out.str; have hsc0 := blk_cell hs 0 _ rfl; have hsf0 := blk_frozen hs 0; have hsl := blk_lt hs; have hc0 : w1.cell? ⟨r, i * 4, none⟩ = some (.bool s.taken) := H1.out.row.cell (j := 0) (slot_len _) HX.out rfl; have hc1 : w1.cell? ⟨r, i * 4 + 1, none⟩ = some (.int .i64 s.times) := H1.out.row.cell (slot_len _) HX.out rfl; have hc2 : w1.cell? ⟨r, i * 4 + 2, none⟩ = some (.int .i64 s.low) := H1.out.row.cell (slot_len _) HX.out rfl; have hc3 : w1.cell? ⟨r, i * 4 + 3, none⟩ = some ((Value.int .i64) s.v) := H1.out.row.cell (slot_len _) HX.out rfl; have hlt := H1.out.row.lt; have hf0 := H1.out.row.frozen (i * 4); have hf1 := H1.out.row.frozen (i * 4 + 1); have hf2 := H1.out.row.frozen (i * 4 + 2); have hf3 := H1.out.row.frozen (i * 4 + 3)))
  refine wp_region_can (.q [0, 1, 2, 3, 4, 5, 6, 7, 8, 9, 10, 11, 12, 13, 14, 15, 16, 17] (.e 18 false (.done))) (clsB _) (by kernel_rfl) (by kernel_rfl) (by intro _ _ d _ _ h; cases d <;> exact h) (clsB_drew _) ?_
  refine can_q (l := [⟨_,_,_,_,_,_⟩, ⟨_,_,_,_,_,_⟩, ⟨_,_,_,_,_,_⟩, ⟨_,_,_,_,_,_⟩, ⟨_,_,_,_,_,_⟩, ⟨_,_,_,_,_,_⟩, ⟨_,_,_,_,_,_⟩, ⟨_,_,_,_,_,_⟩, ⟨_,_,_,_,_,_⟩, ⟨_,_,_,_,_,_⟩, ⟨_,_,_,_,_,_⟩, ⟨_,_,_,_,_,_⟩, ⟨_,_,_,_,_,_⟩, ⟨_,_,_,_,_,_⟩, ⟨_,_,_,_,_,_⟩, ⟨_,_,_,_,_,_⟩, ⟨_,_,_,_,_,_⟩, ⟨_,_,_,_,_,_⟩]) rfl ?_
  repeat (go_big_quiet_step (fail))
  refine wpQuiet_nil ?_
  refine can_e (o := ⟨_,_,_,_,_,_⟩) rfl (fun K hK => ?_)
  go_wp2_with fail
  refine onK_normal (hK _ _ ⟨fun _ => True, trivial, (fun h => by cases h), ?_⟩)
  clear hK K
  refine can_done ?_
  go_wp2
  go_ret
  refine ⟨rfl, ⟨?_, ?_, H1.out.ne, by rw [List.length_set]; exact H1.out.len, H1.out.cap, H1.out.pos, h1, ?_⟩, ?_⟩
  · exact blk_drew (blk_far (blk_far (blk_far (blk_far hs hne2 _) hne2 _) hne2 _) hne2 _)
  · have hil : i < L.length := by rw [H.out.len]; exact hi
    have q0 := H1.out.row.set0 (y := (⟨false, s.times, s.low, s.v⟩ : Slot _)) (v := .bool false) (slot_len _) HX.out (by decide) rfl
    have q1 := q0.set (j := 1) (x := ⟨false, s.times, s.low, s.v⟩) (y := (⟨false, s.times + 1, s.low, s.v⟩ : Slot _)) (v := .int .i64 ((s.times : Int) + 1)) (slot_len _) (by rw [List.getElem?_set_self hil]) (by decide) rfl
    have q2 := q1.set (j := 2) (x := ⟨false, s.times + 1, s.low, s.v⟩) (y := (⟨false, s.times + 1, 0, s.v⟩ : Slot _)) (v := .int .i64 0) (slot_len _) (by rw [List.getElem?_set_self (by simpa using hil)]) (by decide) rfl
    have q3 := q2.set (j := 3) (x := ⟨false, s.times + 1, 0, s.v⟩) (y := (⟨false, s.times + 1, 0, 0⟩ : Slot _)) (v := .int .i64 0) (slot_len _) (by rw [List.getElem?_set_self (by simpa using hil)]) (by decide) rfl
    simp only [List.set_set] at q3
    exact q3.move rfl
  · intro x hx'
    rcases List.mem_or_eq_of_mem_set hx' with hx' | rfl
    · have := H1.out.tms x hx'; omega
    · have := H1.out.tms s (List.mem_of_getElem? HX.out); simp only [freed]; omega
  · exact (Fr.set (Fr.set (Fr.set (Fr.set (Fr.of_below (X := fun b => b = r) hb1) (.inl rfl) _ _) (.inl rfl) _ _) (.inl rfl) _ _) (.inl rfl) _ _).drew
theorem setfull_int {p r m c B : Nat} {L} (v : Int) (low : Int) {w : World} (h : Tab (Value.int .i64) 54 64 w p r m c B L) (hf : ∀ s ∈ L, s.taken = true) : Calls Try.prog 9 #[.pointer (some ⟨p, 0, none⟩), (Value.int .i64) v, .int .i64 low] w fun e w' => e = .returned (.tuple #[.int .i64 0, .int .i64 6]) ∧ Below w.heap.size w w' := by
  have h1 := h.max
  have H := Hd.mk h; have HF := Hd.mk hf; clear h hf
  go_enter Try.func9, Try.ntmps9
  go_wp2_with (go_at_call 21; go_must (refine Calls.mono (room_int (H.out.below (by repeat (first | (with_reducible assumption) | (with_reducible exact Below.refl _ _) | (with_reducible apply below_drewL) | (with_reducible apply below_alloc) | (with_reducible apply below_drew1) | (with_reducible apply below_drewN) | (refine below_set ?_ (by first | omega | (simp only [size_alloc, size_drew, size_set]; omega)) _ _))))) ?_; rintro e w1 ⟨rfl, hw⟩; subst hw))
  go_loopw [11] (fun i wr => ∃ k : Nat, k ≤ m ∧ i = .int .i64 k ∧ Hd (Below w1.heap.size w1 wr)) (fun i _ => m - (intOf i).toNat)
  case atStart => exact ⟨0, Nat.zero_le _, rfl, ⟨Below.refl _ _⟩⟩
  case round =>
    obtain ⟨k, hk, rfl, hb⟩ := hrel
    by_cases hlt : k < m
    · have H1 := Hd.mk (H.out.below hb.out)
      obtain ⟨s, hx⟩ : ∃ s, L[k]? = some s := ⟨_, List.getElem?_eq_getElem (by rw [H.out.len]; exact hlt)⟩
      have hc0 : wr.cell? ⟨r, k * 4, none⟩ = some (.bool true) := H1.out.row.cell (j := 0) (slot_len _) hx (by rw [← HF.out s (List.mem_of_getElem? hx)]; rfl)
      have hc1 : wr.cell? ⟨r, k * 4 + 1, none⟩ = some (.int .i64 s.times) := H1.out.row.cell (slot_len _) hx rfl
      have hc2 : wr.cell? ⟨r, k * 4 + 2, none⟩ = some (.int .i64 s.low) := H1.out.row.cell (slot_len _) hx rfl
      have hrl := H1.out.row.lt
      have hs := H1.out.str
      have hsc0 := blk_cell hs 0 _ rfl; have hsf0 := blk_frozen hs 0; have hsl := blk_lt hs
      clear hs hx
      go_wp2_with (go_at_call 28; go_must (refine Calls.mono (free_calls _ _ _ _) ?_; rintro e w2 ⟨rfl, hb2⟩))
      go_roundw
      case rel => exact ⟨k + 1, by omega, by go_num, ⟨below_seq hb.out hb2⟩⟩
      case measure => simp [intOf]; omega
    · obtain rfl : k = m := by omega
      go_wp2
      go_ret2
      exact ⟨rfl, hb.out⟩
theorem set_int {p r m c B i : Nat} {L s} (v : Int) (low : Int) {w : World} (h : Tab (Value.int .i64) 54 64 w p r m c B L) (hB : B ≤ 1000000) (hf : ∀ j, j < i → ∀ s, L[j]? = some s → s.taken = true) (hx : L[i]? = some s) (ht : s.taken = false) :
    Calls Try.prog 9 #[.pointer (some ⟨p, 0, none⟩), (Value.int .i64) v, .int .i64 low] w fun e w' => e = .returned (.tuple #[.int .i64 (numb m i s : Nat), .int .i64 0]) ∧ Tab (Value.int .i64) 54 64 w' p r m c B (L.set i (took s v low)) ∧ Fr (fun b => b = r) w w' := by
  have h1 := h.max
  have hi : i < m := by rw [← h.len]; exact (List.getElem?_eq_some_iff.1 hx).1
  have hne : ¬ r = p := Ne.symm h.ne
  have hne2 : ¬ p = r := h.ne
  have H := Hd.mk h; have HF := Hd.mk hf; have HX := Hd.mk hx; have HT := Hd.mk ht; clear h hf hx ht
  go_enter Try.func9, Try.ntmps9
  go_wp2_with (go_at_call 21; go_must (refine Calls.mono (room_int (H.out.below (by repeat (first | (with_reducible assumption) | (with_reducible exact Below.refl _ _) | (with_reducible apply below_drewL) | (with_reducible apply below_alloc) | (with_reducible apply below_drew1) | (with_reducible apply below_drewN) | (refine below_set ?_ (by first | omega | (simp only [size_alloc, size_drew, size_set]; omega)) _ _))))) ?_; rintro e w1 ⟨rfl, hw⟩; subst hw))
  go_loopw [11] (fun x wr => ∃ k : Nat, k ≤ i ∧ x = .int .i64 k ∧ Hd (Below w1.heap.size w1 wr)) (fun x _ => m - (intOf x).toNat)
  case atStart => exact ⟨0, Nat.zero_le _, rfl, ⟨Below.refl _ _⟩⟩
  case round =>
    obtain ⟨k, hk, rfl, hb⟩ := hrel
    have H1 := Hd.mk (H.out.below hb.out)
    have hs := H1.out.str
    have hsc0 := blk_cell hs 0 _ rfl; have hsf0 := blk_frozen hs 0; have hsl := blk_lt hs
    have hrl := H1.out.row.lt
    by_cases hlt : k < i
    · obtain ⟨s', hx⟩ : ∃ s', L[k]? = some s' := ⟨_, List.getElem?_eq_getElem (by rw [H.out.len]; omega)⟩
      have hc0 : wr.cell? ⟨r, k * 4, none⟩ = some (.bool true) := H1.out.row.cell (j := 0) (slot_len _) hx (by rw [← HF.out k hlt s' hx]; rfl)
      have hc1 : wr.cell? ⟨r, k * 4 + 1, none⟩ = some (.int .i64 s'.times) := H1.out.row.cell (slot_len _) hx rfl
      have hc2 : wr.cell? ⟨r, k * 4 + 2, none⟩ = some (.int .i64 s'.low) := H1.out.row.cell (slot_len _) hx rfl
      clear hs hx
      go_wp2_with (go_at_call 28; go_must (refine Calls.mono (free_calls _ _ _ _) ?_; rintro e w2 ⟨rfl, hb2⟩))
      go_roundw
      case rel => exact ⟨k + 1, by omega, by go_num, ⟨below_seq hb.out hb2⟩⟩
      case measure => simp [intOf]; omega
    · obtain rfl : k = i := by omega
      have hc0 : wr.cell? ⟨r, k * 4, none⟩ = some (.bool false) := H1.out.row.cell (j := 0) (slot_len _) HX.out (by rw [← HT.out]; rfl)
      have hc1 : wr.cell? ⟨r, k * 4 + 1, none⟩ = some (.int .i64 s.times) := H1.out.row.cell (slot_len _) HX.out rfl
      have hc2 : wr.cell? ⟨r, k * 4 + 2, none⟩ = some (.int .i64 s.low) := H1.out.row.cell (slot_len _) HX.out rfl
      go_wp2_with (go_at_call 28; go_must (refine Calls.mono (free_calls _ _ _ _) ?_; rintro e w2 ⟨rfl, hb2⟩; have H2 := Hd.mk (H1.out.below hb2); have hs2 := blk_below hs hb2; clear hsc0 hsf0 hsl; clear hc0 hc1 hc2 hs hrl; have hs2c0 := blk_cell hs2 0 _ rfl; have hs2f0 := blk_frozen hs2 0; have hs2l := blk_lt hs2; have hd0 : w2.cell? ⟨r, k * 4, none⟩ = some (.bool false) := H2.out.row.cell (j := 0) (slot_len _) HX.out (by rw [← HT.out]; rfl); have hd2 : w2.cell? ⟨r, k * 4 + 2, none⟩ = some (.int .i64 s.low) := H2.out.row.cell (slot_len _) HX.out rfl; have hd3 : w2.cell? ⟨r, k * 4 + 3, none⟩ = some ((Value.int .i64) s.v) := H2.out.row.cell (slot_len _) HX.out rfl; have hrl := H2.out.row.lt; have hf0 := H2.out.row.frozen (k * 4); have hf2 := H2.out.row.frozen (k * 4 + 2); have hf3 := H2.out.row.frozen (k * 4 + 3)))
      refine wp_region_can (.q [0, 1, 2, 3, 4, 5, 6, 7, 8, 9, 10, 11, 12, 13, 14, 15, 16, 17, 18] (.e 19 true (.q [20, 21, 22] (.e 23 true (.q [24, 25, 26] (.e 27 false (.done))))))) (clsX (fun b => b = r) _) (by kernel_rfl) (by kernel_rfl) (by intro _ _ d _ _ h; cases d <;> exact h) (clsX_drew _ _) ?_
      refine can_q (l := [⟨_,_,_,_,_,_⟩, ⟨_,_,_,_,_,_⟩, ⟨_,_,_,_,_,_⟩, ⟨_,_,_,_,_,_⟩, ⟨_,_,_,_,_,_⟩, ⟨_,_,_,_,_,_⟩, ⟨_,_,_,_,_,_⟩, ⟨_,_,_,_,_,_⟩, ⟨_,_,_,_,_,_⟩, ⟨_,_,_,_,_,_⟩, ⟨_,_,_,_,_,_⟩, ⟨_,_,_,_,_,_⟩, ⟨_,_,_,_,_,_⟩, ⟨_,_,_,_,_,_⟩, ⟨_,_,_,_,_,_⟩, ⟨_,_,_,_,_,_⟩, ⟨_,_,_,_,_,_⟩, ⟨_,_,_,_,_,_⟩, ⟨_,_,_,_,_,_⟩]) rfl ?_
      repeat (go_big_quiet_step (fail))
      refine wpQuiet_nil ?_
      refine can_e (o := ⟨_,_,_,_,_,_⟩) rfl (fun K hK => ?_)
      go_wp2_with fail
      first | refine onK_normal (hK _ _ ⟨clsX _ _, clsX_drew _ _, fun _ => clsX_next ?_ ?_, ?_⟩) | refine onK_normal (hK _ _ ⟨clsX _ _, clsX_self _ _, fun _ => clsX_next ?_ ?_, ?_⟩)
      · simp only [size_alloc, size_drew, size_set]; omega
      · intro b_ hb_ hW_; repeat (first | rfl | (rw [Below.heap_setCell _ _ _ _ (by intro he_; exact hW_ (by first | exact he_ | exact .inl he_ | exact .inr he_))]) | (rw [Below.heap_alloc _ _ _ (by simp only [size_alloc, size_drew, size_set]; omega)]))
      clear hK K
      refine can_q (l := [⟨_,_,_,_,_,_⟩, ⟨_,_,_,_,_,_⟩, ⟨_,_,_,_,_,_⟩]) rfl ?_
      repeat (go_big_quiet_step (fail))
      refine wpQuiet_nil ?_
      refine can_e (o := ⟨_,_,_,_,_,_⟩) rfl (fun K hK => ?_)
      go_wp2_with fail
      first | refine onK_normal (hK _ _ ⟨clsX _ _, clsX_drew _ _, fun _ => clsX_next ?_ ?_, ?_⟩) | refine onK_normal (hK _ _ ⟨clsX _ _, clsX_self _ _, fun _ => clsX_next ?_ ?_, ?_⟩)
      · simp only [size_alloc, size_drew, size_set]; omega
      · intro b_ hb_ hW_; repeat (first | rfl | (rw [Below.heap_setCell _ _ _ _ (by intro he_; exact hW_ (by first | exact he_ | exact .inl he_ | exact .inr he_))]) | (rw [Below.heap_alloc _ _ _ (by simp only [size_alloc, size_drew, size_set]; omega)]))
      clear hK K
      refine can_q (l := [⟨_,_,_,_,_,_⟩, ⟨_,_,_,_,_,_⟩, ⟨_,_,_,_,_,_⟩]) rfl ?_
      repeat (go_big_quiet_step (fail))
      refine wpQuiet_nil ?_
      refine can_e (o := ⟨_,_,_,_,_,_⟩) rfl (fun K hK => ?_)
      go_wp2_with fail
      refine onK_normal (hK _ _ ⟨fun _ => True, trivial, (fun h => by cases h), ?_⟩)
      clear hK K
      refine can_done ?_
      generalize hW : World.drew (World.setCell _ _ _) = W
      have hil : k < L.length := by rw [H.out.len]; exact hi
      have q3 := H2.out.row.set (j := 3) (x := s) (y := (⟨false, s.times, s.low, v⟩ : Slot _)) (v := (Value.int .i64) v) (slot_len _) HX.out (by decide) (by rw [← HT.out]; rfl)
      have q2 := q3.set (j := 2) (x := ⟨false, s.times, s.low, v⟩) (y := (⟨false, s.times, low, v⟩ : Slot _)) (v := .int .i64 low) (slot_len _) (by rw [List.getElem?_set_self hil]) (by decide) rfl
      have q0 := q2.set0 (x := ⟨false, s.times, low, v⟩) (y := (⟨true, s.times, low, v⟩ : Slot _)) (v := .bool true) (slot_len _) (by rw [List.getElem?_set_self (by simpa using hil)]) (by decide) rfl
      simp only [List.set_set] at q0
      have hT : Hd (Tab (Value.int .i64) 54 64 W p r m c B (L.set k (took s v low))) := ⟨by
        rw [← hW]
        refine ⟨blk_drew (blk_far (blk_far (blk_far hs2 hne2 _) hne2 _) hne2 _), q0.move rfl, H2.out.ne, by rw [List.length_set]; exact H2.out.len, H2.out.cap, H2.out.pos, h1, fun x hx' => ?_⟩
        rcases List.mem_or_eq_of_mem_set hx' with hx' | rfl
        · exact H2.out.tms x hx'
        · exact H2.out.tms s (List.mem_of_getElem? HX.out)⟩
      have hF : Hd (Fr (fun b => b = r) w1 W) := ⟨by
        rw [← hW]
        exact (Fr.set (Fr.set (Fr.set ((Fr.of_below (X := fun b => b = r) hb.out).trans (Fr.of_below hb2)) (.inl rfl) _ _) (.inl rfl) _ _) (.inl rfl) _ _).drew⟩
      have hSg : (L.set k (took s v low))[k]? = some (took s v low) := List.getElem?_set_self hil
      have HS := Hd.mk hSg; clear hSg q0 q2 q3 hW H1 H2 hb2
      clear hs2c0 hs2f0 hs2l
      clear hs2 hd0 hd2 hd3 hrl hf0 hf2 hf3
      go_wp2_with (go_at_call 29; go_must (refine Calls.mono (number_int hT.out hB HS.out) ?_; rintro e w3 ⟨rfl, hb3⟩))
      go_ret2
      exact ⟨rfl, hT.out.below hb3, hF.out.trans (Fr.of_below hb3)⟩
end Go.Proofs.Ytofknjoaemiebaa.Fn
