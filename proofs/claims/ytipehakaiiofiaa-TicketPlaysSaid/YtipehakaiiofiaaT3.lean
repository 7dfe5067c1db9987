/- What Seat and Leave compute. -/
import Derived.Test.YtipehakaiiofiaaT2
namespace Go.Proofs.Ytipehakaiiofiaa.Fn
open Go Go.RowKit Go.Proofs.Ytipehakaiiofiaa.Can Go.Proofs.Ytipehakaiiofiaa.Base
attribute [local go_sem] clsB AB.cell

theorem seat_int {p r m held a : Nat} {L rs} {w : World} (h : Desk (Value.int .i64) 42 3 w p r m held L rs a) : Calls Try.prog 8 #[.pointer (some ⟨p, 0, none⟩)] w fun e w' =>
    e = .returned (.bool (decide (held < m))) ∧ Desk (Value.int .i64) 42 3 w' p r m (if held < m then held + 1 else held) L rs a ∧ Fr (fun b => b = p ∨ b = r) w w' := by
  have hs := h.str
  have h1 := h.m1
  have h2 := h.held_
  have hsc0 := blk_cell hs 0 _ rfl; have hsf0 := blk_frozen hs 0; have hsc1 := blk_cell hs 1 _ rfl; have hsf1 := blk_frozen hs 1; have hsc2 := blk_cell hs 2 _ rfl; have hsf2 := blk_frozen hs 2; have hsc3 := blk_cell hs 3 _ rfl; have hsf3 := blk_frozen hs 3; have hsl := blk_lt hs
  by_cases hc : held < m
  · have h0 : ¬ ((m - held : Nat) : Int) = 0 := by omega
    have H := Hd.mk h
    clear h
    go_enter Try.func8, Try.ntmps8
    go_wp2_with (go_at_call 14; go_must (refine Calls.mono (free_int H.out) ?_; rintro e w1 ⟨rfl, rfl⟩))
    go_ret
    try rw [if_pos hc]
    refine ⟨by first | rfl | exact ret_bool (by simp [hc]), ⟨?_, ?_, H.out.ne, H.out.len, H.out.m0, H.out.m1, H.out.lt, by have := H.out.in_; omega, by omega, H.out.ring⟩, Fr.set (Fr.refl _ _) (.inl (.inl rfl)) _ _⟩
    · exact blk_set hs 3 _ _ rfl
    · exact blk_far H.out.row (Ne.symm H.out.ne) _
  · have h0 : ((m - held : Nat) : Int) = 0 := by omega
    have H := Hd.mk h
    clear h
    go_enter Try.func8, Try.ntmps8
    go_wp2_with (go_at_call 14; go_must (refine Calls.mono (free_int H.out) ?_; rintro e w1 ⟨rfl, rfl⟩))
    go_ret
    try rw [if_neg hc]
    exact ⟨by first | rfl | exact ret_bool (by simp [hc]), H.out, Fr.refl _ _⟩
theorem leave_int {p r m held a : Nat} {L rs} {w : World} (h : Desk (Value.int .i64) 42 3 w p r m held L rs a) : Calls Try.prog 11 #[.pointer (some ⟨p, 0, none⟩)] w fun e w' =>
    e = .returned (.bool (decide (L.length < held))) ∧ Desk (Value.int .i64) 42 3 w' p r m (if L.length < held then held - 1 else held) L rs a ∧ Fr (fun b => b = p ∨ b = r) w w' := by
  have hs := h.str
  have h1 := h.m1
  have h2 := h.held_
  have h3 := h.in_
  have hsc0 := blk_cell hs 0 _ rfl; have hsf0 := blk_frozen hs 0; have hsc1 := blk_cell hs 1 _ rfl; have hsf1 := blk_frozen hs 1; have hsc2 := blk_cell hs 2 _ rfl; have hsf2 := blk_frozen hs 2; have hsc3 := blk_cell hs 3 _ rfl; have hsf3 := blk_frozen hs 3; have hsl := blk_lt hs
  have H := Hd.mk h
  clear h
  by_cases hc : L.length < held
  · have h0 : ¬ (held : Int) = L.length := by omega
    go_enter Try.func11, Try.ntmps11
    go_wp2_with (first | (go_at_call 13; go_must (refine Calls.mono (waiting_int H.out) ?_; rintro e w1 ⟨rfl, rfl⟩)) | (go_at_call 12; go_must (refine Calls.mono (held_int H.out) ?_; rintro e w1 ⟨rfl, rfl⟩)))
    go_ret
    try rw [if_pos hc]
    have he : (held : Int) - 1 = ((held - 1 : Nat) : Int) := by omega
    rw [he]
    refine ⟨by first | rfl | exact ret_bool (by simp [hc]), ⟨?_, ?_, H.out.ne, H.out.len, H.out.m0, H.out.m1, H.out.lt, by omega, by omega, H.out.ring⟩, Fr.set (Fr.refl _ _) (.inl (.inl rfl)) _ _⟩
    · exact blk_set hs 3 _ _ rfl
    · exact blk_far H.out.row (Ne.symm H.out.ne) _
  · have h0 : (held : Int) = L.length := by omega
    have h0' := Hd.mk h0
    go_enter Try.func11, Try.ntmps11
    go_wp2_with (first | (go_at_call 13; go_must (refine Calls.mono (waiting_int H.out) ?_; rintro e w1 ⟨rfl, rfl⟩)) | (go_at_call 12; go_must (refine Calls.mono (held_int H.out) ?_; rintro e w1 ⟨rfl, rfl⟩)))
    go_ret
    try rw [if_neg hc]
    exact ⟨by first | rfl | exact ret_bool (by simp [hc]), H.out, Fr.refl _ _⟩
theorem line_int {p r m held a : Nat} {L rs} (v : Int) {w : World} (h : Desk (Value.int .i64) 42 3 w p r m held L rs a) : Calls Try.prog 9 #[.pointer (some ⟨p, 0, none⟩), (Value.int .i64) v] w fun e w' =>
    e = .returned (.bool (decide (L.length < held))) ∧ (∃ rs', Desk (Value.int .i64) 42 3 w' p r m held (if L.length < held then L ++ [v] else L) rs' a) ∧ Fr (fun b => b = p ∨ b = r) w w' := by
  have hs := h.str
  have h1 := h.m1
  have h2 := h.held_
  have h3 := h.in_
  have h4 := h.lt
  have hsc0 := blk_cell hs 0 _ rfl; have hsf0 := blk_frozen hs 0; have hsc1 := blk_cell hs 1 _ rfl; have hsf1 := blk_frozen hs 1; have hsc2 := blk_cell hs 2 _ rfl; have hsf2 := blk_frozen hs 2; have hsc3 := blk_cell hs 3 _ rfl; have hsf3 := blk_frozen hs 3; have hsl := blk_lt hs
  have H := Hd.mk h
  clear h
  by_cases hc : L.length < held
  · have h0 : ¬ (held : Int) = L.length := by omega
    obtain ⟨i, hi⟩ : ∃ i, (a + L.length) % m = i := ⟨_, rfl⟩
    have him : i < m := by rw [← hi]; exact Nat.mod_lt _ (by omega)
    have hiI : ((a : Int) + L.length) % m = (i : Int) := by rw [← hi]; simp
    have HI := Hd.mk hi; clear hi
    have hcell := blk_cell H.out.row i _ (Array.getElem?_eq_getElem (show i < ((rs.map (Value.int .i64)).toArray).size by simp [H.out.len]; exact him))
    have hfro := blk_frozen H.out.row i
    have hne : ¬ r = p := Ne.symm H.out.ne
    have hne2 : ¬ p = r := H.out.ne
    have hrl := blk_lt H.out.row
    go_enter Try.func9, Try.ntmps9
    go_wp2_with (first | (go_at_call 13; go_must (refine Calls.mono (waiting_int H.out) ?_; rintro e w1 ⟨rfl, rfl⟩)) | (go_at_call 12; go_must (refine Calls.mono (held_int H.out) ?_; rintro e w1 ⟨rfl, rfl⟩)))
    refine wp_region_can (.q [0, 1, 2, 3, 4, 5, 6, 7, 8, 9, 10, 11, 12, 13, 14, 15, 16, 17, 18, 19, 20] (.e 21 false (.done))) (clsB _) (by kernel_rfl) (by kernel_rfl) (by intro _ _ d _ _ h; cases d <;> exact h) (clsB_drew _) ?_
    refine can_q (l := [⟨_,_,_,_,_,_⟩, ⟨_,_,_,_,_,_⟩, ⟨_,_,_,_,_,_⟩, ⟨_,_,_,_,_,_⟩, ⟨_,_,_,_,_,_⟩, ⟨_,_,_,_,_,_⟩, ⟨_,_,_,_,_,_⟩, ⟨_,_,_,_,_,_⟩, ⟨_,_,_,_,_,_⟩, ⟨_,_,_,_,_,_⟩, ⟨_,_,_,_,_,_⟩, ⟨_,_,_,_,_,_⟩, ⟨_,_,_,_,_,_⟩, ⟨_,_,_,_,_,_⟩, ⟨_,_,_,_,_,_⟩, ⟨_,_,_,_,_,_⟩, ⟨_,_,_,_,_,_⟩, ⟨_,_,_,_,_,_⟩, ⟨_,_,_,_,_,_⟩, ⟨_,_,_,_,_,_⟩, ⟨_,_,_,_,_,_⟩]) rfl ?_
    repeat (go_big_quiet_step (fail))
    refine wpQuiet_nil ?_
    refine can_e (o := ⟨_,_,_,_,_,_⟩) rfl (fun K hK => ?_)
    go_wp2_with fail
    refine onK_normal (hK _ _ ⟨fun _ => True, trivial, (fun h => by cases h), ?_⟩)
    clear hK K
    refine can_done ?_
    go_wp2
    go_ret
    try rw [if_pos hc]
    have hlen : (((L ++ [v]).length : Nat) : Int) = (L.length : Int) + 1 := by simp
    have hrg := H.out.ring.line (by have := H.out.len; omega) v
    rw [H.out.len, HI.out] at hrg
    refine ⟨by first | rfl | exact ret_bool (by simp [hc]), ⟨rs.set i v, ⟨?_, ?_, H.out.ne, by rw [List.length_set]; exact H.out.len, H.out.m0, H.out.m1, H.out.lt, by rw [List.length_append]; exact hc, H.out.held_, hrg⟩⟩, (Fr.set (Fr.set (Fr.refl _ _) (.inl (.inr rfl)) _ _) (.inl (.inl rfl)) _ _).drew⟩
    · rw [hlen]; exact blk_drew (blk_set (blk_far hs hne2 _) 2 _ _ rfl)
    · exact blk_drew (blk_far (blk_set H.out.row i _ _ (by simp [List.map_set])) hne _)
  · have h0 : (held : Int) = L.length := by omega
    have h0' := Hd.mk h0
    go_enter Try.func9, Try.ntmps9
    go_wp2_with (first | (go_at_call 13; go_must (refine Calls.mono (waiting_int H.out) ?_; rintro e w1 ⟨rfl, rfl⟩)) | (go_at_call 12; go_must (refine Calls.mono (held_int H.out) ?_; rintro e w1 ⟨rfl, rfl⟩)))
    go_ret
    try rw [if_neg hc]
    exact ⟨by first | rfl | exact ret_bool (by simp [hc]), ⟨_, H.out⟩, Fr.refl _ _⟩
theorem seat_str {p r m held a : Nat} {L rs} {w : World} (h : Desk (Value.string) 50 9 w p r m held L rs a) : Calls Try.prog 24 #[.pointer (some ⟨p, 0, none⟩)] w fun e w' =>
    e = .returned (.bool (decide (held < m))) ∧ Desk (Value.string) 50 9 w' p r m (if held < m then held + 1 else held) L rs a ∧ Fr (fun b => b = p ∨ b = r) w w' := by
  have hs := h.str
  have h1 := h.m1
  have h2 := h.held_
  have hsc0 := blk_cell hs 0 _ rfl; have hsf0 := blk_frozen hs 0; have hsc1 := blk_cell hs 1 _ rfl; have hsf1 := blk_frozen hs 1; have hsc2 := blk_cell hs 2 _ rfl; have hsf2 := blk_frozen hs 2; have hsc3 := blk_cell hs 3 _ rfl; have hsf3 := blk_frozen hs 3; have hsl := blk_lt hs
  by_cases hc : held < m
  · have h0 : ¬ ((m - held : Nat) : Int) = 0 := by omega
    have H := Hd.mk h
    clear h
    go_enter Try.func24, Try.ntmps24
    go_wp2_with (go_at_call 31; go_must (refine Calls.mono (free_str H.out) ?_; rintro e w1 ⟨rfl, rfl⟩))
    go_ret
    try rw [if_pos hc]
    refine ⟨by first | rfl | exact ret_bool (by simp [hc]), ⟨?_, ?_, H.out.ne, H.out.len, H.out.m0, H.out.m1, H.out.lt, by have := H.out.in_; omega, by omega, H.out.ring⟩, Fr.set (Fr.refl _ _) (.inl (.inl rfl)) _ _⟩
    · exact blk_set hs 3 _ _ rfl
    · exact blk_far H.out.row (Ne.symm H.out.ne) _
  · have h0 : ((m - held : Nat) : Int) = 0 := by omega
    have H := Hd.mk h
    clear h
    go_enter Try.func24, Try.ntmps24
    go_wp2_with (go_at_call 31; go_must (refine Calls.mono (free_str H.out) ?_; rintro e w1 ⟨rfl, rfl⟩))
    go_ret
    try rw [if_neg hc]
    exact ⟨by first | rfl | exact ret_bool (by simp [hc]), H.out, Fr.refl _ _⟩
theorem leave_str {p r m held a : Nat} {L rs} {w : World} (h : Desk (Value.string) 50 9 w p r m held L rs a) : Calls Try.prog 27 #[.pointer (some ⟨p, 0, none⟩)] w fun e w' =>
    e = .returned (.bool (decide (L.length < held))) ∧ Desk (Value.string) 50 9 w' p r m (if L.length < held then held - 1 else held) L rs a ∧ Fr (fun b => b = p ∨ b = r) w w' := by
  have hs := h.str
  have h1 := h.m1
  have h2 := h.held_
  have h3 := h.in_
  have hsc0 := blk_cell hs 0 _ rfl; have hsf0 := blk_frozen hs 0; have hsc1 := blk_cell hs 1 _ rfl; have hsf1 := blk_frozen hs 1; have hsc2 := blk_cell hs 2 _ rfl; have hsf2 := blk_frozen hs 2; have hsc3 := blk_cell hs 3 _ rfl; have hsf3 := blk_frozen hs 3; have hsl := blk_lt hs
  have H := Hd.mk h
  clear h
  by_cases hc : L.length < held
  · have h0 : ¬ (held : Int) = L.length := by omega
    go_enter Try.func27, Try.ntmps27
    go_wp2_with (first | (go_at_call 28; go_must (refine Calls.mono (waiting_str H.out) ?_; rintro e w1 ⟨rfl, rfl⟩)) | (go_at_call 29; go_must (refine Calls.mono (held_str H.out) ?_; rintro e w1 ⟨rfl, rfl⟩)))
    go_ret
    try rw [if_pos hc]
    have he : (held : Int) - 1 = ((held - 1 : Nat) : Int) := by omega
    rw [he]
    refine ⟨by first | rfl | exact ret_bool (by simp [hc]), ⟨?_, ?_, H.out.ne, H.out.len, H.out.m0, H.out.m1, H.out.lt, by omega, by omega, H.out.ring⟩, Fr.set (Fr.refl _ _) (.inl (.inl rfl)) _ _⟩
    · exact blk_set hs 3 _ _ rfl
    · exact blk_far H.out.row (Ne.symm H.out.ne) _
  · have h0 : (held : Int) = L.length := by omega
    have h0' := Hd.mk h0
    go_enter Try.func27, Try.ntmps27
    go_wp2_with (first | (go_at_call 28; go_must (refine Calls.mono (waiting_str H.out) ?_; rintro e w1 ⟨rfl, rfl⟩)) | (go_at_call 29; go_must (refine Calls.mono (held_str H.out) ?_; rintro e w1 ⟨rfl, rfl⟩)))
    go_ret
    try rw [if_neg hc]
    exact ⟨by first | rfl | exact ret_bool (by simp [hc]), H.out, Fr.refl _ _⟩
theorem line_str {p r m held a : Nat} {L rs} (v : ByteArray) {w : World} (h : Desk (Value.string) 50 9 w p r m held L rs a) : Calls Try.prog 25 #[.pointer (some ⟨p, 0, none⟩), (Value.string) v] w fun e w' =>
    e = .returned (.bool (decide (L.length < held))) ∧ (∃ rs', Desk (Value.string) 50 9 w' p r m held (if L.length < held then L ++ [v] else L) rs' a) ∧ Fr (fun b => b = p ∨ b = r) w w' := by
  have hs := h.str
  have h1 := h.m1
  have h2 := h.held_
  have h3 := h.in_
  have h4 := h.lt
  have hsc0 := blk_cell hs 0 _ rfl; have hsf0 := blk_frozen hs 0; have hsc1 := blk_cell hs 1 _ rfl; have hsf1 := blk_frozen hs 1; have hsc2 := blk_cell hs 2 _ rfl; have hsf2 := blk_frozen hs 2; have hsc3 := blk_cell hs 3 _ rfl; have hsf3 := blk_frozen hs 3; have hsl := blk_lt hs
  have H := Hd.mk h
  clear h
  by_cases hc : L.length < held
  · have h0 : ¬ (held : Int) = L.length := by omega
    obtain ⟨i, hi⟩ : ∃ i, (a + L.length) % m = i := ⟨_, rfl⟩
    have him : i < m := by rw [← hi]; exact Nat.mod_lt _ (by omega)
    have hiI : ((a : Int) + L.length) % m = (i : Int) := by rw [← hi]; simp
    have HI := Hd.mk hi; clear hi
    have hcell := blk_cell H.out.row i _ (Array.getElem?_eq_getElem (show i < ((rs.map (Value.string)).toArray).size by simp [H.out.len]; exact him))
    have hfro := blk_frozen H.out.row i
    have hne : ¬ r = p := Ne.symm H.out.ne
    have hne2 : ¬ p = r := H.out.ne
    have hrl := blk_lt H.out.row
    go_enter Try.func25, Try.ntmps25
    go_wp2_with (first | (go_at_call 28; go_must (refine Calls.mono (waiting_str H.out) ?_; rintro e w1 ⟨rfl, rfl⟩)) | (go_at_call 29; go_must (refine Calls.mono (held_str H.out) ?_; rintro e w1 ⟨rfl, rfl⟩)))
    refine wp_region_can (.q [0, 1, 2, 3, 4, 5, 6, 7, 8, 9, 10, 11, 12, 13, 14, 15, 16, 17, 18, 19, 20] (.e 21 false (.done))) (clsB _) (by kernel_rfl) (by kernel_rfl) (by intro _ _ d _ _ h; cases d <;> exact h) (clsB_drew _) ?_
    refine can_q (l := [⟨_,_,_,_,_,_⟩, ⟨_,_,_,_,_,_⟩, ⟨_,_,_,_,_,_⟩, ⟨_,_,_,_,_,_⟩, ⟨_,_,_,_,_,_⟩, ⟨_,_,_,_,_,_⟩, ⟨_,_,_,_,_,_⟩, ⟨_,_,_,_,_,_⟩, ⟨_,_,_,_,_,_⟩, ⟨_,_,_,_,_,_⟩, ⟨_,_,_,_,_,_⟩, ⟨_,_,_,_,_,_⟩, ⟨_,_,_,_,_,_⟩, ⟨_,_,_,_,_,_⟩, ⟨_,_,_,_,_,_⟩, ⟨_,_,_,_,_,_⟩, ⟨_,_,_,_,_,_⟩, ⟨_,_,_,_,_,_⟩, ⟨_,_,_,_,_,_⟩, ⟨_,_,_,_,_,_⟩, ⟨_,_,_,_,_,_⟩]) rfl ?_
    repeat (go_big_quiet_step (fail))
    refine wpQuiet_nil ?_
    refine can_e (o := ⟨_,_,_,_,_,_⟩) rfl (fun K hK => ?_)
    go_wp2_with fail
    refine onK_normal (hK _ _ ⟨fun _ => True, trivial, (fun h => by cases h), ?_⟩)
    clear hK K
    refine can_done ?_
    go_wp2
    go_ret
    try rw [if_pos hc]
    have hlen : (((L ++ [v]).length : Nat) : Int) = (L.length : Int) + 1 := by simp
    have hrg := H.out.ring.line (by have := H.out.len; omega) v
    rw [H.out.len, HI.out] at hrg
    refine ⟨by first | rfl | exact ret_bool (by simp [hc]), ⟨rs.set i v, ⟨?_, ?_, H.out.ne, by rw [List.length_set]; exact H.out.len, H.out.m0, H.out.m1, H.out.lt, by rw [List.length_append]; exact hc, H.out.held_, hrg⟩⟩, (Fr.set (Fr.set (Fr.refl _ _) (.inl (.inr rfl)) _ _) (.inl (.inl rfl)) _ _).drew⟩
    · rw [hlen]; exact blk_drew (blk_set (blk_far hs hne2 _) 2 _ _ rfl)
    · exact blk_drew (blk_far (blk_set H.out.row i _ _ (by simp [List.map_set])) hne _)
  · have h0 : (held : Int) = L.length := by omega
    have h0' := Hd.mk h0
    go_enter Try.func25, Try.ntmps25
    go_wp2_with (first | (go_at_call 28; go_must (refine Calls.mono (waiting_str H.out) ?_; rintro e w1 ⟨rfl, rfl⟩)) | (go_at_call 29; go_must (refine Calls.mono (held_str H.out) ?_; rintro e w1 ⟨rfl, rfl⟩)))
    go_ret
    try rw [if_neg hc]
    exact ⟨by first | rfl | exact ret_bool (by simp [hc]), ⟨_, H.out⟩, Fr.refl _ _⟩
end Go.Proofs.Ytipehakaiiofiaa.Fn
