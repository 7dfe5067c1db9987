/- What the calls that only look at a desk compute. -/
import Derived.Test.YtipehakaiiofiaaT1
namespace Go.Proofs.Ytipehakaiiofiaa.Fn
open Go Go.RowKit Go.Proofs.Ytipehakaiiofiaa.Can Go.Proofs.Ytipehakaiiofiaa.Base
attribute [local go_sem] clsB AB.cell

theorem seats_int {p r m held a : Nat} {L rs} {w : World} (h : Desk (Value.int .i64) 42 3 w p r m held L rs a) : Calls Try.prog 30 #[.pointer (some ⟨p, 0, none⟩)] w fun e w' => e = .returned (.int .i64 m) ∧ w' = w := by
  have hs := h.str
  have h1 := h.m1
  have hsc0 := blk_cell hs 0 _ rfl; have hsf0 := blk_frozen hs 0; have hsc1 := blk_cell hs 1 _ rfl; have hsf1 := blk_frozen hs 1; have hsc2 := blk_cell hs 2 _ rfl; have hsf2 := blk_frozen hs 2; have hsc3 := blk_cell hs 3 _ rfl; have hsf3 := blk_frozen hs 3; have hsl := blk_lt hs
  go_enter Try.func30, Try.ntmps30
  go_wp2
  go_ret
  exact ⟨rfl, rfl⟩
theorem held_int {p r m held a : Nat} {L rs} {w : World} (h : Desk (Value.int .i64) 42 3 w p r m held L rs a) : Calls Try.prog 12 #[.pointer (some ⟨p, 0, none⟩)] w fun e w' => e = .returned (.int .i64 held) ∧ w' = w := by
  have hs := h.str
  have hsc0 := blk_cell hs 0 _ rfl; have hsf0 := blk_frozen hs 0; have hsc1 := blk_cell hs 1 _ rfl; have hsf1 := blk_frozen hs 1; have hsc2 := blk_cell hs 2 _ rfl; have hsf2 := blk_frozen hs 2; have hsc3 := blk_cell hs 3 _ rfl; have hsf3 := blk_frozen hs 3; have hsl := blk_lt hs
  go_enter Try.func12, Try.ntmps12
  go_wp2
  go_ret
  exact ⟨rfl, rfl⟩
theorem waiting_int {p r m held a : Nat} {L rs} {w : World} (h : Desk (Value.int .i64) 42 3 w p r m held L rs a) : Calls Try.prog 13 #[.pointer (some ⟨p, 0, none⟩)] w fun e w' => e = .returned (.int .i64 L.length) ∧ w' = w := by
  have hs := h.str
  have hsc0 := blk_cell hs 0 _ rfl; have hsf0 := blk_frozen hs 0; have hsc1 := blk_cell hs 1 _ rfl; have hsf1 := blk_frozen hs 1; have hsc2 := blk_cell hs 2 _ rfl; have hsf2 := blk_frozen hs 2; have hsc3 := blk_cell hs 3 _ rfl; have hsf3 := blk_frozen hs 3; have hsl := blk_lt hs
  go_enter Try.func13, Try.ntmps13
  go_wp2
  go_ret
  exact ⟨rfl, rfl⟩
theorem free_int {p r m held a : Nat} {L rs} {w : World} (h : Desk (Value.int .i64) 42 3 w p r m held L rs a) : Calls Try.prog 14 #[.pointer (some ⟨p, 0, none⟩)] w fun e w' => e = .returned (.int .i64 ((m - held : Nat) : Int)) ∧ w' = w := by
  have h1 := h.m1
  have h2 := h.held_
  go_enter Try.func14, Try.ntmps14
  go_wp2_with (first | (go_at_call 30; refine Calls.mono (seats_int h) ?_; rintro e w1 ⟨rfl, rfl⟩) | (go_at_call 12; refine Calls.mono (held_int h) ?_; rintro e w1 ⟨rfl, rfl⟩))
  go_ret
  exact ⟨ret_int (by omega), rfl⟩
theorem seats_str {p r m held a : Nat} {L rs} {w : World} (h : Desk (Value.string) 50 9 w p r m held L rs a) : Calls Try.prog 33 #[.pointer (some ⟨p, 0, none⟩)] w fun e w' => e = .returned (.int .i64 m) ∧ w' = w := by
  have hs := h.str
  have h1 := h.m1
  have hsc0 := blk_cell hs 0 _ rfl; have hsf0 := blk_frozen hs 0; have hsc1 := blk_cell hs 1 _ rfl; have hsf1 := blk_frozen hs 1; have hsc2 := blk_cell hs 2 _ rfl; have hsf2 := blk_frozen hs 2; have hsc3 := blk_cell hs 3 _ rfl; have hsf3 := blk_frozen hs 3; have hsl := blk_lt hs
  go_enter Try.func33, Try.ntmps33
  go_wp2
  go_ret
  exact ⟨rfl, rfl⟩
theorem held_str {p r m held a : Nat} {L rs} {w : World} (h : Desk (Value.string) 50 9 w p r m held L rs a) : Calls Try.prog 29 #[.pointer (some ⟨p, 0, none⟩)] w fun e w' => e = .returned (.int .i64 held) ∧ w' = w := by
  have hs := h.str
  have hsc0 := blk_cell hs 0 _ rfl; have hsf0 := blk_frozen hs 0; have hsc1 := blk_cell hs 1 _ rfl; have hsf1 := blk_frozen hs 1; have hsc2 := blk_cell hs 2 _ rfl; have hsf2 := blk_frozen hs 2; have hsc3 := blk_cell hs 3 _ rfl; have hsf3 := blk_frozen hs 3; have hsl := blk_lt hs
  go_enter Try.func29, Try.ntmps29
  go_wp2
  go_ret
  exact ⟨rfl, rfl⟩
theorem waiting_str {p r m held a : Nat} {L rs} {w : World} (h : Desk (Value.string) 50 9 w p r m held L rs a) : Calls Try.prog 28 #[.pointer (some ⟨p, 0, none⟩)] w fun e w' => e = .returned (.int .i64 L.length) ∧ w' = w := by
  have hs := h.str
  have hsc0 := blk_cell hs 0 _ rfl; have hsf0 := blk_frozen hs 0; have hsc1 := blk_cell hs 1 _ rfl; have hsf1 := blk_frozen hs 1; have hsc2 := blk_cell hs 2 _ rfl; have hsf2 := blk_frozen hs 2; have hsc3 := blk_cell hs 3 _ rfl; have hsf3 := blk_frozen hs 3; have hsl := blk_lt hs
  go_enter Try.func28, Try.ntmps28
  go_wp2
  go_ret
  exact ⟨rfl, rfl⟩
theorem free_str {p r m held a : Nat} {L rs} {w : World} (h : Desk (Value.string) 50 9 w p r m held L rs a) : Calls Try.prog 31 #[.pointer (some ⟨p, 0, none⟩)] w fun e w' => e = .returned (.int .i64 ((m - held : Nat) : Int)) ∧ w' = w := by
  have h1 := h.m1
  have h2 := h.held_
  go_enter Try.func31, Try.ntmps31
  go_wp2_with (first | (go_at_call 33; refine Calls.mono (seats_str h) ?_; rintro e w1 ⟨rfl, rfl⟩) | (go_at_call 29; refine Calls.mono (held_str h) ?_; rintro e w1 ⟨rfl, rfl⟩))
  go_ret
  exact ⟨ret_int (by omega), rfl⟩
end Go.Proofs.Ytipehakaiiofiaa.Fn
