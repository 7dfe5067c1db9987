/- The law's own example. -/
import Derived.Test.YtipehakaiiofiaaT5
namespace Go.Proofs.Ytipehakaiiofiaa.Fn
open Go Go.RowKit Go.Proofs.Ytipehakaiiofiaa.Can Go.Proofs.Ytipehakaiiofiaa.Base
attribute [local go_sem] clsB AB.cell

set_option maxRecDepth 20000 in
set_option maxHeartbeats 2000000 in
theorem alive_calls (w : World) : Calls Try.prog 6 #[] w fun e w' => e = .returned (.bool true) ∧ Below w.heap.size w w' := by
  go_enter Try.func6, Try.ntmps6
  go_wp2_with (first
    | (go_at_call 29; go_must (refine Calls.mono (held_str h8) ?_; rintro e w10 ⟨rfl, rfl⟩))
    | (go_at_call 28; go_must (refine Calls.mono (waiting_str h8) ?_; rintro e w9 ⟨rfl, rfl⟩))
    | (go_at_call 24; have hq_ := f7; clear hq_; go_must (refine Calls.mono (seat_str h7) ?_; rintro e w8 ⟨he, h, f8⟩; obtain rfl : e = .returned (.bool true) := he; have h8 : Desk Value.string 50 9 w8 p r 2 2 [⟨#[98]⟩] rs7 a7 := h; clear h))
    | (go_at_call 27; go_must (refine Calls.mono (leave_str h6) ?_; rintro e w7 ⟨he, h, f7⟩; obtain rfl : e = .returned (.bool true) := he; have h7 : Desk Value.string 50 9 w7 p r 2 1 [⟨#[98]⟩] rs7 a7 := h; clear h))
    | (go_at_call 26; go_must (refine Calls.mono (call_str h5) ?_; rintro e w6 ⟨rfl, ⟨rs7, a7, h6⟩, f6⟩))
    | (go_at_call 24; have hq_ := f4; clear hq_; go_must (refine Calls.mono (seat_str h4) ?_; rintro e w5 ⟨he, h, f5⟩; obtain rfl : e = .returned (.bool false) := he; have h5 : Desk Value.string 50 9 w5 p r 2 2 [⟨#[97]⟩, ⟨#[98]⟩] rs4 0 := h; clear h))
    | (go_at_call 25; have hq_ := f3; clear hq_; go_must (refine Calls.mono (line_str ⟨#[98]⟩ h3) ?_; rintro e w4 ⟨he, ⟨rs4, h⟩, f4⟩; obtain rfl : e = .returned (.bool true) := he; have h4 : Desk Value.string 50 9 w4 p r 2 2 [⟨#[97]⟩, ⟨#[98]⟩] rs4 0 := h; clear h))
    | (go_at_call 24; have hq_ := f2; clear hq_; go_must (refine Calls.mono (seat_str h2) ?_; rintro e w3 ⟨he, h, f3⟩; obtain rfl : e = .returned (.bool true) := he; have h3 : Desk Value.string 50 9 w3 p r 2 2 [⟨#[97]⟩] rs2 0 := h; clear h))
    | (go_at_call 25; go_must (refine Calls.mono (line_str ⟨#[97]⟩ h1) ?_; rintro e w2 ⟨he, ⟨rs2, h⟩, f2⟩; obtain rfl : e = .returned (.bool true) := he; have h2 : Desk Value.string 50 9 w2 p r 2 1 [⟨#[97]⟩] rs2 0 := h; clear h))
    | (go_at_call 24; go_must (refine Calls.mono (seat_str h0) ?_; rintro e w1 ⟨he, h, f1⟩; obtain rfl : e = .returned (.bool true) := he; have h1 : Desk Value.string 50 9 w1 p r 2 1 [] _ 0 := h; clear h))
    | (go_at_call 23; go_must (refine Calls.mono (new_str 2 w) ?_; rintro e w0 ⟨p, r, rfl, hp, hr, h0, hb0⟩; replace h0 : Desk Value.string 50 9 w0 p r 2 0 [] _ 0 := h0)))
  go_ret
  exact ⟨rfl, Fr.seq hb0 (f1.trans (f2.trans (f3.trans (f4.trans (f5.trans (f6.trans (f7.trans f8))))))) hb0.size (fun b hb hx => by omega)⟩
end Go.Proofs.Ytipehakaiiofiaa.Fn
