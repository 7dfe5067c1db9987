/- TicketOrder: the walk. -/
import Derived.Test.YtipehakaiiofiaaT8
namespace Go.Proofs.Ytipehakaiiofiaa.Fn
open Go Go.RowKit Go.Proofs.Ytipehakaiiofiaa.Can Go.Proofs.Ytipehakaiiofiaa.Base
attribute [local go_sem] clsB AB.cell


set_option maxRecDepth 20000 in
set_option maxHeartbeats 2000000 in
theorem order_calls (s : Nat) (hs : s ≤ 255) (A : Option Addr) (c : Nat) (xs : List Act) (S : Nat → Prop) (w : World) (hS : ∀ k, S k → k < w.heap.size) (hC : Row actT w S A xs.length xs) :
    Calls Try.prog 3 #[.int .u8 s, .slice A xs.length c] w fun e w' => e = .returned (.bool true) ∧ Below w.heap.size w w' := by
  have hc := hC.le
  have HS := Hd.mk hS; clear hS
  have HC := Hd.mk hC; clear hC
  by_cases hlong : 120 < xs.length
  · go_enter Try.func3, Try.ntmps3
    go_wp2_with (go_at_call 6; refine Calls.mono (alive_calls _) ?_; rintro e w1 ⟨rfl, hb1⟩)
    go_ret
    exact ⟨rfl, hb1⟩
  · obtain ⟨m, hm⟩ : ∃ m, 1 + s % 12 = m := ⟨_, rfl⟩
    have hmI : (1 : Int) + (s : Int) % 12 = m := by rw [← hm]; simp
    have hm1 : m ≤ 12 := by omega
    have hm0 : 0 < m := by omega
    have hsm : seatsN m = m := by unfold seatsN; split <;> (try split) <;> omega
    have HSM := Hd.mk hsm; have HM := Hd.mk hm; clear hm hsm
    go_enter Try.func3, Try.ntmps3
    go_wp2_with (go_at_call 7; go_must (refine Calls.mono (new_int m w) ?_; rintro e w1 ⟨p, r, rfl, hp, hr, h0, hb1⟩; rw [HSM.out] at h0; have HD := Hd.mk h0; clear h0; have HB := Hd.mk hb1; clear hb1))
    go_loopw [7, 8, 25] (fun nx out i wr => ∃ k o cc nn held a : Nat, ∃ rs : List Int, k ≤ xs.length ∧ i = .int .i64 k ∧ nx = .int .i64 nn ∧ out = .int .i64 o ∧ nn ≤ k ∧ o ≤ k ∧ Hd (nn = o + cc) ∧ Hd (Desk (Value.int .i64) 42 3 wr p r m held (numsFrom o cc) rs a) ∧ Hd (Below w.heap.size w wr)) (fun _ _ i _ => xs.length - (intOf i).toNat)
    case atStart => exact ⟨0, 0, 0, 0, 0, 0, _, Nat.zero_le _, rfl, rfl, rfl, Nat.le_refl _, Nat.le_refl _, ⟨rfl⟩, HD, HB⟩
    case round =>
      clear HD HB hmI
      obtain ⟨k, o, cc, nn, held, a, rs, hk, rfl, rfl, rfl, hok, hoo, HN, HD, HB⟩ := hrel
      by_cases hlt : k < xs.length
      · obtain ⟨b, off, s, rfl, hb1, _, hp0, hp1⟩ := act_get (HC.out.below HS.out HB.out) k hlt
        by_cases hk0 : s.kind = 0
        · go_wp2_with (go_at_call 8; go_must (refine Calls.mono (seat_int (HD.out.below (by repeat (first | (with_reducible assumption) | (with_reducible exact Below.refl _ _) | (with_reducible apply below_drewL) | (with_reducible apply below_alloc) | (with_reducible apply below_drew1) | (with_reducible apply below_drewN) | (refine below_set ?_ (by first | omega | (simp only [size_alloc, size_drew, size_set]; omega)) _ _))))) ?_; rintro e w2 ⟨rfl, h, f2⟩; obtain ⟨held2, rs2, a2, HD2⟩ : ∃ held2 rs2 a2, Hd (Desk (.int .i64) 42 3 w2 p r m held2 (numsFrom o cc) rs2 a2) := ⟨_, _, _, ⟨h⟩⟩; clear h; have HB2 : Hd (Below w.heap.size w w2) := ⟨Fr.seq (below_seq HB.out (by repeat (first | (with_reducible assumption) | (with_reducible exact Below.refl _ _) | (with_reducible apply below_drewL) | (with_reducible apply below_alloc) | (with_reducible apply below_drew1) | (with_reducible apply below_drewN) | (refine below_set ?_ (by first | omega | (simp only [size_alloc, size_drew, size_set]; omega)) _ _)))) f2 (by simp only [size_alloc, size_drew, size_set]; have := HB.out.size; omega) (fun b hb hx => by omega)⟩; clear HD))
          have hsub : (nn : Int) - (o : Nat) = (cc : Nat) := by have := HN.out; omega
          have hz1 := HD2.out.held_
          have hz2 := HD2.out.in_
          simp only [nums_len] at hz2
          obtain ⟨fr, hfr⟩ : ∃ fr, m - held2 = fr := ⟨_, rfl⟩
          have hfr' : (held2 : Int) + fr = m := by omega
          have hfr2 : fr ≤ 12 := by omega
          have HF := Hd.mk hfr; clear hfr
          go_wp2_with (first
            | (go_at_call 14; go_must (refine Calls.mono (free_int HD2.out) ?_; rintro e w9 ⟨he, rfl⟩; obtain rfl : e = .returned (.int .i64 fr) := by rw [he, HF.out]))
            | (go_at_call 13; go_must (refine Calls.mono (waiting_int HD2.out) ?_; rintro e w9 ⟨he, rfl⟩; obtain rfl : e = .returned (.int .i64 (cc : Nat)) := by rw [he, nums_len]))
            | (go_at_call 12; go_must (refine Calls.mono (held_int HD2.out) ?_; rintro e w9 ⟨rfl, rfl⟩)))
          go_roundw
          case rel => exact ⟨k + 1, o, cc, nn, held2, a2, rs2, by omega, by go_num, by go_num, by go_num, by omega, by omega, HN, HD2, HB2⟩
          case measure => simp [intOf]; omega
        by_cases hk1 : s.kind = 1
        · by_cases hl : cc < held
          · go_wp2_with (go_at_call 9; go_must (refine Calls.mono (line_int nn (HD.out.below (by repeat (first | (with_reducible assumption) | (with_reducible exact Below.refl _ _) | (with_reducible apply below_drewL) | (with_reducible apply below_alloc) | (with_reducible apply below_drew1) | (with_reducible apply below_drewN) | (refine below_set ?_ (by first | omega | (simp only [size_alloc, size_drew, size_set]; omega)) _ _))))) ?_; rintro e w2 ⟨he, ⟨rs2, h⟩, f2⟩; rw [nums_len] at he h; obtain rfl : e = .returned (.bool true) := (by rw [he, decide_eq_true hl]); obtain ⟨held2, rs2, a2, HD2⟩ : ∃ held2 rs2 a2, Hd (Desk (.int .i64) 42 3 w2 p r m held2 (numsFrom o (cc + 1)) rs2 a2) := ⟨held, rs2, a, ⟨by rw [if_pos hl, HN.out, nums_snoc] at h; exact h⟩⟩; clear h; have HN2 : Hd (nn + 1 = o + (cc + 1)) := ⟨by have := HN.out; omega⟩; clear HN; have HB2 : Hd (Below w.heap.size w w2) := ⟨Fr.seq (below_seq HB.out (by repeat (first | (with_reducible assumption) | (with_reducible exact Below.refl _ _) | (with_reducible apply below_drewL) | (with_reducible apply below_alloc) | (with_reducible apply below_drew1) | (with_reducible apply below_drewN) | (refine below_set ?_ (by first | omega | (simp only [size_alloc, size_drew, size_set]; omega)) _ _)))) f2 (by simp only [size_alloc, size_drew, size_set]; have := HB.out.size; omega) (fun b hb hx => by omega)⟩; clear HD))
            have hsub : ((nn + 1) : Int) - (o : Nat) = ((cc + 1) : Nat) := by have := HN2.out; omega
            have hz1 := HD2.out.held_
            have hz2 := HD2.out.in_
            simp only [nums_len] at hz2
            obtain ⟨fr, hfr⟩ : ∃ fr, m - held2 = fr := ⟨_, rfl⟩
            have hfr' : (held2 : Int) + fr = m := by omega
            have hfr2 : fr ≤ 12 := by omega
            have HF := Hd.mk hfr; clear hfr
            go_wp2_with (first
              | (go_at_call 14; go_must (refine Calls.mono (free_int HD2.out) ?_; rintro e w9 ⟨he, rfl⟩; obtain rfl : e = .returned (.int .i64 fr) := by rw [he, HF.out]))
              | (go_at_call 13; go_must (refine Calls.mono (waiting_int HD2.out) ?_; rintro e w9 ⟨he, rfl⟩; obtain rfl : e = .returned (.int .i64 ((cc + 1) : Nat)) := by rw [he, nums_len]))
              | (go_at_call 12; go_must (refine Calls.mono (held_int HD2.out) ?_; rintro e w9 ⟨rfl, rfl⟩)))
            go_roundw
            case rel => exact ⟨k + 1, o, (cc + 1), (nn + 1), held2, a2, rs2, by omega, by go_num, by go_num, by go_num, by omega, by omega, HN2, HD2, HB2⟩
            case measure => simp [intOf]; omega
          · go_wp2_with (go_at_call 9; go_must (refine Calls.mono (line_int nn (HD.out.below (by repeat (first | (with_reducible assumption) | (with_reducible exact Below.refl _ _) | (with_reducible apply below_drewL) | (with_reducible apply below_alloc) | (with_reducible apply below_drew1) | (with_reducible apply below_drewN) | (refine below_set ?_ (by first | omega | (simp only [size_alloc, size_drew, size_set]; omega)) _ _))))) ?_; rintro e w2 ⟨he, ⟨rs2, h⟩, f2⟩; rw [nums_len] at he h; obtain rfl : e = .returned (.bool false) := (by rw [he, decide_eq_false hl]); obtain ⟨held2, rs2, a2, HD2⟩ : ∃ held2 rs2 a2, Hd (Desk (.int .i64) 42 3 w2 p r m held2 (numsFrom o cc) rs2 a2) := ⟨held, rs2, a, ⟨by rw [if_neg hl] at h; exact h⟩⟩; clear h; have HB2 : Hd (Below w.heap.size w w2) := ⟨Fr.seq (below_seq HB.out (by repeat (first | (with_reducible assumption) | (with_reducible exact Below.refl _ _) | (with_reducible apply below_drewL) | (with_reducible apply below_alloc) | (with_reducible apply below_drew1) | (with_reducible apply below_drewN) | (refine below_set ?_ (by first | omega | (simp only [size_alloc, size_drew, size_set]; omega)) _ _)))) f2 (by simp only [size_alloc, size_drew, size_set]; have := HB.out.size; omega) (fun b hb hx => by omega)⟩; clear HD))
            have hsub : (nn : Int) - (o : Nat) = (cc : Nat) := by have := HN.out; omega
            have hz1 := HD2.out.held_
            have hz2 := HD2.out.in_
            simp only [nums_len] at hz2
            obtain ⟨fr, hfr⟩ : ∃ fr, m - held2 = fr := ⟨_, rfl⟩
            have hfr' : (held2 : Int) + fr = m := by omega
            have hfr2 : fr ≤ 12 := by omega
            have HF := Hd.mk hfr; clear hfr
            go_wp2_with (first
              | (go_at_call 14; go_must (refine Calls.mono (free_int HD2.out) ?_; rintro e w9 ⟨he, rfl⟩; obtain rfl : e = .returned (.int .i64 fr) := by rw [he, HF.out]))
              | (go_at_call 13; go_must (refine Calls.mono (waiting_int HD2.out) ?_; rintro e w9 ⟨he, rfl⟩; obtain rfl : e = .returned (.int .i64 (cc : Nat)) := by rw [he, nums_len]))
              | (go_at_call 12; go_must (refine Calls.mono (held_int HD2.out) ?_; rintro e w9 ⟨rfl, rfl⟩)))
            go_roundw
            case rel => exact ⟨k + 1, o, cc, nn, held2, a2, rs2, by omega, by go_num, by go_num, by go_num, by omega, by omega, HN, HD2, HB2⟩
            case measure => simp [intOf]; omega
        by_cases hk2 : s.kind = 2
        · cases cc with
          | zero =>
            go_wp2_with (go_at_call 10; go_must (refine Calls.mono (callnil_int (HD.out.below (by repeat (first | (with_reducible assumption) | (with_reducible exact Below.refl _ _) | (with_reducible apply below_drewL) | (with_reducible apply below_alloc) | (with_reducible apply below_drew1) | (with_reducible apply below_drewN) | (refine below_set ?_ (by first | omega | (simp only [size_alloc, size_drew, size_set]; omega)) _ _))))) ?_; rintro e w2 ⟨rfl, hw⟩; obtain ⟨held2, rs2, a2, HD2⟩ : ∃ held2 rs2 a2, Hd (Desk (.int .i64) 42 3 w2 p r m held2 (numsFrom o 0) rs2 a2) := ⟨held, rs, a, ⟨by rw [hw]; exact HD.out.below (by repeat (first | (with_reducible assumption) | (with_reducible exact Below.refl _ _) | (with_reducible apply below_drewL) | (with_reducible apply below_alloc) | (with_reducible apply below_drew1) | (with_reducible apply below_drewN) | (refine below_set ?_ (by first | omega | (simp only [size_alloc, size_drew, size_set]; omega)) _ _)))⟩⟩; have HB2 : Hd (Below w.heap.size w w2) := ⟨by rw [hw]; exact below_seq HB.out (by repeat (first | (with_reducible assumption) | (with_reducible exact Below.refl _ _) | (with_reducible apply below_drewL) | (with_reducible apply below_alloc) | (with_reducible apply below_drew1) | (with_reducible apply below_drewN) | (refine below_set ?_ (by first | omega | (simp only [size_alloc, size_drew, size_set]; omega)) _ _)))⟩; clear HD hw))
            have hsub : (nn : Int) - (o : Nat) = (0 : Nat) := by have := HN.out; omega
            have hz1 := HD2.out.held_
            have hz2 := HD2.out.in_
            simp only [nums_len] at hz2
            obtain ⟨fr, hfr⟩ : ∃ fr, m - held2 = fr := ⟨_, rfl⟩
            have hfr' : (held2 : Int) + fr = m := by omega
            have hfr2 : fr ≤ 12 := by omega
            have HF := Hd.mk hfr; clear hfr
            go_wp2_with (first
              | (go_at_call 14; go_must (refine Calls.mono (free_int HD2.out) ?_; rintro e w9 ⟨he, rfl⟩; obtain rfl : e = .returned (.int .i64 fr) := by rw [he, HF.out]))
              | (go_at_call 13; go_must (refine Calls.mono (waiting_int HD2.out) ?_; rintro e w9 ⟨he, rfl⟩; obtain rfl : e = .returned (.int .i64 (0 : Nat)) := by rw [he, nums_len]))
              | (go_at_call 12; go_must (refine Calls.mono (held_int HD2.out) ?_; rintro e w9 ⟨rfl, rfl⟩)))
            go_roundw
            case rel => exact ⟨k + 1, o, 0, nn, held2, a2, rs2, by omega, by go_num, by go_num, by go_num, by omega, by omega, HN, HD2, HB2⟩
            case measure => simp [intOf]; omega
          | succ cc =>
            have HD' : Hd (Desk (.int .i64) 42 3 wr p r m held ((o : Int) :: numsFrom (o + 1) cc) rs a) := ⟨by rw [← nums_cons]; exact HD.out⟩
            have HN2 : Hd (nn = (o + 1) + cc) := ⟨by have := HN.out; omega⟩
            clear HN
            go_wp2_with (go_at_call 10; go_must (refine Calls.mono (call_int (HD'.out.below (by repeat (first | (with_reducible assumption) | (with_reducible exact Below.refl _ _) | (with_reducible apply below_drewL) | (with_reducible apply below_alloc) | (with_reducible apply below_drew1) | (with_reducible apply below_drewN) | (refine below_set ?_ (by first | omega | (simp only [size_alloc, size_drew, size_set]; omega)) _ _))))) ?_; rintro e w2 ⟨rfl, ⟨rs2, a2, h⟩, f2⟩; obtain ⟨held2, rs2, a2, HD2⟩ : ∃ held2 rs2 a2, Hd (Desk (.int .i64) 42 3 w2 p r m held2 (numsFrom (o + 1) cc) rs2 a2) := ⟨held, rs2, a2, ⟨h⟩⟩; clear h HD'; have HB2 : Hd (Below w.heap.size w w2) := ⟨Fr.seq (below_seq HB.out (by repeat (first | (with_reducible assumption) | (with_reducible exact Below.refl _ _) | (with_reducible apply below_drewL) | (with_reducible apply below_alloc) | (with_reducible apply below_drew1) | (with_reducible apply below_drewN) | (refine below_set ?_ (by first | omega | (simp only [size_alloc, size_drew, size_set]; omega)) _ _)))) f2 (by simp only [size_alloc, size_drew, size_set]; have := HB.out.size; omega) (fun b hb hx => by omega)⟩; clear HD))
            have hsub : (nn : Int) - ((o + 1) : Nat) = (cc : Nat) := by have := HN2.out; omega
            have hz1 := HD2.out.held_
            have hz2 := HD2.out.in_
            simp only [nums_len] at hz2
            obtain ⟨fr, hfr⟩ : ∃ fr, m - held2 = fr := ⟨_, rfl⟩
            have hfr' : (held2 : Int) + fr = m := by omega
            have hfr2 : fr ≤ 12 := by omega
            have HF := Hd.mk hfr; clear hfr
            go_wp2_with (first
              | (go_at_call 14; go_must (refine Calls.mono (free_int HD2.out) ?_; rintro e w9 ⟨he, rfl⟩; obtain rfl : e = .returned (.int .i64 fr) := by rw [he, HF.out]))
              | (go_at_call 13; go_must (refine Calls.mono (waiting_int HD2.out) ?_; rintro e w9 ⟨he, rfl⟩; obtain rfl : e = .returned (.int .i64 (cc : Nat)) := by rw [he, nums_len]))
              | (go_at_call 12; go_must (refine Calls.mono (held_int HD2.out) ?_; rintro e w9 ⟨rfl, rfl⟩)))
            go_roundw
            case rel => exact ⟨k + 1, (o + 1), cc, nn, held2, a2, rs2, by omega, by go_num, by go_num, by go_num, by omega, by omega, HN2, HD2, HB2⟩
            case measure => simp [intOf]; omega
        · go_wp2_with (go_at_call 11; go_must (refine Calls.mono (leave_int (HD.out.below (by repeat (first | (with_reducible assumption) | (with_reducible exact Below.refl _ _) | (with_reducible apply below_drewL) | (with_reducible apply below_alloc) | (with_reducible apply below_drew1) | (with_reducible apply below_drewN) | (refine below_set ?_ (by first | omega | (simp only [size_alloc, size_drew, size_set]; omega)) _ _))))) ?_; rintro e w2 ⟨rfl, h, f2⟩; obtain ⟨held2, rs2, a2, HD2⟩ : ∃ held2 rs2 a2, Hd (Desk (.int .i64) 42 3 w2 p r m held2 (numsFrom o cc) rs2 a2) := ⟨_, _, _, ⟨h⟩⟩; clear h; have HB2 : Hd (Below w.heap.size w w2) := ⟨Fr.seq (below_seq HB.out (by repeat (first | (with_reducible assumption) | (with_reducible exact Below.refl _ _) | (with_reducible apply below_drewL) | (with_reducible apply below_alloc) | (with_reducible apply below_drew1) | (with_reducible apply below_drewN) | (refine below_set ?_ (by first | omega | (simp only [size_alloc, size_drew, size_set]; omega)) _ _)))) f2 (by simp only [size_alloc, size_drew, size_set]; have := HB.out.size; omega) (fun b hb hx => by omega)⟩; clear HD))
          have hsub : (nn : Int) - (o : Nat) = (cc : Nat) := by have := HN.out; omega
          have hz1 := HD2.out.held_
          have hz2 := HD2.out.in_
          simp only [nums_len] at hz2
          obtain ⟨fr, hfr⟩ : ∃ fr, m - held2 = fr := ⟨_, rfl⟩
          have hfr' : (held2 : Int) + fr = m := by omega
          have hfr2 : fr ≤ 12 := by omega
          have HF := Hd.mk hfr; clear hfr
          go_wp2_with (first
            | (go_at_call 14; go_must (refine Calls.mono (free_int HD2.out) ?_; rintro e w9 ⟨he, rfl⟩; obtain rfl : e = .returned (.int .i64 fr) := by rw [he, HF.out]))
            | (go_at_call 13; go_must (refine Calls.mono (waiting_int HD2.out) ?_; rintro e w9 ⟨he, rfl⟩; obtain rfl : e = .returned (.int .i64 (cc : Nat)) := by rw [he, nums_len]))
            | (go_at_call 12; go_must (refine Calls.mono (held_int HD2.out) ?_; rintro e w9 ⟨rfl, rfl⟩)))
          go_roundw
          case rel => exact ⟨k + 1, o, cc, nn, held2, a2, rs2, by omega, by go_num, by go_num, by go_num, by omega, by omega, HN, HD2, HB2⟩
          case measure => simp [intOf]; omega
      · obtain rfl : k = xs.length := by omega
        go_wp2_with (go_at_call 6; go_must (refine Calls.mono (alive_calls _) ?_; rintro e w9 ⟨rfl, hb9⟩))
        go_ret
        exact ⟨rfl, below_seq HB.out hb9⟩
end Go.Proofs.Ytipehakaiiofiaa.Fn
