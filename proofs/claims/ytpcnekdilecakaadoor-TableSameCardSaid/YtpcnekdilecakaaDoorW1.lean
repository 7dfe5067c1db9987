/- Letters, and parts of a name. -/
import Derived.Test.YtpcnekdilecakaaDoorT3
import Derived.Test.YtpcnekdilecakaaDoorCut
set_option linter.unusedVariables false
set_option linter.unusedSimpArgs false
namespace Go.Proofs.YtpcnekdilecakaaDoor.Tb
open Go Go.RowKit Go.Proofs.YtpcnekdilecakaaDoor.Can Go.Proofs.YtpcnekdilecakaaDoor.Base
attribute [local go_sem] clsB AB.cell

theorem letter_calls (w : World) (c : UInt8) : Calls Tryd.prog 80 #[.int .u8 (c.toNat : Int)] w fun e w' => e = .returned (.bool (letB c)) ∧ w' = w := by
  have hc : c.toNat < 256 := c.toNat_lt
  generalize hb : letB c = b
  unfold letB at hb
  generalize c.toNat = n at *
  go_enter Tryd.func80, Tryd.ntmps80
  go_wp2
  all_goals (go_ret; refine ⟨ret_bool ?_, rfl⟩; rw [← hb, Bool.eq_iff_iff]; simp; omega)
theorem part_calls (w : World) (c : UInt8) : Calls Tryd.prog 82 #[.int .u8 (c.toNat : Int)] w fun e w' => e = .returned (.bool (partB c)) ∧ w' = w := by
  have HJ := Hd.mk (letter_calls w c)
  have hc : c.toNat < 256 := c.toNat_lt
  generalize hb : partB c = b
  unfold partB at hb
  generalize letB c = lb at *
  generalize c.toNat = n at *
  cases lb with
  | true =>
    go_enter Tryd.func82, Tryd.ntmps82
    go_wp2_with (go_at_call 80; go_must (refine Calls.mono HJ.out ?_; rintro e w1 ⟨rfl, rfl⟩))
    all_goals (go_ret; refine ⟨ret_bool ?_, rfl⟩; rw [← hb, Bool.eq_iff_iff]; simp)
  | false =>
    go_enter Tryd.func82, Tryd.ntmps82
    go_wp2_with (go_at_call 80; go_must (refine Calls.mono HJ.out ?_; rintro e w1 ⟨rfl, rfl⟩))
    all_goals (go_ret; refine ⟨ret_bool ?_, rfl⟩; rw [← hb, Bool.eq_iff_iff]; simp; try omega)
/-- 1: a letter; 2: a digit. -/
def kindN (c : UInt8) : Int := if letB c = true then 1 else if partB c = true then 2 else 0
theorem kind_calls (w : World) (c : UInt8) : Calls Tryd.prog 78 #[.int .u8 (c.toNat : Int)] w fun e w' => e = .returned (.int .i64 (kindN c)) ∧ w' = w := by
  have hc : c.toNat < 256 := c.toNat_lt
  generalize hb : kindN c = b
  unfold kindN partB letB at hb
  generalize c.toNat = n at *
  by_cases h95 : n = 95
  · subst h95
    obtain rfl : (1 : Int) = b := by rw [← hb]; decide
    clear hb
    go_enter Tryd.func78, Tryd.ntmps78
    go_wp2
    go_ret
    exact ⟨rfl, rfl⟩
  · have h9 : ((n : Int) == 95) = false := by simp; omega
    go_enter Tryd.func78, Tryd.ntmps78
    go_wp2
    all_goals (go_ret; refine ⟨ret_int ?_, rfl⟩; rw [← hb])
    all_goals (first | (rw [if_pos (by simp; omega)]; done) | (rw [if_neg (by simp; omega), if_pos (by simp; omega)]; done) | (rw [if_neg (by simp; omega), if_neg (by simp; omega)]; done))
theorem kind_zero (c : UInt8) : (0 < kindN c) ↔ partB c = true := by
  unfold kindN
  cases h : letB c with
  | true => simp [let_part h]
  | false => cases partB c <;> simp
theorem kind_one (c : UInt8) : kindN c = 1 ↔ letB c = true := by
  unfold kindN
  cases h : letB c with
  | true => simp
  | false => cases partB c <;> simp
end Go.Proofs.YtpcnekdilecakaaDoor.Tb
