/- Names, by the program and by the document: whole; places of names. -/
import Derived.Test.YtpcnekdilecakaaDoorW2
set_option linter.unusedVariables false
set_option linter.unusedSimpArgs false
namespace Go.Proofs.YtpcnekdilecakaaDoor.Tb
open Go Go.RowKit Go.Proofs.YtpcnekdilecakaaDoor.Can Go.Proofs.YtpcnekdilecakaaDoor.Base
attribute [local go_sem] clsB AB.cell

theorem lead_pos {s : ByteArray} (h : 0 < leadN s) : leadN s = ((bl s).takeWhile partB).length := by
  cases hb : bl s with
  | nil => rw [lead_nil hb] at h; omega
  | cons c l =>
    by_cases hc : letB c = true
    · rw [lead_yes hb hc, hb]
    · rw [lead_no hb hc] at h; omega
theorem lead_step {s : ByteArray} {k : Nat} {c : UInt8} (hk : k ≤ leadN s) (hc : (bl s)[k]? = some c) :
    (0 < k → (partB c = true → k + 1 ≤ leadN s) ∧ (partB c = false → leadN s = k)) ∧ (k = 0 → (letB c = true → k + 1 ≤ leadN s) ∧ (letB c = false → leadN s = k)) := by
  refine ⟨fun h0 => ?_, fun h0 => ?_⟩
  · have e := lead_pos (s := s) (by omega)
    rw [e] at hk ⊢
    exact span_more hk hc
  · subst h0
    obtain ⟨l, hl⟩ : ∃ l, bl s = c :: l := by
      cases hb : bl s with
      | nil => rw [hb] at hc; cases hc
      | cons a l => rw [hb] at hc; obtain rfl : a = c := by simpa using hc
                    exact ⟨l, rfl⟩
    refine ⟨fun h => ?_, fun h => lead_no hl (by rw [h]; decide)⟩
    rw [lead_yes hl h, hl, List.takeWhile_cons, if_pos (let_part h)]
    simp
theorem lead_all {s : ByteArray} (hk : s.size ≤ leadN s) : leadN s = s.size := by
  rcases Nat.eq_zero_or_pos (leadN s) with h | h
  · omega
  · have e := lead_pos h
    rw [e] at hk ⊢
    rw [← bl_len] at hk ⊢
    exact span_all (Nat.le_trans (Nat.le_refl _) hk) (Nat.le_refl _)
theorem rlead_calls (w : World) (s : ByteArray) (hs : s.size ≤ 9223372036854775807) : Calls Tryd.prog 70 #[.string s] w fun e w' => e = .returned (.int .i64 (leadN s : Nat)) ∧ Below w.heap.size w w' := by
  obtain ⟨t, ht⟩ : ∃ t, leadN s = t := ⟨_, rfl⟩
  have HT := Hd.mk ht
  rw [ht]
  clear ht
  go_enter Tryd.func70, Tryd.ntmps70
  go_wp2
  go_loopw [3] (fun i wr => ∃ k : Nat, k ≤ s.size ∧ i = .int .i64 k ∧ Hd (k ≤ t) ∧ Hd (Below w.heap.size w wr)) (fun i _ => s.size - (intOf i).toNat)
  case atStart => exact ⟨0, Nat.zero_le _, rfl, ⟨Nat.zero_le _⟩, ⟨Below.refl _ _⟩⟩
  case round =>
    obtain ⟨k, hk, rfl, HK, HB⟩ := hrel
    by_cases hlt : k < s.size
    · obtain ⟨c, hc⟩ := byte_at hlt
      have hix : ∀ W, (Instr.index 9 (.string s) (.int .i64 k)).run Tryd.prog W = .ok (.int .u8 (c.toNat : Int)) W := index_at s k c hc
      have HM : Hd ((0 < k → (partB c = true → k + 1 ≤ t) ∧ (partB c = false → t = k)) ∧ (k = 0 → (letB c = true → k + 1 ≤ t) ∧ (letB c = false → t = k))) := ⟨by rw [← HT.out]; exact lead_step (by rw [HT.out]; exact HK.out) hc⟩
      have HJ := Hd.mk (kind_calls wr c)
      have HP := Hd.mk (kind_zero c)
      have HQ := Hd.mk (kind_one c)
      clear hc
      generalize kindN c = x at *
      by_cases h0 : 0 < k
      · by_cases hx : 0 < x
        · go_wp2_with (go_at_call 78; go_must (refine Calls.mono HJ.out ?_; rintro e w1 ⟨rfl, rfl⟩))
          go_roundw
          case rel => exact ⟨k + 1, by omega, by go_num, ⟨(HM.out.1 h0).1 (HP.out.1 hx)⟩, HB⟩
          case measure => simp [intOf]; omega
        · go_wp2_with (go_at_call 78; go_must (refine Calls.mono HJ.out ?_; rintro e w1 ⟨rfl, rfl⟩))
          go_ret
          exact ⟨ret_int (by rw [(HM.out.1 h0).2 (by rw [Bool.eq_false_iff]; exact fun h => absurd (HP.out.2 h) (by omega))]), HB.out⟩
      · by_cases hx : 0 < x
        · by_cases h1 : x = 1
          · have HX1 := Hd.mk h1
            have hb1 : (x == 1) = true := by simpa using h1
            clear h1
            go_wp2_with (go_at_call 78; go_must (refine Calls.mono HJ.out ?_; rintro e w1 ⟨rfl, rfl⟩))
            go_roundw
            case rel => exact ⟨k + 1, by omega, by go_num, ⟨(HM.out.2 (by omega)).1 (HQ.out.1 HX1.out)⟩, HB⟩
            case measure => simp [intOf]; omega
          · have hb1 : (x == 1) = false := by simpa using h1
            have HX1 := Hd.mk h1
            clear h1
            go_wp2_with (go_at_call 78; go_must (refine Calls.mono HJ.out ?_; rintro e w1 ⟨rfl, rfl⟩))
            go_ret
            exact ⟨ret_int (by rw [(HM.out.2 (by omega)).2 (by rw [Bool.eq_false_iff]; exact fun h => HX1.out (HQ.out.2 h))]), HB.out⟩
        · go_wp2_with (go_at_call 78; go_must (refine Calls.mono HJ.out ?_; rintro e w1 ⟨rfl, rfl⟩))
          go_ret
          exact ⟨ret_int (by rw [(HM.out.2 (by omega)).2 (by rw [Bool.eq_false_iff]; exact fun h => absurd (HP.out.2 (let_part h)) (by omega))]), HB.out⟩
    · obtain rfl : k = s.size := by omega
      have HE : Hd (t = s.size) := ⟨by rw [← HT.out]; exact lead_all (by rw [HT.out]; exact HK.out)⟩
      go_wp2
      go_ret
      exact ⟨ret_int (by rw [HE.out]), HB.out⟩
theorem wName_calls (w : World) (s : ByteArray) (b : Bool) (hb : nameB s = b) (hs : s.size ≤ 9223372036854775807) : Calls Tryd.prog 55 #[.string s] w fun e w' => e = .returned (.bool b) ∧ Below w.heap.size w w' := by
  have HJ := Hd.mk (lead_calls w s hs)
  rw [name_is] at hb
  by_cases h0 : s.size = 0
  · have he : s.toList.isEmpty = true := (empty_is s).2 h0
    obtain rfl : b = false := by rw [← hb, decide_eq_false (by simp [h0])]; rfl
    clear hb h0
    go_enter Tryd.func55, Tryd.ntmps55
    go_wp2
    go_ret
    exact ⟨rfl, Below.refl _ _⟩
  · have he : s.toList.isEmpty = false := by rw [Bool.eq_false_iff]; exact fun h => h0 ((empty_is s).1 h)
    by_cases h32 : s.size ≤ 32
    · have h9 : ((leadN s : Int) == (s.size : Int)) = b := by rw [← hb, decide_eq_true h0, decide_eq_true h32]; simp only [Bool.true_and]; rw [Bool.eq_iff_iff]; simp; omega
      clear hb
      generalize leadN s = x at *
      cases b <;> (go_enter Tryd.func55, Tryd.ntmps55; go_wp2_with (go_at_call 73; go_must (refine Calls.mono HJ.out ?_; rintro e w1 ⟨rfl, hb_⟩; have HB1 := Hd.mk hb_; clear hb_)); go_ret; exact ⟨rfl, HB1.out⟩)
    · obtain rfl : b = false := by rw [← hb, decide_eq_false h32]; simp
      clear hb
      go_enter Tryd.func55, Tryd.ntmps55
      go_wp2
      go_ret
      exact ⟨rfl, Below.refl _ _⟩
theorem r04Name_calls (w : World) (s : ByteArray) (b : Bool) (hb : nameB s = b) (hs : s.size ≤ 9223372036854775807) : Calls Tryd.prog 51 #[.string s] w fun e w' => e = .returned (.bool b) ∧ Below w.heap.size w w' := by
  have HJ := Hd.mk (rlead_calls w s hs)
  rw [name_is] at hb
  by_cases h0 : s.size = 0
  · obtain rfl : b = false := by rw [← hb, decide_eq_false (by simp [h0])]; rfl
    clear hb
    go_enter Tryd.func51, Tryd.ntmps51
    go_wp2
    go_ret
    exact ⟨rfl, Below.refl _ _⟩
  · by_cases h32 : s.size ≤ 32
    · have h9 : ((leadN s : Int) == (s.size : Int)) = b := by rw [← hb, decide_eq_true h0, decide_eq_true h32]; simp only [Bool.true_and]; rw [Bool.eq_iff_iff]; simp; omega
      have hp : 0 < s.size := by omega
      clear hb
      generalize leadN s = x at *
      cases b <;> (go_enter Tryd.func51, Tryd.ntmps51; go_wp2_with (go_at_call 70; go_must (refine Calls.mono HJ.out ?_; rintro e w1 ⟨rfl, hb_⟩; have HB1 := Hd.mk hb_; clear hb_)); go_ret; exact ⟨rfl, HB1.out⟩)
    · obtain rfl : b = false := by rw [← hb, decide_eq_false h32]; simp
      have hp : 0 < s.size := by omega
      clear hb
      go_enter Tryd.func51, Tryd.ntmps51
      go_wp2
      go_ret
      exact ⟨rfl, Below.refl _ _⟩
end Go.Proofs.YtpcnekdilecakaaDoor.Tb
