/- Names, by the program and by the document. -/
import Derived.Test.YtpcnekdilecakaaDoorW1
import Derived.Deep.DeepCutAuto
import Derived.Deep.CutBlock
set_option linter.unusedVariables false
set_option linter.unusedSimpArgs false
namespace Go.Proofs.YtpcnekdilecakaaDoor.Tb
open Go Go.RowKit Go.Proofs.YtpcnekdilecakaaDoor.Can Go.Proofs.YtpcnekdilecakaaDoor.Base
attribute [local go_sem] clsB AB.cell

theorem index_at (X : ByteArray) (q : Nat) (b : UInt8) (h : (bl X)[q]? = some b) (W : World) : (Instr.index 9 (.string X) (.int .i64 q)).run Tryd.prog W = .ok (.int .u8 (b.toNat : Int)) W := Df.index_at X q b h W
theorem byte_at {s : ByteArray} {k : Nat} (h : k < s.size) : ∃ b, (bl s)[k]? = some b := ⟨_, List.getElem?_eq_getElem (by rw [bl_len]; exact h)⟩
theorem empty_is (s : ByteArray) : (s.toList.isEmpty = true) ↔ s.size = 0 := by
  rw [← Go.decide_eq_emptyBytes, decide_eq_true_eq]
  exact ⟨fun h => by rw [h]; rfl, fun h => bl_inj (List.eq_nil_of_length_eq_zero h)⟩
theorem span_calls (w : World) (s : ByteArray) (hs : s.size ≤ 9223372036854775807) : Calls Tryd.prog 81 #[.string s, .func (.func 82) #[] #[]] w fun e w' => e = .returned (.int .i64 (((bl s).takeWhile partB).length : Nat)) ∧ Below w.heap.size w w' := by
  obtain ⟨t, ht⟩ : ∃ t, (bl s).takeWhile partB = t := ⟨_, rfl⟩
  have HT := Hd.mk ht
  rw [ht]
  clear ht
  go_enter Tryd.func81, Tryd.ntmps81
  go_wp2
  go_loopw [5] (fun i wr => ∃ k : Nat, k ≤ s.size ∧ i = .int .i64 k ∧ Hd (k ≤ t.length) ∧ Hd (Below w.heap.size w wr)) (fun i _ => s.size - (intOf i).toNat)
  case atStart => exact ⟨0, Nat.zero_le _, rfl, ⟨Nat.zero_le _⟩, ⟨Below.refl _ _⟩⟩
  case round =>
    obtain ⟨k, hk, rfl, HK, HB⟩ := hrel
    by_cases hlt : k < s.size
    · obtain ⟨c, hc⟩ := byte_at hlt
      have hix : ∀ W, (Instr.index 9 (.string s) (.int .i64 k)).run Tryd.prog W = .ok (.int .u8 (c.toNat : Int)) W := index_at s k c hc
      have HM : Hd ((partB c = true → k + 1 ≤ t.length) ∧ (partB c = false → t.length = k)) := ⟨by rw [← HT.out]; exact span_more (by rw [HT.out]; exact HK.out) hc⟩
      have HJ := Hd.mk (part_calls wr c)
      clear hc
      cases hp : partB c with
      | true =>
        rw [hp] at HJ HM
        clear hp
        go_wp2_with (go_at_call 82; go_must (refine Calls.mono HJ.out ?_; rintro e w1 ⟨rfl, rfl⟩))
        go_roundw
        case rel => exact ⟨k + 1, by omega, by go_num, ⟨HM.out.1 (by trivial)⟩, HB⟩
        case measure => simp [intOf]; omega
      | false =>
        rw [hp] at HJ HM
        clear hp
        go_wp2_with (go_at_call 82; go_must (refine Calls.mono HJ.out ?_; rintro e w1 ⟨rfl, rfl⟩))
        go_ret
        exact ⟨ret_int (by rw [HM.out.2 (by trivial)]), HB.out⟩
    · obtain rfl : k = s.size := by omega
      have HE : Hd (t.length = s.size) := ⟨by rw [← HT.out]; exact span_all (by rw [HT.out]; exact HK.out) (by rw [bl_len]; exact Nat.le_refl _)⟩
      go_wp2
      go_ret
      exact ⟨ret_int (by rw [HE.out]), HB.out⟩
theorem lead_calls (w : World) (s : ByteArray) (hs : s.size ≤ 9223372036854775807) : Calls Tryd.prog 73 #[.string s] w fun e w' => e = .returned (.int .i64 (leadN s : Nat)) ∧ Below w.heap.size w w' := by
  by_cases h0 : s.size = 0
  · have he : s.toList.isEmpty = true := (empty_is s).2 h0
    rw [lead_nil (List.eq_nil_of_length_eq_zero h0)]
    clear h0
    go_enter Tryd.func73, Tryd.ntmps73
    go_wp2
    go_ret
    exact ⟨rfl, Below.refl _ _⟩
  · have he : s.toList.isEmpty = false := by rw [Bool.eq_false_iff]; exact fun h => h0 ((empty_is s).1 h)
    obtain ⟨c, hc⟩ := byte_at (s := s) (k := 0) (by omega)
    have hix : ∀ W, (Instr.index 9 (.string s) (.int .i64 0)).run Tryd.prog W = .ok (.int .u8 (c.toNat : Int)) W := index_at s 0 c hc
    have HJ := Hd.mk (letter_calls w c)
    obtain ⟨l, hl⟩ : ∃ l, bl s = c :: l := by
      cases hb : bl s with
      | nil => rw [hb] at hc; cases hc
      | cons a l => rw [hb] at hc; obtain rfl : a = c := by simpa using hc
                    exact ⟨l, rfl⟩
    clear hc
    by_cases hb : letB c = true
    · have HJ2 := Hd.mk (span_calls w s hs)
      rw [lead_yes hl hb]
      rw [hb] at HJ
      clear hl hb
      go_enter Tryd.func73, Tryd.ntmps73
      go_wp2_with (first | (go_at_call 80; go_must (refine Calls.mono HJ.out ?_; rintro e w1 ⟨rfl, rfl⟩)) | (go_at_call 81; go_must (refine Calls.mono HJ2.out ?_; rintro e w1 ⟨rfl, hb_⟩; have HB1 := Hd.mk hb_; clear hb_)))
      go_ret
      exact ⟨rfl, HB1.out⟩
    · rw [lead_no hl hb]
      rw [Bool.eq_false_iff.2 hb] at HJ
      clear hl hb
      go_enter Tryd.func73, Tryd.ntmps73
      go_wp2_with (go_at_call 80; go_must (refine Calls.mono HJ.out ?_; rintro e w1 ⟨rfl, rfl⟩))
      go_ret
      exact ⟨rfl, Below.refl _ _⟩
end Go.Proofs.YtpcnekdilecakaaDoor.Tb
