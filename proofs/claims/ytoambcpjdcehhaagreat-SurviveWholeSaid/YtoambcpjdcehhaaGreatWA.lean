/- Texts: W1, W2, W3, W4. -/
import Derived.Test.YtoambcpjdcehhaaGreatTA
import Derived.Test.YtoambcpjdcehhaaGreatCut
import Derived.Deep.DeepCutAuto
import Derived.Deep.CutBlock
/- Letters, and parts of a name. -/
set_option linter.unusedVariables false
set_option linter.unusedSimpArgs false
namespace Go.Proofs.YtoambcpjdcehhaaGreat.Tb
open Go Go.RowKit Go.Proofs.YtoambcpjdcehhaaGreat.Can Go.Proofs.YtoambcpjdcehhaaGreat.Base
attribute [local go_sem] clsB AB.cell

theorem letter_calls (w : World) (c : UInt8) : Calls Tryz.prog 113 #[.int .u8 (c.toNat : Int)] w fun e w' => e = .returned (.bool (letB c)) ∧ w' = w := by
  have hc : c.toNat < 256 := c.toNat_lt
  generalize hb : letB c = b
  unfold letB at hb
  generalize c.toNat = n at *
  go_enter Tryz.func113, Tryz.ntmps113
  go_wp2
  all_goals (go_ret; refine ⟨ret_bool ?_, rfl⟩; rw [← hb, Bool.eq_iff_iff]; simp; omega)
theorem part_calls (w : World) (c : UInt8) : Calls Tryz.prog 115 #[.int .u8 (c.toNat : Int)] w fun e w' => e = .returned (.bool (partB c)) ∧ w' = w := by
  have HJ := Hd.mk (letter_calls w c)
  have hc : c.toNat < 256 := c.toNat_lt
  generalize hb : partB c = b
  unfold partB at hb
  generalize letB c = lb at *
  generalize c.toNat = n at *
  cases lb with
  | true =>
    go_enter Tryz.func115, Tryz.ntmps115
    go_wp2_with (go_at_call 113; go_must (refine Calls.mono HJ.out ?_; rintro e w1 ⟨rfl, rfl⟩))
    all_goals (go_ret; refine ⟨ret_bool ?_, rfl⟩; rw [← hb, Bool.eq_iff_iff]; simp)
  | false =>
    go_enter Tryz.func115, Tryz.ntmps115
    go_wp2_with (go_at_call 113; go_must (refine Calls.mono HJ.out ?_; rintro e w1 ⟨rfl, rfl⟩))
    all_goals (go_ret; refine ⟨ret_bool ?_, rfl⟩; rw [← hb, Bool.eq_iff_iff]; simp; try omega)
/-- 1: a letter; 2: a digit. -/
def kindN (c : UInt8) : Int := if letB c = true then 1 else if partB c = true then 2 else 0
theorem kind_calls (w : World) (c : UInt8) : Calls Tryz.prog 120 #[.int .u8 (c.toNat : Int)] w fun e w' => e = .returned (.int .i64 (kindN c)) ∧ w' = w := by
  have hc : c.toNat < 256 := c.toNat_lt
  generalize hb : kindN c = b
  unfold kindN partB letB at hb
  generalize c.toNat = n at *
  by_cases h95 : n = 95
  · subst h95
    obtain rfl : (1 : Int) = b := by rw [← hb]; decide
    clear hb
    go_enter Tryz.func120, Tryz.ntmps120
    go_wp2
    go_ret
    exact ⟨rfl, rfl⟩
  · have h9 : ((n : Int) == 95) = false := by simp; omega
    go_enter Tryz.func120, Tryz.ntmps120
    go_wp2
    all_goals (go_ret; refine ⟨ret_int ?_, rfl⟩; rw [← hb])
    all_goals (first | (rw [if_pos (by simp; omega)]; done) | (rw [if_neg (by simp; omega), if_pos (by simp; omega)]; done) | (rw [if_neg (by simp; omega), if_neg (by simp; omega)]; done))
theorem kind_zero (c : UInt8) : (0 < kindN c) ↔ partB c = true := by
  unfold kindN
  cases h : letB c with
  | true => simp [let_part h]
  | false => cases partB c <;> simp
theorem kind_one (c : UInt8) : kindN c = 1 ↔ letB c = true := by
  unfold kindN
  cases h : letB c with
  | true => simp
  | false => cases partB c <;> simp
end Go.Proofs.YtoambcpjdcehhaaGreat.Tb

/- Names, by the program and by the document. -/
set_option linter.unusedVariables false
set_option linter.unusedSimpArgs false
namespace Go.Proofs.YtoambcpjdcehhaaGreat.Tb
open Go Go.RowKit Go.Proofs.YtoambcpjdcehhaaGreat.Can Go.Proofs.YtoambcpjdcehhaaGreat.Base
attribute [local go_sem] clsB AB.cell

theorem index_at (X : ByteArray) (q : Nat) (b : UInt8) (h : (bl X)[q]? = some b) (W : World) : (Instr.index 9 (.string X) (.int .i64 q)).run Tryz.prog W = .ok (.int .u8 (b.toNat : Int)) W := Df.index_at X q b h W
theorem byte_at {s : ByteArray} {k : Nat} (h : k < s.size) : ∃ b, (bl s)[k]? = some b := ⟨_, List.getElem?_eq_getElem (by rw [bl_len]; exact h)⟩
theorem empty_is (s : ByteArray) : (s.toList.isEmpty = true) ↔ s.size = 0 := by
  rw [← Go.decide_eq_emptyBytes, decide_eq_true_eq]
  exact ⟨fun h => by rw [h]; rfl, fun h => bl_inj (List.eq_nil_of_length_eq_zero h)⟩
theorem span_calls (w : World) (s : ByteArray) (hs : s.size ≤ 9223372036854775807) : Calls Tryz.prog 114 #[.string s, .func (.func 115) #[] #[]] w fun e w' => e = .returned (.int .i64 (((bl s).takeWhile partB).length : Nat)) ∧ Below w.heap.size w w' := by
  obtain ⟨t, ht⟩ : ∃ t, (bl s).takeWhile partB = t := ⟨_, rfl⟩
  have HT := Hd.mk ht
  rw [ht]
  clear ht
  go_enter Tryz.func114, Tryz.ntmps114
  go_wp2
  go_loopw [5] (fun i wr => ∃ k : Nat, k ≤ s.size ∧ i = .int .i64 k ∧ Hd (k ≤ t.length) ∧ Hd (Below w.heap.size w wr)) (fun i _ => s.size - (intOf i).toNat)
  case atStart => exact ⟨0, Nat.zero_le _, rfl, ⟨Nat.zero_le _⟩, ⟨Below.refl _ _⟩⟩
  case round =>
    obtain ⟨k, hk, rfl, HK, HB⟩ := hrel
    by_cases hlt : k < s.size
    · obtain ⟨c, hc⟩ := byte_at hlt
      have hix : ∀ W, (Instr.index 9 (.string s) (.int .i64 k)).run Tryz.prog W = .ok (.int .u8 (c.toNat : Int)) W := index_at s k c hc
      have HM : Hd ((partB c = true → k + 1 ≤ t.length) ∧ (partB c = false → t.length = k)) := ⟨by rw [← HT.out]; exact span_more (by rw [HT.out]; exact HK.out) hc⟩
      have HJ := Hd.mk (part_calls wr c)
      clear hc
      cases hp : partB c with
      | true =>
        rw [hp] at HJ HM
        clear hp
        go_wp2_with (go_at_call 115; go_must (refine Calls.mono HJ.out ?_; rintro e w1 ⟨rfl, rfl⟩))
        go_roundw
        case rel => exact ⟨k + 1, by omega, by go_num, ⟨HM.out.1 (by trivial)⟩, HB⟩
        case measure => simp [intOf]; omega
      | false =>
        rw [hp] at HJ HM
        clear hp
        go_wp2_with (go_at_call 115; go_must (refine Calls.mono HJ.out ?_; rintro e w1 ⟨rfl, rfl⟩))
        go_ret
        exact ⟨ret_int (by rw [HM.out.2 (by trivial)]), HB.out⟩
    · obtain rfl : k = s.size := by omega
      have HE : Hd (t.length = s.size) := ⟨by rw [← HT.out]; exact span_all (by rw [HT.out]; exact HK.out) (by rw [bl_len]; exact Nat.le_refl _)⟩
      go_wp2
      go_ret
      exact ⟨ret_int (by rw [HE.out]), HB.out⟩
theorem lead_calls (w : World) (s : ByteArray) (hs : s.size ≤ 9223372036854775807) : Calls Tryz.prog 98 #[.string s] w fun e w' => e = .returned (.int .i64 (leadN s : Nat)) ∧ Below w.heap.size w w' := by
  by_cases h0 : s.size = 0
  · have he : s.toList.isEmpty = true := (empty_is s).2 h0
    rw [lead_nil (List.eq_nil_of_length_eq_zero h0)]
    clear h0
    go_enter Tryz.func98, Tryz.ntmps98
    go_wp2
    go_ret
    exact ⟨rfl, Below.refl _ _⟩
  · have he : s.toList.isEmpty = false := by rw [Bool.eq_false_iff]; exact fun h => h0 ((empty_is s).1 h)
    obtain ⟨c, hc⟩ := byte_at (s := s) (k := 0) (by omega)
    have hix : ∀ W, (Instr.index 9 (.string s) (.int .i64 0)).run Tryz.prog W = .ok (.int .u8 (c.toNat : Int)) W := index_at s 0 c hc
    have HJ := Hd.mk (letter_calls w c)
    obtain ⟨l, hl⟩ : ∃ l, bl s = c :: l := by
      cases hb : bl s with
      | nil => rw [hb] at hc; cases hc
      | cons a l => rw [hb] at hc; obtain rfl : a = c := by simpa using hc
                    exact ⟨l, rfl⟩
    clear hc
    by_cases hb : letB c = true
    · have HJ2 := Hd.mk (span_calls w s hs)
      rw [lead_yes hl hb]
      rw [hb] at HJ
      clear hl hb
      go_enter Tryz.func98, Tryz.ntmps98
      go_wp2_with (first | (go_at_call 113; go_must (refine Calls.mono HJ.out ?_; rintro e w1 ⟨rfl, rfl⟩)) | (go_at_call 114; go_must (refine Calls.mono HJ2.out ?_; rintro e w1 ⟨rfl, hb_⟩; have HB1 := Hd.mk hb_; clear hb_)))
      go_ret
      exact ⟨rfl, HB1.out⟩
    · rw [lead_no hl hb]
      rw [Bool.eq_false_iff.2 hb] at HJ
      clear hl hb
      go_enter Tryz.func98, Tryz.ntmps98
      go_wp2_with (go_at_call 113; go_must (refine Calls.mono HJ.out ?_; rintro e w1 ⟨rfl, rfl⟩))
      go_ret
      exact ⟨rfl, Below.refl _ _⟩
end Go.Proofs.YtoambcpjdcehhaaGreat.Tb

/- Names, by the program and by the document: whole; places of names. -/
set_option linter.unusedVariables false
set_option linter.unusedSimpArgs false
namespace Go.Proofs.YtoambcpjdcehhaaGreat.Tb
open Go Go.RowKit Go.Proofs.YtoambcpjdcehhaaGreat.Can Go.Proofs.YtoambcpjdcehhaaGreat.Base
attribute [local go_sem] clsB AB.cell

theorem lead_pos {s : ByteArray} (h : 0 < leadN s) : leadN s = ((bl s).takeWhile partB).length := by
  cases hb : bl s with
  | nil => rw [lead_nil hb] at h; omega
  | cons c l =>
    by_cases hc : letB c = true
    · rw [lead_yes hb hc, hb]
    · rw [lead_no hb hc] at h; omega
theorem lead_step {s : ByteArray} {k : Nat} {c : UInt8} (hk : k ≤ leadN s) (hc : (bl s)[k]? = some c) :
    (0 < k → (partB c = true → k + 1 ≤ leadN s) ∧ (partB c = false → leadN s = k)) ∧ (k = 0 → (letB c = true → k + 1 ≤ leadN s) ∧ (letB c = false → leadN s = k)) := by
  refine ⟨fun h0 => ?_, fun h0 => ?_⟩
  · have e := lead_pos (s := s) (by omega)
    rw [e] at hk ⊢
    exact span_more hk hc
  · subst h0
    obtain ⟨l, hl⟩ : ∃ l, bl s = c :: l := by
      cases hb : bl s with
      | nil => rw [hb] at hc; cases hc
      | cons a l => rw [hb] at hc; obtain rfl : a = c := by simpa using hc
                    exact ⟨l, rfl⟩
    refine ⟨fun h => ?_, fun h => lead_no hl (by rw [h]; decide)⟩
    rw [lead_yes hl h, hl, List.takeWhile_cons, if_pos (let_part h)]
    simp
theorem lead_all {s : ByteArray} (hk : s.size ≤ leadN s) : leadN s = s.size := by
  rcases Nat.eq_zero_or_pos (leadN s) with h | h
  · omega
  · have e := lead_pos h
    rw [e] at hk ⊢
    rw [← bl_len] at hk ⊢
    exact span_all (Nat.le_trans (Nat.le_refl _) hk) (Nat.le_refl _)
theorem rlead_calls (w : World) (s : ByteArray) (hs : s.size ≤ 9223372036854775807) : Calls Tryz.prog 110 #[.string s] w fun e w' => e = .returned (.int .i64 (leadN s : Nat)) ∧ Below w.heap.size w w' := by
  obtain ⟨t, ht⟩ : ∃ t, leadN s = t := ⟨_, rfl⟩
  have HT := Hd.mk ht
  rw [ht]
  clear ht
  go_enter Tryz.func110, Tryz.ntmps110
  go_wp2
  go_loopw [3] (fun i wr => ∃ k : Nat, k ≤ s.size ∧ i = .int .i64 k ∧ Hd (k ≤ t) ∧ Hd (Below w.heap.size w wr)) (fun i _ => s.size - (intOf i).toNat)
  case atStart => exact ⟨0, Nat.zero_le _, rfl, ⟨Nat.zero_le _⟩, ⟨Below.refl _ _⟩⟩
  case round =>
    obtain ⟨k, hk, rfl, HK, HB⟩ := hrel
    by_cases hlt : k < s.size
    · obtain ⟨c, hc⟩ := byte_at hlt
      have hix : ∀ W, (Instr.index 9 (.string s) (.int .i64 k)).run Tryz.prog W = .ok (.int .u8 (c.toNat : Int)) W := index_at s k c hc
      have HM : Hd ((0 < k → (partB c = true → k + 1 ≤ t) ∧ (partB c = false → t = k)) ∧ (k = 0 → (letB c = true → k + 1 ≤ t) ∧ (letB c = false → t = k))) := ⟨by rw [← HT.out]; exact lead_step (by rw [HT.out]; exact HK.out) hc⟩
      have HJ := Hd.mk (kind_calls wr c)
      have HP := Hd.mk (kind_zero c)
      have HQ := Hd.mk (kind_one c)
      clear hc
      generalize kindN c = x at *
      by_cases h0 : 0 < k
      · by_cases hx : 0 < x
        · go_wp2_with (go_at_call 120; go_must (refine Calls.mono HJ.out ?_; rintro e w1 ⟨rfl, rfl⟩))
          go_roundw
          case rel => exact ⟨k + 1, by omega, by go_num, ⟨(HM.out.1 h0).1 (HP.out.1 hx)⟩, HB⟩
          case measure => simp [intOf]; omega
        · go_wp2_with (go_at_call 120; go_must (refine Calls.mono HJ.out ?_; rintro e w1 ⟨rfl, rfl⟩))
          go_ret
          exact ⟨ret_int (by rw [(HM.out.1 h0).2 (by rw [Bool.eq_false_iff]; exact fun h => absurd (HP.out.2 h) (by omega))]), HB.out⟩
      · by_cases hx : 0 < x
        · by_cases h1 : x = 1
          · have HX1 := Hd.mk h1
            have hb1 : (x == 1) = true := by simpa using h1
            clear h1
            go_wp2_with (go_at_call 120; go_must (refine Calls.mono HJ.out ?_; rintro e w1 ⟨rfl, rfl⟩))
            go_roundw
            case rel => exact ⟨k + 1, by omega, by go_num, ⟨(HM.out.2 (by omega)).1 (HQ.out.1 HX1.out)⟩, HB⟩
            case measure => simp [intOf]; omega
          · have hb1 : (x == 1) = false := by simpa using h1
            have HX1 := Hd.mk h1
            clear h1
            go_wp2_with (go_at_call 120; go_must (refine Calls.mono HJ.out ?_; rintro e w1 ⟨rfl, rfl⟩))
            go_ret
            exact ⟨ret_int (by rw [(HM.out.2 (by omega)).2 (by rw [Bool.eq_false_iff]; exact fun h => HX1.out (HQ.out.2 h))]), HB.out⟩
        · go_wp2_with (go_at_call 120; go_must (refine Calls.mono HJ.out ?_; rintro e w1 ⟨rfl, rfl⟩))
          go_ret
          exact ⟨ret_int (by rw [(HM.out.2 (by omega)).2 (by rw [Bool.eq_false_iff]; exact fun h => absurd (HP.out.2 (let_part h)) (by omega))]), HB.out⟩
    · obtain rfl : k = s.size := by omega
      have HE : Hd (t = s.size) := ⟨by rw [← HT.out]; exact lead_all (by rw [HT.out]; exact HK.out)⟩
      go_wp2
      go_ret
      exact ⟨ret_int (by rw [HE.out]), HB.out⟩
theorem wName_calls (w : World) (s : ByteArray) (b : Bool) (hb : nameB s = b) (hs : s.size ≤ 9223372036854775807) : Calls Tryz.prog 70 #[.string s] w fun e w' => e = .returned (.bool b) ∧ Below w.heap.size w w' := by
  have HJ := Hd.mk (lead_calls w s hs)
  rw [name_is] at hb
  by_cases h0 : s.size = 0
  · have he : s.toList.isEmpty = true := (empty_is s).2 h0
    obtain rfl : b = false := by rw [← hb, decide_eq_false (by simp [h0])]; rfl
    clear hb h0
    go_enter Tryz.func70, Tryz.ntmps70
    go_wp2
    go_ret
    exact ⟨rfl, Below.refl _ _⟩
  · have he : s.toList.isEmpty = false := by rw [Bool.eq_false_iff]; exact fun h => h0 ((empty_is s).1 h)
    by_cases h32 : s.size ≤ 32
    · have h9 : ((leadN s : Int) == (s.size : Int)) = b := by rw [← hb, decide_eq_true h0, decide_eq_true h32]; simp only [Bool.true_and]; rw [Bool.eq_iff_iff]; simp; omega
      clear hb
      generalize leadN s = x at *
      cases b <;> (go_enter Tryz.func70, Tryz.ntmps70; go_wp2_with (go_at_call 98; go_must (refine Calls.mono HJ.out ?_; rintro e w1 ⟨rfl, hb_⟩; have HB1 := Hd.mk hb_; clear hb_)); go_ret; exact ⟨rfl, HB1.out⟩)
    · obtain rfl : b = false := by rw [← hb, decide_eq_false h32]; simp
      clear hb
      go_enter Tryz.func70, Tryz.ntmps70
      go_wp2
      go_ret
      exact ⟨rfl, Below.refl _ _⟩
theorem r04Name_calls (w : World) (s : ByteArray) (b : Bool) (hb : nameB s = b) (hs : s.size ≤ 9223372036854775807) : Calls Tryz.prog 87 #[.string s] w fun e w' => e = .returned (.bool b) ∧ Below w.heap.size w w' := by
  have HJ := Hd.mk (rlead_calls w s hs)
  rw [name_is] at hb
  by_cases h0 : s.size = 0
  · obtain rfl : b = false := by rw [← hb, decide_eq_false (by simp [h0])]; rfl
    clear hb
    go_enter Tryz.func87, Tryz.ntmps87
    go_wp2
    go_ret
    exact ⟨rfl, Below.refl _ _⟩
  · by_cases h32 : s.size ≤ 32
    · have h9 : ((leadN s : Int) == (s.size : Int)) = b := by rw [← hb, decide_eq_true h0, decide_eq_true h32]; simp only [Bool.true_and]; rw [Bool.eq_iff_iff]; simp; omega
      have hp : 0 < s.size := by omega
      clear hb
      generalize leadN s = x at *
      cases b <;> (go_enter Tryz.func87, Tryz.ntmps87; go_wp2_with (go_at_call 110; go_must (refine Calls.mono HJ.out ?_; rintro e w1 ⟨rfl, hb_⟩; have HB1 := Hd.mk hb_; clear hb_)); go_ret; exact ⟨rfl, HB1.out⟩)
    · obtain rfl : b = false := by rw [← hb, decide_eq_false h32]; simp
      have hp : 0 < s.size := by omega
      clear hb
      go_enter Tryz.func87, Tryz.ntmps87
      go_wp2
      go_ret
      exact ⟨rfl, Below.refl _ _⟩
end Go.Proofs.YtoambcpjdcehhaaGreat.Tb

/- Names among names; modes. -/
set_option linter.unusedVariables false
set_option linter.unusedSimpArgs false
namespace Go.Proofs.YtoambcpjdcehhaaGreat.Tb
open Go Go.RowKit Go.Proofs.YtoambcpjdcehhaaGreat.Can Go.Proofs.YtoambcpjdcehhaaGreat.Base
attribute [local go_sem] clsB AB.cell

theorem cell_keep {w w1 : World} {b o : Nat} {v : Value} (h : w.cell? ⟨b, o, none⟩ = some v) (hb : Below w.heap.size w w1) (hl : b < w.heap.size) : w1.cell? ⟨b, o, none⟩ = some v := (World.cell?_of_block (w := w) (hb.block b hl)).trans h
theorem str_get {w : World} {S : Nat → Prop} {A : Option Addr} {n : Nat} {xs : List ByteArray} (h : Row Ty.str w S A n xs) (k : Nat) (hk : k < n) :
    ∃ b off s, A = some ⟨b, off, none⟩ ∧ b < w.heap.size ∧ S b ∧ xs[k]? = some s ∧ w.cell? ⟨b, off + k, none⟩ = some (.string s) := by
  obtain ⟨b, off, cs, he, hs, hr, hcell⟩ := h.get k hk
  have hr' : cs = [.string _] := hr
  subst hr'
  have h0 := hcell 0 _ rfl
  rw [show off + k * Ty.str.sz + 0 = off + k by show off + k * 1 + 0 = _; omega] at h0
  exact ⟨b, off, _, he, World.block_lt_of_cell? w _ h0, hs, List.getElem?_eq_getElem _, h0⟩
theorem str_beq (a b : ByteArray) : (a.toList == b.toList) = decide (a = b) := by
  rw [← Go.beq_toListBytes, Bool.eq_iff_iff, beq_iff_eq, decide_eq_true_eq]
/-- A name's place; below 0: nowhere. -/
def placeN (l : List ByteArray) (s : ByteArray) : Int := if s ∈ l then (l.idxOf s : Nat) else -1
set_option maxHeartbeats 1000000 in
theorem r17place_calls (A : Option Addr) (n c : Nat) (l : List ByteArray) (s : ByteArray) (S : Nat → Prop) (w : World) (hS : ∀ k, S k → k < w.heap.size) (hC : Row Ty.str w S A n l) :
    Calls Tryz.prog 88 #[.slice A n c, .string s] w fun e w' => e = .returned (.int .i64 (placeN l s)) ∧ Below w.heap.size w w' := by
  have hn := hC.le
  have HN := Hd.mk hC.1
  have HC := Hd.mk hC
  have HS := Hd.mk hS
  clear hC hS
  obtain ⟨x, hx⟩ : ∃ x, placeN l s = x := ⟨_, rfl⟩
  have HX := Hd.mk hx
  rw [hx]
  clear hx
  go_enter Tryz.func88, Tryz.ntmps88
  go_wp2
  go_loopw [5] (fun i wr => ∃ k : Nat, k ≤ n ∧ i = .int .i64 k ∧ Hd (s ∉ l.take k) ∧ Hd (Below w.heap.size w wr)) (fun i _ => n - (intOf i).toNat)
  case atStart => exact ⟨0, Nat.zero_le _, rfl, ⟨by simp⟩, ⟨Below.refl _ _⟩⟩
  case round =>
    obtain ⟨k, hk, rfl, HK, HB⟩ := hrel
    by_cases hlt : k < n
    · obtain ⟨b, off, t, rfl, hb, -, ht, hc⟩ := str_get (HC.out.below HS.out HB.out) k hlt
      have HT := Hd.mk ht
      clear ht
      by_cases he : t = s
      · subst he
        have h1 : (t.toList == t.toList) = true := by rw [str_beq]; exact decide_eq_true rfl
        obtain rfl : (k : Int) = x := by rw [← HX.out]; unfold placeN; rw [if_pos (List.mem_of_getElem? HT.out), idx_at HK.out HT.out]
        go_wp2
        go_ret
        exact ⟨rfl, HB.out⟩
      · have h1 : (t.toList == s.toList) = false := by rw [str_beq]; exact decide_eq_false he
        have h2 : (s.toList == t.toList) = false := by rw [str_beq]; exact decide_eq_false (Ne.symm he)
        have HE := Hd.mk he
        clear he
        go_wp2
        go_roundw
        case rel => exact ⟨k + 1, by omega, by go_num, ⟨by rw [Df.take_snoc HT.out, List.mem_append, List.mem_singleton]; exact fun h => h.elim HK.out fun h => HE.out h.symm⟩, HB⟩
        case measure => simp [intOf]; omega
    · obtain rfl : k = n := by omega
      obtain rfl : (-1 : Int) = x := by rw [← HX.out]; unfold placeN; rw [if_neg (by have := HK.out; rwa [Df.take_all HN.out] at this)]
      go_wp2
      go_ret
      exact ⟨rfl, HB.out⟩
set_option maxHeartbeats 1000000 in
theorem IxS_calls (A : Option Addr) (n c : Nat) (l : List ByteArray) (s : ByteArray) (S : Nat → Prop) (w : World) (hS : ∀ k, S k → k < w.heap.size) (hC : Row Ty.str w S A n l) :
    Calls Tryz.prog 71 #[.slice A n c, .string s] w fun e w' => e = .returned (.int .i64 (placeN l s)) ∧ Below w.heap.size w w' := by
  have hn := hC.le
  have HN := Hd.mk hC.1
  have HC := Hd.mk hC
  have HS := Hd.mk hS
  clear hC hS
  obtain ⟨x, hx⟩ : ∃ x, placeN l s = x := ⟨_, rfl⟩
  have HX := Hd.mk hx
  rw [hx]
  clear hx
  go_enter Tryz.func71, Tryz.ntmps71
  go_wp2
  go_loopw [8] (fun i wr => ∃ k : Nat, k ≤ n ∧ i = .int .i64 k ∧ Hd (s ∉ l.take k) ∧ Hd (Below w.heap.size w wr)) (fun i _ => n - (intOf i).toNat)
  case atStart => exact ⟨0, Nat.zero_le _, rfl, ⟨by simp⟩, ⟨Below.refl _ _⟩⟩
  case round =>
    obtain ⟨k, hk, rfl, HK, HB⟩ := hrel
    by_cases hlt : k < n
    · obtain ⟨b, off, t, rfl, hb, -, ht, hc⟩ := str_get (HC.out.below HS.out HB.out) k hlt
      have HT := Hd.mk ht
      clear ht
      by_cases he : t = s
      · subst he
        have h1 : (t.toList == t.toList) = true := by rw [str_beq]; exact decide_eq_true rfl
        obtain rfl : (k : Int) = x := by rw [← HX.out]; unfold placeN; rw [if_pos (List.mem_of_getElem? HT.out), idx_at HK.out HT.out]
        go_wp2
        go_ret
        exact ⟨rfl, HB.out⟩
      · have h1 : (t.toList == s.toList) = false := by rw [str_beq]; exact decide_eq_false he
        have h2 : (s.toList == t.toList) = false := by rw [str_beq]; exact decide_eq_false (Ne.symm he)
        have HE := Hd.mk he
        clear he
        go_wp2
        go_roundw
        case rel => exact ⟨k + 1, by omega, by go_num, ⟨by rw [Df.take_snoc HT.out, List.mem_append, List.mem_singleton]; exact fun h => h.elim HK.out fun h => HE.out h.symm⟩, HB⟩
        case measure => simp [intOf]; omega
    · obtain rfl : k = n := by omega
      obtain rfl : (-1 : Int) = x := by rw [← HX.out]; unfold placeN; rw [if_neg (by have := HK.out; rwa [Df.take_all HN.out] at this)]
      go_wp2
      go_ret
      exact ⟨rfl, HB.out⟩
theorem place_ne {l : List ByteArray} {k : Nat} {s : ByteArray} (h : l[k]? = some s) : (placeN l s == (k : Int)) = decide (l.idxOf s = k) := by
  unfold placeN
  rw [if_pos (List.mem_of_getElem? h), Bool.eq_iff_iff, decide_eq_true_eq, beq_iff_eq]
  omega

set_option maxHeartbeats 2000000 in
theorem rmodes_calls (A : Option Addr) (n c : Nat) (l : List ByteArray) (b : Bool) (S : Nat → Prop) (w : World) (hS : ∀ k, S k → k < w.heap.size) (hsz : ∀ s ∈ l, s.size ≤ 9223372036854775807) (hC : Row Ty.str w S A n l) (hb : modesB l = b) :
    Calls Tryz.prog 63 #[.slice A n c] w fun e w' => e = .returned (.bool b) ∧ Below w.heap.size w w' := by
  have hn := hC.le
  have HN := Hd.mk hC.1
  have HC := Hd.mk hC
  have HS := Hd.mk hS
  have HBb := Hd.mk hb
  clear hC hS hb
  go_enter Tryz.func63, Tryz.ntmps63
  go_wp2
  go_loopw [3] (fun i wr => ∃ k : Nat, k ≤ n ∧ i = .int .i64 k ∧ Hd (modesK l k) ∧ Hd (Below w.heap.size w wr)) (fun i _ => n - (intOf i).toNat)
  case atStart => exact ⟨0, Nat.zero_le _, rfl, ⟨modesK_zero _⟩, ⟨Below.refl _ _⟩⟩
  case round =>
    obtain ⟨k, hk, rfl, HK, HB⟩ := hrel
    by_cases hlt : k < n
    · obtain ⟨b9, off, t, rfl, hb9, -, ht, hc⟩ := str_get (HC.out.below HS.out HB.out) k hlt
      have HT := Hd.mk ht
      have HSZ : Hd (t.size ≤ 9223372036854775807) := ⟨hsz t (List.mem_of_getElem? ht)⟩
      have HP := Hd.mk (place_ne ht)
      clear ht
      cases hnm : nameB t with
      | false =>
        have HJ := Hd.mk (r04Name_calls wr t false hnm HSZ.out)
        obtain rfl : b = false := by rw [← HBb.out]; exact modes_no HT.out fun h => by rw [hnm] at h; exact absurd h.1 (by decide)
        clear hnm
        go_wp2_with (go_at_call 87; go_must (refine Calls.mono HJ.out ?_; rintro e w1 ⟨rfl, hb_⟩; have HB1 := Hd.mk (below_seq HB.out hb_); clear hb_))
        go_ret
        exact ⟨rfl, HB1.out⟩
      | true =>
        have HJ := Hd.mk (r04Name_calls wr t true hnm HSZ.out)
        have HNM := Hd.mk hnm
        clear hnm
        have HI : Hd (∀ w1, Below w.heap.size w w1 → Calls Tryz.prog 88 _ w1 _) := ⟨fun w1 hb => r17place_calls _ n c l t S w1 (fun k hk => Nat.lt_of_lt_of_le (HS.out k hk) hb.size) (HC.out.below HS.out hb)⟩
        obtain ⟨z, hz⟩ : ∃ z, placeN l t = z := ⟨_, rfl⟩
        rw [hz] at HP HI
        clear hz
        by_cases hi : l.idxOf t = k
        · have h1 : (z == (k : Int)) = true := by rw [HP.out]; exact decide_eq_true hi
          have h2 : (z != (k : Int)) = false := by show (!(z == (k : Int))) = false; rw [h1]; rfl
          have HI2 := Hd.mk hi
          clear hi
          go_wp2_with (first | (go_at_call 87; go_must (refine Calls.mono HJ.out ?_; rintro e w1 ⟨rfl, hb_⟩; have HB1 := Hd.mk (below_seq HB.out hb_); have hc := (cell_keep hc hb_ hb9); clear hb_)) | (go_at_call 88; go_must (refine Calls.mono (HI.out _ HB1.out) ?_; rintro e w2 ⟨rfl, hb_⟩; have HB2 := Hd.mk (below_seq HB1.out hb_); clear hb_)))
          go_roundw
          case rel => exact ⟨k + 1, by omega, by go_num, ⟨modesK_succ HK.out HT.out HNM.out HI2.out⟩, HB2⟩
          case measure => simp [intOf]; omega
        · have h1 : (z == (k : Int)) = false := by rw [HP.out]; exact decide_eq_false hi
          have h2 : (z != (k : Int)) = true := by show (!(z == (k : Int))) = true; rw [h1]; rfl
          obtain rfl : b = false := by rw [← HBb.out]; exact modes_no HT.out fun h => hi h.2
          clear hi
          go_wp2_with (first | (go_at_call 87; go_must (refine Calls.mono HJ.out ?_; rintro e w1 ⟨rfl, hb_⟩; have HB1 := Hd.mk (below_seq HB.out hb_); have hc := (cell_keep hc hb_ hb9); clear hb_)) | (go_at_call 88; go_must (refine Calls.mono (HI.out _ HB1.out) ?_; rintro e w2 ⟨rfl, hb_⟩; have HB2 := Hd.mk (below_seq HB1.out hb_); clear hb_)))
          go_ret
          exact ⟨rfl, HB2.out⟩
    · obtain rfl : k = n := by omega
      obtain rfl : b = true := by rw [← HBb.out]; exact (modes_iff l).2 (by rw [HN.out]; exact HK.out)
      go_wp2
      go_ret
      exact ⟨rfl, HB.out⟩
set_option maxHeartbeats 2000000 in
theorem modes_calls (A : Option Addr) (n c : Nat) (l : List ByteArray) (b : Bool) (S : Nat → Prop) (w : World) (hS : ∀ k, S k → k < w.heap.size) (hsz : ∀ s ∈ l, s.size ≤ 9223372036854775807) (hC : Row Ty.str w S A n l) (hb : (decide (1 ≤ l.length) && decide (l.length ≤ 16) && modesB l) = b) :
    Calls Tryz.prog 42 #[.slice A n c] w fun e w' => e = .returned (.bool b) ∧ Below w.heap.size w w' := by
  have hn := hC.le
  have HN := Hd.mk hC.1
  have HC := Hd.mk hC
  have HS := Hd.mk hS
  rw [hC.1] at hb
  clear hC hS
  by_cases h1 : 1 ≤ n
  · by_cases h2 : n ≤ 16
    · rw [decide_eq_true h1, decide_eq_true h2, Bool.true_and, Bool.true_and] at hb
      have HBb := Hd.mk hb
      clear hb
      go_enter Tryz.func42, Tryz.ntmps42
      go_wp2
      go_loopw [15] (fun i wr => ∃ k : Nat, k ≤ n ∧ i = .int .i64 k ∧ Hd (modesK l k) ∧ Hd (Below w.heap.size w wr)) (fun i _ => n - (intOf i).toNat)
      case atStart => exact ⟨0, Nat.zero_le _, rfl, ⟨modesK_zero _⟩, ⟨Below.refl _ _⟩⟩
      case round =>
        obtain ⟨k, hk, rfl, HK, HB⟩ := hrel
        by_cases hlt : k < n
        · obtain ⟨b9, off, t, rfl, hb9, -, ht, hc⟩ := str_get (HC.out.below HS.out HB.out) k hlt
          have HT := Hd.mk ht
          have HSZ : Hd (t.size ≤ 9223372036854775807) := ⟨hsz t (List.mem_of_getElem? ht)⟩
          have HP := Hd.mk (place_ne ht)
          clear ht
          cases hnm : nameB t with
          | false =>
            have HJ := Hd.mk (wName_calls wr t false hnm HSZ.out)
            obtain rfl : b = false := by rw [← HBb.out]; exact modes_no HT.out fun h => by rw [hnm] at h; exact absurd h.1 (by decide)
            clear hnm
            go_wp2_with (go_at_call 70; go_must (refine Calls.mono HJ.out ?_; rintro e w1 ⟨rfl, hb_⟩; have HB1 := Hd.mk (below_seq HB.out hb_); clear hb_))
            go_ret
            exact ⟨rfl, HB1.out⟩
          | true =>
            have HJ := Hd.mk (wName_calls wr t true hnm HSZ.out)
            have HNM := Hd.mk hnm
            clear hnm
            have HI : Hd (∀ w1, Below w.heap.size w w1 → Calls Tryz.prog 71 _ w1 _) := ⟨fun w1 hb => IxS_calls _ n c l t S w1 (fun k hk => Nat.lt_of_lt_of_le (HS.out k hk) hb.size) (HC.out.below HS.out hb)⟩
            obtain ⟨z, hz⟩ : ∃ z, placeN l t = z := ⟨_, rfl⟩
            rw [hz] at HP HI
            clear hz
            by_cases hi : l.idxOf t = k
            · have h1 : (z == (k : Int)) = true := by rw [HP.out]; exact decide_eq_true hi
              have h2 : (z != (k : Int)) = false := by show (!(z == (k : Int))) = false; rw [h1]; rfl
              have HI2 := Hd.mk hi
              clear hi
              go_wp2_with (first | (go_at_call 70; go_must (refine Calls.mono HJ.out ?_; rintro e w1 ⟨rfl, hb_⟩; have HB1 := Hd.mk (below_seq HB.out hb_); have hc := (cell_keep hc hb_ hb9); clear hb_)) | (go_at_call 71; go_must (refine Calls.mono (HI.out _ HB1.out) ?_; rintro e w2 ⟨rfl, hb_⟩; have HB2 := Hd.mk (below_seq HB1.out hb_); clear hb_)))
              go_roundw
              case rel => exact ⟨k + 1, by omega, by go_num, ⟨modesK_succ HK.out HT.out HNM.out HI2.out⟩, HB2⟩
              case measure => simp [intOf]; omega
            · have h1 : (z == (k : Int)) = false := by rw [HP.out]; exact decide_eq_false hi
              have h2 : (z != (k : Int)) = true := by show (!(z == (k : Int))) = true; rw [h1]; rfl
              obtain rfl : b = false := by rw [← HBb.out]; exact modes_no HT.out fun h => hi h.2
              clear hi
              go_wp2_with (first | (go_at_call 70; go_must (refine Calls.mono HJ.out ?_; rintro e w1 ⟨rfl, hb_⟩; have HB1 := Hd.mk (below_seq HB.out hb_); have hc := (cell_keep hc hb_ hb9); clear hb_)) | (go_at_call 71; go_must (refine Calls.mono (HI.out _ HB1.out) ?_; rintro e w2 ⟨rfl, hb_⟩; have HB2 := Hd.mk (below_seq HB1.out hb_); clear hb_)))
              go_ret
              exact ⟨rfl, HB2.out⟩
        · obtain rfl : k = n := by omega
          obtain rfl : b = true := by rw [← HBb.out]; exact (modes_iff l).2 (by rw [HN.out]; exact HK.out)
          go_wp2
          go_ret
          exact ⟨rfl, HB.out⟩
    · obtain rfl : b = false := by rw [← hb, decide_eq_false h2]; simp
      clear hb
      go_enter Tryz.func42, Tryz.ntmps42
      go_wp2
      go_ret
      exact ⟨rfl, Below.refl _ _⟩
  · obtain rfl : b = false := by rw [← hb, decide_eq_false h1]; simp
    clear hb
    go_enter Tryz.func42, Tryz.ntmps42
    go_wp2
    go_ret
    exact ⟨rfl, Below.refl _ _⟩
end Go.Proofs.YtoambcpjdcehhaaGreat.Tb
