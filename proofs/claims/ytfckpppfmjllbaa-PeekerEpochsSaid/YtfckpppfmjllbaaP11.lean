/- What is kept from step to step; frames, as they are read. -/
import Derived.Test.YtfckpppfmjllbaaP10
import Derived.Test.YtfckpppfmjllbaaInts
namespace Go.Proofs.Ytfckpppfmjllbaa.Fn
open Go Go.RowKit Go.Proofs.Ytfckpppfmjllbaa.Can Go.Proofs.Ytfckpppfmjllbaa.Base

theorem failR_le (s : PS) : failR s ≤ 2 := by unfold failR; split <;> omega
theorem step_ok {s : PS} (f : Frame) (h : Ok s) (hs : s.st ≤ 999) : Ok (stepP s f) ∧ (stepP s f).st ≤ s.st + 1 := by
  obtain ⟨n1, n2, re, tr, st, ph, l1, ho⟩ := h
  unfold stepP
  split
  · exact ⟨⟨n1, n2, re, tr, st, ph, l1, ho⟩, Nat.le_succ _⟩
  · split
    · exact ⟨⟨n1, n2, re, by show s.tr ≤ s.st + 1; omega, by show s.st + 1 ≤ 1000; omega, by show 1 ≤ 2; omega, fun _ => ⟨n1, Nat.le_refl _⟩, by show 0 ≤ 2; omega⟩, Nat.le_refl _⟩
    · rename_i hp
      have hl := l1 hp
      unfold lookP lookR
      cases hg : getE f.l ⟨s.a, s.m⟩ with
      | none =>
        simp only [hg, failP]
        exact ⟨⟨n1, n2, re, by show s.tr + 1 ≤ s.st + 1; omega, by show s.st + 1 ≤ 1000; omega, by show 0 ≤ 2; omega, (fun h => by have h9 : (0 : Nat) = 1 := h; omega), failR_le _⟩, Nat.le_refl _⟩
      | some t =>
        simp only [hg]
        refine ⟨⟨n1, n2, re, by show s.tr ≤ s.st + 1; omega, by show s.st + 1 ≤ 1000; omega, ?_, ?_, by show 0 ≤ 2; omega⟩, Nat.le_refl _⟩
        · show (if s.le - 1 = 0 then 2 else s.ph) ≤ 2
          split <;> omega
        · show (if s.le - 1 = 0 then 2 else s.ph) = 1 → 1 ≤ s.le - 1 ∧ s.le - 1 ≤ s.n
          split <;> omega
    · split
      · exact ⟨⟨n1, n2, re, by show s.tr ≤ s.st + 1; omega, by show s.st + 1 ≤ 1000; omega, ph, l1, by show 1 ≤ 2; omega⟩, Nat.le_refl _⟩
      · exact ⟨⟨n1, n2, re, by show s.tr + 1 ≤ s.st + 1; omega, by show s.st + 1 ≤ 1000; omega, by show 0 ≤ 2; omega, (fun h => by have h9 : (0 : Nat) = 1 := h; omega), failR_le _⟩, Nat.le_refl _⟩
theorem eq35 (d : Nat) (w : World) (x : Tok) : (Op.equalIn (d + 2) 35 (tokV x) (tokV x)).run Try.prog w = .ok true w := by
  refine eq_struct Try.underlying35 (by kernel_rfl) ?_
  simp [Op.eqFields, go_sem]
theorem ne35 (w : World) (x : Tok) : (binOp .neq 35 (tokV x) (tokV x)).run Try.prog w = .ok (.bool false) w := by
  have h := eq35 9998 w x
  unfold tokV at h ⊢
  simp only [binOp]
  simp [Op.equal, Op.maxDepth, h]
def fin6 (l : {l : List Int // l.length = 6}) : Tok := ⟨l.1[0]'(by rw [l.2]; decide), l.1[1]'(by rw [l.2]; decide), l.1[2]'(by rw [l.2]; decide), l.1[3]'(by rw [l.2]; decide), l.1[4]'(by rw [l.2]; decide), l.1[5]'(by rw [l.2]; decide)⟩
theorem opens35 : Opens Try.prog 35 tokT (fun _ => True) :=
  (opens_ints (k := .i64) 6 Try.underlying35 rfl (fun i hi => by
    match i, hi with
    | 0, _ => exact ⟨_, rfl, Try.underlying3, rfl, by kernel_rfl⟩
    | 1, _ => exact ⟨_, rfl, Try.underlying3, rfl, by kernel_rfl⟩
    | 2, _ => exact ⟨_, rfl, Try.underlying3, rfl, by kernel_rfl⟩
    | 3, _ => exact ⟨_, rfl, Try.underlying3, rfl, by kernel_rfl⟩
    | 4, _ => exact ⟨_, rfl, Try.underlying3, rfl, by kernel_rfl⟩
    | 5, _ => exact ⟨_, rfl, Try.underlying3, rfl, by kernel_rfl⟩) (by kernel_rfl)).map fin6 (fun _ _ => trivial) (by
    rintro w S ⟨l, hl⟩ cs h
    have h' : cs = l.map (.int .i64) := h
    subst h'
    match l, hl with
    | [a, b, c, d, e, f], _ => rfl)
theorem opens57 : Opens Try.prog 57 eT (fun _ => True) :=
  (opens_struct2 (a := spotT) (b := tokT) Try.underlying57 opens28 opens35 rfl rfl (by kernel_rfl) (by kernel_rfl) (by kernel_rfl)).map (fun x => ⟨x.1, x.2⟩) (fun _ _ => trivial) (by
    rintro w S x cs ⟨c0, c1, rfl, h0, h1⟩
    have h0' : c0 = spotE x.1 := h0
    have h1' : c1 = tokE x.2 := h1
    subst h0' h1'
    rfl)
theorem opens31 : Opens Try.prog 31 frameT (fun _ => True) :=
  (opens_struct3 (a := Ty.int .i64) (b := spotT) (c := Ty.slice eT (by decide)) Try.underlying31 (opens_int Try.underlying3) opens28 (opens_slice Try.underlying29 (by kernel_rfl) (by decide) opens57) rfl rfl rfl (by kernel_rfl) (by kernel_rfl) (by kernel_rfl) (by kernel_rfl)).map (fun x => (⟨x.1, x.2.1, x.2.2⟩ : Frame)) (fun _ _ => trivial) (fun w S x cs h => h)
theorem opens22 : Opens Try.prog 22 (Ty.slice frameT (by decide)) (fun xs => ∀ x ∈ xs, True) := opens_slice Try.underlying22 (by kernel_rfl) (by decide) opens31
end Go.Proofs.Ytfckpppfmjllbaa.Fn
