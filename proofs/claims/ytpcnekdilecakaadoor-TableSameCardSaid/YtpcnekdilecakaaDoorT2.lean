/- A lexer's bytes: names, and which may be, as the code asks. -/
import Derived.Test.YtpcnekdilecakaaDoorT1
set_option linter.unusedVariables false
set_option linter.unusedSimpArgs false
namespace Go.Proofs.YtpcnekdilecakaaDoor.Tb
open Go Go.RowKit Go.Proofs.YtpcnekdilecakaaDoor.Base

instance : LawfulBEq ByteArray where
  eq_of_beq {a b} h := by
    obtain ⟨a⟩ := a; obtain ⟨b⟩ := b
    have h' : (a == b) = true := h
    rw [eq_of_beq h']
  rfl {a} := by
    obtain ⟨a⟩ := a
    show (a == a) = true
    exact beq_self_eq_true a
/-- So many bytes of a name a text begins with. -/
def leadN (s : ByteArray) : Nat := match bl s with
  | [] => 0
  | c :: l => if letB c then ((c :: l).takeWhile partB).length else 0
theorem takeWhile_all {α : Type} (p : α → Bool) : ∀ l : List α, (l.takeWhile p).length = l.length ↔ l.all p = true
  | [] => by simp
  | x :: l => by
    rw [List.takeWhile_cons]
    cases hx : p x with
    | false => simp [hx]
    | true =>
      simp only [if_true, List.length_cons, List.all_cons, hx, Bool.true_and]
      rw [← takeWhile_all p l]
      omega
theorem let_part {c : UInt8} (h : letB c = true) : partB c = true := by unfold partB; rw [h]; rfl
theorem lead_nil {s : ByteArray} (h : bl s = []) : leadN s = 0 := by unfold leadN; rw [h]
theorem lead_no {s : ByteArray} {c : UInt8} {l : List UInt8} (h : bl s = c :: l) (hc : ¬ letB c = true) : leadN s = 0 := by unfold leadN; rw [h]; exact if_neg hc
theorem lead_yes {s : ByteArray} {c : UInt8} {l : List UInt8} (h : bl s = c :: l) (hc : letB c = true) : leadN s = ((bl s).takeWhile partB).length := by unfold leadN; rw [h]; exact if_pos hc
theorem name_cons {s : ByteArray} {c : UInt8} {l : List UInt8} (h : bl s = c :: l) : nameB s = (decide (s.size ≤ 32) && letB c && l.all partB) := by unfold nameB; rw [h]
theorem name_is (s : ByteArray) : nameB s = (decide (s.size ≠ 0) && decide (s.size ≤ 32) && decide (leadN s = s.size)) := by
  have hs : s.size = (bl s).length := (bl_len s).symm
  cases hb : bl s with
  | nil =>
    have h1 : nameB s = false := by unfold nameB; rw [hb]
    rw [h1, lead_nil hb, hs, hb]; rfl
  | cons c l =>
    have h0 : s.size ≠ 0 := by rw [hs, hb]; simp
    rw [name_cons hb, decide_eq_true h0, Bool.true_and]
    cases h2 : decide (s.size ≤ 32) with
    | false => simp
    | true =>
      rw [Bool.true_and, Bool.true_and]
      by_cases hc : letB c = true
      · have h3 := takeWhile_all partB (c :: l)
        rw [List.all_cons, let_part hc, Bool.true_and] at h3
        rw [lead_yes hb hc, hs, hb, hc, Bool.true_and]
        cases hl : l.all partB with
        | true => exact (decide_eq_true (h3.2 hl)).symm
        | false => exact (decide_eq_false fun h => by rw [h3.1 h] at hl; cases hl).symm
      · rw [lead_no hb hc, Bool.eq_false_iff.2 hc, Bool.false_and]
        exact (decide_eq_false (Ne.symm h0)).symm
/-- A text's bytes, so many of which are so. -/
theorem span_more {p : UInt8 → Bool} {l : List UInt8} {k : Nat} {c : UInt8} (hk : k ≤ (l.takeWhile p).length) (hc : l[k]? = some c) : (p c = true → k + 1 ≤ (l.takeWhile p).length) ∧ (p c = false → (l.takeWhile p).length = k) := by
  induction l generalizing k with
  | nil => simp at hc
  | cons x l ih =>
    rw [List.takeWhile_cons] at hk ⊢
    cases k with
    | zero =>
      obtain rfl : x = c := by simpa using hc
      cases hx : p x <;> simp [hx]
    | succ k =>
      cases hx : p x with
      | false => rw [hx] at hk; simp at hk
      | true =>
        rw [hx] at hk
        simp only [if_true, List.length_cons] at hk ⊢
        have := ih (k := k) (by omega) (by simpa using hc)
        exact ⟨fun h => by have := this.1 h; omega, fun h => by have := this.2 h; omega⟩
theorem span_all {p : UInt8 → Bool} {l : List UInt8} {k : Nat} (hk : k ≤ (l.takeWhile p).length) (hl : l.length ≤ k) : (l.takeWhile p).length = k := by
  have := (List.takeWhile_sublist p (l := l)).length_le
  omega
/-! ### Names, all unlike -/
section
variable {α : Type} [BEq α] [LawfulBEq α]
theorem idx_get {l : List α} {x : α} (h : x ∈ l) : l[l.idxOf x]? = some x := by
  have hl := List.idxOf_lt_length_of_mem h
  rw [List.getElem?_eq_getElem hl, List.getElem_idxOf]
theorem idx_not {l : List α} {x y : α} {i : Nat} (h : i < l.idxOf x) (hy : l[i]? = some y) : y ≠ x := fun e => by
  obtain ⟨hl, rfl⟩ := List.getElem?_eq_some_iff.1 hy
  have := List.not_of_lt_findIdx (p := fun z => z == x) h
  rw [e] at this
  simp at this
theorem idx_le {l : List α} {i : Nat} {x : α} (h : l[i]? = some x) : l.idxOf x ≤ i := by
  rcases Nat.lt_or_ge i (l.idxOf x) with h1 | h1
  · exact absurd rfl (idx_not h1 h)
  · exact h1
theorem nodup_iff (l : List α) : l.Nodup ↔ ∀ (i : Nat) (x : α), l[i]? = some x → l.idxOf x = i := by
  unfold List.Nodup
  rw [List.pairwise_iff_getElem]
  constructor
  · intro h i x hx
    obtain ⟨hi, rfl⟩ := List.getElem?_eq_some_iff.1 hx
    have h1 := idx_le hx
    have h2 := idx_get (l := l) (x := l[i]) (List.getElem_mem _)
    rcases Nat.lt_or_ge (l.idxOf l[i]) i with h3 | h3
    · obtain ⟨h4, h5⟩ := List.getElem?_eq_some_iff.1 h2
      exact absurd h5 (h _ _ h4 hi h3)
    · omega
  · intro h i j hi hj hij e
    have h1 := h i _ (List.getElem?_eq_getElem hi)
    have h2 := h j _ (List.getElem?_eq_getElem hj)
    rw [e] at h1
    omega
/-- As a loop looks for it: not among the first ones. -/
theorem idx_at {l : List α} {i : Nat} {x : α} (h : x ∉ l.take i) (hx : l[i]? = some x) : l.idxOf x = i := by
  have h1 := idx_le hx
  rcases Nat.lt_or_ge (l.idxOf x) i with h2 | h2
  · exfalso
    apply h
    have h3 := idx_get (l := l) (x := x) (List.mem_of_getElem? hx)
    obtain ⟨h4, h5⟩ := List.getElem?_eq_some_iff.1 h3
    rw [← h5]
    exact List.mem_take_iff_getElem.2 ⟨l.idxOf x, by omega, rfl⟩
  · omega
end
/-- So many names may be. -/
def modesK (l : List ByteArray) (k : Nat) : Prop := ∀ (i : Nat) (x : ByteArray), i < k → l[i]? = some x → nameB x = true ∧ l.idxOf x = i
theorem modesK_zero (l : List ByteArray) : modesK l 0 := fun _ _ h => absurd h (Nat.not_lt_zero _)
theorem modesK_succ {l : List ByteArray} {k : Nat} {x : ByteArray} (h : modesK l k) (hx : l[k]? = some x) (h1 : nameB x = true) (h2 : l.idxOf x = k) : modesK l (k + 1) := fun i y hi hy => by
  rcases Nat.lt_or_ge i k with h3 | h3
  · exact h i y h3 hy
  · obtain rfl : i = k := by omega
    obtain rfl : x = y := Option.some.inj (hx.symm.trans hy)
    exact ⟨h1, h2⟩
theorem modes_iff (l : List ByteArray) : modesB l = true ↔ modesK l l.length := by
  unfold modesB
  rw [Bool.and_eq_true, decide_eq_true_eq, List.all_eq_true, nodup_iff]
  constructor
  · rintro ⟨h1, h2⟩ i x _ hx
    exact ⟨h1 x (List.mem_of_getElem? hx), h2 i x hx⟩
  · intro h
    refine ⟨fun x hx => ?_, fun i x hx => (h i x (List.getElem?_eq_some_iff.1 hx).1 hx).2⟩
    obtain ⟨i, hi⟩ := List.getElem?_of_mem hx
    exact (h i x (List.getElem?_eq_some_iff.1 hi).1 hi).1
theorem modes_no {l : List ByteArray} {k : Nat} {x : ByteArray} (hx : l[k]? = some x) (h : ¬ (nameB x = true ∧ l.idxOf x = k)) : modesB l = false := by
  rw [Bool.eq_false_iff]
  exact fun h1 => h ((modes_iff l).1 h1 k x (List.getElem?_eq_some_iff.1 hx).1 hx)
end Go.Proofs.YtpcnekdilecakaaDoor.Tb
