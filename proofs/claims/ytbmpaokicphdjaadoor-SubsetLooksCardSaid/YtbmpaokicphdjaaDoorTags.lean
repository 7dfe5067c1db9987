/- Things that lie apart: each has a block of its own, or none. -/
import Derived.Test.YtbmpaokicphdjaaDoorCut
set_option linter.unusedVariables false
set_option linter.unusedSimpArgs false
set_option linter.unusedVariables false
namespace Go.Proofs.YtbmpaokicphdjaaDoor.Base
open Go Go.RowKit Go.Proofs.YtbmpaokicphdjaaDoor.Can

structure Tags (z : Nat) (w : World) (O : Nat → Option Nat) : Prop where
  dist : ∀ i j k, i ≠ j → O i = some k → O j ≠ some k
  lt : ∀ i k, O i = some k → z ≤ k ∧ k < w.heap.size
def putO (O : Nat → Option Nat) (c : Nat) (own : Option Nat) : Nat → Option Nat := fun j => if j = c then own else O j
theorem putO_same (O : Nat → Option Nat) (c : Nat) (own : Option Nat) : putO O c own c = own := by simp [putO]
theorem putO_ne {O : Nat → Option Nat} {c j : Nat} {own : Option Nat} (h : j ≠ c) : putO O c own j = O j := by simp [putO, h]
section
variable {z : Nat} {w w' : World} {O : Nat → Option Nat}
theorem Tags.nil (z : Nat) (w : World) : Tags z w (fun _ => none) := ⟨fun _ _ _ _ h => (by cases h), fun _ _ h => (by cases h)⟩
theorem Tags.grow (h : Tags z w O) (hz : w.heap.size ≤ w'.heap.size) : Tags z w' O := ⟨h.dist, fun i k hk => ⟨(h.lt i k hk).1, Nat.lt_of_lt_of_le (h.lt i k hk).2 hz⟩⟩
theorem Tags.step (h : Tags z w O) {c : Nat} {own : Option Nat} (ho : own = O c ∨ own = some w.heap.size) (hzz : z ≤ w.heap.size) (hz : w.heap.size ≤ w'.heap.size) (hn : ∀ k, own = some k → k < w'.heap.size) : Tags z w' (putO O c own) := by
  have hl : ∀ i k, putO O c own i = some k → z ≤ k ∧ k < w'.heap.size := fun i k hk => by
    by_cases hi : i = c
    · subst hi
      rw [putO_same] at hk
      refine ⟨?_, hn k hk⟩
      rcases ho with ho | ho
      · exact (h.lt i k (by rw [← ho]; exact hk)).1
      · rw [ho] at hk; cases hk; exact hzz
    · rw [putO_ne hi] at hk
      exact ⟨(h.lt i k hk).1, Nat.lt_of_lt_of_le (h.lt i k hk).2 hz⟩
  refine ⟨fun i j k hij hi hj => ?_, hl⟩
  by_cases hic : i = c
  · subst hic
    rw [putO_same] at hi
    rw [putO_ne (Ne.symm hij)] at hj
    rcases ho with ho | ho
    · exact h.dist i j k hij (by rw [← ho]; exact hi) hj
    · rw [ho] at hi; cases hi
      exact absurd (h.lt j _ hj).2 (Nat.lt_irrefl _)
  · rw [putO_ne hic] at hi
    by_cases hjc : j = c
    · subst hjc
      rw [putO_same] at hj
      rcases ho with ho | ho
      · exact h.dist i j k hij hi (by rw [← ho]; exact hj)
      · rw [ho] at hj; cases hj
        exact absurd (h.lt i _ hi).2 (Nat.lt_irrefl _)
    · rw [putO_ne hjc] at hj
      exact h.dist i j k hij hi hj
/-- What lies apart from c stays. -/
theorem Tags.other (h : Tags z w O) {c j k : Nat} (hm : ∀ k, k < w.heap.size → O c ≠ some k → w'.heap[k]? = w.heap[k]?) (hj : j ≠ c) (hk : O j = some k) : w'.heap[k]? = w.heap[k]? :=
  hm k (h.lt j k hk).2 (h.dist j c k hj hk)
end
end Go.Proofs.YtbmpaokicphdjaaDoor.Base
