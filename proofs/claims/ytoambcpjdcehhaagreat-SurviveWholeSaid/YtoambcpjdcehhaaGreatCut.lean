/- A slice's beginning; owned rows, elsewhere written. -/
import Derived.Test.YtoambcpjdcehhaaGreatGrow
set_option linter.unusedVariables false
set_option linter.unusedSimpArgs false
set_option linter.unusedVariables false
namespace Go.Proofs.YtoambcpjdcehhaaGreat.Base
open Go Go.RowKit
/-- xs[:m], its address under one name. -/
theorem cut_to {α : Type} {P : Program} (T : Ty α) (t e : TypeId) {i : TypeInfo} (ht : P.underlying t = some (.slice e)) (hi : P.info? e = some i) (hsz : i.size = T.sz) (A : Option Addr) (n c m : Nat) (hm : m ≤ n) (hc : n ≤ c) :
    ∃ A' : Option Addr, (∀ (W : World) (kh : IntKind), (Instr.slice t (.slice A n c) none (some (.int kh (m : Int))) none).run P W = .ok (.slice A' m c) W) ∧ (∀ (w : World) (S : Nat → Prop) (xs : List α), Row T w S A n xs → Row T w S A' m (xs.take m)) ∧ ((A = none → c = 0) → A' = none → c = 0) := by
  refine ⟨if c = 0 then A else A.map (·.add (0 * T.sz)), fun W kh => ?_, fun w S xs h => ?_, fun h h' => ?_⟩
  · have hel : P.elem t = e := by simp [Program.elem, ht]
    have hu : P.underlying t = some (.slice (P.elem t)) := by rw [hel]; exact ht
    rw [run_slice_h W t A n c hu kh m (by omega) (by omega), hel]
    simp [sizeOf, typeInfo, hi, hsz, sliced, Result.andThen]
  · have := h.drop 0 c (Nat.zero_le _) hc
    rw [Nat.sub_zero, List.drop_zero] at this
    exact this.take m hm
  · split at h'
    · exact h h'
    · cases A with
      | none => exact h rfl
      | some a => simp at h'
/-- xs[:m:m]: the same place. -/
theorem cut_max {α : Type} {P : Program} (T : Ty α) (t e : TypeId) {i : TypeInfo} (ht : P.underlying t = some (.slice e)) (hi : P.info? e = some i) {w : World} {S : Nat → Prop} {A : Option Addr} {n c m : Nat} {xs : List α} (h : Row T w S A n xs) (hm : m ≤ n) (hc : n ≤ c) :
    ∀ (W : World) (k1 k2 : IntKind), (Instr.slice t (.slice A n c) none (some (.int k1 (m : Int))) (some (.int k2 (m : Int)))).run P W = .ok (.slice A m m) W := by
  intro W k1 k2
  have hel : P.elem t = e := by simp [Program.elem, ht]
  have hu : P.underlying t = some (.slice (P.elem t)) := by rw [hel]; exact ht
  rw [run_slice_hm W t A n c hu k1 k2 m m (by omega) (by omega) (by omega), hel]
  rcases Nat.eq_zero_or_pos m with h0 | h0
  · subst h0
    simp [sizeOf, typeInfo, hi, sliced, Result.andThen]
  · obtain ⟨b, off, rfl, _⟩ := h.2.2 (by omega)
    have ha : (⟨b, off, none⟩ : Addr).add (0 * i.size) = ⟨b, off, none⟩ := by rw [Nat.zero_mul]; unfold Addr.add; simp
    simp [sizeOf, typeInfo, hi, sliced, Result.andThen, Addr.add]
section
variable {α : Type} {T : Ty α} {w w' : World} {base : Nat} {e : TypeId} {v : Value} {xs : List α} {X : Nat → Prop}
theorem Mine.mv (h : Mine T w base e v xs) (hm : ∀ k, v.ownBlock = some k → w'.heap[k]? = w.heap[k]?) (hz : w.heap.size ≤ w'.heap.size) : Mine T w' base e v xs :=
  Own.move h (fun k hk => by rcases hk with hk | hk; exact hk.elim; exact hm k hk) hz
theorem Mine.by (h : Mine T w base e v xs) (hf : Fr X w w') (hX : ∀ b, X b → b < base) : Mine T w' base e v xs :=
  h.mv (fun k hk => hf.same k (h.lt hk).1 fun hx => by have := hX k hx; have := (h.lt hk).2; omega) hf.size
end
end Go.Proofs.YtoambcpjdcehhaaGreat.Base
