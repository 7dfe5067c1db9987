/- The world but for some blocks. -/
import Derived.Test.YtoambcpjdcehhaaGreatBase
set_option linter.unusedVariables false
set_option linter.unusedSimpArgs false
set_option linter.unusedVariables false
namespace Go.Proofs.YtoambcpjdcehhaaGreat.Base
open Go Go.RowKit

/-- As it was, but for the blocks X, and new ones. -/
structure Fr (X : Nat → Prop) (w w' : World) : Prop where
  zero : Below 0 w w'
  same : ∀ b, b < w.heap.size → ¬ X b → w'.heap[b]? = w.heap[b]?

section
variable {X Y : Nat → Prop} {w w' w'' : World}
theorem Fr.size (h : Fr X w w') : w.heap.size ≤ w'.heap.size := h.zero.size
theorem Fr.refl (X : Nat → Prop) (w : World) : Fr X w w := ⟨Below.refl _ _, fun _ _ _ => rfl⟩
theorem Fr.trans (h : Fr X w w') (k : Fr X w' w'') : Fr X w w'' := ⟨h.zero.trans k.zero, fun b hb hx => (k.same b (Nat.lt_of_lt_of_le hb h.size) hx).trans (h.same b hb hx)⟩
theorem Fr.mono (h : Fr X w w') (hs : ∀ b, X b → Y b) : Fr Y w w' := ⟨h.zero, fun b hb hx => h.same b hb fun hy => hx (hs b hy)⟩
/-- X may be told of the blocks that were there alone. -/
theorem Fr.mono_lt (h : Fr X w w') (hs : ∀ b, b < w.heap.size → X b → Y b) : Fr Y w w' := ⟨h.zero, fun b hb hx => h.same b hb fun hy => hx (hs b hb hy)⟩
theorem Fr.of_below (h : Below w.heap.size w w') : Fr X w w' := ⟨⟨h.os, h.tape, h.output, h.size, fun k hk => absurd hk (Nat.not_lt_zero k)⟩, fun b hb _ => h.block b hb⟩
theorem Fr.below {n : Nat} (h : Fr X w w') (hn : n ≤ w.heap.size) (hX : ∀ b, b < n → ¬ X b) : Below n w w' := ⟨h.zero.os, h.zero.tape, h.zero.output, h.zero.size, fun b hb => h.same b (by omega) (hX b hb)⟩
/-- A stretch of which the earlier world knows: new blocks of the first stretch may be turned in the second. -/
theorem Fr.seq {n : Nat} (h : Below n w w') (k : Fr X w' w'') (hn : n ≤ w'.heap.size) (hX : ∀ b, b < n → ¬ X b) : Below n w w'' := h.trans (k.below hn hX)
theorem Fr.alloc (h : Fr X w w') (o : Obj) : Fr X w (w'.alloc o) := h.trans (Fr.of_below (below_alloc (Below.refl _ _) o))
theorem Fr.drew (h : Fr X w w') : Fr X w w'.drew := ⟨⟨h.zero.os, h.zero.tape, h.zero.output, h.zero.size, fun k hk => absurd hk (Nat.not_lt_zero k)⟩, h.same⟩
theorem Fr.set (h : Fr X w w') {g : Nat} (hg : X g ∨ w.heap.size ≤ g) (i : Nat) (v : Value) : Fr X w (w'.setCell ⟨g, i, none⟩ v) := by
  refine ⟨h.zero.setCell (p := ⟨g, i, none⟩) (Nat.zero_le _) v, fun b hb hx => (Below.heap_setCell w' ⟨g, i, none⟩ v b ?_).trans (h.same b hb hx)⟩
  rintro rfl
  rcases hg with hg | hg
  · exact hx hg
  · exact absurd hb (Nat.not_lt.2 hg)
theorem Fr.blk (h : Fr X w w') {g : Nat} {o : Obj} (hb : w.heap[g]? = some o) (hx : ¬ X g) : w'.heap[g]? = some o := (h.same g (blk_lt hb) hx).trans hb
theorem Fr.row {α : Type} {T : Ty α} {S : Nat → Prop} {A : Option Addr} {n : Nat} {xs : List α} (h : Fr X w w') (hr : Row T w S A n xs) (hS : ∀ b, S b → b < w.heap.size ∧ ¬ X b) : Row T w' S A n xs := hr.move fun b hb => h.same b (hS b hb).1 (hS b hb).2
end
end Go.Proofs.YtoambcpjdcehhaaGreat.Base
