/- What a desk is in memory, and what the calls that only look at it compute. -/
import Derived.Test.YtipehakaiiofiaaProg
import Derived.Test.YtipehakaiiofiaaFrame
namespace Go.Proofs.Ytipehakaiiofiaa.Fn
open Go Go.RowKit Go.Proofs.Ytipehakaiiofiaa.Can Go.Proofs.Ytipehakaiiofiaa.Base
attribute [local go_sem] clsB AB.cell

theorem mod_ne {a i j m : Nat} (hi : i < m) (hj : j < m) (h : i ≠ j) : (a + i) % m ≠ (a + j) % m := fun he => by
  apply h
  have h1 : (a + i) % m = (a % m + i) % m := by rw [Nat.add_mod, Nat.add_mod (a % m) i, Nat.mod_mod]
  have h2 : (a + j) % m = (a % m + j) % m := by rw [Nat.add_mod, Nat.add_mod (a % m) j, Nat.mod_mod]
  rw [h1, h2] at he
  have hm : a % m < m := Nat.mod_lt _ (by omega)
  generalize a % m = c at he hm
  rcases Nat.lt_or_ge (c + i) m with h3 | h3 <;> rcases Nat.lt_or_ge (c + j) m with h4 | h4
  · rw [Nat.mod_eq_of_lt h3, Nat.mod_eq_of_lt h4] at he; omega
  · rw [Nat.mod_eq_of_lt h3, Nat.mod_eq_sub_mod h4, Nat.mod_eq_of_lt (by omega)] at he; omega
  · rw [Nat.mod_eq_of_lt h4, Nat.mod_eq_sub_mod h3, Nat.mod_eq_of_lt (by omega)] at he; omega
  · rw [Nat.mod_eq_sub_mod h3, Nat.mod_eq_sub_mod h4, Nat.mod_eq_of_lt (show c + i - m < m by omega), Nat.mod_eq_of_lt (show c + j - m < m by omega)] at he; omega

/-- The ring holds the line L from a on. -/
def Ring {α : Type} (rs : List α) (a : Nat) (L : List α) : Prop := ∀ i, i < L.length → rs[(a + i) % rs.length]? = L[i]?
theorem Ring.line {α : Type} {rs L : List α} {a : Nat} (h : Ring rs a L) (hn : L.length < rs.length) (v : α) : Ring (rs.set ((a + L.length) % rs.length) v) a (L ++ [v]) := by
  intro i hi
  simp only [List.length_set]
  simp only [List.length_append, List.length_singleton] at hi
  rcases Nat.lt_or_ge i L.length with h1 | h1
  · rw [List.getElem?_set_ne (mod_ne hn (by omega) (by omega)), List.getElem?_append_left h1]
    exact h i h1
  · obtain rfl : i = L.length := by omega
    rw [List.getElem?_set_self (Nat.mod_lt _ (by omega))]
    simp
theorem Ring.call {α : Type} {rs L : List α} {a : Nat} {x : α} (h : Ring rs a (x :: L)) (hn : L.length < rs.length) (ha : a < rs.length) (z : α) : Ring (rs.set a z) ((a + 1) % rs.length) L := by
  intro i hi
  simp only [List.length_set]
  have h1 : ((a + 1) % rs.length + i) % rs.length = (a + (i + 1)) % rs.length := by
    rw [Nat.mod_add_mod]; congr 1; omega
  rw [h1]
  have h2 : a = (a + 0) % rs.length := by rw [Nat.add_zero, Nat.mod_eq_of_lt ha]
  rw [List.getElem?_set_ne (by
    have := mod_ne (a := a) (show 0 < rs.length by omega) (show i + 1 < rs.length by omega) (by omega)
    rwa [← h2] at this)]
  have := h (i + 1) (by simp; omega)
  simpa using this
theorem Ring.head {α : Type} {rs L : List α} {a : Nat} {x : α} (h : Ring rs a (x :: L)) (ha : a < rs.length) : rs[a]? = some x := by
  have := h 0 (by simp)
  rwa [Nat.add_zero, Nat.mod_eq_of_lt ha] at this

/-- A desk in memory: the struct in block p, the ring in block r. -/
structure Desk {α : Type} (enc : α → Value) (tD tE : TypeId) (w : World) (p r m held : Nat) (L : List α) (rs : List α) (a : Nat) : Prop where
  str : w.heap[p]? = some (.cells #[.slice (some ⟨r, 0, none⟩) m m, .int .i64 a, .int .i64 L.length, .int .i64 held] tD (0, 0))
  row : w.heap[r]? = some (.cells (rs.map enc).toArray tE (0, 0))
  ne : p ≠ r
  len : rs.length = m
  m0 : 0 < m
  m1 : m ≤ 4096
  lt : a < m
  in_ : L.length ≤ held
  held_ : held ≤ m
  ring : Ring rs a L
end Go.Proofs.Ytipehakaiiofiaa.Fn
