/- What Put computes. -/
import Derived.Test.YtbdnhdecclndfaaR2
namespace Go.Proofs.Ytbdnhdecclndfaa.Fn
open Go Go.RowKit Go.Proofs.Ytbdnhdecclndfaa.Can Go.Proofs.Ytbdnhdecclndfaa.Base
attribute [local go_sem] clsB AB.cell

theorem mod_ne {a i j m : Nat} (hi : i < m) (hj : j < m) (h : i ≠ j) : (a + i) % m ≠ (a + j) % m := fun he => by
  apply h
  have h1 : (a + i) % m = (a % m + i) % m := by rw [Nat.add_mod, Nat.add_mod (a % m) i, Nat.mod_mod]
  have h2 : (a + j) % m = (a % m + j) % m := by rw [Nat.add_mod, Nat.add_mod (a % m) j, Nat.mod_mod]
  rw [h1, h2] at he
  have hm : a % m < m := Nat.mod_lt _ (by omega)
  generalize a % m = c at he hm
  rcases Nat.lt_or_ge (c + i) m with h3 | h3 <;> rcases Nat.lt_or_ge (c + j) m with h4 | h4
  · rw [Nat.mod_eq_of_lt h3, Nat.mod_eq_of_lt h4] at he; omega
  · rw [Nat.mod_eq_of_lt h3, Nat.mod_eq_sub_mod h4, Nat.mod_eq_of_lt (by omega)] at he; omega
  · rw [Nat.mod_eq_of_lt h4, Nat.mod_eq_sub_mod h3, Nat.mod_eq_of_lt (by omega)] at he; omega
  · rw [Nat.mod_eq_sub_mod h3, Nat.mod_eq_sub_mod h4, Nat.mod_eq_of_lt (show c + i - m < m by omega), Nat.mod_eq_of_lt (show c + j - m < m by omega)] at he; omega
/-- Bytes laid over others, from a place on. -/
def putL : List UInt8 → Nat → List UInt8 → List UInt8
  | rs, _, [] => rs
  | rs, o, x :: l => putL (rs.set o x) (o + 1) l
theorem putL_len (rs : List UInt8) (o : Nat) (l : List UInt8) : (putL rs o l).length = rs.length := by
  induction l generalizing rs o with
  | nil => rfl
  | cons x l ih => simp only [putL]; rw [ih, List.length_set]
theorem putL_get (rs : List UInt8) (o : Nat) (l : List UInt8) (h : o + l.length ≤ rs.length) (i : Nat) : (putL rs o l)[i]? = if o ≤ i ∧ i < o + l.length then l[i - o]? else rs[i]? := by
  induction l generalizing rs o with
  | nil => simp only [putL, List.length_nil]; rw [if_neg (by omega)]
  | cons x l ih =>
    simp only [List.length_cons] at h
    simp only [putL]
    rw [ih _ _ (by rw [List.length_set]; omega), List.getElem?_set]
    simp only [List.length_cons]
    by_cases h1 : o = i
    · subst h1
      rw [if_neg (by omega), if_pos rfl, if_pos (by omega), if_pos (by omega), Nat.sub_self]; rfl
    · by_cases h2 : o + 1 ≤ i ∧ i < o + 1 + l.length
      · rw [if_pos h2, if_pos (by omega), show i - o = (i - (o + 1)) + 1 by omega]; rfl
      · rw [if_neg h2, if_neg h1, if_neg (by omega)]
theorem Blk.puts {w : World} {e : TypeId} {g : Nat} {rs : List UInt8} (h : Blk uE w e g rs) (o : Nat) (l : List UInt8) (hl : o + l.length ≤ rs.length) : Blk uE (w.setCells g o (l.map fun x => Value.int .u8 (x.toNat : Int))) e g (putL rs o l) := by
  induction l generalizing w rs o with
  | nil => exact h
  | cons x l ih =>
    simp only [List.length_cons] at hl
    have h1 := h.set0 (i := o) (x := rs[o]'(by omega)) (y := x) (v := .int .u8 (x.toNat : Int)) u_len (List.getElem?_eq_getElem _) (by decide) rfl
    rw [Nat.mul_one] at h1
    exact ih h1 (o + 1) (by rw [List.length_set]; omega)
theorem fr_puts {X : Nat → Prop} {w w' : World} (h : Fr X w w') {g : Nat} (hg : X g ∨ w.heap.size ≤ g) (o : Nat) (vs : List Value) : Fr X w (w'.setCells g o vs) := by
  induction vs generalizing w' o with
  | nil => exact h
  | cons v vs ih => exact ih (h.set hg o v) (o + 1)
theorem far_puts {w : World} {g b : Nat} (hne : b ≠ g) (o : Nat) (vs : List Value) : (w.setCells g o vs).heap[b]? = w.heap[b]? := by
  induction vs generalizing w o with
  | nil => rfl
  | cons v vs ih => exact (ih (w := w.setCell ⟨g, o, none⟩ v) (o + 1)).trans (Below.heap_setCell w ⟨g, o, none⟩ v b hne)
theorem run_copy_min {P : Program} (w : World) (dT sT ty elem : TypeId) (b o dLen dCap n : Nat) (t : ByteArray) (hu : P.underlying dT = some (.slice elem)) (hz : ∀ w, (Go.sizeOf elem).run P w = .ok 1 w) (hn : Nat.min t.size dLen = n)
    (hc : ∀ j, j < n → (w.cell? ⟨b, o + j, none⟩).isSome = true) (hf : ∀ j, j < n → w.frozen? ⟨b, o + j, none⟩ = false) :
    (Builtin.copy_ #[dT, sT] ty #[.slice (some ⟨b, o, none⟩) dLen dCap, .string t]).run P w = .ok (.int .i64 n) (w.setCells b o ((t.data.toList.take n).map fun x => Value.int .u8 (x.toNat : Int))) := by
  have hts : t.data.toList.length = t.size := rfl
  have hl : ((t.data.toList.take n).map fun x => Value.int .u8 (x.toNat : Int)).length = n := by
    rw [List.length_map, List.length_take, hts, ← hn]; exact Nat.min_eq_left (Nat.min_le_left _ _)
  have hst := run_storeCells_cells (P := P) b o ((t.data.toList.take n).map fun x => Value.int .u8 (x.toNat : Int)) 0 w (by rw [hl]; simpa using hc) (by rw [hl]; simpa using hf) (by
    intro v hv
    obtain ⟨x, _, rfl⟩ := List.mem_map.1 hv
    rfl)
  simp [Builtin.copy_, run_underlying hu, Builtin.lenOf, Builtin.firstCells, hz, hn, ← List.map_take, hst, Sem.run_bind, Result.andThen, goInt]
theorem ring_put {m fl : Nat} {all rs l : List UInt8} (ok : ∀ i, fl ≤ i → i < all.length → rs[i % m]? = all[i]?) (hm : 0 < m) (hlen : rs.length = m) (hroom : all.length + l.length ≤ fl + m) (hch : all.length % m + l.length ≤ m) :
    ∀ i, fl ≤ i → i < (all ++ l).length → (putL rs (all.length % m) l)[i % m]? = (all ++ l)[i]? := by
  intro i hi hl
  rw [List.length_append] at hl
  rw [putL_get _ _ _ (by rw [hlen]; exact hch)]
  rcases Nat.lt_or_ge i all.length with h1 | h1
  · rw [List.getElem?_append_left h1, if_neg]
    · exact ok i hi h1
    · rintro ⟨h2, h3⟩
      obtain ⟨t, ht⟩ : ∃ t, i % m = all.length % m + t := ⟨i % m - all.length % m, by omega⟩
      have h4 : (all.length + t) % m = i % m := by
        rw [ht, Nat.add_mod, Nat.mod_eq_of_lt (a := t) (by omega), Nat.mod_eq_of_lt]
        rw [← ht]; exact Nat.mod_lt _ hm
      have h5 := mod_ne (a := i) (i := 0) (j := all.length + t - i) (m := m) hm (by omega) (by omega)
      rw [Nat.add_zero, show i + (all.length + t - i) = all.length + t by omega, h4] at h5
      exact h5 rfl
  · have h2 : i % m = all.length % m + (i - all.length) := by
      have h3 : i = all.length + (i - all.length) := by omega
      have h4 : all.length % m + (i - all.length) < m := by omega
      conv => lhs; rw [h3]
      rw [Nat.add_mod, Nat.mod_eq_of_lt (a := i - all.length) (by omega), Nat.mod_eq_of_lt h4]
    rw [h2, if_pos (by omega), List.getElem?_append_right h1, show all.length % m + (i - all.length) - all.length % m = i - all.length by omega]
end Go.Proofs.Ytbdnhdecclndfaa.Fn
