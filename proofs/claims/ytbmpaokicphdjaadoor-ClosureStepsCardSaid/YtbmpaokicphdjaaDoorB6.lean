/- The numbers of a set, rising; a word's lowest bit. -/
import Derived.Test.YtbmpaokicphdjaaDoorB5
namespace Go.Proofs.YtbmpaokicphdjaaDoor.Fn
open Go Go.RowKit Go.Proofs.YtbmpaokicphdjaaDoor.Can Go.Proofs.YtbmpaokicphdjaaDoor.Base

theorem filter_first {p q : Nat → Bool} {n c : Nat} (hc : c < n) (h0 : ∀ j, j < c → p j = false) (h1 : p c = true) (hq : ∀ j, q j = (p j && !decide (j = c))) : (List.range n).filter p = c :: (List.range n).filter q := by
  obtain ⟨d, rfl⟩ : ∃ d, n = c + (1 + d) := ⟨n - c - 1, by omega⟩
  have e : List.range (c + (1 + d)) = List.range c ++ (c :: (List.range d).map (c + 1 + ·)) := by
    rw [List.range_add, List.range_add, List.map_append]
    simp [List.range_one, Nat.add_assoc]
  have hp0 : (List.range c).filter p = [] := List.filter_eq_nil_iff.2 fun j hj => by rw [h0 j (List.mem_range.1 hj)]; exact Bool.false_ne_true
  have hq0 : (List.range c).filter q = [] := List.filter_eq_nil_iff.2 fun j hj => by rw [hq, h0 j (List.mem_range.1 hj), Bool.false_and]; exact Bool.false_ne_true
  rw [e, List.filter_append, List.filter_append, hp0, hq0, List.nil_append, List.nil_append, List.filter_cons_of_pos h1, List.filter_cons_of_neg (by rw [hq]; simp)]
  congr 1
  apply List.filter_congr
  intro j hj
  obtain ⟨i, _, rfl⟩ := List.mem_map.1 hj
  rw [hq, decide_eq_false (by omega), Bool.not_false, Bool.and_true]
theorem low_bit {x : Nat} (h0 : x ≠ 0) (hx : x < 18446744073709551616) :
    Lib.ctz 64 x < 64 ∧ (∀ j, j < Lib.ctz 64 x → x.testBit j = false) ∧ x.testBit (Lib.ctz 64 x) = true ∧ ∀ j, (x &&& (x - 1)).testBit j = (x.testBit j && !decide (j = Lib.ctz 64 x)) := by
  obtain ⟨m, hm, hk⟩ := Lib.ctzFrom_spec 64 x (by omega) hx
  have e : Lib.ctz 64 x = Lib.ctzFrom 64 x := by simp [Lib.ctz, h0]
  rw [e]
  obtain ⟨c, hc⟩ : ∃ c, Lib.ctzFrom 64 x = c := ⟨_, rfl⟩
  rw [hc] at hm hk ⊢
  have hp : 0 < 2 ^ c := Nat.two_pow_pos c
  have e1 : x - 1 = 2 ^ c * (2 * m) + (2 ^ c - 1) := by rw [hm, Nat.mul_add]; omega
  have hb : ∀ j, x.testBit j = (decide (c ≤ j) && (2 * m + 1).testBit (j - c)) := fun j => by rw [hm, Nat.mul_comm, Nat.testBit_mul_two_pow]
  have hb1 : ∀ j, (x - 1).testBit j = if j < c then (2 ^ c - 1).testBit j else (2 * m).testBit (j - c) := fun j => by
    rw [e1, Nat.testBit_two_pow_mul_add _ (by omega)]
  refine ⟨hk, fun j hj => ?_, ?_, fun j => ?_⟩
  · rw [hb, decide_eq_false (by omega), Bool.false_and]
  · rw [hb, decide_eq_true (Nat.le_refl _), Bool.true_and, Nat.sub_self, Nat.testBit_zero]
    simp
  · rw [Nat.testBit_and, hb, hb1]
    by_cases hj : j < c
    · rw [decide_eq_false (by omega)]; simp
    · rw [decide_eq_true (by omega), if_neg hj, Bool.true_and]
      by_cases hjc : j = c
      · subst hjc
        rw [Nat.sub_self, Nat.testBit_zero, Nat.testBit_zero]
        simp
      · obtain ⟨i, rfl⟩ : ∃ i, j = c + (i + 1) := ⟨j - c - 1, by omega⟩
        have e3 : c + (i + 1) - c = i + 1 := by omega
        have d1 : (2 * m + 1) / 2 = m := by omega
        have d2 : (2 * m) / 2 = m := by omega
        rw [e3, Nat.testBit_succ, Nat.testBit_succ, d1, d2, decide_eq_false (by omega)]
        simp
def wordBits (x : Nat) : List Nat := (List.range 64).filter fun j => x.testBit j
theorem wordBits_zero : wordBits 0 = [] := by decide +kernel
theorem wordBits_cons {x : Nat} (h0 : x ≠ 0) (hx : x < 18446744073709551616) : wordBits x = Lib.ctz 64 x :: wordBits (x &&& (x - 1)) := by
  obtain ⟨h1, h2, h3, h4⟩ := low_bit h0 hx
  exact filter_first h1 h2 h3 h4
/-- The numbers of the first k words. -/
def elemsK (ws : List Nat) (k : Nat) : List Nat := (List.range (64 * k)).filter (bitAt ws)
def elems (ws : List Nat) : List Nat := elemsK ws ws.length
theorem elemsK_succ (ws : List Nat) (k : Nat) : elemsK ws (k + 1) = elemsK ws k ++ (wordBits (ws.getD k 0)).map (k * 64 + ·) := by
  unfold elemsK wordBits
  rw [Nat.mul_add, List.range_add, List.filter_append]
  congr 1
  rw [List.filter_map, Nat.mul_one, Nat.mul_comm 64 k]
  congr 1
  apply List.filter_congr
  intro j hj
  have := List.mem_range.1 hj
  simp only [Function.comp, bitAt]
  rw [show (k * 64 + j) / 64 = k by omega, show (k * 64 + j) % 64 = j by omega]
theorem mem_elems {room : Nat} {ws : List Nat} (h : Wok room ws) (n : Nat) : n ∈ elems ws ↔ bitAt ws n = true := by
  unfold elems elemsK
  rw [List.mem_filter, List.mem_range]
  constructor
  · exact fun h => h.2
  · intro hb
    refine ⟨?_, hb⟩
    rw [h.len]
    rcases Nat.lt_or_ge n room with h1 | h1
    · omega
    · rw [h.top n h1] at hb; cases hb
theorem elems_sorted (ws : List Nat) : (elems ws).Pairwise (· < ·) := List.Pairwise.filter _ List.pairwise_lt_range
theorem elems_lt {ws : List Nat} {n : Nat} (h : n ∈ elems ws) : n < 64 * ws.length := by
  unfold elems elemsK at h
  exact List.mem_range.1 (List.mem_filter.1 h).1
end Go.Proofs.YtbmpaokicphdjaaDoor.Fn
