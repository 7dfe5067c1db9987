/- OnesCount64: the plain law. -/
import Derived.Test.YtbmpaokicphdjaaDoorB6
namespace Go.Proofs.YtbmpaokicphdjaaDoor.Fn
open Go Go.RowKit Go.Proofs.YtbmpaokicphdjaaDoor.Can Go.Proofs.YtbmpaokicphdjaaDoor.Base

def val : List Nat → Nat
  | [] => 0
  | b :: bs => 256 * val bs + b
theorem bit_cons (y c j : Nat) (hc : c < 256) : (256 * y + c).testBit j = if j < 8 then c.testBit j else y.testBit (j - 8) := Nat.testBit_two_pow_mul_add (i := 8) y hc j
theorem and_cons (y c M l : Nat) (hc : c < 256) (hl : l < 256) : (256 * y + c) &&& (256 * M + l) = 256 * (y &&& M) + (c &&& l) := by
  have hcl : c &&& l < 256 := Nat.lt_of_le_of_lt Nat.and_le_left hc
  apply Nat.eq_of_testBit_eq
  intro j
  rw [Nat.testBit_and, bit_cons _ _ _ hc, bit_cons _ _ _ hl, bit_cons _ _ _ hcl]
  split <;> rw [Nat.testBit_and]
theorem shr_cons (s y c M l : Nat) (hs : s ≤ 8) (hc : c < 256) (hl : l < 2 ^ (8 - s)) : ((256 * y + c) / 2 ^ s) &&& (256 * M + l) = 256 * ((y / 2 ^ s) &&& M) + ((c / 2 ^ s) &&& l) := by
  have hl2 : l < 256 := Nat.lt_of_lt_of_le hl (by have : (2 : Nat) ^ (8 - s) ≤ 2 ^ 8 := Nat.pow_le_pow_right (by decide) (by omega); simpa using this)
  have hcl : (c / 2 ^ s) &&& l < 256 := Nat.lt_of_le_of_lt Nat.and_le_right hl2
  apply Nat.eq_of_testBit_eq
  intro j
  rw [Nat.testBit_and, Nat.testBit_div_two_pow, bit_cons _ _ _ hc, bit_cons _ _ _ hl2, bit_cons _ _ _ hcl]
  by_cases hj : j < 8
  · rw [if_pos hj, if_pos hj, Nat.testBit_and, Nat.testBit_div_two_pow]
    by_cases hsj : s + j < 8
    · rw [if_pos (by omega)]
    · have hlj : l.testBit j = false := Nat.testBit_lt_two_pow (Nat.lt_of_lt_of_le hl (Nat.pow_le_pow_right (by decide) (by omega)))
      rw [hlj, Bool.and_false, Bool.and_false]
  · rw [if_neg hj, if_neg hj, if_neg (by omega), Nat.testBit_and, Nat.testBit_div_two_pow]
    congr 2
    omega
def mk (m : Nat) (bs : List Nat) : Nat := val (bs.map fun _ => m)
theorem step_val (s m : Nat) (f : Nat → Nat) (hs : s ≤ 8) (hm : m < 2 ^ (8 - s)) (hf : ∀ c, c < 256 → ((c / 2 ^ s) &&& m) + (c &&& m) = f c) (bs : List Nat) (hb : ∀ b ∈ bs, b < 256) :
    ((val bs / 2 ^ s) &&& mk m bs) + (val bs &&& mk m bs) = val (bs.map f) := by
  have hm2 : m < 256 := Nat.lt_of_lt_of_le hm (by have : (2 : Nat) ^ (8 - s) ≤ 2 ^ 8 := Nat.pow_le_pow_right (by decide) (by omega); simpa using this)
  induction bs with
  | nil => simp [val, mk]
  | cons b bs ih =>
    have h1 := ih (fun x hx => hb x (List.mem_cons_of_mem _ hx))
    have h2 := hf b (hb b (List.mem_cons_self ..))
    show ((256 * val bs + b) / 2 ^ s &&& (256 * mk m bs + m)) + ((256 * val bs + b) &&& (256 * mk m bs + m)) = 256 * val (bs.map f) + f b
    rw [shr_cons s _ _ _ _ hs (hb b (List.mem_cons_self ..)) hm, and_cons _ _ _ _ (hb b (List.mem_cons_self ..)) hm2, ← h1, ← h2]
    omega
theorem and15 : ∀ c, c < 256 → c &&& 15 = c % 16 := by decide +kernel
theorem step3_val (bs : List Nat) (hb : ∀ b ∈ bs, b / 16 ≤ 4 ∧ b % 16 ≤ 4) : (val bs / 16 + val bs) &&& mk 15 bs = val (bs.map fun b => b / 16 + b % 16) := by
  induction bs with
  | nil => simp [val, mk]
  | cons b bs ih =>
    have h1 := ih (fun x hx => hb x (List.mem_cons_of_mem _ hx))
    have h2 := hb b (List.mem_cons_self ..)
    have h3 : val bs % 16 ≤ 4 := by
      cases bs with
      | nil => simp [val]
      | cons x xs =>
        have := (hb x (by simp)).2
        show (256 * val xs + x) % 16 ≤ 4
        omega
    have e : (256 * val bs + b) / 16 + (256 * val bs + b) = 256 * (val bs / 16 + val bs) + (b / 16 + b + 16 * (val bs % 16)) := by omega
    show ((256 * val bs + b) / 16 + (256 * val bs + b)) &&& (256 * mk 15 bs + 15) = 256 * val (bs.map fun b => b / 16 + b % 16) + (b / 16 + b % 16)
    rw [e, and_cons _ _ _ _ (by omega) (by decide), h1, and15 _ (by omega)]
    omega
def f1 (c : Nat) : Nat := ((c / 2) &&& 85) + (c &&& 85)
def f2 (c : Nat) : Nat := ((c / 4) &&& 51) + (c &&& 51)
def popB (b : Nat) : Nat := ((List.range 8).filter fun j => b.testBit j).length
theorem byte_law : ∀ c, c < 256 → f1 c < 256 ∧ f2 (f1 c) / 16 ≤ 4 ∧ f2 (f1 c) % 16 ≤ 4 ∧ f2 (f1 c) / 16 + f2 (f1 c) % 16 = popB c ∧ popB c ≤ 8 := by decide +kernel
theorem pop_val (bs : List Nat) (hb : ∀ b ∈ bs, b < 256) : ((List.range (8 * bs.length)).filter fun j => (val bs).testBit j).length = (bs.map popB).sum := by
  induction bs with
  | nil => rfl
  | cons b bs ih =>
    have h1 := ih (fun x hx => hb x (List.mem_cons_of_mem _ hx))
    have hbb := hb b (List.mem_cons_self ..)
    rw [List.length_cons, Nat.mul_add, Nat.add_comm (8 * bs.length), List.range_add, List.filter_append, List.length_append, List.filter_map, List.length_map, List.map_cons, List.sum_cons, ← h1]
    congr 2
    · apply List.filter_congr
      intro j hj
      have := List.mem_range.1 hj
      show (256 * val bs + b).testBit j = b.testBit j
      rw [bit_cons _ _ _ hbb, if_pos (by omega)]
    · apply List.filter_congr
      intro j hj
      show (256 * val bs + b).testBit (8 * 1 + j) = (val bs).testBit j
      rw [bit_cons _ _ _ hbb, if_neg (by omega)]
      congr 1
      omega
set_option maxRecDepth 20000 in
theorem val_le (M : Nat) (bs : List Nat) (h : ∀ b ∈ bs, b ≤ M) : val bs * 255 + M ≤ M * 256 ^ bs.length := by
  induction bs with
  | nil => simp [val]
  | cons b bs ih =>
    have h1 := ih (fun x hx => h x (List.mem_cons_of_mem _ hx))
    have h2 := h b (List.mem_cons_self ..)
    have e : val (b :: bs) = 256 * val bs + b := rfl
    have e2 : M * 256 ^ (bs.length + 1) = 256 * (M * 256 ^ bs.length) := by rw [Nat.pow_succ, ← Nat.mul_assoc, Nat.mul_comm]
    rw [e, List.length_cons, e2]
    revert h1
    generalize M * 256 ^ bs.length = P
    generalize val bs = V
    intro h1
    clear e e2 ih h
    omega
theorem byte_two : ∀ c, c < 256 → f2 (f1 c) ≤ 68 := by decide +kernel
theorem div_of {x c q r : Nat} (h : x = c * q + r) (hr : r < c) : x / c = q := by
  subst h
  rw [Nat.mul_add_div (by omega), Nat.div_eq_of_lt hr, Nat.add_zero]
theorem mod_of {x c q r : Nat} (h : x = c * q + r) (hr : r < c) : x % c = r := by
  subst h
  rw [Nat.mul_add_mod, Nat.mod_eq_of_lt hr]
theorem digits (p0 p1 p2 p3 p4 p5 p6 p7 x3 : Nat) (r0 : p0 ≤ 8) (r1 : p1 ≤ 8) (r2 : p2 ≤ 8) (r3 : p3 ≤ 8) (r4 : p4 ≤ 8) (r5 : p5 ≤ 8) (r6 : p6 ≤ 8) (r7 : p7 ≤ 8)
    (hx3 : x3 = 256 * (256 * (256 * (256 * (256 * (256 * (256 * (256 * 0 + p7) + p6) + p5) + p4) + p3) + p2) + p1) + p0) :
    ∀ x4 x5 x6, x3 + x3 / 256 = x4 → x4 + x4 / 65536 = x5 → x5 + x5 / 4294967296 = x6 → x6 % 128 = p0 + (p1 + (p2 + (p3 + (p4 + (p5 + (p6 + (p7 + 0))))))) := by
  have b0 : p0 < 256 := by clear hx3; omega
  have b1 : 256 * (p1 + p2) + (p0 + p1) < 65536 := by clear hx3; omega
  have b2 : 16777216 * (p3 + p4 + p5 + p6) + 65536 * (p2 + p3 + p4 + p5) + 256 * (p1 + p2 + p3 + p4) + (p0 + p1 + p2 + p3) < 4294967296 := by clear hx3; omega
  have b3 : p0 + (p1 + (p2 + (p3 + (p4 + (p5 + (p6 + (p7 + 0))))))) < 128 := by clear hx3; omega
  clear r0 r1 r2 r3 r4 r5 r6 r7
  intro x4 x5 x6 h4
  have a1 := div_of hx3 b0
  rw [a1, hx3] at h4
  clear a1 hx3 b0
  have e4 : x4 = 65536 * (256 * (256 * (256 * (256 * (256 * p7 + (p6 + p7)) + (p5 + p6)) + (p4 + p5)) + (p3 + p4)) + (p2 + p3)) + (256 * (p1 + p2) + (p0 + p1)) := by clear b1 b2 b3; omega
  clear h4
  intro h5
  have a2 := div_of e4 b1
  rw [a2, e4] at h5
  clear a2 e4 b1
  have e5 : x5 = 4294967296 * (256 * (256 * (256 * p7 + (p6 + p7)) + (p5 + p6 + p7)) + (p4 + p5 + p6 + p7)) + (16777216 * (p3 + p4 + p5 + p6) + 65536 * (p2 + p3 + p4 + p5) + 256 * (p1 + p2 + p3 + p4) + (p0 + p1 + p2 + p3)) := by clear b2 b3; omega
  clear h5
  intro h6
  have a3 := div_of e5 b2
  rw [a3, e5] at h6
  clear a3 e5 b2
  refine mod_of (q := 33554432 * (256 * (256 * (256 * p7 + (p6 + p7)) + (p5 + p6 + p7)) + (p4 + p5 + p6 + p7)) + 131072 * (p3 + p4 + p5 + p6) + 512 * (p2 + p3 + p4 + p5) + 2 * (p1 + p2 + p3 + p4) + 2 * (256 * (256 * p7 + (p6 + p7)) + (p5 + p6 + p7))) ?_ b3
  clear b3
  omega
theorem bound1 {x : Nat} (h : x * 255 + 255 ≤ 255 * 18446744073709551616) : x < 18446744073709551616 := by omega
theorem bound2 {x : Nat} (h : x * 255 + 68 ≤ 68 * 18446744073709551616) : x < 4919131752989213765 := by omega
theorem bound3 {x : Nat} (h : x * 255 + 8 ≤ 8 * 18446744073709551616) : x ≤ 578721382704613384 := by omega
theorem bound6 {x3 x4 x5 x6 : Nat} (h : x3 ≤ 578721382704613384) (h4 : x3 + x3 / 256 = x4) (h5 : x4 + x4 / 65536 = x5) (h6 : x5 + x5 / 4294967296 = x6) : x6 < 9223372036854775807 := by
  have a4 : x4 ≤ 2 * x3 := by rw [← h4]; have := Nat.div_le_self x3 256; clear h h4 h5 h6; omega
  have a5 : x5 ≤ 2 * x4 := by rw [← h5]; have := Nat.div_le_self x4 65536; clear h h4 h5 h6; omega
  have a6 : x6 ≤ 2 * x5 := by rw [← h6]; have := Nat.div_le_self x5 4294967296; clear h h4 h5 h6; omega
  clear h4 h5 h6
  omega
theorem pop_law (x x1 x2 x3 x4 x5 x6 : Nat) (hx : x < 18446744073709551616) (h1 : ((x / 2) &&& 6148914691236517205) + (x &&& 6148914691236517205) = x1) (h2 : ((x1 / 4) &&& 3689348814741910323) + (x1 &&& 3689348814741910323) = x2) (h3 : (x2 / 16 + x2) &&& 1085102592571150095 = x3)
    (h4 : x3 + x3 / 256 = x4) (h5 : x4 + x4 / 65536 = x5) (h6 : x5 + x5 / 4294967296 = x6) : x6 % 128 = (wordBits x).length ∧ x1 < 18446744073709551616 ∧ x2 < 4919131752989213765 ∧ x6 < 9223372036854775807 := by
  obtain ⟨bs, hl, hb, rfl⟩ : ∃ bs : List Nat, bs.length = 8 ∧ (∀ b ∈ bs, b < 256) ∧ x = val bs := by
    refine ⟨[x % 256, x / 256 % 256, x / 65536 % 256, x / 16777216 % 256, x / 4294967296 % 256, x / 1099511627776 % 256, x / 281474976710656 % 256, x / 72057594037927936 % 256], rfl, fun b hb => ?_, ?_⟩
    · simp at hb; rcases hb with h | h | h | h | h | h | h | h <;> omega
    · simp only [val]; omega
  have hp := pop_val bs hb
  rw [hl] at hp
  have e5 : mk 85 bs = 6148914691236517205 := by
    match bs, hl with
    | [_, _, _, _, _, _, _, _], _ => simp only [mk, List.map_cons, List.map_nil, val]
  have e3 : mk 51 (bs.map f1) = 3689348814741910323 := by
    match bs, hl with
    | [_, _, _, _, _, _, _, _], _ => simp only [mk, List.map_cons, List.map_nil, val]
  have ef : mk 15 ((bs.map f1).map f2) = 1085102592571150095 := by
    match bs, hl with
    | [_, _, _, _, _, _, _, _], _ => simp only [mk, List.map_cons, List.map_nil, val]
  have s1 := step_val 1 85 f1 (by decide) (by decide) (fun c _ => rfl) bs hb
  rw [e5] at s1
  have s2 := step_val 2 51 f2 (by decide) (by decide) (fun c _ => rfl) (bs.map f1) (fun b hbm => by obtain ⟨c, hc, rfl⟩ := List.mem_map.1 hbm; exact (byte_law c (hb c hc)).1)
  rw [e3] at s2
  have s3 := step3_val ((bs.map f1).map f2) (fun b hbm => by
    obtain ⟨c, hc, rfl⟩ := List.mem_map.1 hbm
    obtain ⟨d, hd, rfl⟩ := List.mem_map.1 hc
    exact ⟨(byte_law d (hb d hd)).2.1, (byte_law d (hb d hd)).2.2.1⟩)
  rw [ef] at s3
  have hx1 : x1 = val (bs.map f1) := by rw [← h1]; exact s1
  have hx2 : x2 = val ((bs.map f1).map f2) := by rw [← h2, hx1]; exact s2
  have hx3 : x3 = val (bs.map popB) := by
    rw [← h3, hx2]
    rw [s3, List.map_map, List.map_map]
    congr 1
    apply List.map_congr_left
    intro c hc
    exact (byte_law c (hb c hc)).2.2.2.1
  have hw : (wordBits (val bs)).length = (bs.map popB).sum := hp
  rw [hw]
  have b1 := val_le 255 (bs.map f1) (fun b hbm => by obtain ⟨c, hc, rfl⟩ := List.mem_map.1 hbm; have := (byte_law c (hb c hc)).1; omega)
  have b2 := val_le 68 ((bs.map f1).map f2) (fun b hbm => by
    obtain ⟨c, hc, rfl⟩ := List.mem_map.1 hbm
    obtain ⟨d, hd, rfl⟩ := List.mem_map.1 hc
    exact byte_two d (hb d hd))
  have b3 := val_le 8 (bs.map popB) (fun b hbm => by obtain ⟨c, hc, rfl⟩ := List.mem_map.1 hbm; exact (byte_law c (hb c hc)).2.2.2.2)
  simp only [List.length_map, hl] at b1 b2 b3
  rw [← hx1] at b1
  rw [← hx2] at b2
  rw [← hx3] at b3
  have e8 : (256 : Nat) ^ 8 = 18446744073709551616 := by decide
  rw [e8] at b1 b2 b3
  refine ⟨?_, bound1 b1, bound2 b2, bound6 (bound3 b3) h4 h5 h6⟩
  have hpop : ∀ b ∈ bs, popB b ≤ 8 := fun b hbm => (byte_law b (hb b hbm)).2.2.2.2
  clear b1 b2 b3 hx1 hx2 s1 s2 s3 h1 h2 h3 hp hw e5 e3 ef hx hb
  match bs, hl with
  | [b0, b1, b2, b3, b4, b5, b6, b7], _ =>
    exact digits _ _ _ _ _ _ _ _ x3 (hpop _ (by simp)) (hpop _ (by simp)) (hpop _ (by simp)) (hpop _ (by simp)) (hpop _ (by simp)) (hpop _ (by simp)) (hpop _ (by simp)) (hpop _ (by simp)) hx3 x4 x5 x6 h4 h5 h6
end Go.Proofs.YtbmpaokicphdjaaDoor.Fn
