/- OnesCount64, Count. -/
import Derived.Test.YtbmpaokicphdjaaDoorB10
namespace Go.Proofs.YtbmpaokicphdjaaDoor.Fn
open Go Go.RowKit Go.Proofs.YtbmpaokicphdjaaDoor.Can Go.Proofs.YtbmpaokicphdjaaDoor.Base
attribute [local go_sem] clsB AB.cell

theorem and_127 (x : Nat) (hx : x < 9223372036854775807) : bits .and .i64 (x : Int) 127 = ((x % 128 : Nat) : Int) := by
  have h1 : (BitVec.ofInt 64 (x : Int)).toNat = x := by
    rw [BitVec.ofInt_natCast, BitVec.toNat_ofNat]; exact Nat.mod_eq_of_lt (by omega)
  have h2 : (BitVec.ofInt 64 (127 : Int)).toNat = 127 := by decide
  show IntKind.i64.wrap ((BitVec.ofInt 64 (x : Int) &&& BitVec.ofInt 64 127).toNat : Int) = _
  have h3 : x &&& 127 = x % 128 := Nat.and_two_pow_sub_one_eq_mod x 7
  rw [BitVec.toNat_and, h1, h2, h3]
  have : x % 128 < 128 := Nat.mod_lt _ (by decide)
  simp [IntKind.wrap, IntKind.signed, IntKind.bits]
  omega
set_option maxRecDepth 20000 in
set_option maxHeartbeats 2000000 in
theorem pop_calls (x n : Nat) (w : World) (hx : x < 18446744073709551616) (hn : (wordBits x).length = n) :
    Calls Tryd.prog 73 #[.int .u64 x] w fun e w' => e = .returned (.int .i64 n) ∧ w' = w := by
  obtain ⟨a, ha⟩ : ∃ a, x / 2 = a := ⟨_, rfl⟩
  obtain ⟨b, hb⟩ : ∃ b, a &&& 6148914691236517205 = b := ⟨_, rfl⟩
  obtain ⟨c, hc⟩ : ∃ c, x &&& 6148914691236517205 = c := ⟨_, rfl⟩
  obtain ⟨x1, h1⟩ : ∃ y, b + c = y := ⟨_, rfl⟩
  obtain ⟨a2, ha2⟩ : ∃ a, x1 / 4 = a := ⟨_, rfl⟩
  obtain ⟨b2, hb2⟩ : ∃ b, a2 &&& 3689348814741910323 = b := ⟨_, rfl⟩
  obtain ⟨c2, hc2⟩ : ∃ c, x1 &&& 3689348814741910323 = c := ⟨_, rfl⟩
  obtain ⟨x2, h2⟩ : ∃ y, b2 + c2 = y := ⟨_, rfl⟩
  obtain ⟨a3, ha3⟩ : ∃ a, x2 / 16 = a := ⟨_, rfl⟩
  obtain ⟨s3, hs3⟩ : ∃ s, a3 + x2 = s := ⟨_, rfl⟩
  obtain ⟨x3, h3⟩ : ∃ y, s3 &&& 1085102592571150095 = y := ⟨_, rfl⟩
  obtain ⟨a4, ha4⟩ : ∃ a, x3 / 256 = a := ⟨_, rfl⟩
  obtain ⟨x4, h4⟩ : ∃ y, x3 + a4 = y := ⟨_, rfl⟩
  obtain ⟨a5, ha5⟩ : ∃ a, x4 / 65536 = a := ⟨_, rfl⟩
  obtain ⟨x5, h5⟩ : ∃ y, x4 + a5 = y := ⟨_, rfl⟩
  obtain ⟨a6, ha6⟩ : ∃ a, x5 / 4294967296 = a := ⟨_, rfl⟩
  obtain ⟨x6, h6⟩ : ∃ y, x5 + a6 = y := ⟨_, rfl⟩
  obtain ⟨hlaw, k1, k2, k6⟩ := pop_law x x1 x2 x3 x4 x5 x6 hx (by rw [ha, hb, hc]; exact h1) (by rw [ha2, hb2, hc2]; exact h2) (by rw [ha3, hs3]; exact h3) (by rw [ha4]; exact h4) (by rw [ha5]; exact h5) (by rw [ha6]; exact h6)
  rw [hn] at hlaw
  have wr : ∀ {p q r : Nat}, p + q = r → r < 18446744073709551616 → IntKind.u64.wrap ((p : Int) + (q : Int)) = (r : Int) := fun h hr => by rw [IntKind.wrap_u64]; omega
  have d1 : (x : Int) / 2 = (a : Int) := by rw [← ha]; rfl
  have e1 : bits .and .u64 (a : Int) 6148914691236517205 = ((a &&& 6148914691236517205 : Nat) : Int) := bits_and_u64_nat a 6148914691236517205 (by rw [← ha]; exact Nat.lt_of_le_of_lt (Nat.div_le_self _ _) hx) (by decide)
  have e2 : bits .and .u64 (x : Int) 6148914691236517205 = ((x &&& 6148914691236517205 : Nat) : Int) := bits_and_u64_nat x 6148914691236517205 hx (by decide)
  have e3 := wr h1 k1
  have d2 : (x1 : Int) / 4 = (a2 : Int) := by rw [← ha2]; rfl
  have e4 : bits .and .u64 (a2 : Int) 3689348814741910323 = ((a2 &&& 3689348814741910323 : Nat) : Int) := bits_and_u64_nat a2 3689348814741910323 (by rw [← ha2]; exact Nat.lt_of_le_of_lt (Nat.div_le_self _ _) k1) (by decide)
  have e5 : bits .and .u64 (x1 : Int) 3689348814741910323 = ((x1 &&& 3689348814741910323 : Nat) : Int) := bits_and_u64_nat x1 3689348814741910323 k1 (by decide)
  have e6 := wr h2 (by omega)
  have d3 : (x2 : Int) / 16 = (a3 : Int) := by rw [← ha3]; rfl
  have ks : s3 < 18446744073709551616 := by have := Nat.div_le_self x2 16; rw [ha3] at this; clear wr hlaw ha ha2 ha3 ha4 ha5 ha6 d1 d2 d3; omega
  have e7 := wr hs3 ks
  have e8 : bits .and .u64 (s3 : Int) 1085102592571150095 = ((s3 &&& 1085102592571150095 : Nat) : Int) := bits_and_u64_nat s3 1085102592571150095 ks (by decide)
  have q5 : x5 ≤ x6 := by rw [← h6]; exact Nat.le_add_right _ _
  have q4 : x4 ≤ x5 := by rw [← h5]; exact Nat.le_add_right _ _
  have d4 : (x3 : Int) / 256 = (a4 : Int) := by rw [← ha4]; rfl
  have e9 := wr h4 (by clear wr hlaw ha ha2 ha3 ha4 ha5 ha6 d1 d2 d3 d4; omega)
  have d5 : (x4 : Int) / 65536 = (a5 : Int) := by rw [← ha5]; rfl
  have e10 := wr h5 (by clear wr hlaw ha ha2 ha3 ha4 ha5 ha6 d1 d2 d3 d4 d5; omega)
  have d6 : (x5 : Int) / 4294967296 = (a6 : Int) := by rw [← ha6]; rfl
  have e11 := wr h6 (by clear wr hlaw ha ha2 ha3 ha4 ha5 ha6 d1 d2 d3 d4 d5 d6; omega)
  have e12 := and_127 x6 k6
  rw [hlaw] at e12
  have e13 : wrap64 (x6 : Int) = (x6 : Int) := by unfold wrap64; clear wr hlaw ha ha2 ha3 ha4 ha5 ha6 d1 d2 d3 d4 d5 d6; omega
  rw [hb] at e1
  rw [hc] at e2
  rw [hb2] at e4
  rw [hc2] at e5
  rw [h3] at e8
  clear ha hb hc h1 ha2 hb2 hc2 h2 ha3 hs3 h3 ha4 h4 ha5 h5 ha6 h6 hlaw hn wr q5 q4 k1 k2 ks hx
  go_enter Tryd.func73, Tryd.ntmps73
  go_wp2
  go_ret
  exact ⟨rfl, rfl⟩
end Go.Proofs.YtbmpaokicphdjaaDoor.Fn
