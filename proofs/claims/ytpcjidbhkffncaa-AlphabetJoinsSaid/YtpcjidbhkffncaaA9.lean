/- What the reference's Apart, number, Of and Join compute. -/
import Derived.Test.YtpcjidbhkffncaaA8
namespace Go.Proofs.Ytpcjidbhkffncaa.Fn
open Go Go.RowKit Go.Proofs.Ytpcjidbhkffncaa.Can Go.Proofs.Ytpcjidbhkffncaa.Base
attribute [local go_sem] clsB AB.cell

theorem number_calls (A : Option Addr) (n c : Nat) (L : List Int) (i : Nat) (S : Nat → Prop) (w : World) (h : Row I w S A n L) (hi : i ≤ 1000) :
    Calls Try.prog 21 #[.slice A n c, .int .i64 i] w fun e w' => e = .returned (.int .i64 (atN L i)) ∧ w' = w := by
  have hn := h.le
  have hl := h.1
  by_cases hlt : i < n
  · obtain ⟨b, off, x, rfl, _, hb, hx, hcell⟩ := h.get_int i hlt
    have hv : atN L i = x := by unfold atN; rw [List.getD_eq_getElem?_getD, hx]; rfl
    rw [hv]
    have hge : ¬ (n : Int) ≤ i := by omega
    clear h hl hx hv
    go_enter Try.func21, Try.ntmps21
    go_wp2
    go_ret
    exact ⟨rfl, rfl⟩
  · have hv : atN L i = -1 := by unfold atN; rw [List.getD_eq_getElem?_getD, List.getElem?_eq_none (by omega)]; rfl
    rw [hv]
    have hge : (n : Int) ≤ i := by omega
    clear h hl hv
    go_enter Try.func21, Try.ntmps21
    go_wp2
    go_ret
    exact ⟨rfl, rfl⟩
theorem in_cases (r : Rg) (c : Int) : (¬ r.lo ≤ c ∧ inR r c = false) ∨ (r.lo ≤ c ∧ ¬ c ≤ r.hi ∧ inR r c = false) ∨ (r.lo ≤ c ∧ c ≤ r.hi ∧ inR r c = true) := by
  unfold inR
  by_cases h1 : r.lo ≤ c <;> by_cases h2 : c ≤ r.hi <;> simp [h1, h2]
/-- One of the ranges tells them apart. -/
def apB (L : List Rg) (x y : Int) : Bool := !decide (keyR L x = keyR L y)
set_option maxHeartbeats 1000000 in
theorem apart_calls (A : Option Addr) (n c : Nat) (L : List Rg) (x y : Nat) (S : Nat → Prop) (w : World) (hx : x ≤ 1000) (hy : y ≤ 1000) (hC : Row rT w S A n L) :
    Calls Try.prog 11 #[.slice A n c, .int .i64 x, .int .i64 y] w fun e w' => e = .returned (.bool (apB L x y)) ∧ w' = w := by
  have hn := hC.le
  have HL := Hd.mk hC.1
  have HC := Hd.mk hC; clear hC
  go_enter Try.func11, Try.ntmps11
  go_wp2
  go_loopw [7] (fun i wr => ∃ (k : Nat), k ≤ n ∧ i = .int .i64 k ∧ Hd (keyR (L.take k) x = keyR (L.take k) y) ∧ wr = w) (fun i _ => n - (intOf i).toNat)
  case atStart => exact ⟨0, Nat.zero_le _, rfl, ⟨by simp [keyR]⟩, rfl⟩
  case round =>
    obtain ⟨k, hk, rfl, HK, rfl⟩ := hrel
    by_cases hlt : k < n
    · obtain ⟨b, off, r, rfl, hb1, hxr, hc0, hc1⟩ := rg_get HC.out k hlt
      have HX := Hd.mk hxr; clear hxr
      rcases in_cases r x with ⟨a1, a2⟩ | ⟨a1, a3, a2⟩ | ⟨a1, a3, a2⟩
      all_goals
        have HA := Hd.mk a2; clear a2
        rcases in_cases r y with ⟨b1, b2⟩ | ⟨b1, b3, b2⟩ | ⟨b1, b3, b2⟩
        all_goals
          have HB := Hd.mk b2; clear b2
          go_wp2
          first
            | (go_roundw
               case rel => exact ⟨k + 1, by omega, by go_num, ⟨by unfold keyR at HK ⊢; rw [List.take_add_one, HX.out, List.map_append, List.map_append, HK.out]; simp [HA.out, HB.out]⟩, trivial⟩
               case measure => simp [intOf]; omega)
            | (go_ret
               refine ⟨ret_bool ?_, rfl⟩
               symm
               unfold apB
               rw [Bool.not_eq_true', decide_eq_false_iff_not]
               intro he
               have h9 := congrArg (·[k]?) he
               simp [keyR, HX.out, HA.out, HB.out] at h9)
    · obtain rfl : k = n := by omega
      go_wp2
      go_ret
      refine ⟨ret_bool ?_, rfl⟩
      have := HK.out
      rw [← HL.out, List.take_length] at this
      unfold apB
      simp [this]
/-- The reference's own class of c: that of the last one ahead of d that is like it; else a new one. -/
structure Like {K : Type} [BEq K] [LawfulBEq K] (f : Nat → K) (c d kk : Nat) : Prop where
  yes : (∃ j, j < d ∧ f j = f c) → kk = cls f c
  no : (∀ j, j < d → f j ≠ f c) → kk = (met f c).length
theorem Like.zero {K : Type} [BEq K] [LawfulBEq K] (f : Nat → K) (c : Nat) : Like f c 0 (met f c).length := ⟨fun ⟨j, hj, _⟩ => absurd hj (Nat.not_lt_zero j), fun _ => rfl⟩
theorem Like.hit {K : Type} [BEq K] [LawfulBEq K] {f : Nat → K} {c d : Nat} (h : f d = f c) : Like f c (d + 1) (cls f d) := ⟨fun _ => cls_same.2 h, fun hn => absurd h (hn d (by omega))⟩
theorem Like.miss {K : Type} [BEq K] [LawfulBEq K] {f : Nat → K} {c d kk : Nat} (hl : Like f c d kk) (h : f d ≠ f c) : Like f c (d + 1) kk :=
  ⟨fun ⟨j, hj, he⟩ => hl.yes ⟨j, (by
    rcases Nat.lt_or_ge j d with h1 | h1
    · exact h1
    · obtain rfl : j = d := by omega
      exact absurd he h), he⟩, fun hn => hl.no fun j hj => hn j (by omega)⟩
theorem Like.all {K : Type} [BEq K] [LawfulBEq K] {f : Nat → K} {c kk : Nat} (hl : Like f c c kk) : kk = cls f c := by
  by_cases h : f c ∈ met f c
  · obtain ⟨d, hd, he⟩ := of_mem h
    exact hl.yes ⟨d, hd, he⟩
  · rw [hl.no fun j hj he => h (he ▸ mem_upto hj)]
    exact (cls_new.2 h).symm
end Go.Proofs.Ytpcjidbhkffncaa.Fn
