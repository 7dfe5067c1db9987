/- Clone and All, told as rows of the call's own. -/
import Derived.Test.YtefkhjgckdphnaaL2
namespace Go.Proofs.Ytefkhjgckdphnaa.Fn
open Go Go.RowKit Go.Proofs.Ytefkhjgckdphnaa.Can Go.Proofs.Ytefkhjgckdphnaa.Base
attribute [local go_sem] clsB AB.cell nil22

set_option maxHeartbeats 1000000 in
theorem clone_own (A : Option Addr) (c : Nat) (l : List Spot) (S : Nat → Prop) (w : World) (hS : ∀ k, S k → k < w.heap.size) (hC : Row spotT w S A l.length l) (hA : A = none → c = 0) (hn : l.length ≤ 5000) :
    Calls Try.prog 18 #[.slice A l.length c] w fun e w' => ∃ v, e = .returned v ∧ Own spotT w' w.heap.size 28 (fun _ => False) v l ∧ Below w.heap.size w w' := by
  have HS := Hd.mk hS; clear hS
  cases A with
  | none =>
    have h0 : l.length = 0 := by
      rcases Nat.eq_zero_or_pos l.length with h | h
      · exact h
      · exact absurd rfl (hC.some_of h)
    have hc0 := hA rfl
    subst hc0
    obtain rfl := List.eq_nil_of_length_eq_zero h0
    clear hC hA hn h0
    go_enter Try.func18, Try.ntmps18
    go_wp2
    go_ret
    exact ⟨_, rfl, Own.nil _ _ _ _, Below.refl _ _⟩
  | some ad =>
    have HC := Hd.mk hC; clear hC hA
    go_enter Try.func18, Try.ntmps18
    go_wp2_with (at_builtin; go_must (refine append_own spotT (S := fun _ => False) (S' := S) rfl (.tmp 5) (.tmp 6) 22 28 _ 16 rfl (by rfl) info28 rfl (by decide) (by decide) w.heap.size (.slice (some ⟨w.heap.size, 0, none⟩) 0 0) [] l (some ad) l.length c rfl rfl (fun h => by cases h) (Own.empty _ _ _ (Nat.le_refl _)) (HC.out.below HS.out (by repeat (first | (with_reducible assumption) | (with_reducible exact Below.refl _ _) | (with_reducible apply below_drewL) | (with_reducible apply below_alloc) | (with_reducible apply below_drew1) | (with_reducible apply below_drewN) | (refine below_set ?_ (by first | omega | (simp only [size_alloc, size_drew, size_set]; omega)) _ _)))) (fun k hk => ⟨by have := HS.out k hk; rw [size_alloc]; omega, ownBlock_ne (HS.out k hk)⟩) (by rw [size_alloc]; omega) (by simp only [List.length_nil]; omega) ?_); intro v1 w1 hO1 hg1 hat1; obtain ⟨A1, c1, rfl, hc1, hA1, hR1⟩ := (own_spot hO1).form)
    go_ret
    have hb1 : Below w.heap.size w w1 := Below.grown (by repeat (first | (with_reducible assumption) | (with_reducible exact Below.refl _ _) | (with_reducible apply below_drewL) | (with_reducible apply below_alloc) | (with_reducible apply below_drew1) | (with_reducible apply below_drewN) | (refine below_set ?_ (by first | omega | (simp only [size_alloc, size_drew, size_set]; omega)) _ _))) hg1 (by rw [size_alloc]; omega) (fun k hk => by have := ownBlock_eq hk; omega)
    exact ⟨_, rfl, own_spot hO1, hb1⟩

theorem all_own (d : Int) (A : Option Addr) (c : Nat) (l : List Spot) (S : Nat → Prop) (w : World) (hS : ∀ k, S k → k < w.heap.size) (hC : Row spotT w S A l.length l) (hA : A = none → c = 0) (hn : l.length ≤ 5000) :
    Calls Try.prog 15 #[.agg #[.int .i64 d, .slice A l.length c]] w fun e w' => ∃ v, e = .returned v ∧ Own spotT w' w.heap.size 28 (fun _ => False) v l ∧ Below w.heap.size w w' := by
  have HS := Hd.mk hS; clear hS
  have HC := Hd.mk hC; clear hC
  have HA := Hd.mk hA; clear hA
  go_enter Try.func15, Try.ntmps15
  go_wp2_with (go_at_call 18; refine (clone_own A c l S _ (fun k hk => by have := HS.out k hk; simp only [size_alloc]; omega) (HC.out.below HS.out (by repeat (first | (with_reducible assumption) | (with_reducible exact Below.refl _ _) | (with_reducible apply below_drewL) | (with_reducible apply below_alloc) | (with_reducible apply below_drew1) | (with_reducible apply below_drewN) | (refine below_set ?_ (by first | omega | (simp only [size_alloc, size_drew, size_set]; omega)) _ _)))) HA.out hn).mono ?_; rintro e w1 ⟨v1, rfl, hO1, hb1⟩)
  go_ret
  exact ⟨v1, rfl, hO1.lower (by rw [size_alloc]; omega), below_seq (a := w) (by repeat (first | (with_reducible assumption) | (with_reducible exact Below.refl _ _) | (with_reducible apply below_drewL) | (with_reducible apply below_alloc) | (with_reducible apply below_drew1) | (with_reducible apply below_drewN) | (refine below_set ?_ (by first | omega | (simp only [size_alloc, size_drew, size_set]; omega)) _ _))) hb1⟩

/-- The block of a row of the call's own that is not empty. -/
theorem own_block {w : World} {base : Nat} {S : Nat → Prop} {v : Value} {l : List Spot} (h : Own spotT w base 28 S v l) : (∃ c, l = [] ∧ ∃ A, v = .slice A 0 c) ∨ ∃ b cs c, v = .slice (some ⟨b, 0, none⟩) l.length c ∧ base ≤ b ∧ w.heap[b]? = some (.cells cs 28 (0, 0)) ∧ l.length * 2 ≤ cs.size := by
  obtain ⟨inner, ho, hc, _⟩ := h
  rcases ho.2 with ⟨rfl, h0⟩ | ⟨g, cap, cur, rfl, hg, hh, hcap, _, hcs, _⟩
  · obtain rfl := List.eq_nil_of_length_eq_zero h0
    exact .inl ⟨_, rfl, _, rfl⟩
  · refine .inr ⟨g, cur, cap, rfl, hg, hh, ?_⟩
    have h2 : spotT.sz = 2 := rfl
    rw [h2] at hcs
    omega
/-- Pop, whatever there is. -/
theorem pop_any (A : Option Addr) (c n : Nat) (l : List Spot) (d : Int) (S : Nat → Prop) (w : World) (hS : ∀ k, S k → k < w.heap.size) (hC : Row spotT w S A n l) (hn : n ≤ 5000) (hnc : n ≤ c) (hA : A = none → c = 0) :
    Calls Try.prog 9 #[.agg #[.int .i64 d, .slice A n c]] w fun e w' =>
      ∃ c' n' l' p q r, e = .returned (.tuple #[.agg #[.int .i64 d, .slice A n' c'], .agg #[.int .i64 p, .int .i64 q], .bool r]) ∧ n' ≤ n ∧ n' ≤ c' ∧ (A = none → c' = 0) ∧ Row spotT w' S A n' l' ∧ Below w.heap.size w w' := by
  cases n with
  | zero =>
    refine (pop_none A c d w).mono ?_
    rintro e w' ⟨rfl, hb⟩
    exact ⟨c, 0, l, 0, 0, false, rfl, Nat.le_refl _, hnc, hA, hC.below hS hb, hb⟩
  | succ q =>
    obtain ⟨l', p, rfl⟩ := list_last hC.1
    have hl : l'.length = q := by simpa using hC.1
    refine (pop_to A c q l' d p S w hS hC (by omega) hnc).mono ?_
    rintro e w' ⟨rfl, hb⟩
    have h1 := (hC.take q (by omega)).below hS hb
    rw [List.take_left' hl] at h1
    exact ⟨q, q, l', p.at_, p.mode, true, rfl, by omega, Nat.le_refl _, fun hn => absurd hn (hC.some_of (by omega)), h1, hb⟩
end Go.Proofs.Ytefkhjgckdphnaa.Fn
