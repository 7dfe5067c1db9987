/- What New, Depth, Len, Low, Clone and All compute. -/
import Derived.Test.YtefkhjgckdphnaaF3
namespace Go.Proofs.Ytefkhjgckdphnaa.Fn
open Go Go.RowKit Go.Proofs.Ytefkhjgckdphnaa.Can Go.Proofs.Ytefkhjgckdphnaa.Base
attribute [local go_sem] clsB AB.cell nil22

def newD (n : Int) : Int := if n < 1 then 1 else if 4096 < n then 4096 else n
set_option maxHeartbeats 1000000 in
theorem new_calls (n : Int) (w : World) :
    Calls Try.prog 7 #[.int .i64 n] w fun e w' => e = .returned (.agg #[.int .i64 (newD n), .slice none 0 0]) ∧ Below w.heap.size w w' := by
  unfold newD
  by_cases h1 : n < 1
  · rw [if_pos h1]
    go_enter Try.func7, Try.ntmps7
    go_wp2
    refine bodyPost_ret (v := .agg #[.int .i64 1, .slice none 0 0]) (by simp [results, Try.results7, go_sem, *]) rfl ?_
    exact ⟨rfl, (by repeat (first | (with_reducible assumption) | (with_reducible exact Below.refl _ _) | (with_reducible apply below_drewL) | (with_reducible apply below_alloc) | (with_reducible apply below_drew1) | (with_reducible apply below_drewN) | (refine below_set ?_ (by first | omega | (simp only [size_alloc, size_drew, size_set]; omega)) _ _)))⟩
  · rw [if_neg h1]
    by_cases h2 : 4096 < n
    · rw [if_pos h2]
      go_enter Try.func7, Try.ntmps7
      go_wp2
      refine bodyPost_ret (v := .agg #[.int .i64 4096, .slice none 0 0]) (by simp [results, Try.results7, go_sem, *]) rfl ?_
      exact ⟨rfl, (by repeat (first | (with_reducible assumption) | (with_reducible exact Below.refl _ _) | (with_reducible apply below_drewL) | (with_reducible apply below_alloc) | (with_reducible apply below_drew1) | (with_reducible apply below_drewN) | (refine below_set ?_ (by first | omega | (simp only [size_alloc, size_drew, size_set]; omega)) _ _)))⟩
    · rw [if_neg h2]
      go_enter Try.func7, Try.ntmps7
      go_wp2
      refine bodyPost_ret (v := .agg #[.int .i64 n, .slice none 0 0]) (by simp [results, Try.results7, go_sem, *]) rfl ?_
      exact ⟨rfl, (by repeat (first | (with_reducible assumption) | (with_reducible exact Below.refl _ _) | (with_reducible apply below_drewL) | (with_reducible apply below_alloc) | (with_reducible apply below_drew1) | (with_reducible apply below_drewN) | (refine below_set ?_ (by first | omega | (simp only [size_alloc, size_drew, size_set]; omega)) _ _)))⟩

set_option maxHeartbeats 1000000 in
theorem depth_calls (n : Int) (w : World) :
    Calls Try.prog 13 #[.int .i64 n] w fun e w' => e = .returned (.int .i64 (newD n)) ∧ w = w' := by
  unfold newD
  by_cases h1 : n < 1
  · rw [if_pos h1]
    go_enter Try.func13, Try.ntmps13
    go_wp2
    go_ret
    exact ⟨rfl, rfl⟩
  · rw [if_neg h1]
    by_cases h2 : 4096 < n
    · rw [if_pos h2]
      go_enter Try.func13, Try.ntmps13
      go_wp2
      go_ret
      exact ⟨rfl, rfl⟩
    · rw [if_neg h2]
      go_enter Try.func13, Try.ntmps13
      go_wp2
      go_ret
      exact ⟨rfl, rfl⟩

theorem len_calls (d : Int) (A : Option Addr) (n c : Nat) (w : World) (hn : n ≤ 9223372036854775807) :
    Calls Try.prog 10 #[.agg #[.int .i64 d, .slice A n c]] w fun e w' => e = .returned (.int .i64 n) ∧ Below w.heap.size w w' := by
  go_enter Try.func10, Try.ntmps10
  go_wp2
  go_ret
  exact ⟨rfl, (by repeat (first | (with_reducible assumption) | (with_reducible exact Below.refl _ _) | (with_reducible apply below_drewL) | (with_reducible apply below_alloc) | (with_reducible apply below_drew1) | (with_reducible apply below_drewN) | (refine below_set ?_ (by first | omega | (simp only [size_alloc, size_drew, size_set]; omega)) _ _)))⟩

def lowL (or : Int) : List Spot → Int
  | [] => or
  | s :: l => lowL (if s.at_ < or then s.at_ else or) l
theorem lowL_snoc (or : Int) (l : List Spot) (s : Spot) : lowL or (l ++ [s]) = if s.at_ < lowL or l then s.at_ else lowL or l := by
  induction l generalizing or with
  | nil => rfl
  | cons a l ih => exact ih _

set_option maxHeartbeats 1000000 in
theorem reflow_calls (A : Option Addr) (c : Nat) (l : List Spot) (or : Int) (S : Nat → Prop) (w : World) (hS : ∀ k, S k → k < w.heap.size) (hC : Row spotT w S A l.length l) :
    Calls Try.prog 16 #[.slice A l.length c, .int .i64 or] w fun e w' => e = .returned (.int .i64 (lowL or l)) ∧ Below w.heap.size w w' := by
  have hm := hC.le
  have HC := Hd.mk hC; clear hC
  have HS := Hd.mk hS; clear hS
  go_enter Try.func16, Try.ntmps16
  go_wp2
  go_loopw [1, 5] (fun v i wr => ∃ k : Nat, k ≤ l.length ∧ i = .int .i64 k ∧ v = .int .i64 (lowL or (l.take k)) ∧ Hd (Below w.heap.size w wr)) (fun _ i _ => l.length - (intOf i).toNat)
  case atStart => exact ⟨0, Nat.zero_le _, rfl, rfl, ⟨Below.refl _ _⟩⟩
  case round =>
    obtain ⟨k, hk, rfl, rfl, hb⟩ := hrel
    by_cases hlt : k < l.length
    · obtain ⟨b, o, rfl, _, hb1, hx, hy⟩ := spot_get (HC.out.below HS.out hb.out) k hlt
      have hlow := lowL_snoc or (l.take k) l[k]
      rw [← List.take_succ_eq_append_getElem hlt] at hlow
      have HL := Hd.mk hlow; clear hlow
      by_cases hc : l[k].at_ < lowL or (l.take k)
      all_goals
        go_wp2
        go_roundw
        case rel => exact ⟨k + 1, by omega, by go_num, by rw [HL.out]; first | rw [if_pos hc] | rw [if_neg hc], ⟨hb.out⟩⟩
        case measure => simp [intOf]; omega
    · go_wp2
      go_ret
      have h0 : k = l.length := by omega
      exact ⟨ret_int (by rw [h0, List.take_length]), hb.out⟩

set_option maxHeartbeats 1000000 in
theorem low_calls (d : Int) (A : Option Addr) (c : Nat) (l : List Spot) (or : Int) (S : Nat → Prop) (w : World) (hS : ∀ k, S k → k < w.heap.size) (hC : Row spotT w S A l.length l) :
    Calls Try.prog 11 #[.agg #[.int .i64 d, .slice A l.length c], .int .i64 or] w fun e w' => e = .returned (.int .i64 (lowL or l)) ∧ Below w.heap.size w w' := by
  have hm := hC.le
  have HC := Hd.mk hC; clear hC
  have HS := Hd.mk hS; clear hS
  go_enter Try.func11, Try.ntmps11
  go_wp2
  generalize hV : World.alloc _ _ = V
  have HBV : Below w.heap.size w V := below_of hV (by repeat (first | (with_reducible assumption) | (with_reducible exact Below.refl _ _) | (with_reducible apply below_drewL) | (with_reducible apply below_alloc) | (with_reducible apply below_drew1) | (with_reducible apply below_drewN) | (refine below_set ?_ (by first | omega | (simp only [size_alloc, size_drew, size_set]; omega)) _ _)))
  have zV : Hd (V.heap.size = w.heap.size + 1) := ⟨by rw [← hV]; simp only [size_alloc]⟩
  have V0 := at_of hV (blk_new _ _ _ rfl)
  have V0l := blk_lt V0
  clear hV
  go_loopw [1, 6, 10] (fun v u i wr => ∃ k : Nat, k ≤ l.length ∧ i = .int .i64 k ∧ v = .int .i64 (lowL or (l.take k)) ∧ Hd (Below w.heap.size w wr)) (fun _ _ i _ => l.length - (intOf i).toNat)
  case atStart => exact ⟨0, Nat.zero_le _, rfl, rfl, ⟨HBV⟩⟩
  case round =>
    obtain ⟨k, hk, rfl, rfl, hb⟩ := hrel
    by_cases hlt : k < l.length
    · obtain ⟨b, o, rfl, _, hb1, hx, hy⟩ := spot_get (HC.out.below HS.out hb.out) k hlt
      have hlow := lowL_snoc or (l.take k) l[k]
      rw [← List.take_succ_eq_append_getElem hlt] at hlow
      have HL := Hd.mk hlow; clear hlow
      by_cases hc : l[k].at_ < lowL or (l.take k)
      all_goals
        go_wp2
        go_roundw
        case rel => exact ⟨k + 1, by omega, by go_num, by rw [HL.out]; first | rw [if_pos hc] | rw [if_neg hc], ⟨by have := hb.out; exact (by repeat (first | (with_reducible assumption) | (with_reducible exact Below.refl _ _) | (with_reducible apply below_drewL) | (with_reducible apply below_alloc) | (with_reducible apply below_drew1) | (with_reducible apply below_drewN) | (refine below_set ?_ (by first | omega | (simp only [size_alloc, size_drew, size_set]; omega)) _ _)))⟩⟩
        case measure => simp [intOf]; omega
    · go_wp2
      go_ret
      have h0 : k = l.length := by omega
      exact ⟨ret_int (by rw [h0, List.take_length]), hb.out⟩

/-- A row of the call's own, of plain elements: what it leans on is its block. -/
theorem own_spot {w : World} {base : Nat} {S : Nat → Prop} {v : Value} {l : List Spot} (h : Own spotT w base 28 S v l) : Own spotT w base 28 (fun _ => False) v l := by
  obtain ⟨inner, ho, hc, _⟩ := h
  exact ⟨inner, ho, ⟨hc.1, fun j p hj => hc.2 j p hj⟩, fun _ h => h.elim⟩

set_option maxHeartbeats 1000000 in
theorem clone_calls (A : Option Addr) (c : Nat) (l : List Spot) (S : Nat → Prop) (w : World) (hS : ∀ k, S k → k < w.heap.size) (hC : Row spotT w S A l.length l) (hA : A = none → c = 0) (hn : l.length ≤ 5000) :
    Calls Try.prog 18 #[.slice A l.length c] w fun e w' => ∃ A' c', e = .returned (.slice A' l.length c') ∧ l.length ≤ c' ∧ (A' = none → c' = 0) ∧ Row spotT w' (fun k => w.heap.size ≤ k ∧ k < w'.heap.size) A' l.length l ∧ Below w.heap.size w w' := by
  have HS := Hd.mk hS; clear hS
  cases A with
  | none =>
    have h0 : l.length = 0 := by
      rcases Nat.eq_zero_or_pos l.length with h | h
      · exact h
      · exact absurd rfl (hC.some_of h)
    have hc0 := hA rfl
    subst hc0
    obtain rfl := List.eq_nil_of_length_eq_zero h0
    clear hC hA hn h0
    go_enter Try.func18, Try.ntmps18
    go_wp2
    go_ret
    exact ⟨none, 0, rfl, Nat.le_refl _, fun _ => rfl, Row.nil _ _ _ _, Below.refl _ _⟩
  | some ad =>
    have HC := Hd.mk hC; clear hC hA
    go_enter Try.func18, Try.ntmps18
    go_wp2_with (at_builtin; go_must (refine append_own spotT (S := fun _ => False) (S' := S) rfl (.tmp 5) (.tmp 6) 22 28 _ 16 rfl (by rfl) info28 rfl (by decide) (by decide) w.heap.size (.slice (some ⟨w.heap.size, 0, none⟩) 0 0) [] l (some ad) l.length c rfl rfl (fun h => by cases h) (Own.empty _ _ _ (Nat.le_refl _)) (HC.out.below HS.out (by repeat (first | (with_reducible assumption) | (with_reducible exact Below.refl _ _) | (with_reducible apply below_drewL) | (with_reducible apply below_alloc) | (with_reducible apply below_drew1) | (with_reducible apply below_drewN) | (refine below_set ?_ (by first | omega | (simp only [size_alloc, size_drew, size_set]; omega)) _ _)))) (fun k hk => ⟨by have := HS.out k hk; rw [size_alloc]; omega, ownBlock_ne (HS.out k hk)⟩) (by rw [size_alloc]; omega) (by simp only [List.length_nil]; omega) ?_); intro v1 w1 hO1 hg1 hat1; obtain ⟨A1, c1, rfl, hc1, hA1, hR1⟩ := (own_spot hO1).form)
    go_ret
    have hb1 : Below w.heap.size w w1 := Below.grown (by repeat (first | (with_reducible assumption) | (with_reducible exact Below.refl _ _) | (with_reducible apply below_drewL) | (with_reducible apply below_alloc) | (with_reducible apply below_drew1) | (with_reducible apply below_drewN) | (refine below_set ?_ (by first | omega | (simp only [size_alloc, size_drew, size_set]; omega)) _ _))) hg1 (by rw [size_alloc]; omega) (fun k hk => by have := ownBlock_eq hk; omega)
    refine ⟨A1, c1, rfl, hc1, hA1, ?_, hb1⟩
    refine Row.mono hR1 (fun k hk => ?_)
    rcases hk with hk | hk
    · exact hk.elim
    · have := hO1.lt hk; exact ⟨this.2, this.1⟩

/-- All: a copy. -/
theorem all_calls (d : Int) (A : Option Addr) (c : Nat) (l : List Spot) (S : Nat → Prop) (w : World) (hS : ∀ k, S k → k < w.heap.size) (hC : Row spotT w S A l.length l) (hA : A = none → c = 0) (hn : l.length ≤ 5000) :
    Calls Try.prog 15 #[.agg #[.int .i64 d, .slice A l.length c]] w fun e w' => ∃ A' c', e = .returned (.slice A' l.length c') ∧ l.length ≤ c' ∧ (A' = none → c' = 0) ∧ Row spotT w' (fun k => w.heap.size ≤ k ∧ k < w'.heap.size) A' l.length l ∧ Below w.heap.size w w' := by
  have HS := Hd.mk hS; clear hS
  have HC := Hd.mk hC; clear hC
  have HA := Hd.mk hA; clear hA
  go_enter Try.func15, Try.ntmps15
  go_wp2_with (go_at_call 18; refine (clone_calls A c l S _ (fun k hk => by have := HS.out k hk; simp only [size_alloc]; omega) (HC.out.below HS.out (by repeat (first | (with_reducible assumption) | (with_reducible exact Below.refl _ _) | (with_reducible apply below_drewL) | (with_reducible apply below_alloc) | (with_reducible apply below_drew1) | (with_reducible apply below_drewN) | (refine below_set ?_ (by first | omega | (simp only [size_alloc, size_drew, size_set]; omega)) _ _)))) HA.out hn).mono ?_; rintro e w1 ⟨A1, c1, rfl, hc1, hA1, hR1, hb1⟩)
  go_ret
  have hb := below_seq (a := w) (by repeat (first | (with_reducible assumption) | (with_reducible exact Below.refl _ _) | (with_reducible apply below_drewL) | (with_reducible apply below_alloc) | (with_reducible apply below_drew1) | (with_reducible apply below_drewN) | (refine below_set ?_ (by first | omega | (simp only [size_alloc, size_drew, size_set]; omega)) _ _))) hb1
  refine ⟨A1, c1, rfl, hc1, hA1, hR1.mono (fun k hk => ⟨?_, hk.2⟩), hb⟩
  have := hk.1; simp only [size_alloc] at this; omega

end Go.Proofs.Ytefkhjgckdphnaa.Fn
