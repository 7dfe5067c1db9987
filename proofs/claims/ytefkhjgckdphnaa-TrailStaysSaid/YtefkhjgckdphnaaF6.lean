/- The rest of the trail's own functions. -/
import Derived.Test.YtefkhjgckdphnaaF5
import Derived.Test.YtefkhjgckdphnaaF2
namespace Go.Proofs.Ytefkhjgckdphnaa.Fn
open Go Go.RowKit Go.Proofs.Ytefkhjgckdphnaa.Can Go.Proofs.Ytefkhjgckdphnaa.Base
attribute [local go_sem] clsB AB.cell nil22
attribute [local go_sem high] eq28

set_option maxHeartbeats 1000000 in
theorem equal_calls (A1 A2 : Option Addr) (c1 c2 : Nat) (l1 l2 : List Spot) (S1 S2 : Nat → Prop) (w : World) (hS1 : ∀ k, S1 k → k < w.heap.size) (hS2 : ∀ k, S2 k → k < w.heap.size) (h1 : Row spotT w S1 A1 l1.length l1) (h2 : Row spotT w S2 A2 l2.length l2) :
    Calls Try.prog 19 #[.slice A1 l1.length c1, .slice A2 l2.length c2] w fun e w' => e = .returned (.bool (decide (l1 = l2))) ∧ Below w.heap.size w w' := by
  have hm1 := h1.le
  have hm2 := h2.le
  by_cases hl : l1.length = l2.length
  · have H1 := Hd.mk h1; have H2 := Hd.mk h2; clear h1 h2
    have HS1 := Hd.mk hS1; have HS2 := Hd.mk hS2; clear hS1 hS2
    have hl' : l2.length = l1.length := hl.symm
    have HL := Hd.mk hl; clear hl
    rw [hl']
    have HL' := Hd.mk hl'; clear hl' hm2
    go_enter Try.func19, Try.ntmps19
    go_wp2
    go_loopw [13] (fun i wr => ∃ k : Nat, k ≤ l1.length ∧ i = .int .i64 k ∧ Hd (l1.take k = l2.take k) ∧ Hd (Below w.heap.size w wr)) (fun i _ => l1.length - (intOf i).toNat)
    case atStart => exact ⟨0, Nat.zero_le _, rfl, ⟨rfl⟩, ⟨Below.refl _ _⟩⟩
    case round =>
      obtain ⟨k, hk, rfl, hq, hb⟩ := hrel
      by_cases hlt : k < l1.length
      · obtain ⟨b1, o1, rfl, _, hb1, hx1, hy1⟩ := spot_get (H1.out.below HS1.out hb.out) k hlt
        obtain ⟨b2, o2, rfl, _, hb2, hx2, hy2⟩ := spot_get (H2.out.below HS2.out hb.out) k (by have := HL.out; omega)
        have htk1 : l1.take (k + 1) = l1.take k ++ [l1[k]] := List.take_succ_eq_append_getElem hlt
        have htk2 : l2.take (k + 1) = l2.take k ++ [l2[k]'(by have := HL.out; omega)] := List.take_succ_eq_append_getElem (by have := HL.out; omega)
        have HT := Hd.mk (And.intro htk1 htk2); clear htk1 htk2
        by_cases he : l1[k] = l2[k]'(by have := HL.out; omega)
        · have HE := Hd.mk he
          rw [← he] at hx2 hy2
          clear he
          go_wp2
          refine wp_region_can (.q [0, 1, 2, 3, 4, 5, 6, 7, 8] (.done)) (clsB _) (by kernel_rfl) (by kernel_rfl) (by intro _ _ d _ _ h; cases d <;> exact h) (clsB_drew _) ?_
          refine can_q (l := [⟨_,_,_,_,_,_⟩, ⟨_,_,_,_,_,_⟩, ⟨_,_,_,_,_,_⟩, ⟨_,_,_,_,_,_⟩, ⟨_,_,_,_,_,_⟩, ⟨_,_,_,_,_,_⟩, ⟨_,_,_,_,_,_⟩, ⟨_,_,_,_,_,_⟩, ⟨_,_,_,_,_,_⟩]) rfl ?_
          repeat (go_big_quiet_step (fail))
          refine wpQuiet_nil ?_
          refine can_done ?_
          go_wp2
          go_roundw
          case rel => exact ⟨k + 1, by omega, by go_num, ⟨by rw [HT.out.1, HT.out.2, hq.out, HE.out]⟩, ⟨by have := hb.out; exact (by repeat (first | (with_reducible assumption) | (with_reducible exact Below.refl _ _) | (with_reducible apply below_drewL) | (with_reducible apply below_alloc) | (with_reducible apply below_drew1) | (with_reducible apply below_drewN) | (refine below_set ?_ (by first | omega | (simp only [size_alloc, size_drew, size_set]; omega)) _ _)))⟩⟩
          case measure => simp [intOf]; omega
        · have HE := Hd.mk he
          by_cases ha : l1[k].at_ = (l2[k]'(by have := HL.out; omega)).at_
          · have hm : (l1[k].mode == (l2[k]'(by have := HL.out; omega)).mode) = false := by
              simp only [beq_eq_false_iff_ne]
              intro hm
              exact he (by cases h1 : l1[k]; cases h2 : l2[k]'(by have := HL.out; omega); simp_all)
            rw [← ha] at hx2
            clear he ha
            go_wp2
            refine wp_region_can (.q [0, 1, 2, 3, 4, 5, 6, 7, 8] (.done)) (clsB _) (by kernel_rfl) (by kernel_rfl) (by intro _ _ d _ _ h; cases d <;> exact h) (clsB_drew _) ?_
            refine can_q (l := [⟨_,_,_,_,_,_⟩, ⟨_,_,_,_,_,_⟩, ⟨_,_,_,_,_,_⟩, ⟨_,_,_,_,_,_⟩, ⟨_,_,_,_,_,_⟩, ⟨_,_,_,_,_,_⟩, ⟨_,_,_,_,_,_⟩, ⟨_,_,_,_,_,_⟩, ⟨_,_,_,_,_,_⟩]) rfl ?_
            repeat (go_big_quiet_step (fail))
            refine wpQuiet_nil ?_
            refine can_done ?_
            go_wp2
            go_ret
            exact ⟨ret_bool (decide_eq_false fun h => HE.out (by simp [h])).symm, by have := hb.out; exact (by repeat (first | (with_reducible assumption) | (with_reducible exact Below.refl _ _) | (with_reducible apply below_drewL) | (with_reducible apply below_alloc) | (with_reducible apply below_drew1) | (with_reducible apply below_drewN) | (refine below_set ?_ (by first | omega | (simp only [size_alloc, size_drew, size_set]; omega)) _ _)))⟩
          · have hm : (l1[k].at_ == (l2[k]'(by have := HL.out; omega)).at_) = false := by simpa using ha
            clear he ha
            go_wp2
            refine wp_region_can (.q [0, 1, 2, 3, 4, 5, 6, 7, 8] (.done)) (clsB _) (by kernel_rfl) (by kernel_rfl) (by intro _ _ d _ _ h; cases d <;> exact h) (clsB_drew _) ?_
            refine can_q (l := [⟨_,_,_,_,_,_⟩, ⟨_,_,_,_,_,_⟩, ⟨_,_,_,_,_,_⟩, ⟨_,_,_,_,_,_⟩, ⟨_,_,_,_,_,_⟩, ⟨_,_,_,_,_,_⟩, ⟨_,_,_,_,_,_⟩, ⟨_,_,_,_,_,_⟩, ⟨_,_,_,_,_,_⟩]) rfl ?_
            repeat (go_big_quiet_step (fail))
            refine wpQuiet_nil ?_
            refine can_done ?_
            go_wp2
            go_ret
            exact ⟨ret_bool (decide_eq_false fun h => HE.out (by simp [h])).symm, by have := hb.out; exact (by repeat (first | (with_reducible assumption) | (with_reducible exact Below.refl _ _) | (with_reducible apply below_drewL) | (with_reducible apply below_alloc) | (with_reducible apply below_drew1) | (with_reducible apply below_drewN) | (refine below_set ?_ (by first | omega | (simp only [size_alloc, size_drew, size_set]; omega)) _ _)))⟩
      · go_wp2
        go_ret
        have h0 : k = l1.length := by omega
        have hq' := hq.out
        rw [h0, List.take_length, HL.out, List.take_length] at hq'
        exact ⟨ret_bool (decide_eq_true hq').symm, by have := hb.out; exact (by repeat (first | (with_reducible assumption) | (with_reducible exact Below.refl _ _) | (with_reducible apply below_drewL) | (with_reducible apply below_alloc) | (with_reducible apply below_drew1) | (with_reducible apply below_drewN) | (refine below_set ?_ (by first | omega | (simp only [size_alloc, size_drew, size_set]; omega)) _ _)))⟩
  · go_enter Try.func19, Try.ntmps19
    go_wp2
    go_ret
    exact ⟨ret_bool (decide_eq_false fun h => hl (by rw [h])).symm, Below.refl _ _⟩

set_option maxHeartbeats 1000000 in
theorem same_calls (d1 d2 : Int) (A1 A2 : Option Addr) (c1 c2 : Nat) (l1 l2 : List Spot) (S1 S2 : Nat → Prop) (w : World) (hS1 : ∀ k, S1 k → k < w.heap.size) (hS2 : ∀ k, S2 k → k < w.heap.size) (h1 : Row spotT w S1 A1 l1.length l1) (h2 : Row spotT w S2 A2 l2.length l2) :
    Calls Try.prog 17 #[.agg #[.int .i64 d1, .slice A1 l1.length c1], .agg #[.int .i64 d2, .slice A2 l2.length c2]] w fun e w' => e = .returned (.bool (decide (l1 = l2))) ∧ Below w.heap.size w w' := by
  have HS1 := Hd.mk hS1; have HS2 := Hd.mk hS2; clear hS1 hS2
  have H1 := Hd.mk h1; have H2 := Hd.mk h2; clear h1 h2
  go_enter Try.func17, Try.ntmps17
  go_wp2_with (go_at_call 19; refine (equal_calls A1 A2 c1 c2 l1 l2 S1 S2 _ (fun k hk => by have := HS1.out k hk; simp only [size_alloc]; omega) (fun k hk => by have := HS2.out k hk; simp only [size_alloc]; omega) (H1.out.below HS1.out (by repeat (first | (with_reducible assumption) | (with_reducible exact Below.refl _ _) | (with_reducible apply below_drewL) | (with_reducible apply below_alloc) | (with_reducible apply below_drew1) | (with_reducible apply below_drewN) | (refine below_set ?_ (by first | omega | (simp only [size_alloc, size_drew, size_set]; omega)) _ _)))) (H2.out.below HS2.out (by repeat (first | (with_reducible assumption) | (with_reducible exact Below.refl _ _) | (with_reducible apply below_drewL) | (with_reducible apply below_alloc) | (with_reducible apply below_drew1) | (with_reducible apply below_drewN) | (refine below_set ?_ (by first | omega | (simp only [size_alloc, size_drew, size_set]; omega)) _ _))))).mono ?_; rintro e w1 ⟨rfl, hb1⟩)
  go_ret
  exact ⟨rfl, below_seq (a := w) (by repeat (first | (with_reducible assumption) | (with_reducible exact Below.refl _ _) | (with_reducible apply below_drewL) | (with_reducible apply below_alloc) | (with_reducible apply below_drew1) | (with_reducible apply below_drewN) | (refine below_set ?_ (by first | omega | (simp only [size_alloc, size_drew, size_set]; omega)) _ _))) hb1⟩

/-- Pop where nothing is. -/
theorem pop_none (A : Option Addr) (c : Nat) (d : Int) (w : World) :
    Calls Try.prog 9 #[.agg #[.int .i64 d, .slice A 0 c]] w fun e w' =>
      e = .returned (.tuple #[.agg #[.int .i64 d, .slice A 0 c], .agg #[.int .i64 0, .int .i64 0], .bool false]) ∧ Below w.heap.size w w' := by
  go_enter Try.func9, Try.ntmps9
  go_wp2
  refine bodyPost_ret (v := .tuple #[.agg #[.int .i64 d, .slice A 0 c], .agg #[.int .i64 0, .int .i64 0], .bool false]) (by simp [results, Try.results9, go_sem, *]) rfl ?_
  exact ⟨rfl, (by repeat (first | (with_reducible assumption) | (with_reducible exact Below.refl _ _) | (with_reducible apply below_drewL) | (with_reducible apply below_alloc) | (with_reducible apply below_drew1) | (with_reducible apply below_drewN) | (refine below_set ?_ (by first | omega | (simp only [size_alloc, size_drew, size_set]; omega)) _ _)))⟩

theorem push_to {l' : List Spot} {n' : Nat} (A : Option Addr) (c : Nat) (l : List Spot) (n : Nat) (d : Int) (p : Spot) (hl : pushL l p d = l') (hn' : l'.length = n') (S : Nat → Prop) (w : World) (hS : ∀ k, S k → k < w.heap.size) (hC : Row spotT w S A n l) (hd : 0 ≤ d) (hn : n ≤ 5000) (hnc : n ≤ c) (hA : A = none → c = 0) :
    Calls Try.prog 8 #[.agg #[.int .i64 d, .slice A n c], .agg #[.int .i64 p.at_, .int .i64 p.mode]] w fun e w' =>
      ∃ A' c', e = .returned (.agg #[.int .i64 d, .slice A' n' c']) ∧ n' ≤ c' ∧ (A' = none → c' = 0) ∧ Row spotT w' (New S w w') A' n' l' ∧ Below w.heap.size w w' := by
  obtain rfl := hC.1
  subst hl
  subst hn'
  exact push_any A c l d p S w hS hC hd hn hnc hA

theorem pop_to (A : Option Addr) (c n : Nat) (l : List Spot) (d : Int) (p : Spot) (S : Nat → Prop) (w : World) (hS : ∀ k, S k → k < w.heap.size) (hC : Row spotT w S A (n + 1) (l ++ [p])) (hn : n ≤ 5000) (hnc : n + 1 ≤ c) :
    Calls Try.prog 9 #[.agg #[.int .i64 d, .slice A (n + 1) c]] w fun e w' =>
      e = .returned (.tuple #[.agg #[.int .i64 d, .slice A n n], .agg #[.int .i64 p.at_, .int .i64 p.mode], .bool true]) ∧ Below w.heap.size w w' := by
  have h1 := hC.1
  have h2 : l.length = n := by simpa using h1
  subst h2
  obtain ⟨b, off, _, rfl, _⟩ := hC.get 0 (by omega)
  exact pop_some b off c l d p S w hS hC hn hnc
end Go.Proofs.Ytefkhjgckdphnaa.Fn
