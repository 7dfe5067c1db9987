/- Count; the reference's Has, Same, Drop. -/
import Derived.Test.YtbmpaokicphdjaaDoorB11
import Derived.Test.YtbmpaokicphdjaaDoorB9
import Derived.Test.YtbmpaokicphdjaaDoorCut
namespace Go.Proofs.YtbmpaokicphdjaaDoor.Fn
open Go Go.RowKit Go.Proofs.YtbmpaokicphdjaaDoor.Can Go.Proofs.YtbmpaokicphdjaaDoor.Base
attribute [local go_sem] clsB AB.cell

theorem count_calls (A : Option Addr) (c g r : Nat) (ws : List Nat) (w : World) (hK : Wok r ws) (h1 : Wd w A g ws) :
    Calls Tryd.prog 25 #[.agg #[.slice A ws.length c, .int .i64 r]] w fun e w' => e = .returned (.int .i64 ((elems ws).length : Nat)) ∧ Below w.heap.size w w' := by
  have hm1 : ws.length ≤ 1100 := by have := hK.len; have := hK.small; omega
  obtain ⟨m, hme⟩ : ∃ m, ws.length = m := ⟨_, rfl⟩
  have HE : Hd ((elems ws).length = (elemsK ws m).length) := ⟨by unfold elems; rw [hme]⟩
  have HK := Hd.mk hK; have H1 := Hd.mk h1; have HM := Hd.mk hme
  rw [hme] at hm1 ⊢
  rw [HE.out]
  clear hK h1 hme HE
  go_enter Tryd.func25, Tryd.ntmps25
  go_wp2
  generalize hV : World.alloc _ _ = V
  have HBV : Hd (Below w.heap.size w V) := ⟨by rw [← hV]; exact below_alloc (Below.refl _ _) _⟩
  clear hV
  go_loopw [3, 9] (fun s i wr => ∃ k q : Nat, k ≤ m ∧ i = .int .i64 k ∧ s = .int .i64 q ∧ Hd (q = (elemsK ws k).length) ∧ Hd (Below V.heap.size V wr)) (fun _ i _ => m - (intOf i).toNat)
  case atStart => exact ⟨0, 0, Nat.zero_le _, rfl, rfl, ⟨rfl⟩, ⟨Below.refl _ _⟩⟩
  case round =>
    obtain ⟨k, q, hk, rfl, rfl, HQ, HB⟩ := hrel
    by_cases hlt : k < m
    · obtain ⟨x, hx⟩ : ∃ x, ws[k]? = some x := ⟨_, List.getElem?_eq_getElem (by rw [HM.out]; exact hlt)⟩
      have hx64 : x < 18446744073709551616 := HK.out.lt x (List.mem_of_getElem? hx)
      have hxD : ws.getD k 0 = x := by rw [List.getD_eq_getElem?_getD, hx]; rfl
      have hWr := (H1.out.below HBV.out).below HB.out
      have hcx := hWr.cell hx
      obtain ⟨rfl, _⟩ := hWr.at_ hx
      obtain ⟨z, hz⟩ : ∃ z, (wordBits x).length = z := ⟨_, rfl⟩
      have hq70 : q ≤ 70400 := by rw [HQ.out]; have := elemsK_len ws k; omega
      have hz64 : z ≤ 64 := by rw [← hz]; unfold wordBits; exact Nat.le_trans (List.length_filter_le _ _) (by rw [List.length_range]; exact Nat.le_refl _)
      have HS : Hd (q + z = (elemsK ws (k + 1)).length) := ⟨by rw [elemsK_succ, hxD, List.length_append, List.length_map, hz, HQ.out]⟩
      have HZ := Hd.mk hz
      clear hx hxD hWr hz
      go_wp2_with (go_at_call 73; go_must (refine Calls.mono (pop_calls x z wr hx64 HZ.out) ?_; rintro e w2 ⟨rfl, rfl⟩))
      go_roundw
      case rel => exact ⟨k + 1, q + z, by omega, by go_num, by go_num, HS, HB⟩
      case measure => simp [intOf]; omega
    · obtain rfl : k = m := by omega
      go_wp2
      go_ret
      rw [← HQ.out]
      exact ⟨rfl, below_seq HBV.out HB.out⟩
theorem rhas_calls (A : Option Addr) (n c : Nat) (L : List Int) (x : Int) (b : Bool) (S : Nat → Prop) (w : World) (hS : ∀ k, S k → k < w.heap.size) (hC : Row I w S A n L) (hb : decide (x ∈ L) = b) :
    Calls Tryd.prog 70 #[.slice A n c, .int .i64 x] w fun e w' => e = .returned (.bool b) ∧ Below w.heap.size w w' := by
  have hn := hC.le
  have HC := Hd.mk hC; have HS := Hd.mk hS; have HBb := Hd.mk hb
  clear hC hS hb
  go_enter Tryd.func70, Tryd.ntmps70
  go_wp2
  go_loopw [5] (fun i wr => ∃ k : Nat, k ≤ n ∧ i = .int .i64 k ∧ Hd (x ∉ L.take k) ∧ Hd (Below w.heap.size w wr)) (fun i _ => n - (intOf i).toNat)
  case atStart => exact ⟨0, Nat.zero_le _, rfl, ⟨by simp⟩, ⟨Below.refl _ _⟩⟩
  case round =>
    obtain ⟨k, hk, rfl, HP, HB⟩ := hrel
    by_cases hlt : k < n
    · obtain ⟨g, off, y, rfl, _, hg, hy, hcell⟩ := (HC.out.below HS.out HB.out).get_int k hlt
      have HY := Hd.mk hy; clear hy
      by_cases hxy : y = x
      · have hj : (y == x) = true := by simpa using hxy
        obtain rfl : b = true := by rw [← HBb.out]; exact decide_eq_true (by rw [← hxy]; exact List.mem_of_getElem? HY.out)
        clear hxy
        go_wp2
        go_ret
        exact ⟨rfl, HB.out⟩
      · have hj : (y == x) = false := by simpa using hxy
        have HP2 : Hd (x ∉ L.take (k + 1)) := ⟨by rw [List.take_add_one, HY.out]; simp only [Option.toList_some, List.mem_append, List.mem_singleton, not_or]; exact ⟨HP.out, fun h => hxy h.symm⟩⟩
        clear hxy
        go_wp2
        go_roundw
        case rel => exact ⟨k + 1, by omega, by go_num, HP2, HB⟩
        case measure => simp [intOf]; omega
    · obtain rfl : k = n := by omega
      obtain rfl : b = false := by rw [← HBb.out]; exact decide_eq_false (by have := HP.out; rwa [← HC.out.1, List.take_length] at this)
      go_wp2
      go_ret
      exact ⟨rfl, HB.out⟩
theorem same_calls (A1 A2 : Option Addr) (n1 n2 c1 c2 : Nat) (L1 L2 : List Int) (b : Bool) (S1 S2 : Nat → Prop) (w : World) (hS1 : ∀ k, S1 k → k < w.heap.size) (hS2 : ∀ k, S2 k → k < w.heap.size) (h1 : Row I w S1 A1 n1 L1) (h2 : Row I w S2 A2 n2 L2) (hb : decide (L1 = L2) = b) :
    Calls Tryd.prog 17 #[.slice A1 n1 c1, .slice A2 n2 c2] w fun e w' => e = .returned (.bool b) ∧ Below w.heap.size w w' := by
  have hm1 := h1.le
  have hm2 := h2.le
  have H1 := Hd.mk h1; have H2 := Hd.mk h2; have HBb := Hd.mk hb; clear h1 h2 hb
  have HS1 := Hd.mk hS1; have HS2 := Hd.mk hS2; clear hS1 hS2
  by_cases hne : n1 = n2
  · subst hne
    go_enter Tryd.func17, Tryd.ntmps17
    go_wp2
    go_loopw [5] (fun i wr => ∃ k : Nat, k ≤ n1 ∧ i = .int .i64 k ∧ Hd (L1.take k = L2.take k) ∧ Hd (Below w.heap.size w wr)) (fun i _ => n1 - (intOf i).toNat)
    case atStart => exact ⟨0, Nat.zero_le _, rfl, ⟨rfl⟩, ⟨Below.refl _ _⟩⟩
    case round =>
      obtain ⟨k, hk, rfl, HE, HB⟩ := hrel
      by_cases hlt : k < n1
      · obtain ⟨b1, o1, x, rfl, _, hb1, hx1, hy1⟩ := (H1.out.below HS1.out HB.out).get_int k hlt
        obtain ⟨b2, o2, y, rfl, _, hb2, hx2, hy2⟩ := (H2.out.below HS2.out HB.out).get_int k hlt
        have HX1 := Hd.mk hx1; have HX2 := Hd.mk hx2
        clear hx1 hx2
        by_cases hxy : x = y
        · have HE2 : Hd (L1.take (k + 1) = L2.take (k + 1)) := ⟨by rw [List.take_add_one, List.take_add_one, HX1.out, HX2.out, HE.out, hxy]⟩
          subst hxy
          have hj : (x != x) = false := by simp
          go_wp2
          refine wp_region_can (.q [0, 1, 2, 3, 4, 5, 6, 7, 8] (.done)) (clsB _) (by kernel_rfl) (by kernel_rfl) (by intro _ _ d _ _ h; cases d <;> exact h) (clsB_drew _) ?_
          refine can_q (l := [⟨_,_,_,_,_,_⟩, ⟨_,_,_,_,_,_⟩, ⟨_,_,_,_,_,_⟩, ⟨_,_,_,_,_,_⟩, ⟨_,_,_,_,_,_⟩, ⟨_,_,_,_,_,_⟩, ⟨_,_,_,_,_,_⟩, ⟨_,_,_,_,_,_⟩, ⟨_,_,_,_,_,_⟩]) rfl ?_
          repeat (go_big_quiet_step (fail))
          refine wpQuiet_nil ?_
          refine can_done ?_
          go_wp2
          go_roundw
          case rel => exact ⟨k + 1, by omega, by go_num, HE2, ⟨by have := HB.out; exact (by repeat (first | (with_reducible assumption) | (with_reducible exact Below.refl _ _) | (with_reducible apply below_drewL) | (with_reducible apply below_alloc) | (with_reducible apply below_drew1) | (with_reducible apply below_drewN) | (refine below_set ?_ (by first | omega | (simp only [size_alloc, size_drew, size_set]; omega)) _ _)))⟩⟩
          case measure => simp [intOf]; omega
        · have hj : (x != y) = true := by simpa using hxy
          obtain rfl : b = false := by rw [← HBb.out]; exact decide_eq_false fun h => hxy (by have a := HX1.out; rw [h, HX2.out] at a; exact (Option.some.inj a).symm)
          clear hxy
          go_wp2
          refine wp_region_can (.q [0, 1, 2, 3, 4, 5, 6, 7, 8] (.done)) (clsB _) (by kernel_rfl) (by kernel_rfl) (by intro _ _ d _ _ h; cases d <;> exact h) (clsB_drew _) ?_
          refine can_q (l := [⟨_,_,_,_,_,_⟩, ⟨_,_,_,_,_,_⟩, ⟨_,_,_,_,_,_⟩, ⟨_,_,_,_,_,_⟩, ⟨_,_,_,_,_,_⟩, ⟨_,_,_,_,_,_⟩, ⟨_,_,_,_,_,_⟩, ⟨_,_,_,_,_,_⟩, ⟨_,_,_,_,_,_⟩]) rfl ?_
          repeat (go_big_quiet_step (fail))
          refine wpQuiet_nil ?_
          refine can_done ?_
          go_wp2
          go_ret
          exact ⟨rfl, by have := HB.out; exact (by repeat (first | (with_reducible assumption) | (with_reducible exact Below.refl _ _) | (with_reducible apply below_drewL) | (with_reducible apply below_alloc) | (with_reducible apply below_drew1) | (with_reducible apply below_drewN) | (refine below_set ?_ (by first | omega | (simp only [size_alloc, size_drew, size_set]; omega)) _ _)))⟩
      · obtain rfl : k = n1 := by omega
        obtain rfl : b = true := by rw [← HBb.out]; exact decide_eq_true (by have a := HE.out; rwa [List.take_of_length_le (by rw [H1.out.1]; exact Nat.le_refl _), List.take_of_length_le (by rw [H2.out.1]; exact Nat.le_refl _)] at a)
        go_wp2
        go_ret
        exact ⟨rfl, HB.out⟩
  · obtain rfl : b = false := by rw [← HBb.out]; exact decide_eq_false fun h => hne (by rw [← H1.out.1, ← H2.out.1, h])
    go_enter Tryd.func17, Tryd.ntmps17
    go_wp2
    go_ret
    exact ⟨rfl, Below.refl _ _⟩
end Go.Proofs.YtbmpaokicphdjaaDoor.Fn
