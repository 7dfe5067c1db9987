/- What the law of SurviveOf calls: same spots, same tokens, Far, the reference's Pure. -/
import Derived.Test.YtcejfnnimfpahaaS17
namespace Go.Proofs.Ytcejfnnimfpahaa.Fn
open Go Go.RowKit Go.Proofs.Ytcejfnnimfpahaa.Can Go.Proofs.Ytcejfnnimfpahaa.Base
attribute [local go_sem] clsB AB.cell
attribute [local go_sem high] eq29_same
theorem eq27_same (d : Nat) (w : World) (x0 x1 : Int) :
    (Op.equalIn (d + 2) 27 (.agg #[.int .i64 x0, .int .i64 x1]) (.agg #[.int .i64 x0, .int .i64 x1])).run Try.prog w = .ok true w := by
  rw [eq27]; simp
attribute [local go_sem high] eq27_same

theorem sameS_calls (A1 A2 : Option Addr) (c1 c2 n : Nat) (L : List Spot) (S1 S2 : Nat → Prop) (w : World) (hS1 : ∀ k, S1 k → k < w.heap.size) (hS2 : ∀ k, S2 k → k < w.heap.size) (h1 : Row spotT w S1 A1 n L) (h2 : Row spotT w S2 A2 n L) :
    Calls Try.prog 14 #[.slice A1 n c1, .slice A2 n c2] w fun e w' => e = .returned (.bool true) ∧ Below w.heap.size w w' := by
  have hm1 := h1.le
  have H1 := Hd.mk h1; have H2 := Hd.mk h2; clear h1 h2
  have HS1 := Hd.mk hS1; have HS2 := Hd.mk hS2; clear hS1 hS2
  go_enter Try.func14, Try.ntmps14
  go_wp2
  go_loopw [5] (fun i wr => ∃ k : Nat, k ≤ n ∧ i = .int .i64 k ∧ Hd (Below w.heap.size w wr)) (fun i _ => n - (intOf i).toNat)
  case atStart => exact ⟨0, Nat.zero_le _, rfl, ⟨Below.refl _ _⟩⟩
  case round =>
    obtain ⟨k, hk, rfl, hb⟩ := hrel
    by_cases hlt : k < n
    · obtain ⟨b1, o1, x, rfl, hb1, hx1, d0, d1⟩ := spot_get (H1.out.below HS1.out hb.out) k hlt
      obtain ⟨b2, o2, y, rfl, hb2, hx2, e0, e1⟩ := spot_get (H2.out.below HS2.out hb.out) k hlt
      obtain rfl : x = y := by rw [hx1] at hx2; exact Option.some.inj hx2
      clear hx1 hx2
      go_wp2
      refine wp_region_can (.q [0, 1, 2, 3, 4, 5, 6, 7, 8] (.done)) (clsB _) (by kernel_rfl) (by kernel_rfl) (by intro _ _ d _ _ h; cases d <;> exact h) (clsB_drew _) ?_
      refine can_q (l := [⟨_,_,_,_,_,_⟩, ⟨_,_,_,_,_,_⟩, ⟨_,_,_,_,_,_⟩, ⟨_,_,_,_,_,_⟩, ⟨_,_,_,_,_,_⟩, ⟨_,_,_,_,_,_⟩, ⟨_,_,_,_,_,_⟩, ⟨_,_,_,_,_,_⟩, ⟨_,_,_,_,_,_⟩]) rfl ?_
      repeat (go_big_quiet_step (fail))
      refine wpQuiet_nil ?_
      refine can_done ?_
      go_wp2
      go_roundw
      case rel => exact ⟨k + 1, by omega, by go_num, ⟨by have := hb.out; exact (by repeat (first | (with_reducible assumption) | (with_reducible exact Below.refl _ _) | (with_reducible apply below_drewL) | (with_reducible apply below_alloc) | (with_reducible apply below_drew1) | (with_reducible apply below_drewN) | (refine below_set ?_ (by first | omega | (simp only [size_alloc, size_drew, size_set]; omega)) _ _)))⟩⟩
      case measure => simp [intOf]; omega
    · obtain rfl : k = n := by omega
      go_wp2
      go_ret
      exact ⟨rfl, hb.out⟩
theorem sameT_calls (A1 A2 : Option Addr) (c1 c2 n : Nat) (L : List Tok) (S1 S2 : Nat → Prop) (w : World) (hS1 : ∀ k, S1 k → k < w.heap.size) (hS2 : ∀ k, S2 k → k < w.heap.size) (h1 : Row tokT w S1 A1 n L) (h2 : Row tokT w S2 A2 n L) :
    Calls Try.prog 16 #[.slice A1 n c1, .slice A2 n c2] w fun e w' => e = .returned (.bool true) ∧ Below w.heap.size w w' := by
  have hm1 := h1.le
  have H1 := Hd.mk h1; have H2 := Hd.mk h2; clear h1 h2
  have HS1 := Hd.mk hS1; have HS2 := Hd.mk hS2; clear hS1 hS2
  go_enter Try.func16, Try.ntmps16
  go_wp2
  go_loopw [5] (fun i wr => ∃ k : Nat, k ≤ n ∧ i = .int .i64 k ∧ Hd (Below w.heap.size w wr)) (fun i _ => n - (intOf i).toNat)
  case atStart => exact ⟨0, Nat.zero_le _, rfl, ⟨Below.refl _ _⟩⟩
  case round =>
    obtain ⟨k, hk, rfl, hb⟩ := hrel
    by_cases hlt : k < n
    · obtain ⟨b1, o1, x, rfl, hb1, hx1, d0, d1, d2, d3, d4, d5⟩ := tok_get (H1.out.below HS1.out hb.out) k hlt
      obtain ⟨b2, o2, y, rfl, hb2, hx2, e0, e1, e2, e3, e4, e5⟩ := tok_get (H2.out.below HS2.out hb.out) k hlt
      obtain rfl : x = y := by rw [hx1] at hx2; exact Option.some.inj hx2
      clear hx1 hx2
      go_wp2
      refine wp_region_can (.q [0, 1, 2, 3, 4, 5, 6, 7, 8] (.done)) (clsB _) (by kernel_rfl) (by kernel_rfl) (by intro _ _ d _ _ h; cases d <;> exact h) (clsB_drew _) ?_
      refine can_q (l := [⟨_,_,_,_,_,_⟩, ⟨_,_,_,_,_,_⟩, ⟨_,_,_,_,_,_⟩, ⟨_,_,_,_,_,_⟩, ⟨_,_,_,_,_,_⟩, ⟨_,_,_,_,_,_⟩, ⟨_,_,_,_,_,_⟩, ⟨_,_,_,_,_,_⟩, ⟨_,_,_,_,_,_⟩]) rfl ?_
      repeat (go_big_quiet_step (fail))
      refine wpQuiet_nil ?_
      refine can_done ?_
      go_wp2
      go_roundw
      case rel => exact ⟨k + 1, by omega, by go_num, ⟨by have := hb.out; exact (by repeat (first | (with_reducible assumption) | (with_reducible exact Below.refl _ _) | (with_reducible apply below_drewL) | (with_reducible apply below_alloc) | (with_reducible apply below_drew1) | (with_reducible apply below_drewN) | (refine below_set ?_ (by first | omega | (simp only [size_alloc, size_drew, size_set]; omega)) _ _)))⟩⟩
      case measure => simp [intOf]; omega
    · obtain rfl : k = n := by omega
      go_wp2
      go_ret
      exact ⟨rfl, hb.out⟩

theorem rpure_calls (A : Option Addr) (n c : Nat) (L : List Ev) (S : Nat → Prop) (w : World) (hS : ∀ k, S k → k < w.heap.size) (hC : Row evT w S A n L) :
    Calls Try.prog 19 #[.slice A n c] w fun e w' => e = .returned (.bool (pureL L)) ∧ Below w.heap.size w w' := by
  have hn := hC.le
  have HL := Hd.mk hC.1
  obtain ⟨bb, hbb⟩ : ∃ bb, pureL L = bb := ⟨_, rfl⟩
  rw [hbb]
  have HBB := Hd.mk hbb
  have HC := Hd.mk hC; have HS := Hd.mk hS; clear hC hS hbb
  go_enter Try.func19, Try.ntmps19
  go_wp2
  go_loopw [3] (fun i wr => ∃ (k : Nat), k ≤ n ∧ i = .int .i64 k ∧ Hd (pureL (L.take k) = true) ∧ Hd (Below w.heap.size w wr)) (fun i _ => n - (intOf i).toNat)
  case atStart => exact ⟨0, Nat.zero_le _, rfl, ⟨rfl⟩, ⟨Below.refl _ _⟩⟩
  case round =>
    obtain ⟨k, hk, rfl, HP, HB⟩ := hrel
    by_cases hlt : k < n
    · obtain ⟨a, off, v, rfl, ha, hx, c0, c1, c2, c3, c4, c5, c6, c7, c8, c9, c10, c11, c12, c13⟩ := ev_get (HC.out.below HS.out HB.out) k hlt
      have HX := Hd.mk hx; clear hx
      cases h2 : v.kind == 2 with
      | false =>
        have HP2 := Hd.mk (pure_step HX.out HP.out (by unfold goodB; rw [h2]; rfl))
        go_wp2
        go_roundw
        case rel => exact ⟨k + 1, by omega, by go_num, HP2, HB⟩
        case measure => simp [intOf]; omega
      | true =>
        cases h0 : v.e == 0 with
        | false =>
          have HP2 := Hd.mk (pure_step HX.out HP.out (by unfold goodB; rw [h2, h0]; rfl))
          go_wp2
          go_roundw
          case rel => exact ⟨k + 1, by omega, by go_num, HP2, HB⟩
          case measure => simp [intOf]; omega
        | true =>
          cases h9 : v.op == 9 with
          | true =>
            obtain rfl : bb = false := by rw [← HBB.out]; exact pure_upto HX.out (by unfold goodB; rw [h2, h0, h9]; rfl)
            go_wp2
            go_ret
            exact ⟨rfl, HB.out⟩
          | false =>
            have HP2 := Hd.mk (pure_step HX.out HP.out (by unfold goodB; rw [h2, h0, h9]; rfl))
            go_wp2
            go_roundw
            case rel => exact ⟨k + 1, by omega, by go_num, HP2, HB⟩
            case measure => simp [intOf]; omega
    · obtain rfl : k = n := by omega
      obtain rfl : bb = true := by rw [← HBB.out]; have := HP.out; rwa [← HL.out, List.take_length] at this
      go_wp2
      go_ret
      exact ⟨rfl, HB.out⟩

structure FarR (n : Nat) (w w' : World) (e : Ending) : Prop where
  ex : ∃ b, e = .returned (.bool b) ∧ (b = false → n ≤ 80) ∧ Below w.heap.size w w'
set_option maxRecDepth 20000 in
theorem far_calls (A : Option Addr) (n c : Nat) (L : List Ev) (S : Nat → Prop) (w : World) (hS : ∀ k, S k → k < w.heap.size) (hC : Row evT w S A n L) :
    Calls Try.prog 11 #[.slice A n c] w fun e w' => FarR n w w' e := by
  have hn := hC.le
  have HC := Hd.mk hC; have HS := Hd.mk hS; clear hC hS
  go_enter Try.func11, Try.ntmps11
  go_wp2
  go_loopw [3, 4] (fun m i wr => ∃ (k q : Nat), k ≤ n ∧ i = .int .i64 k ∧ m = .int .i64 q ∧ Hd (q ≤ k * 40 ∧ k ≤ 200) ∧ Hd (Below w.heap.size w wr)) (fun _ i _ => n - (intOf i).toNat)
  case atStart => exact ⟨0, 0, Nat.zero_le _, rfl, rfl, ⟨by omega⟩, ⟨Below.refl _ _⟩⟩
  case round =>
    obtain ⟨k, q, hk, rfl, rfl, HQ, HB⟩ := hrel
    have hq := HQ.out.1
    have hk2 := HQ.out.2
    by_cases hgo : k < n ∧ k < 200
    · obtain ⟨hlt, hl2⟩ := hgo
      obtain ⟨a, off, v, rfl, ha, hx, c0, c1, c2, c3, c4, c5, c6, c7, c8, c9, c10, c11, c12, c13⟩ := ev_get (HC.out.below HS.out HB.out) k hlt
      clear hx
      obtain ⟨z, hz⟩ : ∃ z : Nat, v.data.size = z := ⟨_, rfl⟩
      by_cases hbig : (40 : Int) < z
      · go_wp2
        go_ret
        exact ⟨⟨true, rfl, fun h => (nomatch h), HB.out⟩⟩
      · go_wp2
        go_roundw
        case rel => exact ⟨k + 1, q + z, by omega, by go_num, by go_num, ⟨by omega, by omega⟩, HB⟩
        case measure => simp [intOf]; omega
    · have hend : ¬ k < n ∨ (k < n ∧ ¬ k < 200) := by omega
      clear hgo
      rcases hend with h1 | ⟨h1, h2⟩
      · by_cases h80 : (80 : Int) < n
        · go_wp2
          go_ret
          exact ⟨⟨true, rfl, fun h => (nomatch h), HB.out⟩⟩
        · by_cases h500 : (500 : Int) < q
          · go_wp2
            go_ret
            exact ⟨⟨true, rfl, fun h => (nomatch h), HB.out⟩⟩
          · go_wp2
            go_ret
            exact ⟨⟨false, rfl, fun _ => by omega, HB.out⟩⟩
      · have h80 : (80 : Int) < n := by omega
        go_wp2
        go_ret
        exact ⟨⟨true, rfl, fun h => (nomatch h), HB.out⟩⟩
end Go.Proofs.Ytcejfnnimfpahaa.Fn
