/- What Token, Tries, Steps and light compute. -/
import Derived.Test.YtfckpppfmjllbaaP6
namespace Go.Proofs.Ytfckpppfmjllbaa.Fn
open Go Go.RowKit Go.Proofs.Ytfckpppfmjllbaa.Can Go.Proofs.Ytfckpppfmjllbaa.Base
attribute [local go_sem] clsB AB.cell nil33 nil49

theorem tries_calls {p : Nat} {s : PS} {w : World} (h : w.heap[p]? = some (.cells (pkC s) 51 (0, 0))) : Calls Try.prog 13 #[.pointer (some ⟨p, 0, none⟩)] w fun e w' => e = .returned (.int .i64 s.tr) ∧ w' = w := by
  have hs := h
  unfold pkC fnV at hs
  have hsc0 := blk_cell hs 0 _ rfl; have hsf0 := blk_frozen hs 0; have hsc1 := blk_cell hs 1 _ rfl; have hsf1 := blk_frozen hs 1; have hsc2 := blk_cell hs 2 _ rfl; have hsf2 := blk_frozen hs 2; have hsc3 := blk_cell hs 3 _ rfl; have hsf3 := blk_frozen hs 3; have hsc4 := blk_cell hs 4 _ rfl; have hsf4 := blk_frozen hs 4; have hsc5 := blk_cell hs 5 _ rfl; have hsf5 := blk_frozen hs 5; have hsc6 := blk_cell hs 6 _ rfl; have hsf6 := blk_frozen hs 6; have hsc7 := blk_cell hs 7 _ rfl; have hsf7 := blk_frozen hs 7; have hsc8 := blk_cell hs 8 _ rfl; have hsf8 := blk_frozen hs 8; have hsc9 := blk_cell hs 9 _ rfl; have hsf9 := blk_frozen hs 9; have hsc10 := blk_cell hs 10 _ rfl; have hsf10 := blk_frozen hs 10; have hsc11 := blk_cell hs 11 _ rfl; have hsf11 := blk_frozen hs 11; have hsc12 := blk_cell hs 12 _ rfl; have hsf12 := blk_frozen hs 12; have hsc13 := blk_cell hs 13 _ rfl; have hsf13 := blk_frozen hs 13; have hsc14 := blk_cell hs 14 _ rfl; have hsf14 := blk_frozen hs 14; have hsc15 := blk_cell hs 15 _ rfl; have hsf15 := blk_frozen hs 15; have hsl := blk_lt hs
  clear hs h
  go_enter Try.func13, Try.ntmps13
  go_wp2
  go_ret
  exact ⟨rfl, rfl⟩
theorem steps_calls {p : Nat} {s : PS} {w : World} (h : w.heap[p]? = some (.cells (pkC s) 51 (0, 0))) : Calls Try.prog 14 #[.pointer (some ⟨p, 0, none⟩)] w fun e w' => e = .returned (.int .i64 s.st) ∧ w' = w := by
  have hs := h
  unfold pkC fnV at hs
  have hsc0 := blk_cell hs 0 _ rfl; have hsf0 := blk_frozen hs 0; have hsc1 := blk_cell hs 1 _ rfl; have hsf1 := blk_frozen hs 1; have hsc2 := blk_cell hs 2 _ rfl; have hsf2 := blk_frozen hs 2; have hsc3 := blk_cell hs 3 _ rfl; have hsf3 := blk_frozen hs 3; have hsc4 := blk_cell hs 4 _ rfl; have hsf4 := blk_frozen hs 4; have hsc5 := blk_cell hs 5 _ rfl; have hsf5 := blk_frozen hs 5; have hsc6 := blk_cell hs 6 _ rfl; have hsf6 := blk_frozen hs 6; have hsc7 := blk_cell hs 7 _ rfl; have hsf7 := blk_frozen hs 7; have hsc8 := blk_cell hs 8 _ rfl; have hsf8 := blk_frozen hs 8; have hsc9 := blk_cell hs 9 _ rfl; have hsf9 := blk_frozen hs 9; have hsc10 := blk_cell hs 10 _ rfl; have hsf10 := blk_frozen hs 10; have hsc11 := blk_cell hs 11 _ rfl; have hsf11 := blk_frozen hs 11; have hsc12 := blk_cell hs 12 _ rfl; have hsf12 := blk_frozen hs 12; have hsc13 := blk_cell hs 13 _ rfl; have hsf13 := blk_frozen hs 13; have hsc14 := blk_cell hs 14 _ rfl; have hsf14 := blk_frozen hs 14; have hsc15 := blk_cell hs 15 _ rfl; have hsf15 := blk_frozen hs 15; have hsl := blk_lt hs
  clear hs h
  go_enter Try.func14, Try.ntmps14
  go_wp2
  go_ret
  exact ⟨rfl, rfl⟩
theorem token_calls {p : Nat} {s : PS} {w : World} (h : w.heap[p]? = some (.cells (pkC s) 51 (0, 0))) : Calls Try.prog 10 #[.pointer (some ⟨p, 0, none⟩)] w fun e w' => e = .returned (.tuple #[tokV (if s.ho = 1 then s.t else tok0), .bool (decide (s.ho = 1))]) ∧ Below w.heap.size w w' := by
  have hs := h
  unfold pkC fnV at hs
  have hsc0 := blk_cell hs 0 _ rfl; have hsf0 := blk_frozen hs 0; have hsc1 := blk_cell hs 1 _ rfl; have hsf1 := blk_frozen hs 1; have hsc2 := blk_cell hs 2 _ rfl; have hsf2 := blk_frozen hs 2; have hsc3 := blk_cell hs 3 _ rfl; have hsf3 := blk_frozen hs 3; have hsc4 := blk_cell hs 4 _ rfl; have hsf4 := blk_frozen hs 4; have hsc5 := blk_cell hs 5 _ rfl; have hsf5 := blk_frozen hs 5; have hsc6 := blk_cell hs 6 _ rfl; have hsf6 := blk_frozen hs 6; have hsc7 := blk_cell hs 7 _ rfl; have hsf7 := blk_frozen hs 7; have hsc8 := blk_cell hs 8 _ rfl; have hsf8 := blk_frozen hs 8; have hsc9 := blk_cell hs 9 _ rfl; have hsf9 := blk_frozen hs 9; have hsc10 := blk_cell hs 10 _ rfl; have hsf10 := blk_frozen hs 10; have hsc11 := blk_cell hs 11 _ rfl; have hsf11 := blk_frozen hs 11; have hsc12 := blk_cell hs 12 _ rfl; have hsf12 := blk_frozen hs 12; have hsc13 := blk_cell hs 13 _ rfl; have hsf13 := blk_frozen hs 13; have hsc14 := blk_cell hs 14 _ rfl; have hsf14 := blk_frozen hs 14; have hsc15 := blk_cell hs 15 _ rfl; have hsf15 := blk_frozen hs 15; have hsl := blk_lt hs
  clear hs h
  by_cases h1 : s.ho = 1
  · have h1I : (s.ho : Int) = 1 := by omega
    rw [if_pos h1, decide_eq_true h1]
    clear h1
    go_enter Try.func10, Try.ntmps10
    go_wp2
    refine bodyPost_ret (cell_tmp_row rfl _ _ w.heap.size 35 #[.int .i64 s.t.k, .int .i64 s.t.r, .int .i64 s.t.f, .int .i64 s.t.a, .int .i64 s.t.t, .int .i64 s.t.m] (0, 0) _ rfl (blk_new _ _ _ rfl) Try.underlying35 rfl (by kernel_rfl)) rfl ?_
    exact ⟨rfl, (by repeat (first | (with_reducible assumption) | (with_reducible exact Below.refl _ _) | (with_reducible apply below_drewL) | (with_reducible apply below_alloc) | (with_reducible apply below_drew1) | (with_reducible apply below_drewN) | (refine below_set ?_ (by first | omega | (simp only [size_alloc, size_drew, size_set]; omega)) _ _)))⟩
  · have h1I : ¬ (s.ho : Int) = 1 := by omega
    have h1J : ((s.ho : Int) == 1) = false := by simpa using h1I
    rw [if_neg h1, decide_eq_false h1]
    clear h1
    go_enter Try.func10, Try.ntmps10
    go_wp2
    refine bodyPost_ret (cell_tmp_row rfl _ _ w.heap.size 35 #[.int .i64 0, .int .i64 0, .int .i64 0, .int .i64 0, .int .i64 0, .int .i64 0] (0, 0) _ rfl (blk_new _ _ _ rfl) Try.underlying35 rfl (by kernel_rfl)) rfl ?_
    exact ⟨rfl, (by repeat (first | (with_reducible assumption) | (with_reducible exact Below.refl _ _) | (with_reducible apply below_drewL) | (with_reducible apply below_alloc) | (with_reducible apply below_drew1) | (with_reducible apply below_drewN) | (refine below_set ?_ (by first | omega | (simp only [size_alloc, size_drew, size_set]; omega)) _ _)))⟩
/-- Frames that are not too much. -/
def lightB (l : List Frame) : Bool := l.all (fun f => decide (f.l.length ≤ 20)) && decide (l.length ≤ 100)
theorem light_calls (A : Option Addr) (c : Nat) (l : List Frame) (S : Nat → Prop) (w : World) (hS : ∀ k, S k → k < w.heap.size) (hC : Row frameT w S A l.length l) :
    Calls Try.prog 5 #[.slice A l.length c] w fun e w' => e = .returned (.bool (lightB l)) ∧ Below w.heap.size w w' := by
  have hn := hC.le
  have HS := Hd.mk hS; have HC := Hd.mk hC; clear hS hC
  go_enter Try.func5, Try.ntmps5
  go_wp2
  go_loopw [7] (fun i wr => ∃ k : Nat, k ≤ l.length ∧ i = .int .i64 k ∧ Hd (∀ j, j < k → ∀ f, l[j]? = some f → f.l.length ≤ 20) ∧ Hd (Below w.heap.size w wr)) (fun i _ => l.length - (intOf i).toNat)
  case atStart => exact ⟨0, Nat.zero_le _, rfl, ⟨fun j hj => absurd hj (Nat.not_lt_zero j)⟩, ⟨Below.refl _ _⟩⟩
  case round =>
    obtain ⟨k, hk, rfl, HA, hb⟩ := hrel
    by_cases hlt : k < l.length
    · obtain ⟨b, off, f, A1, c1, rfl, hb1, hf, hc0, hc1, hc2, hc3, hrow⟩ := frame_get (HC.out.below HS.out hb.out) k hlt
      by_cases h20 : f.l.length ≤ 20
      · have h20I : ¬ (20 : Int) < f.l.length := by omega
        have HA2 : Hd (∀ j, j < k + 1 → ∀ f, l[j]? = some f → f.l.length ≤ 20) := ⟨fun j hj f' hf' => by
          rcases Nat.lt_or_ge j k with h | h
          · exact HA.out j h f' hf'
          · obtain rfl : j = k := by omega
            rw [hf] at hf'; cases hf'; exact h20⟩
        clear hf hrow
        go_wp2
        go_roundw
        case rel => exact ⟨k + 1, by omega, by go_num, HA2, ⟨below_seq hb.out (by repeat (first | (with_reducible assumption) | (with_reducible exact Below.refl _ _) | (with_reducible apply below_drewL) | (with_reducible apply below_alloc) | (with_reducible apply below_drew1) | (with_reducible apply below_drewN) | (refine below_set ?_ (by first | omega | (simp only [size_alloc, size_drew, size_set]; omega)) _ _)))⟩⟩
        case measure => simp [intOf]; omega
      · have h20I : (20 : Int) < f.l.length := by omega
        have HF : Hd (lightB l = false) := ⟨by
          unfold lightB
          rw [Bool.and_eq_false_iff]
          left
          rw [List.all_eq_false]
          exact ⟨f, List.mem_of_getElem? hf, by simpa using h20⟩⟩
        clear hf hrow
        go_wp2
        go_ret
        exact ⟨ret_bool (by rw [HF.out]), below_seq hb.out (by repeat (first | (with_reducible assumption) | (with_reducible exact Below.refl _ _) | (with_reducible apply below_drewL) | (with_reducible apply below_alloc) | (with_reducible apply below_drew1) | (with_reducible apply below_drewN) | (refine below_set ?_ (by first | omega | (simp only [size_alloc, size_drew, size_set]; omega)) _ _)))⟩
    · obtain rfl : k = l.length := by omega
      have HF : Hd (lightB l = decide (l.length ≤ 100)) := ⟨by
        unfold lightB
        rw [show (l.all fun f => decide (f.l.length ≤ 20)) = true from by
          rw [List.all_eq_true]
          intro f hf
          obtain ⟨j, hj, rfl⟩ := List.mem_iff_getElem.1 hf
          simpa using HA.out j hj _ (List.getElem?_eq_getElem hj), Bool.true_and]⟩
      by_cases h100 : l.length ≤ 100
      · have h100I : (l.length : Int) ≤ 100 := by omega
        go_wp2
        go_ret
        exact ⟨ret_bool (by rw [HF.out]; simp [h100]), hb.out⟩
      · have h100I : ¬ (l.length : Int) ≤ 100 := by omega
        go_wp2
        go_ret
        exact ⟨ret_bool (by rw [HF.out]; simp [h100]), hb.out⟩
end Go.Proofs.Ytfckpppfmjllbaa.Fn
