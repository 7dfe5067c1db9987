/- What the reference's New, fail and Step compute. -/
import Derived.Test.YtfckpppfmjllbaaP8
namespace Go.Proofs.Ytfckpppfmjllbaa.Fn
open Go Go.RowKit Go.Proofs.Ytfckpppfmjllbaa.Can Go.Proofs.Ytfckpppfmjllbaa.Base
attribute [local go_sem] clsB AB.cell nil33 nil49

def rpC (s : PS) : Array Value := #[.int .i64 s.n, .int .i64 s.re, .int .i64 s.tr, .int .i64 s.st, .int .i64 s.ho, .int .i64 s.ph, .int .i64 s.ep, .int .i64 s.a, .int .i64 s.m, .int .i64 s.le, .int .i64 s.t.k, .int .i64 s.t.r, .int .i64 s.t.f, .int .i64 s.t.a, .int .i64 s.t.t, .int .i64 s.t.m]
theorem within_calls (n lo hi : Int) (w : World) : Calls Try.prog 18 #[.int .i64 n, .int .i64 lo, .int .i64 hi] w fun e w' => e = .returned (.int .i64 (if n < lo then lo else if hi < n then hi else n)) ∧ w' = w := by
  by_cases h1 : n < lo
  · rw [if_pos h1]
    go_enter Try.func18, Try.ntmps18
    go_wp2
    go_ret
    exact ⟨rfl, rfl⟩
  · rw [if_neg h1]
    by_cases h2 : hi < n
    · rw [if_pos h2]
      go_enter Try.func18, Try.ntmps18
      go_wp2
      go_ret
      exact ⟨rfl, rfl⟩
    · rw [if_neg h2]
      go_enter Try.func18, Try.ntmps18
      go_wp2
      go_ret
      exact ⟨rfl, rfl⟩
theorem rnew_calls (n r : Int) (w : World) : Calls Try.prog 11 #[.int .i64 n, .int .i64 r] w fun e w' =>
    ∃ q, e = .returned (.pointer (some ⟨q, 0, none⟩)) ∧ w.heap.size ≤ q ∧ w'.heap[q]? = some (.cells (rpC ⟨nN n, rN r, 0, 0, 0, 0, 0, 0, 0, tok0, 0⟩) 44 (0, 0)) ∧ Below w.heap.size w w' := by
  have hn : (if n < 1 then (1 : Int) else if 16 < n then 16 else n) = (nN n : Nat) := by unfold nN; split <;> (try split) <;> omega
  have hr : (if r < 0 then (0 : Int) else if 16 < r then 16 else r) = (rN r : Nat) := by unfold rN; split <;> (try split) <;> omega
  have HN := Hd.mk hn; have HR := Hd.mk hr; clear hn hr
  go_enter Try.func11, Try.ntmps11
  go_wp2_with (first
    | (go_at_call 18; have hq_ := h1; clear hq_; go_must (refine Calls.mono (within_calls r 0 16 _) ?_; rintro e w1 ⟨he, hw⟩; rw [HR.out] at he; subst he; subst hw))
    | (go_at_call 18; go_must (refine Calls.mono (within_calls n 1 16 _) ?_; rintro e w1 ⟨he, hw⟩; rw [HN.out] at he; subst he; have h1 : Hd True := ⟨trivial⟩; subst hw)))
  go_ret
  exact ⟨_, rfl, Nat.le_refl _, by rw [blk_new _ _ _ rfl]; rfl, (by repeat (first | (with_reducible assumption) | (with_reducible exact Below.refl _ _) | (with_reducible apply below_drewL) | (with_reducible apply below_alloc) | (with_reducible apply below_drew1) | (with_reducible apply below_drewN) | (refine below_set ?_ (by first | omega | (simp only [size_alloc, size_drew, size_set]; omega)) _ _)))⟩
theorem rfail_calls {q : Nat} {s : PS} {w : World} (h : w.heap[q]? = some (.cells (rpC s) 44 (0, 0))) (ht : s.tr ≤ 1000) (hr : s.re ≤ 16) (h0 : s.ho = 0) : Calls Try.prog 19 #[.pointer (some ⟨q, 0, none⟩)] w fun e w' =>
    e = .returned (.tuple #[]) ∧ w'.heap[q]? = some (.cells (rpC { failP s with ho := failR s }) 44 (0, 0)) ∧ Fr (fun b => b = q) w w' := by
  have hs := h
  unfold rpC at hs
  have hsc0 := blk_cell hs 0 _ rfl; have hsf0 := blk_frozen hs 0; have hsc1 := blk_cell hs 1 _ rfl; have hsf1 := blk_frozen hs 1; have hsc2 := blk_cell hs 2 _ rfl; have hsf2 := blk_frozen hs 2; have hsc3 := blk_cell hs 3 _ rfl; have hsf3 := blk_frozen hs 3; have hsc4 := blk_cell hs 4 _ rfl; have hsf4 := blk_frozen hs 4; have hsc5 := blk_cell hs 5 _ rfl; have hsf5 := blk_frozen hs 5; have hsc6 := blk_cell hs 6 _ rfl; have hsf6 := blk_frozen hs 6; have hsc7 := blk_cell hs 7 _ rfl; have hsf7 := blk_frozen hs 7; have hsc8 := blk_cell hs 8 _ rfl; have hsf8 := blk_frozen hs 8; have hsc9 := blk_cell hs 9 _ rfl; have hsf9 := blk_frozen hs 9; have hsc10 := blk_cell hs 10 _ rfl; have hsf10 := blk_frozen hs 10; have hsc11 := blk_cell hs 11 _ rfl; have hsf11 := blk_frozen hs 11; have hsc12 := blk_cell hs 12 _ rfl; have hsf12 := blk_frozen hs 12; have hsc13 := blk_cell hs 13 _ rfl; have hsf13 := blk_frozen hs 13; have hsc14 := blk_cell hs 14 _ rfl; have hsf14 := blk_frozen hs 14; have hsc15 := blk_cell hs 15 _ rfl; have hsf15 := blk_frozen hs 15; have hsl := blk_lt hs
  have HH := Hd.mk h; clear h hs
  by_cases hc : s.re < s.tr + 1
  · have hcI : (s.re : Int) < (s.tr : Int) + 1 := by omega
    have HF : Hd (failR s = 2) := ⟨by unfold failR; rw [if_pos hc]⟩
    go_enter Try.func19, Try.ntmps19
    go_wp2
    refine wp_region_can (.q [0, 1, 2, 3, 4, 5, 6, 7, 8] (.done)) (clsB _) (by kernel_rfl) (by kernel_rfl) (by intro _ _ d _ _ h; cases d <;> exact h) (clsB_drew _) ?_
    refine can_q (l := [⟨_,_,_,_,_,_⟩, ⟨_,_,_,_,_,_⟩, ⟨_,_,_,_,_,_⟩, ⟨_,_,_,_,_,_⟩, ⟨_,_,_,_,_,_⟩, ⟨_,_,_,_,_,_⟩, ⟨_,_,_,_,_,_⟩, ⟨_,_,_,_,_,_⟩, ⟨_,_,_,_,_,_⟩]) rfl ?_
    repeat (go_big_quiet_step (fail))
    refine wpQuiet_nil ?_
    refine can_done ?_
    go_wp2
    go_end0
    exact ⟨rfl, by rw [HF.out]; exact blk_drew (blk_set (blk_set (blk_set HH.out 2 _ _ rfl) 5 _ _ rfl) 4 _ _ rfl), (Fr.set (Fr.set (Fr.set (Fr.refl (fun b => b = q) _) (.inl rfl) _ _) (.inl rfl) _ _) (.inl rfl) _ _).drew⟩
  · have hcI : ¬ (s.re : Int) < (s.tr : Int) + 1 := by omega
    have HF : Hd (failR s = s.ho) := ⟨by unfold failR; rw [if_neg hc, h0]⟩
    clear h0
    go_enter Try.func19, Try.ntmps19
    go_wp2
    refine wp_region_can (.q [0, 1, 2, 3, 4, 5, 6, 7, 8] (.done)) (clsB _) (by kernel_rfl) (by kernel_rfl) (by intro _ _ d _ _ h; cases d <;> exact h) (clsB_drew _) ?_
    refine can_q (l := [⟨_,_,_,_,_,_⟩, ⟨_,_,_,_,_,_⟩, ⟨_,_,_,_,_,_⟩, ⟨_,_,_,_,_,_⟩, ⟨_,_,_,_,_,_⟩, ⟨_,_,_,_,_,_⟩, ⟨_,_,_,_,_,_⟩, ⟨_,_,_,_,_,_⟩, ⟨_,_,_,_,_,_⟩]) rfl ?_
    repeat (go_big_quiet_step (fail))
    refine wpQuiet_nil ?_
    refine can_done ?_
    go_wp2
    go_end0
    exact ⟨rfl, by rw [HF.out]; exact blk_drew (blk_set (blk_set HH.out 2 _ _ rfl) 5 _ _ rfl), (Fr.set (Fr.set (Fr.refl (fun b => b = q) _) (.inl rfl) _ _) (.inl rfl) _ _).drew⟩
end Go.Proofs.Ytfckpppfmjllbaa.Fn
