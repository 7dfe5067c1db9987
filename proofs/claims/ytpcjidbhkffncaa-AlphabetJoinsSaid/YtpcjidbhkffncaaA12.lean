/- The law's own example. -/
import Derived.Test.YtpcjidbhkffncaaA11
namespace Go.Proofs.Ytpcjidbhkffncaa.Fn
open Go Go.RowKit Go.Proofs.Ytpcjidbhkffncaa.Can Go.Proofs.Ytpcjidbhkffncaa.Base
attribute [local go_sem] clsB AB.cell

theorem one_cls {K : Type} [BEq K] [LawfulBEq K] (f : Nat → K) (a b : Nat) (ha : a < 256) (hb : b < 256) : f a = f b ↔ oneF (clsL f 256) a = oneF (clsL f 256) b := by
  rw [oneF_eq, atN_some (clsL_get ha), atN_some (clsL_get hb), ← cls_same]
  omega
theorem right_cls {K : Type} [BEq K] [LawfulBEq K] (f : Nat → K) : rightB (clsL f 256) = true := rightB_iff.2 (clsL_congr (one_cls f)).1
theorem first_cls {K : Type} [BEq K] [LawfulBEq K] (f : Nat → K) : firstL (clsL f 256) = asI (fstU f 256) := by
  unfold firstL
  rw [right_cls, if_pos rfl]
  congr 1
  unfold fstU
  apply List.filter_congr
  intro j hj
  have hj := List.mem_range.1 hj
  have h1 := cls_congr (one_cls f) (j + 1) (by omega)
  have h2 := cls_congr (one_cls f) j (by omega)
  rw [h1.2 j (by omega), h2.1]
theorem rowx (w : World) : Row I (w.alloc (.cells #[.int .i64 0, .int .i64 97] 3)) (fun b => b = w.heap.size) (some ⟨w.heap.size, 0, none⟩) 2 [0, 97] :=
  blk_rowI (w := w.alloc (.cells #[.int .i64 0, .int .i64 97] 3)) (xs := [0, 97]) ⟨[], blk_new _ _ _ rfl⟩ rfl (by decide)
def ex : List Rg := [⟨97, 99⟩]
theorem ex_len : (met (keyF ex) 256).length = 2 := by decide +kernel
theorem ex_96 : cls (keyF ex) 96 = 0 := by decide +kernel
theorem ex_97 : cls (keyF ex) 97 = 1 := by decide +kernel
theorem ex_100 : cls (keyF ex) 100 = 0 := by decide +kernel
theorem ex_first : asI (fstU (keyF ex) 256) = [0, 97] := by decide +kernel
set_option maxRecDepth 20000 in
set_option maxHeartbeats 1000000 in
theorem alive_calls (w : World) : Calls Try.prog 6 #[] w fun e w' => e = .returned (.bool true) ∧ Below w.heap.size w w' := by
  have hrow : Row rT (w.alloc (.cells #[.int .i64 97, .int .i64 99] 39)) (fun b => b = w.heap.size) (some ⟨w.heap.size, 0, none⟩) 1 ex := by
    refine ⟨rfl, by omega, fun _ => ⟨w.heap.size, 0, rfl, rfl, fun j p hj => ?_⟩⟩
    obtain ⟨rfl, rfl⟩ : j = 0 ∧ (⟨97, 99⟩ : Rg) = p := by
      rcases j with _ | j
      · simpa [ex] using hj
      · simp [ex] at hj
    refine ⟨_, rfl, fun i u hu => ?_⟩
    simp only [Nat.zero_mul, Nat.add_zero, Nat.zero_add]
    exact blk_cell (blk_new _ _ _ rfl) i u (by simpa [rE] using hu)
  have HR := Hd.mk hrow; clear hrow
  go_enter Try.func6, Try.ntmps6
  go_wp2_with (first
    | (go_at_call 9; go_must (refine Calls.mono (same_calls A2 (some ⟨w2.heap.size, 0, none⟩) c2 2 2 [0, 97] (fun b => w1.heap.size ≤ b ∧ b < w2.heap.size) (fun b => b = w2.heap.size) _ (by rintro k ⟨_, h⟩; rw [size_alloc]; omega) (by rintro k rfl; rw [size_alloc]; omega) (HR2.out.below (fun k h => h.2) (by repeat (first | (with_reducible assumption) | (with_reducible exact Below.refl _ _) | (with_reducible apply below_drewL) | (with_reducible apply below_alloc) | (with_reducible apply below_drew1) | (with_reducible apply below_drewN) | (refine below_set ?_ (by first | omega | (simp only [size_alloc, size_drew, size_set]; omega)) _ _)))) HRx.out) ?_; rintro e w3 ⟨rfl, hb3⟩))
    | (go_at_call 15; go_must (refine Calls.mono (first_calls (some ⟨g, 0, none⟩) 256 256 _ (fun b => b = g) w1 (by rintro k rfl; exact HG.out.lt) HRow.out) ?_; rintro e w2 ⟨A2, n2, c2, rfl, hr2, hb2⟩; rw [first_cls, ex_first] at hr2; have hn2 : n2 = 2 := hr2.1.symm; subst hn2; have HR2 := Hd.mk hr2; have HB2 := Hd.mk (below_seq HB1.out hb2); clear hr2; have hrx : Row I (w2.alloc (.cells #[.int .i64 0, .int .i64 97] 3)) (fun b => b = w2.heap.size) (some ⟨w2.heap.size, 0, none⟩) 2 [0, 97] := (rowx w2); have HRx := Hd.mk hrx; clear hrx))
    | (go_at_call 10; go_must (refine Calls.mono (right_calls (some ⟨g, 0, none⟩) 256 256 _ (fun b => b = g) w1 HRow.out) ?_; rintro e w1 ⟨he, rfl⟩; rw [right_cls] at he; subst he))
    | (go_at_call 7; go_must (refine Calls.mono (aof_calls (some ⟨w.heap.size, 0, none⟩) 1 1 ex (fun b => b = w.heap.size) _ (by rintro k rfl; rw [size_alloc]; omega) HR.out) ?_; rintro e w1 ⟨g, rfl, hg, hG, hb1⟩; rw [ex_len]; have HB1 := Hd.mk (below_seq (below_alloc (Below.refl _ _) _) hb1); have hGl := hG.lt; have h96 := hG.cell0 i_len (clsL_get (f := keyF ex) (show 96 < 256 by decide)) rfl; have h97 := hG.cell0 i_len (clsL_get (f := keyF ex) (show 97 < 256 by decide)) rfl; have h100 := hG.cell0 i_len (clsL_get (f := keyF ex) (show 100 < 256 by decide)) rfl; rw [ex_96] at h96; rw [ex_97] at h97; rw [ex_100] at h100; have hrow1 := blk_rowI hG (S := fun b => b = g) rfl (by rw [clsL_len]; omega); rw [clsL_len] at hrow1; have HRow := Hd.mk hrow1; have HG := Hd.mk hG; clear hb1 hG hrow1)))
  go_ret
  exact ⟨rfl, below_seq HB2.out (Below.trans (by first | exact below_alloc (Below.refl _ _) _ | exact (by repeat (first | (with_reducible assumption) | (with_reducible exact Below.refl _ _) | (with_reducible apply below_drewL) | (with_reducible apply below_alloc) | (with_reducible apply below_drew1) | (with_reducible apply below_drewN) | (refine below_set ?_ (by first | omega | (simp only [size_alloc, size_drew, size_set]; omega)) _ _)))) (hb3.mono (by rw [size_alloc]; omega)))⟩
end Go.Proofs.Ytpcjidbhkffncaa.Fn
