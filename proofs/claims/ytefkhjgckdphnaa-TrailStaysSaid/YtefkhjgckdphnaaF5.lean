/- What the reference's Push computes. -/
import Derived.Test.YtefkhjgckdphnaaF4
namespace Go.Proofs.Ytefkhjgckdphnaa.Fn
open Go Go.RowKit Go.Proofs.Ytefkhjgckdphnaa.Can Go.Proofs.Ytefkhjgckdphnaa.Base
attribute [local go_sem] clsB AB.cell nil22

/-- What the reference's push makes. -/
def rpushL (l : List Spot) (p : Spot) (d : Int) : List Spot := if d < ((l ++ [p]).length : Int) then (l ++ [p]).drop 1 else l ++ [p]
set_option maxHeartbeats 1000000 in
theorem refPush_calls (A : Option Addr) (c : Nat) (l : List Spot) (d : Int) (p : Spot) (S : Nat → Prop) (w : World) (hS : ∀ k, S k → k < w.heap.size) (hC : Row spotT w S A l.length l) (hn : l.length ≤ 5000) (hA : A = none → c = 0) :
    Calls Try.prog 12 #[.slice A l.length c, .agg #[.int .i64 p.at_, .int .i64 p.mode], .int .i64 d] w fun e w' =>
      ∃ A' c', e = .returned (.slice A' (rpushL l p d).length c') ∧ (rpushL l p d).length ≤ c' ∧ (A' = none → c' = 0) ∧ Row spotT w' (fun k => w.heap.size ≤ k ∧ k < w'.heap.size) A' (rpushL l p d).length (rpushL l p d) ∧ Below w.heap.size w w' := by
  have HS := Hd.mk hS; clear hS
  have HC := Hd.mk hC; clear hC
  have HA := Hd.mk hA; clear hA
  obtain ⟨i0, hi, _, hi2, _⟩ := info_of info28
  have HI := Hd.mk (And.intro hi hi2); clear hi hi2
  unfold rpushL
  have hlen : (l ++ [p]).length = l.length + 1 := by simp
  have HLEN := Hd.mk hlen; clear hlen
  by_cases hd : d < ((l ++ [p]).length : Int)
  all_goals
    first | rw [if_pos hd] | rw [if_neg hd]
    rw [HLEN.out] at hd
    go_enter Try.func12, Try.ntmps12
    go_wp2_with (first | (at_builtin; refine append_own spotT (S := fun _ => False) (S' := S) rfl (.tmp 8) (.tmp 9) 22 28 _ 16 rfl (by rfl) info28 rfl (by decide) (by decide) w.heap.size (.slice (some ⟨w.heap.size + 1, 0, none⟩) 0 0) [] l A l.length c rfl rfl HA.out (Own.empty_at spotT _ 28 (size_alloc w _) (by omega)) (HC.out.below HS.out (by repeat (first | (with_reducible assumption) | (with_reducible exact Below.refl _ _) | (with_reducible apply below_drewL) | (with_reducible apply below_alloc) | (with_reducible apply below_drew1) | (with_reducible apply below_drewN) | (refine below_set ?_ (by first | omega | (simp only [size_alloc, size_drew, size_set]; omega)) _ _)))) (fun k hk => ⟨by have := HS.out k hk; simp only [size_alloc]; omega, ownBlock_ne (by have := HS.out k hk; omega)⟩) (by simp only [size_alloc]; omega) (by simp only [List.length_nil]; omega) ?_; intro v1 w1 hO1 hg1 hat1; have hO1' := own_spot hO1; obtain ⟨A1, c1, rfl, hc1, hA1, hR1⟩ := hO1'.form; have hb1 : Below w.heap.size w w1 := Below.grown (by repeat (first | (with_reducible assumption) | (with_reducible exact Below.refl _ _) | (with_reducible apply below_drewL) | (with_reducible apply below_alloc) | (with_reducible apply below_drew1) | (with_reducible apply below_drewN) | (refine below_set ?_ (by first | omega | (simp only [size_alloc, size_drew, size_set]; omega)) _ _))) hg1 (by simp only [size_alloc]; omega) (fun k hk => by have := ownBlock_eq hk; omega); have hz1 := Hd.mk hg1.size; have hx0 := (hg1.block w.heap.size (by simp only [size_alloc]; omega) (fun he => by have := ownBlock_eq he.symm; omega)).trans (blk_alloc (blk_new _ _ _ rfl) _); have hx1 := blk_cell hx0 0 _ rfl; have hx2 := blk_cell hx0 1 _ rfl; clear hg1 hO1) | (at_builtin; refine append_one spotT (S := fun _ => False) (S' := fun _ => False) rfl (.tmp 11) (.tmp 13) 22 28 _ 16 rfl (by rfl) info28 rfl (by decide) (by decide) w.heap.size (.slice A1 l.length c1) l p (spotE p) w1.heap.size rfl rfl (blk_new _ _ _ rfl) rfl (hO1'.below (by repeat (first | (with_reducible assumption) | (with_reducible exact Below.refl _ _) | (with_reducible apply below_drewL) | (with_reducible apply below_alloc) | (with_reducible apply below_drew1) | (with_reducible apply below_drewN) | (refine below_set ?_ (by first | omega | (simp only [size_alloc, size_drew, size_set]; omega)) _ _)))) (fun k hk => hk.elim) (fun he => by have := (hO1'.lt he).1; omega) (by rw [size_alloc]; have := hb1.size; omega) (by omega) ?_; intro v2 w2 hO2 hg2 hat2; have hO2' := own_spot hO2; obtain ⟨A2, c2, rfl, hc2, hA2, hR2⟩ := hO2'.form; have hb2 : Below w.heap.size w w2 := Below.grown (by repeat (first | (with_reducible assumption) | (with_reducible exact Below.refl _ _) | (with_reducible apply below_drewL) | (with_reducible apply below_alloc) | (with_reducible apply below_drew1) | (with_reducible apply below_drewN) | (refine below_set ?_ (by first | omega | (simp only [size_alloc, size_drew, size_set]; omega)) _ _))) hg2 (by rw [size_alloc]; have := hb1.size; omega) (fun k hk => (hO1'.lt hk).2); rw [HLEN.out] at hc2 hR2 ⊢; obtain ⟨A3, hcut, hrow, hnone⟩ := cut_from spotT 22 28 Try.underlying22 HI.out.1 HI.out.2 A2 (l.length + 1) c2 1 (by omega) hc2; have hcut1 : ∀ W, (Instr.slice 22 (.slice A2 (l.length + 1) c2) (some (.int .i64 1)) none none).run Try.prog W = .ok (.slice A3 l.length (c2 - 1)) W := fun W => hcut W .i64; clear hg2 hcut))
    go_ret
  · refine ⟨A3, c2 - 1, by simp [go_sem], by simp; omega, hnone hA2, ?_, hb2⟩
    have hr := hrow w2 _ _ hR2
    have hl : (List.drop 1 (l ++ [p])).length = l.length + 1 - 1 := by simp
    rw [hl]
    refine hr.mono (fun k hk => ?_)
    rcases hk with hk | hk
    · exact hk.elim
    · have := hO2'.lt (by rw [HLEN.out]; exact hk); exact ⟨this.2, this.1⟩
  · refine ⟨A2, c2, rfl, hc2, hA2, ?_, hb2⟩
    refine hR2.mono (fun k hk => ?_)
    rcases hk with hk | hk
    · exact hk.elim
    · have := hO2'.lt (by rw [HLEN.out]; exact hk); exact ⟨this.2, this.1⟩
end Go.Proofs.Ytefkhjgckdphnaa.Fn
