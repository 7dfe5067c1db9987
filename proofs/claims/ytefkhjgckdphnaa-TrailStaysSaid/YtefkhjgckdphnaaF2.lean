/- What Pop computes where something is. -/
import Derived.Test.YtefkhjgckdphnaaFn
namespace Go.Proofs.Ytefkhjgckdphnaa.Fn
open Go Go.RowKit Go.Proofs.Ytefkhjgckdphnaa.Can Go.Proofs.Ytefkhjgckdphnaa.Base
attribute [local go_sem] clsB AB.cell clsX AX.cell

set_option maxHeartbeats 1000000 in
theorem pop_some (b off c : Nat) (l : List Spot) (d : Int) (p : Spot) (S : Nat → Prop) (w : World) (hS : ∀ k, S k → k < w.heap.size) (hC : Row spotT w S (some ⟨b, off, none⟩) (l.length + 1) (l ++ [p])) (hn : l.length ≤ 5000) (hnc : l.length + 1 ≤ c) :
    Calls Try.prog 9 #[.agg #[.int .i64 d, .slice (some ⟨b, off, none⟩) (l.length + 1) c]] w fun e w' =>
      e = .returned (.tuple #[.agg #[.int .i64 d, .slice (some ⟨b, off, none⟩) l.length l.length], .agg #[.int .i64 p.at_, .int .i64 p.mode], .bool true]) ∧ Below w.heap.size w w' := by
  obtain ⟨b', off', cs, he, hs, hr, hcell⟩ := hC.get l.length (by omega)
  simp only [Option.some.injEq, Addr.mk.injEq, and_true] at he
  obtain ⟨rfl, rfl⟩ := he
  simp only [List.getElem_append_right (Nat.le_refl _), Nat.sub_self, List.getElem_cons_zero] at hr
  have hr' : cs = spotE p := hr
  subst hr'
  have hc0 : w.cell? ⟨b, off + l.length * 2, none⟩ = some (.int .i64 p.at_) := hcell 0 _ rfl
  have hc1 : w.cell? ⟨b, off + l.length * 2 + 1, none⟩ = some (.int .i64 p.mode) := hcell 1 _ rfl
  have hb := hS b hs
  clear hC hr hcell hS
  go_enter Try.func9, Try.ntmps9
  go_wp2
  generalize hV : World.alloc _ _ = V
  have HBV : Below w.heap.size w V := below_of hV (by repeat (first | (with_reducible assumption) | (with_reducible exact Below.refl _ _) | (with_reducible apply below_drewL) | (with_reducible apply below_alloc) | (with_reducible apply below_drew1) | (with_reducible apply below_drewN) | (refine below_set ?_ (by first | omega | (simp only [size_alloc, size_drew, size_set]; omega)) _ _)))
  have zV : Hd (V.heap.size = w.heap.size + 1 + 1 + 1) := ⟨by rw [← hV]; simp only [size_alloc]⟩
  have V0 := at_of hV (blk_alloc (blk_alloc (blk_new _ _ _ rfl) _) _)
  have V0l := blk_lt V0
  have V1 := at_of hV (blk_alloc (blk_new _ _ _ rfl) _)
  simp only [size_alloc] at V1
  have V1l := blk_lt V1
  have V2 := at_of hV (blk_new _ _ _ rfl)
  simp only [size_alloc] at V2
  have V2l := blk_lt V2
  clear hV
  replace hc0 := (HBV.cell (p := ⟨b, off + l.length * 2, none⟩) hb).trans hc0
  replace hc1 := (HBV.cell (p := ⟨b, off + l.length * 2 + 1, none⟩) hb).trans hc1
  have hbV : b < V.heap.size := by have := zV.out; omega
  have V0c0 := blk_cell V0 0 _ rfl
  have V0f0 := blk_frozen V0 0
  have V0c1 := blk_cell V0 1 _ rfl
  have V0f1 := blk_frozen V0 1
  have V1c0 := blk_cell V1 0 _ rfl
  have V1f0 := blk_frozen V1 0
  have V1c1 := blk_cell V1 1 _ rfl
  have V1f1 := blk_frozen V1 1
  have V2c0 := blk_cell V2 0 _ rfl
  have V2f0 := blk_frozen V2 0
  have V2c1 := blk_cell V2 1 _ rfl
  have V2f1 := blk_frozen V2 1
  have hbW : ¬ b = w.heap.size + 1 := by omega
  refine wp_region_can (.q [0, 1, 2, 3, 4, 5, 6, 7, 8, 9, 10, 11, 12] (.e 13 true (.e 14 false (.q [15] (.done))))) (clsX (fun k => k = w.heap.size + 1) _) (by kernel_rfl) (by kernel_rfl) (by intro _ _ d _ _ h; cases d <;> exact h) (clsX_drew _ _) ?_
  refine can_q (l := [⟨_,_,_,_,_,_⟩, ⟨_,_,_,_,_,_⟩, ⟨_,_,_,_,_,_⟩, ⟨_,_,_,_,_,_⟩, ⟨_,_,_,_,_,_⟩, ⟨_,_,_,_,_,_⟩, ⟨_,_,_,_,_,_⟩, ⟨_,_,_,_,_,_⟩, ⟨_,_,_,_,_,_⟩, ⟨_,_,_,_,_,_⟩, ⟨_,_,_,_,_,_⟩, ⟨_,_,_,_,_,_⟩, ⟨_,_,_,_,_,_⟩]) rfl ?_
  repeat (go_big_quiet_step (fail))
  refine wpQuiet_nil ?_
  refine can_e (o := ⟨_,_,_,_,_,_⟩) rfl (fun K hK => ?_)
  go_wp2_with fail
  first | refine onK_normal (hK _ _ ⟨clsX _ _, clsX_drew _ _, fun _ => clsX_next ?_ ?_, ?_⟩) | refine onK_normal (hK _ _ ⟨clsX _ _, clsX_self _ _, fun _ => clsX_next ?_ ?_, ?_⟩)
  · simp only [size_alloc, size_drew, size_set]; omega
  · intro b_ hb_ hW_; repeat (first | rfl | (rw [Below.heap_setCell _ _ _ _ (by intro he_; exact hW_ (by first | exact he_ | exact .inl he_ | exact .inr he_))]) | (rw [Below.heap_alloc _ _ _ (by simp only [size_alloc, size_drew, size_set]; omega)]))
  clear hK K
  refine can_e (o := ⟨_,_,_,_,_,_⟩) rfl (fun K hK => ?_)
  go_wp2_with fail
  refine onK_normal (hK _ _ ⟨fun _ => True, trivial, (fun h => by cases h), ?_⟩)
  clear hK K
  refine can_q (l := [⟨_,_,_,_,_,_⟩]) rfl ?_
  repeat (go_big_quiet_step (fail))
  refine wpQuiet_nil ?_
  refine can_done ?_
  go_wp2
  refine bodyPost_ret (v := .tuple #[.agg #[.int .i64 d, .slice (some ⟨b, off, none⟩) l.length l.length], .agg #[.int .i64 p.at_, .int .i64 p.mode], .bool true]) (by simp [results, Try.results9, go_sem, *]) rfl ?_
  exact ⟨rfl, (by repeat (first | (with_reducible assumption) | (with_reducible exact Below.refl _ _) | (with_reducible apply below_drewL) | (with_reducible apply below_alloc) | (with_reducible apply below_drew1) | (with_reducible apply below_drewN) | (refine below_set ?_ (by first | omega | (simp only [size_alloc, size_drew, size_set]; omega)) _ _)))⟩
end Go.Proofs.Ytefkhjgckdphnaa.Fn
