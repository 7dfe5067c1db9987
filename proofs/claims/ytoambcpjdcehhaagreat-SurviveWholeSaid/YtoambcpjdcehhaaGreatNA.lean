/- Texts: N1, N2, N3, N4, N6. -/
import Derived.Test.YtoambcpjdcehhaaGreatProg
import Derived.Test.YtoambcpjdcehhaaGreatVA
import Derived.Deep.LoopGhost
/- What Push computes: the trail with the spot behind it, the oldest struck where it is full. -/
set_option linter.unusedVariables false
set_option linter.unusedSimpArgs false
namespace Go.Proofs.YtoambcpjdcehhaaGreat.Fn
open Go Go.RowKit Go.Proofs.YtoambcpjdcehhaaGreat.Can Go.Proofs.YtoambcpjdcehhaaGreat.Base
attribute [local go_sem] clsB AB.cell
theorem info28 : (Tryz.prog.info? 57).map (fun i => (i.zero, i.size, i.bytes)) = some (some (.agg #[(.int .i64 0), (.int .i64 0)]), 2, 16) := by kernel_rfl

theorem eq28 (d : Nat) (w : World) (x0 x1 y0 y1 : Int) :
    (Op.equalIn (d + 2) 57 (.agg #[.int .i64 x0, .int .i64 x1]) (.agg #[.int .i64 y0, .int .i64 y1])).run Tryz.prog w = .ok (x0 == y0 && x1 == y1) w := by
  refine eq_struct Tryz.underlying57 (by kernel_rfl) ?_
  cases h0 : (x0 == y0) <;> cases h1 : (x1 == y1) <;> simp [Op.eqFields, go_sem, h0, h1]
theorem nil22 (W : World) (a : Option Addr) (n c : Nat) : (binOp .eql 64 (.slice a n c) (.slice none 0 0)).run Tryz.prog W = .ok (.bool a.isNone) W := Lib.run_eql_slice_nil W _ _ a n c 0 0 Tryz.underlying64
/-- What a call has made. -/
def New (S : Nat → Prop) (w w' : World) : Nat → Prop := fun k => S k ∨ (w.heap.size ≤ k ∧ k < w'.heap.size)

/-- What a push makes. -/
def pushL (l : List Spot) (p : Spot) (d : Int) : List Spot := if d = 0 then l else if d ≤ l.length then l.drop 1 ++ [p] else l ++ [p]


set_option maxHeartbeats 1000000 in
theorem push_room (A : Option Addr) (c : Nat) (l : List Spot) (d : Int) (p : Spot) (S : Nat → Prop) (w : World) (hS : ∀ k, S k → k < w.heap.size) (hC : Row spotT w S A l.length l) (hd0 : ¬ d = 0) (hd : (l.length : Int) < d) (hn : l.length ≤ 5000) (hnc : l.length ≤ c) :
    Calls Tryz.prog 79 #[.agg #[.int .i64 d, .slice A l.length c], .agg #[.int .i64 p.at_, .int .i64 p.mode]] w fun e w' =>
      ∃ A' c', e = .returned (.agg #[.int .i64 d, .slice A' (l.length + 1) c']) ∧ l.length + 1 ≤ c' ∧ (A' = none → c' = 0) ∧ Row spotT w' (New S w w') A' (l.length + 1) (l ++ [p]) ∧ Below w.heap.size w w' := by
  have HC := Hd.mk hC; clear hC
  have HS := Hd.mk hS; clear hS
  go_enter Tryz.func79, Tryz.ntmps79
  go_wp2
  generalize hV : World.alloc _ _ = V
  have HBV : Below w.heap.size w V := below_of hV (by repeat (first | (with_reducible assumption) | (with_reducible exact Below.refl _ _) | (with_reducible apply below_drewL) | (with_reducible apply below_alloc) | (with_reducible apply below_drew1) | (with_reducible apply below_drewN) | (refine below_set ?_ (by first | omega | (simp only [size_alloc, size_drew, size_set]; omega)) _ _)))
  have zV : Hd (V.heap.size = w.heap.size + 1 + 1 + 1) := ⟨by rw [← hV]; simp only [size_alloc]⟩
  have V0 := at_of hV (blk_alloc (blk_alloc (blk_new _ _ _ rfl) _) _)
  have V0l := blk_lt V0
  have V1 := at_of hV (blk_alloc (blk_new _ _ _ rfl) _)
  simp only [size_alloc] at V1
  have V1l := blk_lt V1
  have V2 := at_of hV (blk_new _ _ _ rfl)
  simp only [size_alloc] at V2
  have V2l := blk_lt V2
  clear hV
  have V0c0 := blk_cell V0 0 _ rfl
  have V0f0 := blk_frozen V0 0
  have V0c1 := blk_cell V0 1 _ rfl
  have V0f1 := blk_frozen V0 1
  have V1c0 := blk_cell V1 0 _ rfl
  have V1f0 := blk_frozen V1 0
  have V1c1 := blk_cell V1 1 _ rfl
  have V1f1 := blk_frozen V1 1
  have V2c0 := blk_cell V2 0 _ rfl
  have V2f0 := blk_frozen V2 0
  have V2c1 := blk_cell V2 1 _ rfl
  have V2f1 := blk_frozen V2 1
  refine wp_region_can (.q [0, 1, 2, 3] (.e 4 true (.e 5 true (.q [6] (.e 7 false (.done)))))) (clsB _) (by kernel_rfl) (by kernel_rfl) (by intro _ _ d _ _ h; cases d <;> exact h) (clsB_drew _) ?_
  refine can_q (l := [⟨_,_,_,_,_,_⟩, ⟨_,_,_,_,_,_⟩, ⟨_,_,_,_,_,_⟩, ⟨_,_,_,_,_,_⟩]) rfl ?_
  repeat (go_big_quiet_step (fail))
  refine wpQuiet_nil ?_
  refine can_e (o := ⟨_,_,_,_,_,_⟩) rfl (fun K hK => ?_)
  go_wp2_with fail
  refine onK_normal (hK _ _ ⟨clsB _, (by first | exact clsB_drew _ | exact clsB_self _), fun _ => clsB_next (by first | exact ((by repeat (first | (with_reducible assumption) | (with_reducible exact Below.refl _ _) | (with_reducible apply below_drewL) | (with_reducible apply below_alloc) | (with_reducible apply below_drew1) | (with_reducible apply below_drewN) | (refine below_set ?_ (by first | omega | (simp only [size_alloc, size_drew, size_set]; omega)) _ _)))) | exact below_undrew ((by repeat (first | (with_reducible assumption) | (with_reducible exact Below.refl _ _) | (with_reducible apply below_drewL) | (with_reducible apply below_alloc) | (with_reducible apply below_drew1) | (with_reducible apply below_drewN) | (refine below_set ?_ (by first | omega | (simp only [size_alloc, size_drew, size_set]; omega)) _ _))))), ?_⟩)
  clear hK K
  refine can_e (o := ⟨_,_,_,_,_,_⟩) rfl (fun K hK => ?_)
  go_wp2_with (at_builtin; refine append_full spotT (S := S) rfl (.tmp 27) (.tmp 29) 64 57 _ 16 rfl Tryz.underlying64 info28 rfl (by decide) (by decide) A (l.length) (l) p (spotE p) V.heap.size rfl rfl (by rw [heap_drew]; exact blk_new _ _ _ rfl) (HC.out.below HS.out (by repeat (first | (with_reducible assumption) | (with_reducible exact Below.refl _ _) | (with_reducible apply below_drewL) | (with_reducible apply below_alloc) | (with_reducible apply below_drew1) | (with_reducible apply below_drewN) | (refine below_set ?_ (by first | omega | (simp only [size_alloc, size_drew, size_set]; omega)) _ _)))) rfl (by omega) ?_; intro A1 c1 w1 hc1 hC1 hb1)
  have BK := blk_below (blk_drew (blk_alloc V2 _)) hb1
  have HB1 : Below w.heap.size w w1 := below_seq (by repeat (first | (with_reducible assumption) | (with_reducible exact Below.refl _ _) | (with_reducible apply below_drewL) | (with_reducible apply below_alloc) | (with_reducible apply below_drew1) | (with_reducible apply below_drewN) | (refine below_set ?_ (by first | omega | (simp only [size_alloc, size_drew, size_set]; omega)) _ _))) hb1
  refine onK_normal (hK _ _ ⟨clsB _, (by first | exact clsB_drew _ | exact clsB_self _), fun _ => clsB_next (by first | exact (hb1) | exact below_undrew (hb1)), ?_⟩)
  clear hK K
  refine can_q (l := [⟨_,_,_,_,_,_⟩]) rfl ?_
  repeat (go_big_quiet_step (fail))
  refine wpQuiet_nil ?_
  refine can_e (o := ⟨_,_,_,_,_,_⟩) rfl (fun K hK => ?_)
  have BKc0 := blk_cell BK 0 _ rfl
  have BKf0 := blk_frozen BK 0
  have BKc1 := blk_cell BK 1 _ rfl
  have BKf1 := blk_frozen BK 1
  go_wp2_with fail
  refine onK_normal (hK _ _ ⟨fun _ => True, trivial, (fun h => by cases h), ?_⟩)
  clear hK K
  refine can_done ?_
  go_wp2
  refine bodyPost_ret (results_cell_row rfl _ _ (w.heap.size + 1 + 1) 66 #[.int .i64 d, .slice A1 (l.length + 1) c1] (0, 0) _ rfl (blk_set (blk_set BK 0 _ _ rfl) 1 _ _ rfl) Tryz.underlying66 rfl (by kernel_rfl)) rfl ?_
  have hz1 := hb1.size
  have hzV := zV.out
  simp only [size_alloc, size_drew] at hz1
  refine ⟨A1, c1, rfl, hc1, fun h => absurd h (hC1.some_of (by omega)), ?_, below_set (below_set HB1 (by omega) _ _) (by omega) _ _⟩
  refine Row.mono ((hC1.set (fun b hb => ?_) _).set (fun b hb => ?_) _) (fun b hb => ?_)
  · rcases hb with ⟨hb, _⟩ | ⟨hb, _⟩
    · have := HS.out b hb; omega
    · simp only [size_alloc, size_drew] at hb; omega
  · rcases hb with ⟨hb, _⟩ | ⟨hb, _⟩
    · have := HS.out b hb; omega
    · simp only [size_alloc, size_drew] at hb; omega
  · rcases hb with ⟨hb, _⟩ | ⟨hb, _⟩
    · exact .inl hb
    · right; simp only [size_alloc, size_drew, size_set] at hb ⊢; omega

set_option maxHeartbeats 1000000 in
theorem push_full (A : Option Addr) (c : Nat) (l : List Spot) (d : Int) (p : Spot) (S : Nat → Prop) (w : World) (hS : ∀ k, S k → k < w.heap.size) (hC : Row spotT w S A l.length l) (hd0 : 0 < d) (hd : d ≤ (l.length : Int)) (hn : l.length ≤ 5000) (hnc : l.length ≤ c) :
    Calls Tryz.prog 79 #[.agg #[.int .i64 d, .slice A l.length c], .agg #[.int .i64 p.at_, .int .i64 p.mode]] w fun e w' =>
      ∃ A' c', e = .returned (.agg #[.int .i64 d, .slice A' (l.length - 1 + 1) c']) ∧ l.length - 1 + 1 ≤ c' ∧ (A' = none → c' = 0) ∧ Row spotT w' (New S w w') A' (l.length - 1 + 1) (l.drop 1 ++ [p]) ∧ Below w.heap.size w w' := by
  obtain ⟨i0, hi, _, hi2, _⟩ := info_of info28
  obtain ⟨A0, hcut, hrow, _⟩ := cut_from spotT 64 57 Tryz.underlying64 hi hi2 A l.length l.length 1 (by omega) (Nat.le_refl _)
  have hcut1 : ∀ W, (Instr.slice 64 (.slice A l.length l.length) (some (.int .i64 1)) none none).run Tryz.prog W = .ok (.slice A0 (l.length - 1) (l.length - 1)) W := fun W => hcut W .i64
  have HC := Hd.mk (hrow w S l hC); clear hC hrow hcut hi
  have HS := Hd.mk hS; clear hS
  have hd1 : ¬ d = 0 := by omega
  go_enter Tryz.func79, Tryz.ntmps79
  go_wp2
  generalize hV : World.alloc _ _ = V
  have HBV : Below w.heap.size w V := below_of hV (by repeat (first | (with_reducible assumption) | (with_reducible exact Below.refl _ _) | (with_reducible apply below_drewL) | (with_reducible apply below_alloc) | (with_reducible apply below_drew1) | (with_reducible apply below_drewN) | (refine below_set ?_ (by first | omega | (simp only [size_alloc, size_drew, size_set]; omega)) _ _)))
  have zV : Hd (V.heap.size = w.heap.size + 1 + 1 + 1) := ⟨by rw [← hV]; simp only [size_alloc]⟩
  have V0 := at_of hV (blk_alloc (blk_alloc (blk_new _ _ _ rfl) _) _)
  have V0l := blk_lt V0
  have V1 := at_of hV (blk_alloc (blk_new _ _ _ rfl) _)
  simp only [size_alloc] at V1
  have V1l := blk_lt V1
  have V2 := at_of hV (blk_new _ _ _ rfl)
  simp only [size_alloc] at V2
  have V2l := blk_lt V2
  clear hV
  have V0c0 := blk_cell V0 0 _ rfl
  have V0f0 := blk_frozen V0 0
  have V0c1 := blk_cell V0 1 _ rfl
  have V0f1 := blk_frozen V0 1
  have V1c0 := blk_cell V1 0 _ rfl
  have V1f0 := blk_frozen V1 0
  have V1c1 := blk_cell V1 1 _ rfl
  have V1f1 := blk_frozen V1 1
  have V2c0 := blk_cell V2 0 _ rfl
  have V2f0 := blk_frozen V2 0
  have V2c1 := blk_cell V2 1 _ rfl
  have V2f1 := blk_frozen V2 1
  refine wp_region_can (.q [0, 1, 2, 3] (.e 4 true (.e 5 true (.q [6] (.e 7 false (.done)))))) (clsB _) (by kernel_rfl) (by kernel_rfl) (by intro _ _ d _ _ h; cases d <;> exact h) (clsB_drew _) ?_
  refine can_q (l := [⟨_,_,_,_,_,_⟩, ⟨_,_,_,_,_,_⟩, ⟨_,_,_,_,_,_⟩, ⟨_,_,_,_,_,_⟩]) rfl ?_
  repeat (go_big_quiet_step (fail))
  refine wpQuiet_nil ?_
  refine can_e (o := ⟨_,_,_,_,_,_⟩) rfl (fun K hK => ?_)
  go_wp2_with fail
  refine onK_normal (hK _ _ ⟨clsB _, (by first | exact clsB_drew _ | exact clsB_self _), fun _ => clsB_next (by first | exact ((by repeat (first | (with_reducible assumption) | (with_reducible exact Below.refl _ _) | (with_reducible apply below_drewL) | (with_reducible apply below_alloc) | (with_reducible apply below_drew1) | (with_reducible apply below_drewN) | (refine below_set ?_ (by first | omega | (simp only [size_alloc, size_drew, size_set]; omega)) _ _)))) | exact below_undrew ((by repeat (first | (with_reducible assumption) | (with_reducible exact Below.refl _ _) | (with_reducible apply below_drewL) | (with_reducible apply below_alloc) | (with_reducible apply below_drew1) | (with_reducible apply below_drewN) | (refine below_set ?_ (by first | omega | (simp only [size_alloc, size_drew, size_set]; omega)) _ _))))), ?_⟩)
  clear hK K
  refine can_e (o := ⟨_,_,_,_,_,_⟩) rfl (fun K hK => ?_)
  go_wp2_with (at_builtin; refine append_full spotT (S := S) rfl (.tmp 27) (.tmp 29) 64 57 _ 16 rfl Tryz.underlying64 info28 rfl (by decide) (by decide) A0 (l.length - 1) (l.drop 1) p (spotE p) V.heap.size rfl rfl (by rw [heap_drew]; exact blk_new _ _ _ rfl) (HC.out.below HS.out (by repeat (first | (with_reducible assumption) | (with_reducible exact Below.refl _ _) | (with_reducible apply below_drewL) | (with_reducible apply below_alloc) | (with_reducible apply below_drew1) | (with_reducible apply below_drewN) | (refine below_set ?_ (by first | omega | (simp only [size_alloc, size_drew, size_set]; omega)) _ _)))) rfl (by omega) ?_; intro A1 c1 w1 hc1 hC1 hb1)
  have BK := blk_below (blk_drew (blk_alloc V2 _)) hb1
  have HB1 : Below w.heap.size w w1 := below_seq (by repeat (first | (with_reducible assumption) | (with_reducible exact Below.refl _ _) | (with_reducible apply below_drewL) | (with_reducible apply below_alloc) | (with_reducible apply below_drew1) | (with_reducible apply below_drewN) | (refine below_set ?_ (by first | omega | (simp only [size_alloc, size_drew, size_set]; omega)) _ _))) hb1
  refine onK_normal (hK _ _ ⟨clsB _, (by first | exact clsB_drew _ | exact clsB_self _), fun _ => clsB_next (by first | exact (hb1) | exact below_undrew (hb1)), ?_⟩)
  clear hK K
  refine can_q (l := [⟨_,_,_,_,_,_⟩]) rfl ?_
  repeat (go_big_quiet_step (fail))
  refine wpQuiet_nil ?_
  refine can_e (o := ⟨_,_,_,_,_,_⟩) rfl (fun K hK => ?_)
  have BKc0 := blk_cell BK 0 _ rfl
  have BKf0 := blk_frozen BK 0
  have BKc1 := blk_cell BK 1 _ rfl
  have BKf1 := blk_frozen BK 1
  go_wp2_with fail
  refine onK_normal (hK _ _ ⟨fun _ => True, trivial, (fun h => by cases h), ?_⟩)
  clear hK K
  refine can_done ?_
  go_wp2
  refine bodyPost_ret (results_cell_row rfl _ _ (w.heap.size + 1 + 1) 66 #[.int .i64 d, .slice A1 (l.length - 1 + 1) c1] (0, 0) _ rfl (blk_set (blk_set BK 0 _ _ rfl) 1 _ _ rfl) Tryz.underlying66 rfl (by kernel_rfl)) rfl ?_
  have hz1 := hb1.size
  have hzV := zV.out
  simp only [size_alloc, size_drew] at hz1
  refine ⟨A1, c1, rfl, hc1, fun h => absurd h (hC1.some_of (by omega)), ?_, below_set (below_set HB1 (by omega) _ _) (by omega) _ _⟩
  refine Row.mono ((hC1.set (fun b hb => ?_) _).set (fun b hb => ?_) _) (fun b hb => ?_)
  · rcases hb with ⟨hb, _⟩ | ⟨hb, _⟩
    · have := HS.out b hb; omega
    · simp only [size_alloc, size_drew] at hb; omega
  · rcases hb with ⟨hb, _⟩ | ⟨hb, _⟩
    · have := HS.out b hb; omega
    · simp only [size_alloc, size_drew] at hb; omega
  · rcases hb with ⟨hb, _⟩ | ⟨hb, _⟩
    · exact .inl hb
    · right; simp only [size_alloc, size_drew, size_set] at hb ⊢; omega

set_option maxHeartbeats 1000000 in
theorem push_zero (A : Option Addr) (c n : Nat) (p : Spot) (w : World) :
    Calls Tryz.prog 79 #[.agg #[.int .i64 0, .slice A n c], .agg #[.int .i64 p.at_, .int .i64 p.mode]] w fun e w' =>
      e = .returned (.agg #[.int .i64 0, .slice A n c]) ∧ Below w.heap.size w w' := by
  go_enter Tryz.func79, Tryz.ntmps79
  go_wp2
  refine bodyPost_ret (v := .agg #[.int .i64 0, .slice A n c]) (by simp [results, Tryz.results79, go_sem, *]) rfl ?_
  exact ⟨rfl, (by repeat (first | (with_reducible assumption) | (with_reducible exact Below.refl _ _) | (with_reducible apply below_drewL) | (with_reducible apply below_alloc) | (with_reducible apply below_drew1) | (with_reducible apply below_drewN) | (refine below_set ?_ (by first | omega | (simp only [size_alloc, size_drew, size_set]; omega)) _ _)))⟩

/-- Push, whatever there is. -/
theorem push_any (A : Option Addr) (c : Nat) (l : List Spot) (d : Int) (p : Spot) (S : Nat → Prop) (w : World) (hS : ∀ k, S k → k < w.heap.size) (hC : Row spotT w S A l.length l) (hd : 0 ≤ d) (hn : l.length ≤ 5000) (hnc : l.length ≤ c) (hA : A = none → c = 0) :
    Calls Tryz.prog 79 #[.agg #[.int .i64 d, .slice A l.length c], .agg #[.int .i64 p.at_, .int .i64 p.mode]] w fun e w' =>
      ∃ A' c', e = .returned (.agg #[.int .i64 d, .slice A' (pushL l p d).length c']) ∧ (pushL l p d).length ≤ c' ∧ (A' = none → c' = 0) ∧ Row spotT w' (New S w w') A' (pushL l p d).length (pushL l p d) ∧ Below w.heap.size w w' := by
  unfold pushL
  by_cases h0 : d = 0
  · subst h0
    simp only [if_true]
    refine (push_zero A c l.length p w).mono ?_
    rintro e w' ⟨rfl, hb⟩
    exact ⟨A, c, rfl, hnc, hA, (hC.below hS hb).mono (fun _ h => .inl h), hb⟩
  · rw [if_neg h0]
    by_cases h1 : d ≤ l.length
    · rw [if_pos h1]
      have e1 : (l.drop 1 ++ [p]).length = l.length - 1 + 1 := by simp
      rw [e1]
      exact push_full A c l d p S w hS hC (by omega) h1 hn hnc
    · rw [if_neg h1]
      have e1 : (l ++ [p]).length = l.length + 1 := by simp
      rw [e1]
      exact push_room A c l d p S w hS hC h0 (by omega) hn hnc
end Go.Proofs.YtoambcpjdcehhaaGreat.Fn

/- What Pop computes where something is. -/
set_option linter.unusedVariables false
set_option linter.unusedSimpArgs false
namespace Go.Proofs.YtoambcpjdcehhaaGreat.Fn
open Go Go.RowKit Go.Proofs.YtoambcpjdcehhaaGreat.Can Go.Proofs.YtoambcpjdcehhaaGreat.Base
attribute [local go_sem] clsB AB.cell clsX AX.cell

set_option maxHeartbeats 1000000 in
theorem pop_some (b off c : Nat) (l : List Spot) (d : Int) (p : Spot) (S : Nat → Prop) (w : World) (hS : ∀ k, S k → k < w.heap.size) (hC : Row spotT w S (some ⟨b, off, none⟩) (l.length + 1) (l ++ [p])) (hn : l.length ≤ 5000) (hnc : l.length + 1 ≤ c) :
    Calls Tryz.prog 80 #[.agg #[.int .i64 d, .slice (some ⟨b, off, none⟩) (l.length + 1) c]] w fun e w' =>
      e = .returned (.tuple #[.agg #[.int .i64 d, .slice (some ⟨b, off, none⟩) l.length l.length], .agg #[.int .i64 p.at_, .int .i64 p.mode], .bool true]) ∧ Below w.heap.size w w' := by
  obtain ⟨b', off', cs, he, hs, hr, hcell⟩ := hC.get l.length (by omega)
  simp only [Option.some.injEq, Addr.mk.injEq, and_true] at he
  obtain ⟨rfl, rfl⟩ := he
  simp only [List.getElem_append_right (Nat.le_refl _), Nat.sub_self, List.getElem_cons_zero] at hr
  have hr' : cs = spotE p := hr
  subst hr'
  have hc0 : w.cell? ⟨b, off + l.length * 2, none⟩ = some (.int .i64 p.at_) := hcell 0 _ rfl
  have hc1 : w.cell? ⟨b, off + l.length * 2 + 1, none⟩ = some (.int .i64 p.mode) := hcell 1 _ rfl
  have hb := hS b hs
  clear hC hr hcell hS
  go_enter Tryz.func80, Tryz.ntmps80
  go_wp2
  generalize hV : World.alloc _ _ = V
  have HBV : Below w.heap.size w V := below_of hV (by repeat (first | (with_reducible assumption) | (with_reducible exact Below.refl _ _) | (with_reducible apply below_drewL) | (with_reducible apply below_alloc) | (with_reducible apply below_drew1) | (with_reducible apply below_drewN) | (refine below_set ?_ (by first | omega | (simp only [size_alloc, size_drew, size_set]; omega)) _ _)))
  have zV : Hd (V.heap.size = w.heap.size + 1 + 1 + 1) := ⟨by rw [← hV]; simp only [size_alloc]⟩
  have V0 := at_of hV (blk_alloc (blk_alloc (blk_new _ _ _ rfl) _) _)
  have V0l := blk_lt V0
  have V1 := at_of hV (blk_alloc (blk_new _ _ _ rfl) _)
  simp only [size_alloc] at V1
  have V1l := blk_lt V1
  have V2 := at_of hV (blk_new _ _ _ rfl)
  simp only [size_alloc] at V2
  have V2l := blk_lt V2
  clear hV
  replace hc0 := (HBV.cell (p := ⟨b, off + l.length * 2, none⟩) hb).trans hc0
  replace hc1 := (HBV.cell (p := ⟨b, off + l.length * 2 + 1, none⟩) hb).trans hc1
  have hbV : b < V.heap.size := by have := zV.out; omega
  have V0c0 := blk_cell V0 0 _ rfl
  have V0f0 := blk_frozen V0 0
  have V0c1 := blk_cell V0 1 _ rfl
  have V0f1 := blk_frozen V0 1
  have V1c0 := blk_cell V1 0 _ rfl
  have V1f0 := blk_frozen V1 0
  have V1c1 := blk_cell V1 1 _ rfl
  have V1f1 := blk_frozen V1 1
  have V2c0 := blk_cell V2 0 _ rfl
  have V2f0 := blk_frozen V2 0
  have V2c1 := blk_cell V2 1 _ rfl
  have V2f1 := blk_frozen V2 1
  have hbW : ¬ b = w.heap.size + 1 := by omega
  refine wp_region_can (.q [0, 1, 2, 3, 4, 5, 6, 7, 8, 9, 10, 11, 12] (.e 13 true (.e 14 false (.q [15] (.done))))) (clsX (fun k => k = w.heap.size + 1) _) (by kernel_rfl) (by kernel_rfl) (by intro _ _ d _ _ h; cases d <;> exact h) (clsX_drew _ _) ?_
  refine can_q (l := [⟨_,_,_,_,_,_⟩, ⟨_,_,_,_,_,_⟩, ⟨_,_,_,_,_,_⟩, ⟨_,_,_,_,_,_⟩, ⟨_,_,_,_,_,_⟩, ⟨_,_,_,_,_,_⟩, ⟨_,_,_,_,_,_⟩, ⟨_,_,_,_,_,_⟩, ⟨_,_,_,_,_,_⟩, ⟨_,_,_,_,_,_⟩, ⟨_,_,_,_,_,_⟩, ⟨_,_,_,_,_,_⟩, ⟨_,_,_,_,_,_⟩]) rfl ?_
  repeat (go_big_quiet_step (fail))
  refine wpQuiet_nil ?_
  refine can_e (o := ⟨_,_,_,_,_,_⟩) rfl (fun K hK => ?_)
  go_wp2_with fail
  first | refine onK_normal (hK _ _ ⟨clsX _ _, clsX_drew _ _, fun _ => clsX_next ?_ ?_, ?_⟩) | refine onK_normal (hK _ _ ⟨clsX _ _, clsX_self _ _, fun _ => clsX_next ?_ ?_, ?_⟩)
  · simp only [size_alloc, size_drew, size_set]; omega
  · intro b_ hb_ hW_; repeat (first | (rw [Below.heap_setCell _ _ _ _ (by intro he_; exact hW_ (by first | exact he_ | exact .inl he_ | exact .inr he_))]) | (rw [Below.heap_alloc _ _ _ (by simp only [size_alloc, size_drew, size_set]; omega)]) | rfl)
  clear hK K
  refine can_e (o := ⟨_,_,_,_,_,_⟩) rfl (fun K hK => ?_)
  go_wp2_with fail
  refine onK_normal (hK _ _ ⟨fun _ => True, trivial, (fun h => by cases h), ?_⟩)
  clear hK K
  refine can_q (l := [⟨_,_,_,_,_,_⟩]) rfl ?_
  repeat (go_big_quiet_step (fail))
  refine wpQuiet_nil ?_
  refine can_done ?_
  go_wp2
  refine bodyPost_ret (v := .tuple #[.agg #[.int .i64 d, .slice (some ⟨b, off, none⟩) l.length l.length], .agg #[.int .i64 p.at_, .int .i64 p.mode], .bool true]) (by simp [results, Tryz.results80, go_sem, *]) rfl ?_
  exact ⟨rfl, (by repeat (first | (with_reducible assumption) | (with_reducible exact Below.refl _ _) | (with_reducible apply below_drewL) | (with_reducible apply below_alloc) | (with_reducible apply below_drew1) | (with_reducible apply below_drewN) | (refine below_set ?_ (by first | omega | (simp only [size_alloc, size_drew, size_set]; omega)) _ _)))⟩
end Go.Proofs.YtoambcpjdcehhaaGreat.Fn

/- What the reference's Same computes. -/
set_option linter.unusedVariables false
set_option linter.unusedSimpArgs false
namespace Go.Proofs.YtoambcpjdcehhaaGreat.Fn
open Go Go.RowKit Go.Proofs.YtoambcpjdcehhaaGreat.Can Go.Proofs.YtoambcpjdcehhaaGreat.Base
attribute [local go_sem] clsB AB.cell clsX AX.cell
attribute [local go_sem high] eq28

/-- The cells of an element of a row of spots. -/
theorem spot_getN {w : World} {S : Nat → Prop} {A : Option Addr} {n : Nat} {l : List Spot} (h : Row spotT w S A n l) (k : Nat) (hk : k < n) :
    ∃ b off, A = some ⟨b, off, none⟩ ∧ S b ∧ b < w.heap.size ∧ w.cell? ⟨b, off + k * 2, none⟩ = some (.int .i64 (l[k]'(by have := h.1; omega)).at_) ∧ w.cell? ⟨b, off + k * 2 + 1, none⟩ = some (.int .i64 (l[k]'(by have := h.1; omega)).mode) := by
  obtain ⟨b, off, cs, he, hs, hr, hcell⟩ := h.get k hk
  have hr' : cs = spotE _ := hr
  subst hr'
  have h0 := hcell 0 _ rfl
  exact ⟨b, off, he, hs, World.block_lt_of_cell? w _ h0, h0, hcell 1 _ rfl⟩

set_option maxHeartbeats 1000000 in
theorem refSame_calls (A1 A2 : Option Addr) (c1 c2 : Nat) (l1 l2 : List Spot) (S1 S2 : Nat → Prop) (w : World) (hS1 : ∀ k, S1 k → k < w.heap.size) (hS2 : ∀ k, S2 k → k < w.heap.size) (h1 : Row spotT w S1 A1 l1.length l1) (h2 : Row spotT w S2 A2 l2.length l2) :
    Calls Tryz.prog 30 #[.slice A1 l1.length c1, .slice A2 l2.length c2] w fun e w' => e = .returned (.bool (decide (l1 = l2))) ∧ Below w.heap.size w w' := by
  have hm1 := h1.le
  have hm2 := h2.le
  by_cases hl : l1.length = l2.length
  · have H1 := Hd.mk h1; have H2 := Hd.mk h2; clear h1 h2
    have HS1 := Hd.mk hS1; have HS2 := Hd.mk hS2; clear hS1 hS2
    have hl' : l2.length = l1.length := hl.symm
    have HL := Hd.mk hl; clear hl
    rw [hl']
    have HL' := Hd.mk hl'; clear hl' hm2
    go_enter Tryz.func30, Tryz.ntmps30
    go_wp2
    go_loopw [5] (fun i wr => ∃ k : Nat, k ≤ l1.length ∧ i = .int .i64 k ∧ Hd (l1.take k = l2.take k) ∧ Hd (Below w.heap.size w wr)) (fun i _ => l1.length - (intOf i).toNat)
    case atStart => exact ⟨0, Nat.zero_le _, rfl, ⟨rfl⟩, ⟨Below.refl _ _⟩⟩
    case round =>
      obtain ⟨k, hk, rfl, hq, hb⟩ := hrel
      by_cases hlt : k < l1.length
      · obtain ⟨b1, o1, rfl, _, hb1, hx1, hy1⟩ := spot_getN (H1.out.below HS1.out hb.out) k hlt
        obtain ⟨b2, o2, rfl, _, hb2, hx2, hy2⟩ := spot_getN (H2.out.below HS2.out hb.out) k (by have := HL.out; omega)
        have htk1 : l1.take (k + 1) = l1.take k ++ [l1[k]] := List.take_succ_eq_append_getElem hlt
        have htk2 : l2.take (k + 1) = l2.take k ++ [l2[k]'(by have := HL.out; omega)] := List.take_succ_eq_append_getElem (by have := HL.out; omega)
        have HT := Hd.mk (And.intro htk1 htk2); clear htk1 htk2
        by_cases he : l1[k] = l2[k]'(by have := HL.out; omega)
        · have HE := Hd.mk he
          rw [← he] at hx2 hy2
          clear he
          go_wp2
          refine wp_region_can (.q [0, 1, 2, 3, 4, 5, 6, 7, 8] (.done)) (clsB _) (by kernel_rfl) (by kernel_rfl) (by intro _ _ d _ _ h; cases d <;> exact h) (clsB_drew _) ?_
          refine can_q (l := [⟨_,_,_,_,_,_⟩, ⟨_,_,_,_,_,_⟩, ⟨_,_,_,_,_,_⟩, ⟨_,_,_,_,_,_⟩, ⟨_,_,_,_,_,_⟩, ⟨_,_,_,_,_,_⟩, ⟨_,_,_,_,_,_⟩, ⟨_,_,_,_,_,_⟩, ⟨_,_,_,_,_,_⟩]) rfl ?_
          repeat (go_big_quiet_step (fail))
          refine wpQuiet_nil ?_
          refine can_done ?_
          go_wp2
          go_roundw
          case rel => exact ⟨k + 1, by omega, by go_num, ⟨by rw [HT.out.1, HT.out.2, hq.out, HE.out]⟩, ⟨by have := hb.out; exact (by repeat (first | (with_reducible assumption) | (with_reducible exact Below.refl _ _) | (with_reducible apply below_drewL) | (with_reducible apply below_alloc) | (with_reducible apply below_drew1) | (with_reducible apply below_drewN) | (refine below_set ?_ (by first | omega | (simp only [size_alloc, size_drew, size_set]; omega)) _ _)))⟩⟩
          case measure => simp [intOf]; omega
        · have HE := Hd.mk he
          by_cases ha : l1[k].at_ = (l2[k]'(by have := HL.out; omega)).at_
          · have hm : (l1[k].mode == (l2[k]'(by have := HL.out; omega)).mode) = false := by
              simp only [beq_eq_false_iff_ne]
              intro hm
              exact he (by cases h1 : l1[k]; cases h2 : l2[k]'(by have := HL.out; omega); simp_all)
            rw [← ha] at hx2
            clear he ha
            go_wp2
            refine wp_region_can (.q [0, 1, 2, 3, 4, 5, 6, 7, 8] (.done)) (clsB _) (by kernel_rfl) (by kernel_rfl) (by intro _ _ d _ _ h; cases d <;> exact h) (clsB_drew _) ?_
            refine can_q (l := [⟨_,_,_,_,_,_⟩, ⟨_,_,_,_,_,_⟩, ⟨_,_,_,_,_,_⟩, ⟨_,_,_,_,_,_⟩, ⟨_,_,_,_,_,_⟩, ⟨_,_,_,_,_,_⟩, ⟨_,_,_,_,_,_⟩, ⟨_,_,_,_,_,_⟩, ⟨_,_,_,_,_,_⟩]) rfl ?_
            repeat (go_big_quiet_step (fail))
            refine wpQuiet_nil ?_
            refine can_done ?_
            go_wp2
            go_ret
            exact ⟨ret_bool (decide_eq_false fun h => HE.out (by simp [h])).symm, by have := hb.out; exact (by repeat (first | (with_reducible assumption) | (with_reducible exact Below.refl _ _) | (with_reducible apply below_drewL) | (with_reducible apply below_alloc) | (with_reducible apply below_drew1) | (with_reducible apply below_drewN) | (refine below_set ?_ (by first | omega | (simp only [size_alloc, size_drew, size_set]; omega)) _ _)))⟩
          · have hm : (l1[k].at_ == (l2[k]'(by have := HL.out; omega)).at_) = false := by simpa using ha
            clear he ha
            go_wp2
            refine wp_region_can (.q [0, 1, 2, 3, 4, 5, 6, 7, 8] (.done)) (clsB _) (by kernel_rfl) (by kernel_rfl) (by intro _ _ d _ _ h; cases d <;> exact h) (clsB_drew _) ?_
            refine can_q (l := [⟨_,_,_,_,_,_⟩, ⟨_,_,_,_,_,_⟩, ⟨_,_,_,_,_,_⟩, ⟨_,_,_,_,_,_⟩, ⟨_,_,_,_,_,_⟩, ⟨_,_,_,_,_,_⟩, ⟨_,_,_,_,_,_⟩, ⟨_,_,_,_,_,_⟩, ⟨_,_,_,_,_,_⟩]) rfl ?_
            repeat (go_big_quiet_step (fail))
            refine wpQuiet_nil ?_
            refine can_done ?_
            go_wp2
            go_ret
            exact ⟨ret_bool (decide_eq_false fun h => HE.out (by simp [h])).symm, by have := hb.out; exact (by repeat (first | (with_reducible assumption) | (with_reducible exact Below.refl _ _) | (with_reducible apply below_drewL) | (with_reducible apply below_alloc) | (with_reducible apply below_drew1) | (with_reducible apply below_drewN) | (refine below_set ?_ (by first | omega | (simp only [size_alloc, size_drew, size_set]; omega)) _ _)))⟩
      · go_wp2
        go_ret
        have h0 : k = l1.length := by omega
        have hq' := hq.out
        rw [h0, List.take_length, HL.out, List.take_length] at hq'
        exact ⟨ret_bool (decide_eq_true hq').symm, by have := hb.out; exact (by repeat (first | (with_reducible assumption) | (with_reducible exact Below.refl _ _) | (with_reducible apply below_drewL) | (with_reducible apply below_alloc) | (with_reducible apply below_drew1) | (with_reducible apply below_drewN) | (refine below_set ?_ (by first | omega | (simp only [size_alloc, size_drew, size_set]; omega)) _ _)))⟩
  · go_enter Tryz.func30, Tryz.ntmps30
    go_wp2
    go_ret
    exact ⟨ret_bool (decide_eq_false fun h => hl (by rw [h])).symm, Below.refl _ _⟩
end Go.Proofs.YtoambcpjdcehhaaGreat.Fn

/- What the trail's New, Low, Clone and All compute. -/
set_option linter.unusedVariables false
set_option linter.unusedSimpArgs false
namespace Go.Proofs.YtoambcpjdcehhaaGreat.Fn
open Go Go.RowKit Go.Proofs.YtoambcpjdcehhaaGreat.Can Go.Proofs.YtoambcpjdcehhaaGreat.Base
attribute [local go_sem] clsB AB.cell nil22

def newD (n : Int) : Int := if n < 1 then 1 else if 4096 < n then 4096 else n
set_option maxHeartbeats 1000000 in
theorem new_calls (n : Int) (w : World) :
    Calls Tryz.prog 20 #[.int .i64 n] w fun e w' => e = .returned (.agg #[.int .i64 (newD n), .slice none 0 0]) ∧ Below w.heap.size w w' := by
  unfold newD
  by_cases h1 : n < 1
  · rw [if_pos h1]
    go_enter Tryz.func20, Tryz.ntmps20
    go_wp2
    refine bodyPost_ret (v := .agg #[.int .i64 1, .slice none 0 0]) (by simp [results, Tryz.results20, go_sem, *]) rfl ?_
    exact ⟨rfl, (by repeat (first | (with_reducible assumption) | (with_reducible exact Below.refl _ _) | (with_reducible apply below_drewL) | (with_reducible apply below_alloc) | (with_reducible apply below_drew1) | (with_reducible apply below_drewN) | (refine below_set ?_ (by first | omega | (simp only [size_alloc, size_drew, size_set]; omega)) _ _)))⟩
  · rw [if_neg h1]
    by_cases h2 : 4096 < n
    · rw [if_pos h2]
      go_enter Tryz.func20, Tryz.ntmps20
      go_wp2
      refine bodyPost_ret (v := .agg #[.int .i64 4096, .slice none 0 0]) (by simp [results, Tryz.results20, go_sem, *]) rfl ?_
      exact ⟨rfl, (by repeat (first | (with_reducible assumption) | (with_reducible exact Below.refl _ _) | (with_reducible apply below_drewL) | (with_reducible apply below_alloc) | (with_reducible apply below_drew1) | (with_reducible apply below_drewN) | (refine below_set ?_ (by first | omega | (simp only [size_alloc, size_drew, size_set]; omega)) _ _)))⟩
    · rw [if_neg h2]
      go_enter Tryz.func20, Tryz.ntmps20
      go_wp2
      refine bodyPost_ret (v := .agg #[.int .i64 n, .slice none 0 0]) (by simp [results, Tryz.results20, go_sem, *]) rfl ?_
      exact ⟨rfl, (by repeat (first | (with_reducible assumption) | (with_reducible exact Below.refl _ _) | (with_reducible apply below_drewL) | (with_reducible apply below_alloc) | (with_reducible apply below_drew1) | (with_reducible apply below_drewN) | (refine below_set ?_ (by first | omega | (simp only [size_alloc, size_drew, size_set]; omega)) _ _)))⟩

def lowL (or : Int) : List Spot → Int
  | [] => or
  | s :: l => lowL (if s.at_ < or then s.at_ else or) l
theorem lowL_snoc (or : Int) (l : List Spot) (s : Spot) : lowL or (l ++ [s]) = if s.at_ < lowL or l then s.at_ else lowL or l := by
  induction l generalizing or with
  | nil => rfl
  | cons a l ih => exact ih _

set_option maxHeartbeats 1000000 in
theorem low_calls (d : Int) (A : Option Addr) (c : Nat) (l : List Spot) (or : Int) (S : Nat → Prop) (w : World) (hS : ∀ k, S k → k < w.heap.size) (hC : Row spotT w S A l.length l) :
    Calls Tryz.prog 106 #[.agg #[.int .i64 d, .slice A l.length c], .int .i64 or] w fun e w' => e = .returned (.int .i64 (lowL or l)) ∧ Below w.heap.size w w' := by
  have hm := hC.le
  have HC := Hd.mk hC; clear hC
  have HS := Hd.mk hS; clear hS
  go_enter Tryz.func106, Tryz.ntmps106
  go_wp2
  generalize hV : World.alloc _ _ = V
  have HBV : Below w.heap.size w V := below_of hV (by repeat (first | (with_reducible assumption) | (with_reducible exact Below.refl _ _) | (with_reducible apply below_drewL) | (with_reducible apply below_alloc) | (with_reducible apply below_drew1) | (with_reducible apply below_drewN) | (refine below_set ?_ (by first | omega | (simp only [size_alloc, size_drew, size_set]; omega)) _ _)))
  have zV : Hd (V.heap.size = w.heap.size + 1) := ⟨by rw [← hV]; simp only [size_alloc]⟩
  have V0 := at_of hV (blk_new _ _ _ rfl)
  have V0l := blk_lt V0
  clear hV
  go_loopw [1, 6, 10] (fun v u i wr => ∃ k : Nat, k ≤ l.length ∧ i = .int .i64 k ∧ v = .int .i64 (lowL or (l.take k)) ∧ Hd (Below w.heap.size w wr)) (fun _ _ i _ => l.length - (intOf i).toNat)
  case atStart => exact ⟨0, Nat.zero_le _, rfl, rfl, ⟨HBV⟩⟩
  case round =>
    obtain ⟨k, hk, rfl, rfl, hb⟩ := hrel
    by_cases hlt : k < l.length
    · obtain ⟨b, o, rfl, _, hb1, hx, hy⟩ := spot_getN (HC.out.below HS.out hb.out) k hlt
      have hlow := lowL_snoc or (l.take k) l[k]
      rw [← List.take_succ_eq_append_getElem hlt] at hlow
      have HL := Hd.mk hlow; clear hlow
      by_cases hc : l[k].at_ < lowL or (l.take k)
      all_goals
        go_wp2
        go_roundw
        case rel => exact ⟨k + 1, by omega, by go_num, by rw [HL.out]; first | rw [if_pos hc] | rw [if_neg hc], ⟨by have := hb.out; exact (by repeat (first | (with_reducible assumption) | (with_reducible exact Below.refl _ _) | (with_reducible apply below_drewL) | (with_reducible apply below_alloc) | (with_reducible apply below_drew1) | (with_reducible apply below_drewN) | (refine below_set ?_ (by first | omega | (simp only [size_alloc, size_drew, size_set]; omega)) _ _)))⟩⟩
        case measure => simp [intOf]; omega
    · go_wp2
      go_ret
      have h0 : k = l.length := by omega
      exact ⟨ret_int (by rw [h0, List.take_length]), hb.out⟩

/-- A row of the call's own, of plain elements: what it leans on is its block. -/
theorem own_spot {w : World} {base : Nat} {S : Nat → Prop} {v : Value} {l : List Spot} (h : Own spotT w base 57 S v l) : Own spotT w base 57 (fun _ => False) v l := by
  obtain ⟨inner, ho, hc, _⟩ := h
  exact ⟨inner, ho, ⟨hc.1, fun j p hj => hc.2 j p hj⟩, fun _ h => h.elim⟩

set_option maxHeartbeats 1000000 in
theorem clone_calls (A : Option Addr) (c : Nat) (l : List Spot) (S : Nat → Prop) (w : World) (hS : ∀ k, S k → k < w.heap.size) (hC : Row spotT w S A l.length l) (hA : A = none → c = 0) (hn : l.length ≤ 5000) :
    Calls Tryz.prog 86 #[.slice A l.length c] w fun e w' => ∃ A' c', e = .returned (.slice A' l.length c') ∧ l.length ≤ c' ∧ (A' = none → c' = 0) ∧ Row spotT w' (fun k => w.heap.size ≤ k ∧ k < w'.heap.size) A' l.length l ∧ Below w.heap.size w w' := by
  have HS := Hd.mk hS; clear hS
  cases A with
  | none =>
    have h0 : l.length = 0 := by
      rcases Nat.eq_zero_or_pos l.length with h | h
      · exact h
      · exact absurd rfl (hC.some_of h)
    have hc0 := hA rfl
    subst hc0
    obtain rfl := List.eq_nil_of_length_eq_zero h0
    clear hC hA hn h0
    go_enter Tryz.func86, Tryz.ntmps86
    go_wp2
    go_ret
    exact ⟨none, 0, rfl, Nat.le_refl _, fun _ => rfl, Row.nil _ _ _ _, Below.refl _ _⟩
  | some ad =>
    have HC := Hd.mk hC; clear hC hA
    go_enter Tryz.func86, Tryz.ntmps86
    go_wp2_with (at_builtin; go_must (refine append_own spotT (S := fun _ => False) (S' := S) rfl (.tmp 5) (.tmp 6) 64 57 _ 16 rfl Tryz.underlying64 info28 rfl (by decide) (by decide) w.heap.size (.slice (some ⟨w.heap.size, 0, none⟩) 0 0) [] l (some ad) l.length c rfl rfl (fun h => by cases h) (Own.empty _ _ _ (Nat.le_refl _)) (HC.out.below HS.out (by repeat (first | (with_reducible assumption) | (with_reducible exact Below.refl _ _) | (with_reducible apply below_drewL) | (with_reducible apply below_alloc) | (with_reducible apply below_drew1) | (with_reducible apply below_drewN) | (refine below_set ?_ (by first | omega | (simp only [size_alloc, size_drew, size_set]; omega)) _ _)))) (fun k hk => ⟨by have := HS.out k hk; rw [size_alloc]; omega, ownBlock_ne (HS.out k hk)⟩) (by rw [size_alloc]; omega) (by simp only [List.length_nil]; omega) ?_); intro v1 w1 hO1 hg1 hat1; obtain ⟨A1, c1, rfl, hc1, hA1, hR1⟩ := (own_spot hO1).form)
    go_ret
    have hb1 : Below w.heap.size w w1 := Below.grown (by repeat (first | (with_reducible assumption) | (with_reducible exact Below.refl _ _) | (with_reducible apply below_drewL) | (with_reducible apply below_alloc) | (with_reducible apply below_drew1) | (with_reducible apply below_drewN) | (refine below_set ?_ (by first | omega | (simp only [size_alloc, size_drew, size_set]; omega)) _ _))) hg1 (by rw [size_alloc]; omega) (fun k hk => by have := ownBlock_eq hk; omega)
    refine ⟨A1, c1, rfl, hc1, hA1, ?_, hb1⟩
    refine Row.mono hR1 (fun k hk => ?_)
    rcases hk with hk | hk
    · exact hk.elim
    · have := hO1.lt hk; exact ⟨this.2, this.1⟩

/-- All: a copy. -/
theorem all_calls (d : Int) (A : Option Addr) (c : Nat) (l : List Spot) (S : Nat → Prop) (w : World) (hS : ∀ k, S k → k < w.heap.size) (hC : Row spotT w S A l.length l) (hA : A = none → c = 0) (hn : l.length ≤ 5000) :
    Calls Tryz.prog 60 #[.agg #[.int .i64 d, .slice A l.length c]] w fun e w' => ∃ A' c', e = .returned (.slice A' l.length c') ∧ l.length ≤ c' ∧ (A' = none → c' = 0) ∧ Row spotT w' (fun k => w.heap.size ≤ k ∧ k < w'.heap.size) A' l.length l ∧ Below w.heap.size w w' := by
  have HS := Hd.mk hS; clear hS
  have HC := Hd.mk hC; clear hC
  have HA := Hd.mk hA; clear hA
  go_enter Tryz.func60, Tryz.ntmps60
  go_wp2_with (go_at_call 86; refine (clone_calls A c l S _ (fun k hk => by have := HS.out k hk; simp only [size_alloc]; omega) (HC.out.below HS.out (by repeat (first | (with_reducible assumption) | (with_reducible exact Below.refl _ _) | (with_reducible apply below_drewL) | (with_reducible apply below_alloc) | (with_reducible apply below_drew1) | (with_reducible apply below_drewN) | (refine below_set ?_ (by first | omega | (simp only [size_alloc, size_drew, size_set]; omega)) _ _)))) HA.out hn).mono ?_; rintro e w1 ⟨A1, c1, rfl, hc1, hA1, hR1, hb1⟩)
  go_ret
  have hb := below_seq (a := w) (by repeat (first | (with_reducible assumption) | (with_reducible exact Below.refl _ _) | (with_reducible apply below_drewL) | (with_reducible apply below_alloc) | (with_reducible apply below_drew1) | (with_reducible apply below_drewN) | (refine below_set ?_ (by first | omega | (simp only [size_alloc, size_drew, size_set]; omega)) _ _))) hb1
  refine ⟨A1, c1, rfl, hc1, hA1, hR1.mono (fun k hk => ⟨?_, hk.2⟩), hb⟩
  have := hk.1; simp only [size_alloc] at this; omega

end Go.Proofs.YtoambcpjdcehhaaGreat.Fn

/- The rest of the trail's own functions. -/
set_option linter.unusedVariables false
set_option linter.unusedSimpArgs false
namespace Go.Proofs.YtoambcpjdcehhaaGreat.Fn
open Go Go.RowKit Go.Proofs.YtoambcpjdcehhaaGreat.Can Go.Proofs.YtoambcpjdcehhaaGreat.Base
attribute [local go_sem] clsB AB.cell nil22
attribute [local go_sem high] eq28

/-- Pop where nothing is. -/
theorem pop_none (A : Option Addr) (c : Nat) (d : Int) (w : World) :
    Calls Tryz.prog 80 #[.agg #[.int .i64 d, .slice A 0 c]] w fun e w' =>
      e = .returned (.tuple #[.agg #[.int .i64 d, .slice A 0 c], .agg #[.int .i64 0, .int .i64 0], .bool false]) ∧ Below w.heap.size w w' := by
  go_enter Tryz.func80, Tryz.ntmps80
  go_wp2
  refine bodyPost_ret (v := .tuple #[.agg #[.int .i64 d, .slice A 0 c], .agg #[.int .i64 0, .int .i64 0], .bool false]) (by simp [results, Tryz.results80, go_sem, *]) rfl ?_
  exact ⟨rfl, (by repeat (first | (with_reducible assumption) | (with_reducible exact Below.refl _ _) | (with_reducible apply below_drewL) | (with_reducible apply below_alloc) | (with_reducible apply below_drew1) | (with_reducible apply below_drewN) | (refine below_set ?_ (by first | omega | (simp only [size_alloc, size_drew, size_set]; omega)) _ _)))⟩

theorem push_to {l' : List Spot} {n' : Nat} (A : Option Addr) (c : Nat) (l : List Spot) (n : Nat) (d : Int) (p : Spot) (hl : pushL l p d = l') (hn' : l'.length = n') (S : Nat → Prop) (w : World) (hS : ∀ k, S k → k < w.heap.size) (hC : Row spotT w S A n l) (hd : 0 ≤ d) (hn : n ≤ 5000) (hnc : n ≤ c) (hA : A = none → c = 0) :
    Calls Tryz.prog 79 #[.agg #[.int .i64 d, .slice A n c], .agg #[.int .i64 p.at_, .int .i64 p.mode]] w fun e w' =>
      ∃ A' c', e = .returned (.agg #[.int .i64 d, .slice A' n' c']) ∧ n' ≤ c' ∧ (A' = none → c' = 0) ∧ Row spotT w' (New S w w') A' n' l' ∧ Below w.heap.size w w' := by
  obtain rfl := hC.1
  subst hl
  subst hn'
  exact push_any A c l d p S w hS hC hd hn hnc hA

theorem pop_to (A : Option Addr) (c n : Nat) (l : List Spot) (d : Int) (p : Spot) (S : Nat → Prop) (w : World) (hS : ∀ k, S k → k < w.heap.size) (hC : Row spotT w S A (n + 1) (l ++ [p])) (hn : n ≤ 5000) (hnc : n + 1 ≤ c) :
    Calls Tryz.prog 80 #[.agg #[.int .i64 d, .slice A (n + 1) c]] w fun e w' =>
      e = .returned (.tuple #[.agg #[.int .i64 d, .slice A n n], .agg #[.int .i64 p.at_, .int .i64 p.mode], .bool true]) ∧ Below w.heap.size w w' := by
  have h1 := hC.1
  have h2 : l.length = n := by simpa using h1
  subst h2
  obtain ⟨b, off, _, rfl, _⟩ := hC.get 0 (by omega)
  exact pop_some b off c l d p S w hS hC hn hnc
end Go.Proofs.YtoambcpjdcehhaaGreat.Fn
