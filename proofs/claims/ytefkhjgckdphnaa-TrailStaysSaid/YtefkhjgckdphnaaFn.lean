/- What Push computes: the trail with the spot behind it, the oldest struck where it is full. -/
import Derived.Test.YtefkhjgckdphnaaProg
import Derived.Test.YtefkhjgckdphnaaBase
namespace Go.Proofs.Ytefkhjgckdphnaa.Fn
open Go Go.RowKit Go.Proofs.Ytefkhjgckdphnaa.Can Go.Proofs.Ytefkhjgckdphnaa.Base
attribute [local go_sem] clsB AB.cell
theorem info28 : (Try.prog.info? 28).map (fun i => (i.zero, i.size, i.bytes)) = some (some (.agg #[(.int .i64 0), (.int .i64 0)]), 2, 16) := by kernel_rfl

/-- A spot. -/
structure Spot where
  at_ : Int
  mode : Int
  deriving DecidableEq
def spotE (s : Spot) : List Value := [.int .i64 s.at_, .int .i64 s.mode]
def spotT : Ty Spot := Ty.flat 2 spotE (fun _ => rfl) (fun _ u hu => by simp [spotE] at hu; rcases hu with rfl | rfl <;> rfl)
theorem eq28 (d : Nat) (w : World) (x0 x1 y0 y1 : Int) :
    (Op.equalIn (d + 2) 28 (.agg #[.int .i64 x0, .int .i64 x1]) (.agg #[.int .i64 y0, .int .i64 y1])).run Try.prog w = .ok (x0 == y0 && x1 == y1) w := by
  refine eq_struct Try.underlying28 (by kernel_rfl) ?_
  cases h0 : (x0 == y0) <;> cases h1 : (x1 == y1) <;> simp [Op.eqFields, go_sem, h0, h1]
theorem nil22 (W : World) (a : Option Addr) (n c : Nat) : (binOp .eql 22 (.slice a n c) (.slice none 0 0)).run Try.prog W = .ok (.bool a.isNone) W := Lib.run_eql_slice_nil W _ _ a n c 0 0 Try.underlying22
/-- What a call has made. -/
def New (S : Nat → Prop) (w w' : World) : Nat → Prop := fun k => S k ∨ (w.heap.size ≤ k ∧ k < w'.heap.size)

/-- What a push makes. -/
def pushL (l : List Spot) (p : Spot) (d : Int) : List Spot := if d = 0 then l else if d ≤ l.length then l.drop 1 ++ [p] else l ++ [p]


set_option maxHeartbeats 1000000 in
theorem push_room (A : Option Addr) (c : Nat) (l : List Spot) (d : Int) (p : Spot) (S : Nat → Prop) (w : World) (hS : ∀ k, S k → k < w.heap.size) (hC : Row spotT w S A l.length l) (hd0 : ¬ d = 0) (hd : (l.length : Int) < d) (hn : l.length ≤ 5000) (hnc : l.length ≤ c) :
    Calls Try.prog 8 #[.agg #[.int .i64 d, .slice A l.length c], .agg #[.int .i64 p.at_, .int .i64 p.mode]] w fun e w' =>
      ∃ A' c', e = .returned (.agg #[.int .i64 d, .slice A' (l.length + 1) c']) ∧ l.length + 1 ≤ c' ∧ (A' = none → c' = 0) ∧ Row spotT w' (New S w w') A' (l.length + 1) (l ++ [p]) ∧ Below w.heap.size w w' := by
  have HC := Hd.mk hC; clear hC
  have HS := Hd.mk hS; clear hS
  go_enter Try.func8, Try.ntmps8
  go_wp2
  generalize hV : World.alloc _ _ = V
  have HBV : Below w.heap.size w V := below_of hV (by repeat (first | (with_reducible assumption) | (with_reducible exact Below.refl _ _) | (with_reducible apply below_drewL) | (with_reducible apply below_alloc) | (with_reducible apply below_drew1) | (with_reducible apply below_drewN) | (refine below_set ?_ (by first | omega | (simp only [size_alloc, size_drew, size_set]; omega)) _ _)))
  have zV : Hd (V.heap.size = w.heap.size + 1 + 1 + 1) := ⟨by rw [← hV]; simp only [size_alloc]⟩
  have V0 := at_of hV (blk_alloc (blk_alloc (blk_new _ _ _ rfl) _) _)
  have V0l := blk_lt V0
  have V1 := at_of hV (blk_alloc (blk_new _ _ _ rfl) _)
  simp only [size_alloc] at V1
  have V1l := blk_lt V1
  have V2 := at_of hV (blk_new _ _ _ rfl)
  simp only [size_alloc] at V2
  have V2l := blk_lt V2
  clear hV
  have V0c0 := blk_cell V0 0 _ rfl
  have V0f0 := blk_frozen V0 0
  have V0c1 := blk_cell V0 1 _ rfl
  have V0f1 := blk_frozen V0 1
  have V1c0 := blk_cell V1 0 _ rfl
  have V1f0 := blk_frozen V1 0
  have V1c1 := blk_cell V1 1 _ rfl
  have V1f1 := blk_frozen V1 1
  have V2c0 := blk_cell V2 0 _ rfl
  have V2f0 := blk_frozen V2 0
  have V2c1 := blk_cell V2 1 _ rfl
  have V2f1 := blk_frozen V2 1
  refine wp_region_can (.q [0, 1, 2, 3] (.e 4 true (.e 5 true (.q [6] (.e 7 false (.done)))))) (clsB _) (by kernel_rfl) (by kernel_rfl) (by intro _ _ d _ _ h; cases d <;> exact h) (clsB_drew _) ?_
  refine can_q (l := [⟨_,_,_,_,_,_⟩, ⟨_,_,_,_,_,_⟩, ⟨_,_,_,_,_,_⟩, ⟨_,_,_,_,_,_⟩]) rfl ?_
  repeat (go_big_quiet_step (fail))
  refine wpQuiet_nil ?_
  refine can_e (o := ⟨_,_,_,_,_,_⟩) rfl (fun K hK => ?_)
  go_wp2_with fail
  refine onK_normal (hK _ _ ⟨clsB _, (by first | exact clsB_drew _ | exact clsB_self _), fun _ => clsB_next (by first | exact ((by repeat (first | (with_reducible assumption) | (with_reducible exact Below.refl _ _) | (with_reducible apply below_drewL) | (with_reducible apply below_alloc) | (with_reducible apply below_drew1) | (with_reducible apply below_drewN) | (refine below_set ?_ (by first | omega | (simp only [size_alloc, size_drew, size_set]; omega)) _ _)))) | exact below_undrew ((by repeat (first | (with_reducible assumption) | (with_reducible exact Below.refl _ _) | (with_reducible apply below_drewL) | (with_reducible apply below_alloc) | (with_reducible apply below_drew1) | (with_reducible apply below_drewN) | (refine below_set ?_ (by first | omega | (simp only [size_alloc, size_drew, size_set]; omega)) _ _))))), ?_⟩)
  clear hK K
  refine can_e (o := ⟨_,_,_,_,_,_⟩) rfl (fun K hK => ?_)
  go_wp2_with (at_builtin; refine append_full spotT (S := S) rfl (.tmp 27) (.tmp 29) 22 28 _ 16 rfl (by rfl) info28 rfl (by decide) (by decide) A (l.length) (l) p (spotE p) V.heap.size rfl rfl (by rw [heap_drew]; exact blk_new _ _ _ rfl) (HC.out.below HS.out (by repeat (first | (with_reducible assumption) | (with_reducible exact Below.refl _ _) | (with_reducible apply below_drewL) | (with_reducible apply below_alloc) | (with_reducible apply below_drew1) | (with_reducible apply below_drewN) | (refine below_set ?_ (by first | omega | (simp only [size_alloc, size_drew, size_set]; omega)) _ _)))) rfl (by omega) ?_; intro A1 c1 w1 hc1 hC1 hb1)
  have BK := blk_below (blk_drew (blk_alloc V2 _)) hb1
  have HB1 : Below w.heap.size w w1 := below_seq (by repeat (first | (with_reducible assumption) | (with_reducible exact Below.refl _ _) | (with_reducible apply below_drewL) | (with_reducible apply below_alloc) | (with_reducible apply below_drew1) | (with_reducible apply below_drewN) | (refine below_set ?_ (by first | omega | (simp only [size_alloc, size_drew, size_set]; omega)) _ _))) hb1
  refine onK_normal (hK _ _ ⟨clsB _, (by first | exact clsB_drew _ | exact clsB_self _), fun _ => clsB_next (by first | exact (hb1) | exact below_undrew (hb1)), ?_⟩)
  clear hK K
  refine can_q (l := [⟨_,_,_,_,_,_⟩]) rfl ?_
  repeat (go_big_quiet_step (fail))
  refine wpQuiet_nil ?_
  refine can_e (o := ⟨_,_,_,_,_,_⟩) rfl (fun K hK => ?_)
  have BKc0 := blk_cell BK 0 _ rfl
  have BKf0 := blk_frozen BK 0
  have BKc1 := blk_cell BK 1 _ rfl
  have BKf1 := blk_frozen BK 1
  go_wp2_with fail
  refine onK_normal (hK _ _ ⟨fun _ => True, trivial, (fun h => by cases h), ?_⟩)
  clear hK K
  refine can_done ?_
  go_wp2
  refine bodyPost_ret (results_cell_row rfl _ _ (w.heap.size + 1 + 1) 25 #[.int .i64 d, .slice A1 (l.length + 1) c1] (0, 0) _ rfl (blk_set (blk_set BK 0 _ _ rfl) 1 _ _ rfl) Try.underlying25 rfl (by kernel_rfl)) rfl ?_
  have hz1 := hb1.size
  have hzV := zV.out
  simp only [size_alloc, size_drew] at hz1
  refine ⟨A1, c1, rfl, hc1, fun h => absurd h (hC1.some_of (by omega)), ?_, below_set (below_set HB1 (by omega) _ _) (by omega) _ _⟩
  refine Row.mono ((hC1.set (fun b hb => ?_) _).set (fun b hb => ?_) _) (fun b hb => ?_)
  · rcases hb with ⟨hb, _⟩ | ⟨hb, _⟩
    · have := HS.out b hb; omega
    · simp only [size_alloc, size_drew] at hb; omega
  · rcases hb with ⟨hb, _⟩ | ⟨hb, _⟩
    · have := HS.out b hb; omega
    · simp only [size_alloc, size_drew] at hb; omega
  · rcases hb with ⟨hb, _⟩ | ⟨hb, _⟩
    · exact .inl hb
    · right; simp only [size_alloc, size_drew, size_set] at hb ⊢; omega

set_option maxHeartbeats 1000000 in
theorem push_full (A : Option Addr) (c : Nat) (l : List Spot) (d : Int) (p : Spot) (S : Nat → Prop) (w : World) (hS : ∀ k, S k → k < w.heap.size) (hC : Row spotT w S A l.length l) (hd0 : 0 < d) (hd : d ≤ (l.length : Int)) (hn : l.length ≤ 5000) (hnc : l.length ≤ c) :
    Calls Try.prog 8 #[.agg #[.int .i64 d, .slice A l.length c], .agg #[.int .i64 p.at_, .int .i64 p.mode]] w fun e w' =>
      ∃ A' c', e = .returned (.agg #[.int .i64 d, .slice A' (l.length - 1 + 1) c']) ∧ l.length - 1 + 1 ≤ c' ∧ (A' = none → c' = 0) ∧ Row spotT w' (New S w w') A' (l.length - 1 + 1) (l.drop 1 ++ [p]) ∧ Below w.heap.size w w' := by
  obtain ⟨i0, hi, _, hi2, _⟩ := info_of info28
  obtain ⟨A0, hcut, hrow, _⟩ := cut_from spotT 22 28 Try.underlying22 hi hi2 A l.length l.length 1 (by omega) (Nat.le_refl _)
  have hcut1 : ∀ W, (Instr.slice 22 (.slice A l.length l.length) (some (.int .i64 1)) none none).run Try.prog W = .ok (.slice A0 (l.length - 1) (l.length - 1)) W := fun W => hcut W .i64
  have HC := Hd.mk (hrow w S l hC); clear hC hrow hcut hi
  have HS := Hd.mk hS; clear hS
  have hd1 : ¬ d = 0 := by omega
  go_enter Try.func8, Try.ntmps8
  go_wp2
  generalize hV : World.alloc _ _ = V
  have HBV : Below w.heap.size w V := below_of hV (by repeat (first | (with_reducible assumption) | (with_reducible exact Below.refl _ _) | (with_reducible apply below_drewL) | (with_reducible apply below_alloc) | (with_reducible apply below_drew1) | (with_reducible apply below_drewN) | (refine below_set ?_ (by first | omega | (simp only [size_alloc, size_drew, size_set]; omega)) _ _)))
  have zV : Hd (V.heap.size = w.heap.size + 1 + 1 + 1) := ⟨by rw [← hV]; simp only [size_alloc]⟩
  have V0 := at_of hV (blk_alloc (blk_alloc (blk_new _ _ _ rfl) _) _)
  have V0l := blk_lt V0
  have V1 := at_of hV (blk_alloc (blk_new _ _ _ rfl) _)
  simp only [size_alloc] at V1
  have V1l := blk_lt V1
  have V2 := at_of hV (blk_new _ _ _ rfl)
  simp only [size_alloc] at V2
  have V2l := blk_lt V2
  clear hV
  have V0c0 := blk_cell V0 0 _ rfl
  have V0f0 := blk_frozen V0 0
  have V0c1 := blk_cell V0 1 _ rfl
  have V0f1 := blk_frozen V0 1
  have V1c0 := blk_cell V1 0 _ rfl
  have V1f0 := blk_frozen V1 0
  have V1c1 := blk_cell V1 1 _ rfl
  have V1f1 := blk_frozen V1 1
  have V2c0 := blk_cell V2 0 _ rfl
  have V2f0 := blk_frozen V2 0
  have V2c1 := blk_cell V2 1 _ rfl
  have V2f1 := blk_frozen V2 1
  refine wp_region_can (.q [0, 1, 2, 3] (.e 4 true (.e 5 true (.q [6] (.e 7 false (.done)))))) (clsB _) (by kernel_rfl) (by kernel_rfl) (by intro _ _ d _ _ h; cases d <;> exact h) (clsB_drew _) ?_
  refine can_q (l := [⟨_,_,_,_,_,_⟩, ⟨_,_,_,_,_,_⟩, ⟨_,_,_,_,_,_⟩, ⟨_,_,_,_,_,_⟩]) rfl ?_
  repeat (go_big_quiet_step (fail))
  refine wpQuiet_nil ?_
  refine can_e (o := ⟨_,_,_,_,_,_⟩) rfl (fun K hK => ?_)
  go_wp2_with fail
  refine onK_normal (hK _ _ ⟨clsB _, (by first | exact clsB_drew _ | exact clsB_self _), fun _ => clsB_next (by first | exact ((by repeat (first | (with_reducible assumption) | (with_reducible exact Below.refl _ _) | (with_reducible apply below_drewL) | (with_reducible apply below_alloc) | (with_reducible apply below_drew1) | (with_reducible apply below_drewN) | (refine below_set ?_ (by first | omega | (simp only [size_alloc, size_drew, size_set]; omega)) _ _)))) | exact below_undrew ((by repeat (first | (with_reducible assumption) | (with_reducible exact Below.refl _ _) | (with_reducible apply below_drewL) | (with_reducible apply below_alloc) | (with_reducible apply below_drew1) | (with_reducible apply below_drewN) | (refine below_set ?_ (by first | omega | (simp only [size_alloc, size_drew, size_set]; omega)) _ _))))), ?_⟩)
  clear hK K
  refine can_e (o := ⟨_,_,_,_,_,_⟩) rfl (fun K hK => ?_)
  go_wp2_with (at_builtin; refine append_full spotT (S := S) rfl (.tmp 27) (.tmp 29) 22 28 _ 16 rfl (by rfl) info28 rfl (by decide) (by decide) A0 (l.length - 1) (l.drop 1) p (spotE p) V.heap.size rfl rfl (by rw [heap_drew]; exact blk_new _ _ _ rfl) (HC.out.below HS.out (by repeat (first | (with_reducible assumption) | (with_reducible exact Below.refl _ _) | (with_reducible apply below_drewL) | (with_reducible apply below_alloc) | (with_reducible apply below_drew1) | (with_reducible apply below_drewN) | (refine below_set ?_ (by first | omega | (simp only [size_alloc, size_drew, size_set]; omega)) _ _)))) rfl (by omega) ?_; intro A1 c1 w1 hc1 hC1 hb1)
  have BK := blk_below (blk_drew (blk_alloc V2 _)) hb1
  have HB1 : Below w.heap.size w w1 := below_seq (by repeat (first | (with_reducible assumption) | (with_reducible exact Below.refl _ _) | (with_reducible apply below_drewL) | (with_reducible apply below_alloc) | (with_reducible apply below_drew1) | (with_reducible apply below_drewN) | (refine below_set ?_ (by first | omega | (simp only [size_alloc, size_drew, size_set]; omega)) _ _))) hb1
  refine onK_normal (hK _ _ ⟨clsB _, (by first | exact clsB_drew _ | exact clsB_self _), fun _ => clsB_next (by first | exact (hb1) | exact below_undrew (hb1)), ?_⟩)
  clear hK K
  refine can_q (l := [⟨_,_,_,_,_,_⟩]) rfl ?_
  repeat (go_big_quiet_step (fail))
  refine wpQuiet_nil ?_
  refine can_e (o := ⟨_,_,_,_,_,_⟩) rfl (fun K hK => ?_)
  have BKc0 := blk_cell BK 0 _ rfl
  have BKf0 := blk_frozen BK 0
  have BKc1 := blk_cell BK 1 _ rfl
  have BKf1 := blk_frozen BK 1
  go_wp2_with fail
  refine onK_normal (hK _ _ ⟨fun _ => True, trivial, (fun h => by cases h), ?_⟩)
  clear hK K
  refine can_done ?_
  go_wp2
  refine bodyPost_ret (results_cell_row rfl _ _ (w.heap.size + 1 + 1) 25 #[.int .i64 d, .slice A1 (l.length - 1 + 1) c1] (0, 0) _ rfl (blk_set (blk_set BK 0 _ _ rfl) 1 _ _ rfl) Try.underlying25 rfl (by kernel_rfl)) rfl ?_
  have hz1 := hb1.size
  have hzV := zV.out
  simp only [size_alloc, size_drew] at hz1
  refine ⟨A1, c1, rfl, hc1, fun h => absurd h (hC1.some_of (by omega)), ?_, below_set (below_set HB1 (by omega) _ _) (by omega) _ _⟩
  refine Row.mono ((hC1.set (fun b hb => ?_) _).set (fun b hb => ?_) _) (fun b hb => ?_)
  · rcases hb with ⟨hb, _⟩ | ⟨hb, _⟩
    · have := HS.out b hb; omega
    · simp only [size_alloc, size_drew] at hb; omega
  · rcases hb with ⟨hb, _⟩ | ⟨hb, _⟩
    · have := HS.out b hb; omega
    · simp only [size_alloc, size_drew] at hb; omega
  · rcases hb with ⟨hb, _⟩ | ⟨hb, _⟩
    · exact .inl hb
    · right; simp only [size_alloc, size_drew, size_set] at hb ⊢; omega

set_option maxHeartbeats 1000000 in
theorem push_zero (A : Option Addr) (c n : Nat) (p : Spot) (w : World) :
    Calls Try.prog 8 #[.agg #[.int .i64 0, .slice A n c], .agg #[.int .i64 p.at_, .int .i64 p.mode]] w fun e w' =>
      e = .returned (.agg #[.int .i64 0, .slice A n c]) ∧ Below w.heap.size w w' := by
  go_enter Try.func8, Try.ntmps8
  go_wp2
  refine bodyPost_ret (v := .agg #[.int .i64 0, .slice A n c]) (by simp [results, Try.results8, go_sem, *]) rfl ?_
  exact ⟨rfl, (by repeat (first | (with_reducible assumption) | (with_reducible exact Below.refl _ _) | (with_reducible apply below_drewL) | (with_reducible apply below_alloc) | (with_reducible apply below_drew1) | (with_reducible apply below_drewN) | (refine below_set ?_ (by first | omega | (simp only [size_alloc, size_drew, size_set]; omega)) _ _)))⟩

/-- Push, whatever there is. -/
theorem push_any (A : Option Addr) (c : Nat) (l : List Spot) (d : Int) (p : Spot) (S : Nat → Prop) (w : World) (hS : ∀ k, S k → k < w.heap.size) (hC : Row spotT w S A l.length l) (hd : 0 ≤ d) (hn : l.length ≤ 5000) (hnc : l.length ≤ c) (hA : A = none → c = 0) :
    Calls Try.prog 8 #[.agg #[.int .i64 d, .slice A l.length c], .agg #[.int .i64 p.at_, .int .i64 p.mode]] w fun e w' =>
      ∃ A' c', e = .returned (.agg #[.int .i64 d, .slice A' (pushL l p d).length c']) ∧ (pushL l p d).length ≤ c' ∧ (A' = none → c' = 0) ∧ Row spotT w' (New S w w') A' (pushL l p d).length (pushL l p d) ∧ Below w.heap.size w w' := by
  unfold pushL
  by_cases h0 : d = 0
  · subst h0
    simp only [if_true]
    refine (push_zero A c l.length p w).mono ?_
    rintro e w' ⟨rfl, hb⟩
    exact ⟨A, c, rfl, hnc, hA, (hC.below hS hb).mono (fun _ h => .inl h), hb⟩
  · rw [if_neg h0]
    by_cases h1 : d ≤ l.length
    · rw [if_pos h1]
      have e1 : (l.drop 1 ++ [p]).length = l.length - 1 + 1 := by simp
      rw [e1]
      exact push_full A c l d p S w hS hC (by omega) h1 hn hnc
    · rw [if_neg h1]
      have e1 : (l ++ [p]).length = l.length + 1 := by simp
      rw [e1]
      exact push_room A c l d p S w hS hC h0 (by omega) hn hnc
end Go.Proofs.Ytefkhjgckdphnaa.Fn
