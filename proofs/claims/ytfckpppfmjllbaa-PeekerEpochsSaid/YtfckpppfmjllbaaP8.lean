/- The law's own example. -/
import Derived.Test.YtfckpppfmjllbaaP7
namespace Go.Proofs.Ytfckpppfmjllbaa.Fn
open Go Go.RowKit Go.Proofs.Ytfckpppfmjllbaa.Can Go.Proofs.Ytfckpppfmjllbaa.Base
attribute [local go_sem] clsB AB.cell nil33 nil49

def e1 : E := ⟨⟨0, 0⟩, ⟨1, 0, 0, 0, 3, 0⟩⟩
def f1 : Frame := ⟨4, ⟨0, 0⟩, [e1]⟩
theorem row1 {w : World} {g : Nat} (h : w.heap[g]? = some (.cells (eE e1).toArray 57 (0, 0))) : Row eT w (fun k => k = g) (some ⟨g, 0, none⟩) 1 [e1] := by
  refine ⟨rfl, by omega, fun _ => ⟨g, 0, rfl, rfl, fun j p hj => ?_⟩⟩
  cases j with
  | zero =>
    simp at hj; subst hj
    refine ⟨eE e1, rfl, fun i u hu => ?_⟩
    rw [Nat.zero_mul, Nat.add_zero, Nat.zero_add]
    exact blk_cell h i u (by simpa using hu)
  | succ j => simp at hj
theorem one_calls (w : World) : Calls Try.prog 15 #[] w fun e w' => ∃ g, e = .returned (.agg #[.int .i64 4, .int .i64 0, .int .i64 0, .slice (some ⟨g, 0, none⟩) 1 1]) ∧ w.heap.size ≤ g ∧ w'.heap[g]? = some (.cells (eE e1).toArray 57 (0, 0)) ∧ Below w.heap.size w w' := by
  go_enter Try.func15, Try.ntmps15
  go_wp2
  refine bodyPost_ret (results_cell_row rfl _ _ w.heap.size 31 #[.int .i64 4, .int .i64 0, .int .i64 0, .slice (some ⟨w.heap.size + 1, 0, none⟩) 1 1] (0, 0) _ rfl ?_ Try.underlying31 rfl (by kernel_rfl)) rfl ?_
  · exact blk_alloc (blk_new _ _ _ rfl) _
  · exact ⟨_, rfl, by omega, blk_new _ _ _ (by rw [size_alloc]), (by repeat (first | (with_reducible assumption) | (with_reducible exact Below.refl _ _) | (with_reducible apply below_drewL) | (with_reducible apply below_alloc) | (with_reducible apply below_drew1) | (with_reducible apply below_drewN) | (refine below_set ?_ (by first | omega | (simp only [size_alloc, size_drew, size_set]; omega)) _ _)))⟩
def sA : PS := ⟨1, 2, 0, 1, 0, 4, 0, 0, 1, tok0, 1⟩
def sB : PS := ⟨1, 2, 0, 2, 0, 4, 3, 0, 0, ⟨1, 0, 0, 0, 3, 0⟩, 2⟩
def sC : PS := ⟨1, 2, 0, 3, 1, 4, 3, 0, 0, ⟨1, 0, 0, 0, 3, 0⟩, 2⟩
def s0 : PS := ⟨1, 2, 0, 0, 0, 0, 0, 0, 0, tok0, 0⟩
theorem ok0 : Ok s0 := ⟨by decide, by decide, by decide, by decide, by decide, by decide, by decide, by decide⟩
theorem okA : Ok sA := ⟨by decide, by decide, by decide, by decide, by decide, by decide, by decide, by decide⟩
theorem okB : Ok sB := ⟨by decide, by decide, by decide, by decide, by decide, by decide, by decide, by decide⟩
theorem st0 : stepP s0 f1 = sA := rfl
theorem stA : stepP sA f1 = sB := rfl
theorem stB : stepP sB f1 = sC := rfl
set_option maxRecDepth 20000 in
set_option maxHeartbeats 2000000 in
theorem alive_calls (w : World) : Calls Try.prog 6 #[] w fun e w' => e = .returned (.bool true) ∧ Below w.heap.size w w' := by
  have hmf : ∀ (fn : Fn) (first cap : Array Value) (w : World), (Instr.makeFunc fn first cap).run Try.prog w = .ok (.func fn first cap) w := fun _ _ _ _ => rfl
  go_enter Try.func6, Try.ntmps6
  go_wp2_with (first
    | (go_at_call 15; go_must (refine Calls.mono (one_calls w1) ?_; rintro e w2 ⟨g, rfl, hg, hG, hb2⟩; have HP2 := Hd.mk (blk_below HP1.out hb2); have HG2 := Hd.mk hG; have HB2 := Hd.mk (below_seq HB1.out hb2); have hpg : p < g := (by have := blk_lt HP1.out; omega); clear hG hb2))
    | (go_at_call 7; go_must (refine Calls.mono (new_calls 1 2 w) ?_; rintro e w1 ⟨p, rfl, hp, h0, hb1⟩; have HP1 : Hd (w1.heap[p]? = some (.cells (pkC s0) 51 (0, 0))) := ⟨h0⟩; have HB1 := Hd.mk hb1; clear h0 hb1)))
  generalize hV : World.alloc _ _ = V
  have HBV : Below w2.heap.size w2 V := below_of hV (by repeat (first | (with_reducible assumption) | (with_reducible exact Below.refl _ _) | (with_reducible apply below_drewL) | (with_reducible apply below_alloc) | (with_reducible apply below_drew1) | (with_reducible apply below_drewN) | (refine below_set ?_ (by first | omega | (simp only [size_alloc, size_drew, size_set]; omega)) _ _)))
  have zV : Hd (V.heap.size = w2.heap.size + 1) := ⟨by rw [← hV]; simp only [size_alloc]⟩
  have V0 := at_of hV (blk_new _ _ _ rfl)
  have V0l := blk_lt V0
  clear hV
  have HP3 := Hd.mk (blk_below HP2.out HBV); have HG3 := Hd.mk (blk_below HG2.out HBV); have HB3 := Hd.mk (below_seq HB2.out HBV); have HT3 := Hd.mk V0
  have hgw : g < w2.heap.size := blk_lt HG2.out
  have hpw : p < w2.heap.size := blk_lt HP2.out
  generalize w2.heap.size = tt at *
  have V0c0 := blk_cell V0 0 _ rfl
  have V0f0 := blk_frozen V0 0
  have V0c1 := blk_cell V0 1 _ rfl
  have V0f1 := blk_frozen V0 1
  have V0c2 := blk_cell V0 2 _ rfl
  have V0f2 := blk_frozen V0 2
  have V0c3 := blk_cell V0 3 _ rfl
  have V0f3 := blk_frozen V0 3
  clear V0 HBV zV HP2 HG2 HB2 HP1 HB1
  go_wp2_with (first
    | (go_at_call 14; go_must (refine Calls.mono (steps_calls (s := sC) (blk_alloc HP7'.out _)) ?_; rintro e w8 ⟨he, rfl⟩; obtain rfl : e = .returned (.int .i64 3) := he))
    | (go_at_call 10; go_must (refine Calls.mono (token_calls (s := sC) HP6.out) ?_; rintro e w7 ⟨he, hb7⟩; obtain rfl : e = .returned (.tuple #[.agg #[.int .i64 1, .int .i64 0, .int .i64 0, .int .i64 0, .int .i64 3, .int .i64 0], .bool true]) := he; have HP7' := Hd.mk (blk_below HP6.out hb7); have HB7 := Hd.mk (below_seq HB6.out hb7); clear hb7))
    | (go_at_call 8; have hq_ := HP5; clear hq_; go_must (refine Calls.mono (step_calls f1 (some ⟨g, 0, none⟩) 1 (fun k => k = g) HP5.out okB (fun k hk => by subst hk; exact ⟨blk_lt HG5.out, by omega⟩) (row1 HG5.out)) ?_; rintro e w6 ⟨he, h, f⟩; rw [stB] at he h; obtain rfl : e = .returned (.int .i64 1) := he; have HP6 := Hd.mk h; have HG6 := Hd.mk (f.blk HG5.out (by omega)); have HT6 := Hd.mk (f.blk HT5.out (by omega)); have ht := HT6.out; have htc0 := blk_cell ht 0 _ rfl; have htf0 := blk_frozen ht 0; have htc1 := blk_cell ht 1 _ rfl; have htf1 := blk_frozen ht 1; have htc2 := blk_cell ht 2 _ rfl; have htf2 := blk_frozen ht 2; have htc3 := blk_cell ht 3 _ rfl; have htf3 := blk_frozen ht 3; have htl := blk_lt ht; have HB6 : Hd (Below w.heap.size w w6) := ⟨Fr.seq HB5.out f HB5.out.size (fun b hb hx => by omega)⟩; clear h f ht))
    | (go_at_call 8; have hq_ := HP4; clear hq_; go_must (refine Calls.mono (step_calls f1 (some ⟨g, 0, none⟩) 1 (fun k => k = g) HP4.out okA (fun k hk => by subst hk; exact ⟨blk_lt HG4.out, by omega⟩) (row1 HG4.out)) ?_; rintro e w5 ⟨he, h, f⟩; rw [stA] at he h; obtain rfl : e = .returned (.int .i64 0) := he; have HP5 := Hd.mk h; have HG5 := Hd.mk (f.blk HG4.out (by omega)); have HT5 := Hd.mk (f.blk HT4.out (by omega)); have ht := HT5.out; have htc0 := blk_cell ht 0 _ rfl; have htf0 := blk_frozen ht 0; have htc1 := blk_cell ht 1 _ rfl; have htf1 := blk_frozen ht 1; have htc2 := blk_cell ht 2 _ rfl; have htf2 := blk_frozen ht 2; have htc3 := blk_cell ht 3 _ rfl; have htf3 := blk_frozen ht 3; have htl := blk_lt ht; have HB5 : Hd (Below w.heap.size w w5) := ⟨Fr.seq HB4.out f HB4.out.size (fun b hb hx => by omega)⟩; clear h f ht))
    | (go_at_call 8; have hq_ := HP3; clear hq_; go_must (refine Calls.mono (step_calls f1 (some ⟨g, 0, none⟩) 1 (fun k => k = g) HP3.out ok0 (fun k hk => by subst hk; exact ⟨blk_lt HG3.out, by omega⟩) (row1 HG3.out)) ?_; rintro e w4 ⟨he, h, f⟩; rw [st0] at he h; obtain rfl : e = .returned (.int .i64 0) := he; have HP4 := Hd.mk h; have HG4 := Hd.mk (f.blk HG3.out (by omega)); have HT4 := Hd.mk (f.blk HT3.out (by omega)); have ht := HT4.out; have htc0 := blk_cell ht 0 _ rfl; have htf0 := blk_frozen ht 0; have htc1 := blk_cell ht 1 _ rfl; have htf1 := blk_frozen ht 1; have htc2 := blk_cell ht 2 _ rfl; have htf2 := blk_frozen ht 2; have htc3 := blk_cell ht 3 _ rfl; have htf3 := blk_frozen ht 3; have htl := blk_lt ht; have HB4 : Hd (Below w.heap.size w w4) := ⟨Fr.seq HB3.out f HB3.out.size (fun b hb hx => by omega)⟩; clear h f ht)))
  go_ret
  exact ⟨rfl, below_seq HB7.out (by repeat (first | (with_reducible assumption) | (with_reducible exact Below.refl _ _) | (with_reducible apply below_drewL) | (with_reducible apply below_alloc) | (with_reducible apply below_drew1) | (with_reducible apply below_drewN) | (refine below_set ?_ (by first | omega | (simp only [size_alloc, size_drew, size_set]; omega)) _ _)))⟩
end Go.Proofs.Ytfckpppfmjllbaa.Fn
