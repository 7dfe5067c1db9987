/- A desk that nobody made. -/
import Derived.Test.YtipehakaiiofiaaT6
namespace Go.Proofs.Ytipehakaiiofiaa.Fn
open Go Go.RowKit Go.Proofs.Ytipehakaiiofiaa.Can Go.Proofs.Ytipehakaiiofiaa.Base
attribute [local go_sem] clsB AB.cell

/-- No pointer, or one to a desk of zeros. -/
def Nob (w : World) (v : Value) : Prop := v = .pointer none ∨ ∃ p, v = .pointer (some ⟨p, 0, none⟩) ∧ w.heap[p]? = some (.cells #[.slice none 0 0, .int .i64 0, .int .i64 0, .int .i64 0] 42 (0, 0))
theorem nob30 {w : World} {v : Value} (h : Nob w v) : Calls Try.prog 30 #[v] w fun e w' => e = .returned (.int .i64 0) ∧ w' = w := by
  rcases h with rfl | ⟨p, rfl, hs⟩
  · go_enter Try.func30, Try.ntmps30
    go_wp2
    go_ret
    exact ⟨rfl, rfl⟩
  · have hsc0 := blk_cell hs 0 _ rfl; have hsf0 := blk_frozen hs 0; have hsc1 := blk_cell hs 1 _ rfl; have hsf1 := blk_frozen hs 1; have hsc2 := blk_cell hs 2 _ rfl; have hsf2 := blk_frozen hs 2; have hsc3 := blk_cell hs 3 _ rfl; have hsf3 := blk_frozen hs 3; have hsl := blk_lt hs
    go_enter Try.func30, Try.ntmps30
    go_wp2
    go_ret
    exact ⟨rfl, rfl⟩
theorem nob12 {w : World} {v : Value} (h : Nob w v) : Calls Try.prog 12 #[v] w fun e w' => e = .returned (.int .i64 0) ∧ w' = w := by
  rcases h with rfl | ⟨p, rfl, hs⟩
  · go_enter Try.func12, Try.ntmps12
    go_wp2
    go_ret
    exact ⟨rfl, rfl⟩
  · have hsc0 := blk_cell hs 0 _ rfl; have hsf0 := blk_frozen hs 0; have hsc1 := blk_cell hs 1 _ rfl; have hsf1 := blk_frozen hs 1; have hsc2 := blk_cell hs 2 _ rfl; have hsf2 := blk_frozen hs 2; have hsc3 := blk_cell hs 3 _ rfl; have hsf3 := blk_frozen hs 3; have hsl := blk_lt hs
    go_enter Try.func12, Try.ntmps12
    go_wp2
    go_ret
    exact ⟨rfl, rfl⟩
theorem nob13 {w : World} {v : Value} (h : Nob w v) : Calls Try.prog 13 #[v] w fun e w' => e = .returned (.int .i64 0) ∧ w' = w := by
  rcases h with rfl | ⟨p, rfl, hs⟩
  · go_enter Try.func13, Try.ntmps13
    go_wp2
    go_ret
    exact ⟨rfl, rfl⟩
  · have hsc0 := blk_cell hs 0 _ rfl; have hsf0 := blk_frozen hs 0; have hsc1 := blk_cell hs 1 _ rfl; have hsf1 := blk_frozen hs 1; have hsc2 := blk_cell hs 2 _ rfl; have hsf2 := blk_frozen hs 2; have hsc3 := blk_cell hs 3 _ rfl; have hsf3 := blk_frozen hs 3; have hsl := blk_lt hs
    go_enter Try.func13, Try.ntmps13
    go_wp2
    go_ret
    exact ⟨rfl, rfl⟩
theorem nob14 {w : World} {v : Value} (h : Nob w v) : Calls Try.prog 14 #[v] w fun e w' => e = .returned (.int .i64 0) ∧ w' = w := by
  have H := Hd.mk h; clear h
  go_enter Try.func14, Try.ntmps14
  go_wp2_with (first | (go_at_call 30; go_must (refine Calls.mono (nob30 H.out) ?_; rintro e w1 ⟨rfl, rfl⟩)) | (go_at_call 12; go_must (refine Calls.mono (nob12 H.out) ?_; rintro e w1 ⟨rfl, rfl⟩)))
  go_ret
  exact ⟨rfl, rfl⟩
theorem nob8 {w : World} {v : Value} (h : Nob w v) : Calls Try.prog 8 #[v] w fun e w' => e = .returned (.bool false) ∧ w' = w := by
  have H := Hd.mk h; clear h
  go_enter Try.func8, Try.ntmps8
  go_wp2_with (first | (go_at_call 14; go_must (refine Calls.mono (nob14 H.out) ?_; rintro e w1 ⟨rfl, rfl⟩)) | (go_at_call 13; go_must (refine Calls.mono (nob13 H.out) ?_; rintro e w1 ⟨rfl, rfl⟩)) | (go_at_call 12; go_must (refine Calls.mono (nob12 H.out) ?_; rintro e w1 ⟨rfl, rfl⟩)))
  go_ret
  exact ⟨rfl, rfl⟩
theorem nob11 {w : World} {v : Value} (h : Nob w v) : Calls Try.prog 11 #[v] w fun e w' => e = .returned (.bool false) ∧ w' = w := by
  have H := Hd.mk h; clear h
  go_enter Try.func11, Try.ntmps11
  go_wp2_with (first | (go_at_call 14; go_must (refine Calls.mono (nob14 H.out) ?_; rintro e w1 ⟨rfl, rfl⟩)) | (go_at_call 13; go_must (refine Calls.mono (nob13 H.out) ?_; rintro e w1 ⟨rfl, rfl⟩)) | (go_at_call 12; go_must (refine Calls.mono (nob12 H.out) ?_; rintro e w1 ⟨rfl, rfl⟩)))
  go_ret
  exact ⟨rfl, rfl⟩
theorem nob9 (n : Int) {w : World} {v : Value} (h : Nob w v) : Calls Try.prog 9 #[v, .int .i64 n] w fun e w' => e = .returned (.bool false) ∧ w' = w := by
  have H := Hd.mk h; clear h
  go_enter Try.func9, Try.ntmps9
  go_wp2_with (first | (go_at_call 13; go_must (refine Calls.mono (nob13 H.out) ?_; rintro e w1 ⟨rfl, rfl⟩)) | (go_at_call 12; go_must (refine Calls.mono (nob12 H.out) ?_; rintro e w1 ⟨rfl, rfl⟩)))
  go_ret
  exact ⟨rfl, rfl⟩
theorem nob20 {w : World} {v : Value} (h : Nob w v) : Calls Try.prog 20 #[v] w fun e w' => e = .returned (.tuple #[.int .i64 0, .bool false]) ∧ w' = w := by
  have H := Hd.mk h; clear h
  go_enter Try.func20, Try.ntmps20
  go_wp2_with (first | (go_at_call 13; go_must (refine Calls.mono (nob13 H.out) ?_; rintro e w1 ⟨rfl, rfl⟩)))
  go_ret2
  exact ⟨rfl, rfl⟩
theorem nob10 {w : World} {v : Value} (h : Nob w v) : Calls Try.prog 10 #[v] w fun e w' => e = .returned (.tuple #[.int .i64 0, .bool false]) ∧ w' = w := by
  have H := Hd.mk h; clear h
  go_enter Try.func10, Try.ntmps10
  go_wp2_with (first | (go_at_call 20; go_must (refine Calls.mono (nob20 H.out) ?_; rintro e w1 ⟨rfl, rfl⟩)))
  go_ret2
  exact ⟨rfl, rfl⟩
theorem nob22 {w : World} {v : Value} (h : Nob w v) : Calls Try.prog 22 #[v] w fun e w' => e = .returned (.slice none 0 0) ∧ w' = w := by
  have H := Hd.mk h; clear h
  go_enter Try.func22, Try.ntmps22
  go_wp2_with (first | (go_at_call 13; go_must (refine Calls.mono (nob13 H.out) ?_; rintro e w1 ⟨rfl, rfl⟩)))
  go_loopw [3, 7] (fun o i wr => o = .slice none 0 0 ∧ i = .int .i64 0 ∧ wr = w1) (fun _ _ _ => 0)
  case atStart => exact ⟨rfl, rfl, rfl⟩
  case round =>
    obtain ⟨rfl, rfl, rfl⟩ := hrel
    go_wp2
    go_ret
    exact ⟨rfl, rfl⟩

set_option maxRecDepth 20000 in
set_option maxHeartbeats 2000000 in
theorem nobody_calls (n : Int) (w : World) : Calls Try.prog 5 #[.int .i64 n] w fun e w' => e = .returned (.bool true) ∧ Below w.heap.size w w' := by
  have H0 : Hd (∀ w, Nob w (.pointer none)) := ⟨fun _ => .inl rfl⟩
  go_enter Try.func5, Try.ntmps5
  go_wp2_with fail
  generalize hV : World.alloc _ _ = V
  have HBV : Below w.heap.size w V := below_of hV (by repeat (first | (with_reducible assumption) | (with_reducible exact Below.refl _ _) | (with_reducible apply below_drewL) | (with_reducible apply below_alloc) | (with_reducible apply below_drew1) | (with_reducible apply below_drewN) | (refine below_set ?_ (by first | omega | (simp only [size_alloc, size_drew, size_set]; omega)) _ _)))
  have zV : Hd (V.heap.size = w.heap.size + 1) := ⟨by rw [← hV]; simp only [size_alloc]⟩
  have V0 := at_of hV (blk_new _ _ _ rfl)
  have V0l := blk_lt V0
  clear hV
  have HB := Hd.mk HBV; clear HBV
  have HZ : Hd (Nob V (.pointer (some ⟨w.heap.size, 0, none⟩))) := ⟨.inr ⟨_, rfl, V0⟩⟩
  clear V0 V0l zV
  go_wp2_with (first
    | (go_at_call 6; go_must (refine Calls.mono (alive_calls _) ?_; rintro e w9 ⟨rfl, hb⟩))
    | (go_at_call 22; go_must (refine Calls.mono (nob22 (by first | exact H0.out _ | exact HZ.out)) ?_; rintro e w1 ⟨rfl, rfl⟩))
    | (go_at_call 14; go_must (refine Calls.mono (nob14 (by first | exact H0.out _ | exact HZ.out)) ?_; rintro e w1 ⟨rfl, rfl⟩))
    | (go_at_call 13; go_must (refine Calls.mono (nob13 (by first | exact H0.out _ | exact HZ.out)) ?_; rintro e w1 ⟨rfl, rfl⟩))
    | (go_at_call 12; go_must (refine Calls.mono (nob12 (by first | exact H0.out _ | exact HZ.out)) ?_; rintro e w1 ⟨rfl, rfl⟩))
    | (go_at_call 11; go_must (refine Calls.mono (nob11 (by first | exact H0.out _ | exact HZ.out)) ?_; rintro e w1 ⟨rfl, rfl⟩))
    | (go_at_call 9; go_must (refine Calls.mono (nob9 n (by first | exact H0.out _ | exact HZ.out)) ?_; rintro e w1 ⟨rfl, rfl⟩))
    | (go_at_call 8; go_must (refine Calls.mono (nob8 (by first | exact H0.out _ | exact HZ.out)) ?_; rintro e w1 ⟨rfl, rfl⟩))
    | (go_at_call 20; go_must (refine Calls.mono (nob20 (by first | exact H0.out _ | exact HZ.out)) ?_; rintro e w1 ⟨rfl, rfl⟩))
    | (go_at_call 10; go_must (refine Calls.mono (nob10 (by first | exact H0.out _ | exact HZ.out)) ?_; rintro e w1 ⟨rfl, rfl⟩)))
  go_ret
  exact ⟨rfl, below_seq HB.out hb⟩
end Go.Proofs.Ytipehakaiiofiaa.Fn
