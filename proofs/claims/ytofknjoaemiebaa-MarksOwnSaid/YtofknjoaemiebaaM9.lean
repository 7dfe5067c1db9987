/- A table that nobody made; a copy. -/
import Derived.Test.YtofknjoaemiebaaM5
namespace Go.Proofs.Ytofknjoaemiebaa.Fn
open Go Go.RowKit Go.Proofs.Ytofknjoaemiebaa.Can Go.Proofs.Ytofknjoaemiebaa.Base
theorem nil52 (W : World) (a : Option Addr) (n c : Nat) : (binOp .eql 52 (.slice a n c) (.slice none 0 0)).run Try.prog W = .ok (.bool a.isNone) W := Lib.run_eql_slice_nil W _ _ a n c 0 0 Try.underlying52
attribute [local go_sem] clsB AB.cell clsX AX.cell nil52

/-- No pointer, or one to a table of zeros. -/
def Nob (w : World) (v : Value) : Prop := v = .pointer none ∨ ∃ p, v = .pointer (some ⟨p, 0, none⟩) ∧ w.heap[p]? = some (.cells #[.slice none 0 0] 54 (0, 0))
theorem nob21 {w : World} {v : Value} (h : Nob w v) : Calls Try.prog 21 #[v] w fun e w' => e = .returned (.int .i64 0) ∧ w' = w := by
  rcases h with rfl | ⟨p, rfl, hs⟩
  · go_enter Try.func21, Try.ntmps21
    go_wp2
    go_ret
    exact ⟨rfl, rfl⟩
  · have hsc0 := blk_cell hs 0 _ rfl; have hsf0 := blk_frozen hs 0; have hsl := blk_lt hs
    go_enter Try.func21, Try.ntmps21
    go_wp2
    go_ret
    exact ⟨rfl, rfl⟩
theorem nob30 (n : Int) {w : World} {v : Value} (h : Nob w v) : Calls Try.prog 30 #[v, .int .i64 n] w fun e w' => e = .returned (.int .i64 (-1)) ∧ w' = w := by
  have H := Hd.mk h; clear h
  go_enter Try.func30, Try.ntmps30
  go_wp2_with (go_at_call 21; go_must (refine Calls.mono (nob21 H.out) ?_; rintro e w1 ⟨rfl, rfl⟩))
  go_ret
  exact ⟨rfl, rfl⟩
theorem nob11 (n : Int) {w : World} {v : Value} (h : Nob w v) : Calls Try.prog 11 #[v, .int .i64 n] w fun e w' => e = .returned (.tuple #[.int .i64 0, .int .i64 12]) ∧ w' = w := by
  have H := Hd.mk h; clear h
  go_enter Try.func11, Try.ntmps11
  go_wp2_with (go_at_call 30; go_must (refine Calls.mono (nob30 n H.out) ?_; rintro e w1 ⟨rfl, rfl⟩))
  go_ret2
  exact ⟨rfl, rfl⟩
theorem nob13 (n : Int) {w : World} {v : Value} (h : Nob w v) : Calls Try.prog 13 #[v, .int .i64 n] w fun e w' => e = .returned (.int .i64 12) ∧ w' = w := by
  have H := Hd.mk h; clear h
  go_enter Try.func13, Try.ntmps13
  go_wp2_with (go_at_call 30; go_must (refine Calls.mono (nob30 n H.out) ?_; rintro e w1 ⟨rfl, rfl⟩))
  go_ret
  exact ⟨rfl, rfl⟩
theorem nob9 (x y : Int) {w : World} {v : Value} (h : Nob w v) : Calls Try.prog 9 #[v, .int .i64 x, .int .i64 y] w fun e w' => e = .returned (.tuple #[.int .i64 0, .int .i64 6]) ∧ w' = w := by
  have H := Hd.mk h; clear h
  go_enter Try.func9, Try.ntmps9
  go_wp2_with (go_at_call 21; go_must (refine Calls.mono (nob21 H.out) ?_; rintro e w1 ⟨rfl, rfl⟩))
  go_loopw [11] (fun i wr => i = .int .i64 0 ∧ wr = w1) (fun _ _ => 0)
  case atStart => exact ⟨rfl, rfl⟩
  case round =>
    obtain ⟨rfl, rfl⟩ := hrel
    go_wp2
    go_ret2
    exact ⟨rfl, rfl⟩
theorem nob16 {w : World} {v : Value} (h : Nob w v) : Calls Try.prog 16 #[v] w fun e w' => e = .returned (.slice none 0 0) ∧ w' = w := by
  have H := Hd.mk h; clear h
  go_enter Try.func16, Try.ntmps16
  go_wp2_with (go_at_call 21; go_must (refine Calls.mono (nob21 H.out) ?_; rintro e w1 ⟨rfl, rfl⟩))
  go_loopw [3, 7] (fun o i wr => o = .slice none 0 0 ∧ i = .int .i64 0 ∧ wr = w1) (fun _ _ _ => 0)
  case atStart => exact ⟨rfl, rfl, rfl⟩
  case round =>
    obtain ⟨rfl, rfl, rfl⟩ := hrel
    go_wp2
    go_ret
    exact ⟨rfl, rfl⟩
theorem nob18 {w : World} {v : Value} (h : Nob w v) : Calls Try.prog 18 #[v] w fun e w' => e = .returned (.int .i64 0) ∧ w' = w := by
  have H := Hd.mk h; clear h
  go_enter Try.func18, Try.ntmps18
  go_wp2_with (go_at_call 16; go_must (refine Calls.mono (nob16 H.out) ?_; rintro e w1 ⟨rfl, rfl⟩))
  go_ret
  exact ⟨rfl, rfl⟩
theorem nob19 (n : Int) {w : World} {v : Value} (h : Nob w v) : Calls Try.prog 19 #[v, .int .i64 n] w fun e w' => e = .returned (.int .i64 n) ∧ w' = w := by
  have H := Hd.mk h; clear h
  go_enter Try.func19, Try.ntmps19
  go_wp2_with (go_at_call 21; go_must (refine Calls.mono (nob21 H.out) ?_; rintro e w1 ⟨rfl, rfl⟩))
  go_loopw [1, 8] (fun o i wr => o = .int .i64 n ∧ i = .int .i64 0 ∧ wr = w1) (fun _ _ _ => 0)
  case atStart => exact ⟨rfl, rfl, rfl⟩
  case round =>
    obtain ⟨rfl, rfl, rfl⟩ := hrel
    go_wp2
    go_ret
    exact ⟨rfl, rfl⟩
theorem nob22 (w : World) : Calls Try.prog 22 #[.pointer none] w fun e w' => e = .returned (.pointer none) ∧ w' = w := by
  go_enter Try.func22, Try.ntmps22
  go_wp2
  go_ret
  exact ⟨rfl, rfl⟩

theorem slot_one (x : Slot Int) : ∀ u ∈ slotE (.int .i64) x, u.oneCell' = true := fun u hu => by simp [slotE] at hu; rcases hu with rfl | rfl | rfl | rfl <;> rfl
abbrev sT : Ty (Slot Int) := Ty.flat 4 (slotE (.int .i64)) (slot_len _) slot_one
theorem info64 : (Try.prog.info? 64).map (fun i => (i.zero, i.size, i.bytes)) = some (some (.agg #[.bool false, .int .i64 0, .int .i64 0, .int .i64 0]), 4, 32) := by kernel_rfl
theorem copy_calls {p r m c B : Nat} {L} {w : World} (h : Tab (Value.int .i64) 54 64 w p r m c B L) : Calls Try.prog 22 #[.pointer (some ⟨p, 0, none⟩)] w fun e w' =>
    ∃ p2 r2 c2, e = .returned (.pointer (some ⟨p2, 0, none⟩)) ∧ w.heap.size ≤ p2 ∧ w.heap.size ≤ r2 ∧ Tab (Value.int .i64) 54 64 w' p2 r2 m c2 B L ∧ Below w.heap.size w w' := by
  have hs := h.str
  have hsc0 := blk_cell hs 0 _ rfl; have hsf0 := blk_frozen hs 0; have hsl := blk_lt hs
  have h1 := h.max
  have H := Hd.mk h; clear h hs
  have hrow : Hd (Row sT w (fun b => b = r) (some ⟨r, 0, none⟩) m L) := ⟨by have := H.out.row.row (slot_len _) slot_one rfl (S := fun b => b = r) (by rw [H.out.len]; omega); rw [H.out.len] at this; exact this⟩
  have hcl : ∀ w1, Below w.heap.size w w1 → Calls Try.prog 31 #[.slice (some ⟨r, 0, none⟩) m c] w1 fun e w' => ∃ r2 c2, e = .returned (.slice (some ⟨r2, 0, none⟩) m c2) ∧ w1.heap.size ≤ r2 ∧ m ≤ c2 ∧ Blk (slotE (.int .i64)) w' 64 r2 L ∧ Below w1.heap.size w1 w' := by
    intro w1 hb1
    have hz := hb1.size
    have HR := Hd.mk (hrow.out.below (fun k hk => by subst hk; exact H.out.row.lt) hb1)
    have hrl : r < w1.heap.size := Nat.lt_of_lt_of_le H.out.row.lt hz
    go_enter Try.func31, Try.ntmps31
    go_wp2_with (at_builtin; go_must (refine append_row sT (Ty.flat_flat _ _ _ _) rfl (.tmp 5) (.tmp 6) 52 64 _ 32 rfl Try.underlying52 info64 rfl (by decide) (by decide) w1.heap.size (.slice (some ⟨w1.heap.size, 0, none⟩) 0 0) [] L (some ⟨r, 0, none⟩) m c rfl rfl (fun h => by cases h) (Mine.empty sT w1 rfl (Nat.le_refl _)) (HR.out.below (fun k hk => by subst hk; exact hrl) (by repeat (first | (with_reducible assumption) | (with_reducible exact Below.refl _ _) | (with_reducible apply below_drewL) | (with_reducible apply below_alloc) | (with_reducible apply below_drew1) | (with_reducible apply below_drewN) | (refine below_set ?_ (by first | omega | (simp only [size_alloc, size_drew, size_set]; omega)) _ _)))) (fun k hk => ⟨by subst hk; simp only [size_alloc]; omega, by subst hk; exact ownBlock_ne hrl⟩) (by simp only [size_alloc]; omega) (by simp only [List.length_nil]; omega) ?_; intro v2 w2 hM2 hb2 hk2 hat2; rw [List.nil_append] at hM2; obtain ⟨g, d, hv, hg, hd, hB⟩ := hM2.blk (slot_len _) (by rw [H.out.len]; exact H.out.pos); rw [H.out.len] at hv hd; subst hv; have HM2 := Hd.mk hM2; clear hk2 hat2 hM2))
    go_ret
    exact ⟨g, d, rfl, hg, hd, hB, Below.trans (by repeat (first | (with_reducible assumption) | (with_reducible exact Below.refl _ _) | (with_reducible apply below_drewL) | (with_reducible apply below_alloc) | (with_reducible apply below_drew1) | (with_reducible apply below_drewN) | (refine below_set ?_ (by first | omega | (simp only [size_alloc, size_drew, size_set]; omega)) _ _))) hb2⟩
  have HC := Hd.mk hcl; clear hcl
  go_enter Try.func22, Try.ntmps22
  go_wp2_with (go_at_call 31; go_must (refine Calls.mono (HC.out _ (by repeat (first | (with_reducible assumption) | (with_reducible exact Below.refl _ _) | (with_reducible apply below_drewL) | (with_reducible apply below_alloc) | (with_reducible apply below_drew1) | (with_reducible apply below_drewN) | (refine below_set ?_ (by first | omega | (simp only [size_alloc, size_drew, size_set]; omega)) _ _)))) ?_; rintro e w2 ⟨r2, c2, rfl, hr2, hc2, hB2, hb2⟩; have HB := Hd.mk hB2; clear hB2))
  go_ret
  have hrl := HB.out.lt
  exact ⟨_, r2, c2, rfl, hb2.size, hr2, ⟨blk_new _ _ _ rfl, HB.out.below (by repeat (first | (with_reducible assumption) | (with_reducible exact Below.refl _ _) | (with_reducible apply below_drewL) | (with_reducible apply below_alloc) | (with_reducible apply below_drew1) | (with_reducible apply below_drewN) | (refine below_set ?_ (by first | omega | (simp only [size_alloc, size_drew, size_set]; omega)) _ _))), by omega, H.out.len, hc2, H.out.pos, h1, H.out.tms⟩, (by repeat (first | (with_reducible assumption) | (with_reducible exact Below.refl _ _) | (with_reducible apply below_drewL) | (with_reducible apply below_alloc) | (with_reducible apply below_drew1) | (with_reducible apply below_drewN) | (refine below_set ?_ (by first | omega | (simp only [size_alloc, size_drew, size_set]; omega)) _ _)))⟩
end Go.Proofs.Ytofknjoaemiebaa.Fn
