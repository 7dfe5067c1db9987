/- What Get and Known compute. -/
import Derived.Test.YtfckpppfmjllbaaP1
namespace Go.Proofs.Ytfckpppfmjllbaa.Fn
open Go Go.RowKit Go.Proofs.Ytfckpppfmjllbaa.Can Go.Proofs.Ytfckpppfmjllbaa.Base
attribute [local go_sem] clsB AB.cell
attribute [local go_sem high] eq28

set_option maxHeartbeats 1000000 in
theorem get_calls (A : Option Addr) (n c : Nat) (L : List E) (x y : Int) (S : Nat → Prop) (w : World) (hS : ∀ k, S k → k < w.heap.size) (hC : Row eT w S A n L) :
    Calls Try.prog 17 #[.slice A n c, .agg #[.int .i64 x, .int .i64 y]] w fun e w' => e = .returned (.tuple #[tokV ((getE L ⟨x, y⟩).getD tok0), .bool (getE L ⟨x, y⟩).isSome]) ∧ Below w.heap.size w w' := by
  have hn := hC.le
  have hl := hC.1
  have HS := Hd.mk hS; have HC := Hd.mk hC; have HL := Hd.mk hl; clear hS hC hl
  go_enter Try.func17, Try.ntmps17
  go_wp2
  generalize hV : World.alloc _ _ = V
  have HBV : Below w.heap.size w V := below_of hV (by repeat (first | (with_reducible assumption) | (with_reducible exact Below.refl _ _) | (with_reducible apply below_drewL) | (with_reducible apply below_alloc) | (with_reducible apply below_drew1) | (with_reducible apply below_drewN) | (refine below_set ?_ (by first | omega | (simp only [size_alloc, size_drew, size_set]; omega)) _ _)))
  have zV : Hd (V.heap.size = w.heap.size + 1 + 1) := ⟨by rw [← hV]; simp only [size_alloc]⟩
  have V0 := at_of hV (blk_alloc (blk_new _ _ _ rfl) _)
  have V0l := blk_lt V0
  have V1 := at_of hV (blk_new _ _ _ rfl)
  simp only [size_alloc] at V1
  have V1l := blk_lt V1
  clear hV
  have HB0 := Hd.mk HBV; have HV0 := Hd.mk V0; have HV1 := Hd.mk V1
  clear HBV V0 V1 V0l V1l zV
  go_loopw [6] (fun i wr => ∃ k : Nat, k ≤ n ∧ i = .int .i64 k ∧ Hd (∀ j, j < k → ∀ e, L[j]? = some e → e.at_ ≠ ⟨x, y⟩) ∧ Hd (wr.heap[w.heap.size]? = some (.cells #[.int .i64 x, .int .i64 y] 28 (0, 0))) ∧ Hd (wr.heap[w.heap.size + 1]? = some (.cells #[.int .i64 0, .int .i64 0, .int .i64 0, .int .i64 0, .int .i64 0, .int .i64 0] 35 (0, 0))) ∧ Hd (Below w.heap.size w wr)) (fun i _ => n - (intOf i).toNat)
  case atStart => exact ⟨0, Nat.zero_le _, rfl, ⟨fun j hj => absurd hj (Nat.not_lt_zero j)⟩, HV0, HV1, HB0⟩
  case round =>
    clear HB0 HV0 HV1
    obtain ⟨k, hk, rfl, HNO, H0, H1, HB⟩ := hrel
    have h0 := H0.out
    have h1 := H1.out
    have h0c0 := blk_cell h0 0 _ rfl; have h0f0 := blk_frozen h0 0; have h0c1 := blk_cell h0 1 _ rfl; have h0f1 := blk_frozen h0 1; have h0l := blk_lt h0
    have h1c0 := blk_cell h1 0 _ rfl; have h1f0 := blk_frozen h1 0; have h1c1 := blk_cell h1 1 _ rfl; have h1f1 := blk_frozen h1 1; have h1c2 := blk_cell h1 2 _ rfl; have h1f2 := blk_frozen h1 2; have h1c3 := blk_cell h1 3 _ rfl; have h1f3 := blk_frozen h1 3; have h1c4 := blk_cell h1 4 _ rfl; have h1f4 := blk_frozen h1 4; have h1c5 := blk_cell h1 5 _ rfl; have h1f5 := blk_frozen h1 5; have h1l := blk_lt h1
    by_cases hlt : k < n
    · obtain ⟨b, off, e, rfl, hb1, he, hc0, hc1, hc2, hc3, hc4, hc5, hc6, hc7⟩ := e_get (HC.out.below HS.out HB.out) k hlt
      by_cases hm : e.at_ = ⟨x, y⟩
      · have hr : Hd (getE L ⟨x, y⟩ = some e.tok) := ⟨find_upto HNO.out he hm⟩
        rw [show e.at_.at_ = x by rw [hm]] at hc0
        rw [show e.at_.mode = y by rw [hm]] at hc1
        clear hm he
        go_wp2
        refine wp_region_can (.q [0, 1, 2, 3, 4, 5, 6] (.done)) (clsB _) (by kernel_rfl) (by kernel_rfl) (by intro _ _ d _ _ h; cases d <;> exact h) (clsB_drew _) ?_
        refine can_q (l := [⟨_,_,_,_,_,_⟩, ⟨_,_,_,_,_,_⟩, ⟨_,_,_,_,_,_⟩, ⟨_,_,_,_,_,_⟩, ⟨_,_,_,_,_,_⟩, ⟨_,_,_,_,_,_⟩, ⟨_,_,_,_,_,_⟩]) rfl ?_
        repeat (go_big_quiet_step (fail))
        refine wpQuiet_nil ?_
        refine can_done ?_
        go_wp2
        refine bodyPost_ret (cell_tmp_row rfl _ _ (w.heap.size + 1) 35 #[.int .i64 e.tok.k, .int .i64 e.tok.r, .int .i64 e.tok.f, .int .i64 e.tok.a, .int .i64 e.tok.t, .int .i64 e.tok.m] (0, 0) _ rfl ?_ Try.underlying35 rfl (by kernel_rfl)) rfl ?_
        · exact blk_drew (blk_set (blk_set (blk_set (blk_set (blk_set (blk_set h1 0 _ _ rfl) 1 _ _ rfl) 2 _ _ rfl) 3 _ _ rfl) 4 _ _ rfl) 5 _ _ rfl)
        · exact ⟨by rw [hr.out]; rfl, by have := HB.out; exact (by repeat (first | (with_reducible assumption) | (with_reducible exact Below.refl _ _) | (with_reducible apply below_drewL) | (with_reducible apply below_alloc) | (with_reducible apply below_drew1) | (with_reducible apply below_drewN) | (refine below_set ?_ (by first | omega | (simp only [size_alloc, size_drew, size_set]; omega)) _ _)))⟩
      · have hne : Hd (¬ (e.at_.at_ = x ∧ e.at_.mode = y)) := ⟨fun h => hm (by cases h1 : e.at_; rw [h1] at h; obtain ⟨rfl, rfl⟩ := h; rfl)⟩
        have HNO2 : Hd (∀ j, j < k + 1 → ∀ e, L[j]? = some e → e.at_ ≠ ⟨x, y⟩) := ⟨fun j hj e' hje => by
          rcases Nat.lt_or_ge j k with h | h
          · exact HNO.out j h e' hje
          · obtain rfl : j = k := by omega
            rw [he] at hje; cases hje; exact hm⟩
        by_cases ha : e.at_.at_ = x
        · have hb : (e.at_.mode == y) = false := by simpa using fun h => hne.out ⟨ha, h⟩
          rw [ha] at hc0
          clear he hm ha
          go_wp2
          refine wp_region_can (.q [0, 1, 2, 3, 4, 5, 6] (.done)) (clsB _) (by kernel_rfl) (by kernel_rfl) (by intro _ _ d _ _ h; cases d <;> exact h) (clsB_drew _) ?_
          refine can_q (l := [⟨_,_,_,_,_,_⟩, ⟨_,_,_,_,_,_⟩, ⟨_,_,_,_,_,_⟩, ⟨_,_,_,_,_,_⟩, ⟨_,_,_,_,_,_⟩, ⟨_,_,_,_,_,_⟩, ⟨_,_,_,_,_,_⟩]) rfl ?_
          repeat (go_big_quiet_step (fail))
          refine wpQuiet_nil ?_
          refine can_done ?_
          go_wp2
          go_roundw
          case rel => exact ⟨k + 1, by omega, by go_num, HNO2, H0, H1, ⟨by have := HB.out; exact (by repeat (first | (with_reducible assumption) | (with_reducible exact Below.refl _ _) | (with_reducible apply below_drewL) | (with_reducible apply below_alloc) | (with_reducible apply below_drew1) | (with_reducible apply below_drewN) | (refine below_set ?_ (by first | omega | (simp only [size_alloc, size_drew, size_set]; omega)) _ _)))⟩⟩
          case measure => simp [intOf]; omega
        · have hb : (e.at_.at_ == x) = false := by simpa using ha
          clear he hm
          go_wp2
          refine wp_region_can (.q [0, 1, 2, 3, 4, 5, 6] (.done)) (clsB _) (by kernel_rfl) (by kernel_rfl) (by intro _ _ d _ _ h; cases d <;> exact h) (clsB_drew _) ?_
          refine can_q (l := [⟨_,_,_,_,_,_⟩, ⟨_,_,_,_,_,_⟩, ⟨_,_,_,_,_,_⟩, ⟨_,_,_,_,_,_⟩, ⟨_,_,_,_,_,_⟩, ⟨_,_,_,_,_,_⟩, ⟨_,_,_,_,_,_⟩]) rfl ?_
          repeat (go_big_quiet_step (fail))
          refine wpQuiet_nil ?_
          refine can_done ?_
          go_wp2
          go_roundw
          case rel => exact ⟨k + 1, by omega, by go_num, HNO2, H0, H1, ⟨by have := HB.out; exact (by repeat (first | (with_reducible assumption) | (with_reducible exact Below.refl _ _) | (with_reducible apply below_drewL) | (with_reducible apply below_alloc) | (with_reducible apply below_drew1) | (with_reducible apply below_drewN) | (refine below_set ?_ (by first | omega | (simp only [size_alloc, size_drew, size_set]; omega)) _ _)))⟩⟩
          case measure => simp [intOf]; omega
    · obtain rfl : k = n := by omega
      have hr : Hd (getE L ⟨x, y⟩ = none) := ⟨find_none (by rw [HL.out]; exact HNO.out)⟩
      go_wp2
      refine bodyPost_ret (cell_tmp_row rfl _ _ (w.heap.size + 1) 35 #[.int .i64 0, .int .i64 0, .int .i64 0, .int .i64 0, .int .i64 0, .int .i64 0] (0, 0) _ rfl ?_ Try.underlying35 rfl (by kernel_rfl)) rfl ?_
      · exact blk_set (blk_set (blk_set (blk_set (blk_set (blk_set h1 0 _ _ rfl) 1 _ _ rfl) 2 _ _ rfl) 3 _ _ rfl) 4 _ _ rfl) 5 _ _ rfl
      · exact ⟨by rw [hr.out]; rfl, by have := HB.out; exact (by repeat (first | (with_reducible assumption) | (with_reducible exact Below.refl _ _) | (with_reducible apply below_drewL) | (with_reducible apply below_alloc) | (with_reducible apply below_drew1) | (with_reducible apply below_drewN) | (refine below_set ?_ (by first | omega | (simp only [size_alloc, size_drew, size_set]; omega)) _ _)))⟩

theorem known_calls (A : Option Addr) (n c : Nat) (L : List E) (ep a m x y : Int) (S : Nat → Prop) (w : World) (hS : ∀ k, S k → k < w.heap.size) (hC : Row eT w S A n L) :
    Calls Try.prog 9 #[.agg #[.int .i64 ep, .int .i64 a, .int .i64 m, .slice A n c], .agg #[.int .i64 x, .int .i64 y]] w fun e w' => e = .returned (.tuple #[tokV ((getE L ⟨x, y⟩).getD tok0), .bool (getE L ⟨x, y⟩).isSome]) ∧ Below w.heap.size w w' := by
  have HS := Hd.mk hS; have HC := Hd.mk hC; clear hS hC
  obtain ⟨t, ht⟩ : ∃ t, (getE L ⟨x, y⟩).getD tok0 = t := ⟨_, rfl⟩
  obtain ⟨bb, hbb⟩ : ∃ bb, (getE L ⟨x, y⟩).isSome = bb := ⟨_, rfl⟩
  have HT := Hd.mk ht; have HBB := Hd.mk hbb
  rw [ht, hbb]
  clear ht hbb
  go_enter Try.func9, Try.ntmps9
  go_wp2_with fail
  generalize hV : World.alloc _ _ = V
  have HBV : Below w.heap.size w V := below_of hV (by repeat (first | (with_reducible assumption) | (with_reducible exact Below.refl _ _) | (with_reducible apply below_drewL) | (with_reducible apply below_alloc) | (with_reducible apply below_drew1) | (with_reducible apply below_drewN) | (refine below_set ?_ (by first | omega | (simp only [size_alloc, size_drew, size_set]; omega)) _ _)))
  have zV : Hd (V.heap.size = w.heap.size + 1 + 1 + 1) := ⟨by rw [← hV]; simp only [size_alloc]⟩
  have V0 := at_of hV (blk_alloc (blk_alloc (blk_new _ _ _ rfl) _) _)
  have V0l := blk_lt V0
  have V1 := at_of hV (blk_alloc (blk_new _ _ _ rfl) _)
  simp only [size_alloc] at V1
  have V1l := blk_lt V1
  have V2 := at_of hV (blk_new _ _ _ rfl)
  simp only [size_alloc] at V2
  have V2l := blk_lt V2
  clear hV
  have hHB := HBV
  go_wp2_with (go_at_call 17; go_must (refine Calls.mono (get_calls A n c L x y S V (fun k hk => Nat.lt_of_lt_of_le (HS.out k hk) hHB.size) (HC.out.below HS.out hHB)) ?_; rintro e w2 ⟨he, hb2⟩; rw [HT.out, HBB.out] at he; obtain rfl : e = .returned (.tuple #[.agg #[.int .i64 t.k, .int .i64 t.r, .int .i64 t.f, .int .i64 t.a, .int .i64 t.t, .int .i64 t.m], .bool bb]) := he; have h5 := blk_below V2 hb2; have h5c0 := blk_cell h5 0 _ rfl; have h5f0 := blk_frozen h5 0; have h5c1 := blk_cell h5 1 _ rfl; have h5f1 := blk_frozen h5 1; have h5c2 := blk_cell h5 2 _ rfl; have h5f2 := blk_frozen h5 2; have h5c3 := blk_cell h5 3 _ rfl; have h5f3 := blk_frozen h5 3; have h5c4 := blk_cell h5 4 _ rfl; have h5f4 := blk_frozen h5 4; have h5c5 := blk_cell h5 5 _ rfl; have h5f5 := blk_frozen h5 5; have h5l := blk_lt h5))
  refine bodyPost_ret (cell_tmp_row rfl _ _ (w.heap.size + 2) 35 #[.int .i64 t.k, .int .i64 t.r, .int .i64 t.f, .int .i64 t.a, .int .i64 t.t, .int .i64 t.m] (0, 0) _ rfl ?_ Try.underlying35 rfl (by kernel_rfl)) rfl ?_
  · exact blk_set (blk_set (blk_set (blk_set (blk_set (blk_set h5 0 _ _ rfl) 1 _ _ rfl) 2 _ _ rfl) 3 _ _ rfl) 4 _ _ rfl) 5 _ _ rfl
  · have hb := below_seq hHB hb2
    exact ⟨rfl, (by repeat (first | (with_reducible assumption) | (with_reducible exact Below.refl _ _) | (with_reducible apply below_drewL) | (with_reducible apply below_alloc) | (with_reducible apply below_drew1) | (with_reducible apply below_drewN) | (refine below_set ?_ (by first | omega | (simp only [size_alloc, size_drew, size_set]; omega)) _ _)))⟩
end Go.Proofs.Ytfckpppfmjllbaa.Fn
