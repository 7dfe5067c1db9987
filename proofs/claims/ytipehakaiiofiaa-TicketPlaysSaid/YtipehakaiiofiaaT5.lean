/- What New computes; a desk that nobody made. -/
import Derived.Test.YtipehakaiiofiaaT4
import Derived.OwnWalk
namespace Go.Proofs.Ytipehakaiiofiaa.Fn
open Go Go.RowKit Go.Proofs.Ytipehakaiiofiaa.Can Go.Proofs.Ytipehakaiiofiaa.Base
attribute [local go_sem] clsB AB.cell

theorem made_one (z : Value) (m : Nat) : madeCells #[z] m = (List.replicate m z).toArray := by
  apply Array.ext (by simp [size_madeCells])
  intro i h1 h2
  simp [madeCells, Nat.mod_one]
def seatsN (n : Int) : Nat := (if n < 1 then 1 else if 4096 < n then 4096 else n).toNat
theorem seatsN_pos (n : Int) : 0 < seatsN n ∧ seatsN n ≤ 4096 := by unfold seatsN; split <;> (try split) <;> omega
theorem new_int (n : Int) (w : World) : Calls Try.prog 7 #[.int .i64 n] w fun e w' =>
    ∃ p r, e = .returned (.pointer (some ⟨p, 0, none⟩)) ∧ w.heap.size ≤ p ∧ w.heap.size ≤ r ∧ Desk (Value.int .i64) 42 3 w' p r (seatsN n) 0 [] (List.replicate (seatsN n) 0) 0 ∧ Below w.heap.size w w' := by
  obtain ⟨m, hm⟩ : ∃ m, seatsN n = m := ⟨_, rfl⟩
  have hp := seatsN_pos n
  rw [hm] at hp ⊢
  obtain ⟨m1, hm1⟩ : ∃ m1 : Int, (if n < 1 then 1 else n) = m1 := ⟨_, rfl⟩
  have hm2 : (if (4096 : Int) < m1 then 4096 else m1) = m := by
    rw [← hm1, ← hm]; unfold seatsN; split <;> split <;> (try split) <;> omega
  obtain ⟨i0, hi, hz, hs, hbb⟩ := info_of (P := Try.prog) (e := 3) (z := some (.int .i64 0)) (s := 1) (b := 8) (by kernel_rfl)
  have HM1 := Hd.mk hm1; have HM2 := Hd.mk hm2; have HI := Hd.mk (And.intro hi (And.intro hz (And.intro hs hbb)))
  clear hm1 hm2 hi hz hs hbb hm
  go_enter Try.func7, Try.ntmps7
  go_wp2_with (first | (at_make; go_must (refine wpList_make_full _ rfl (.tmp 5) (.tmp 5) 36 rfl w.heap.size 3 i0 (.int .i64 0) 1 Try.underlying36 HI.out.1 HI.out.2.1 HI.out.2.2.1 .i64 .i64 m m m rfl rfl rfl rfl (by rw [HI.out.2.2.2]; omega) (by simp only [maxLen]; omega) (Nat.le_refl _) ?_; intro w1 ho1 hg1)) | (refine max_int rfl (.tmp 3) (.const (.int .i64 1)) _ rfl .i64 n 1 m1 rfl rfl HM1.out ?_) | (refine min_int rfl (.tmp 4) (.const (.int .i64 4096)) _ rfl .i64 m1 4096 m rfl rfl HM2.out ?_))
  go_ret
  have hz1 := hg1.size
  have hh : w1.heap[w.heap.size]? = some (.cells ((List.replicate m 0).map (Value.int .i64)).toArray 3 (0, 0)) := by
    rcases ho1.2 with ⟨h0, _⟩ | ⟨g, cap, cur, he, hg, hh, hcap, _, hcs, ht⟩
    · cases h0
    · simp only [Value.slice.injEq, Option.some.injEq, Addr.mk.injEq, and_true, true_and] at he
      obtain ⟨rfl, rfl⟩ := he
      rw [hh]
      rw [List.take_of_length_le (by simp [hcs])] at ht
      have hcur : cur = (madeCells (.int .i64 0 : Value).cells (m * 1)) := by
        apply Array.toList_inj.1; exact ht
      rw [hcur]
      have hmo := made_one (.int .i64 0) (m * 1)
      rw [Nat.mul_one] at hmo
      rw [show madeCells (.int .i64 0 : Value).cells (m * 1) = (List.replicate m (.int .i64 0 : Value)).toArray by rw [Nat.mul_one]; exact hmo, List.map_replicate]
  refine ⟨w1.heap.size, w.heap.size, rfl, by omega, Nat.le_refl _, ⟨by rw [blk_new _ _ _ rfl]; rfl, blk_alloc hh _, by have := blk_lt hh; omega, by simp, hp.1, hp.2, hp.1, Nat.le_refl _, Nat.zero_le _, fun i hi => by simp at hi⟩, ?_⟩
  have hb1 : Below w.heap.size w w1 := (Below.refl _ _).grown hg1 (Nat.le_refl _) (fun k hk => by cases hk)
  exact (by repeat (first | (with_reducible assumption) | (with_reducible exact Below.refl _ _) | (with_reducible apply below_drewL) | (with_reducible apply below_alloc) | (with_reducible apply below_drew1) | (with_reducible apply below_drewN) | (refine below_set ?_ (by first | omega | (simp only [size_alloc, size_drew, size_set]; omega)) _ _)))
theorem new_str (n : Int) (w : World) : Calls Try.prog 23 #[.int .i64 n] w fun e w' =>
    ∃ p r, e = .returned (.pointer (some ⟨p, 0, none⟩)) ∧ w.heap.size ≤ p ∧ w.heap.size ≤ r ∧ Desk (Value.string) 50 9 w' p r (seatsN n) 0 [] (List.replicate (seatsN n) ByteArray.empty) 0 ∧ Below w.heap.size w w' := by
  obtain ⟨m, hm⟩ : ∃ m, seatsN n = m := ⟨_, rfl⟩
  have hp := seatsN_pos n
  rw [hm] at hp ⊢
  obtain ⟨m1, hm1⟩ : ∃ m1 : Int, (if n < 1 then 1 else n) = m1 := ⟨_, rfl⟩
  have hm2 : (if (4096 : Int) < m1 then 4096 else m1) = m := by
    rw [← hm1, ← hm]; unfold seatsN; split <;> split <;> (try split) <;> omega
  obtain ⟨i0, hi, hz, hs, hbb⟩ := info_of (P := Try.prog) (e := 9) (z := some (.string ByteArray.empty)) (s := 1) (b := 16) (by kernel_rfl)
  have HM1 := Hd.mk hm1; have HM2 := Hd.mk hm2; have HI := Hd.mk (And.intro hi (And.intro hz (And.intro hs hbb)))
  clear hm1 hm2 hi hz hs hbb hm
  go_enter Try.func23, Try.ntmps23
  go_wp2_with (first | (at_make; go_must (refine wpList_make_full _ rfl (.tmp 5) (.tmp 5) 48 rfl w.heap.size 9 i0 (.string ByteArray.empty) 1 Try.underlying48 HI.out.1 HI.out.2.1 HI.out.2.2.1 .i64 .i64 m m m rfl rfl rfl rfl (by rw [HI.out.2.2.2]; omega) (by simp only [maxLen]; omega) (Nat.le_refl _) ?_; intro w1 ho1 hg1)) | (refine max_int rfl (.tmp 3) (.const (.int .i64 1)) _ rfl .i64 n 1 m1 rfl rfl HM1.out ?_) | (refine min_int rfl (.tmp 4) (.const (.int .i64 4096)) _ rfl .i64 m1 4096 m rfl rfl HM2.out ?_))
  go_ret
  have hz1 := hg1.size
  have hh : w1.heap[w.heap.size]? = some (.cells ((List.replicate m ByteArray.empty).map (Value.string)).toArray 9 (0, 0)) := by
    rcases ho1.2 with ⟨h0, _⟩ | ⟨g, cap, cur, he, hg, hh, hcap, _, hcs, ht⟩
    · cases h0
    · simp only [Value.slice.injEq, Option.some.injEq, Addr.mk.injEq, and_true, true_and] at he
      obtain ⟨rfl, rfl⟩ := he
      rw [hh]
      rw [List.take_of_length_le (by simp [hcs])] at ht
      have hcur : cur = (madeCells (.string ByteArray.empty : Value).cells (m * 1)) := by
        apply Array.toList_inj.1; exact ht
      rw [hcur]
      have hmo := made_one (.string ByteArray.empty) (m * 1)
      rw [Nat.mul_one] at hmo
      rw [show madeCells (.string ByteArray.empty : Value).cells (m * 1) = (List.replicate m (.string ByteArray.empty : Value)).toArray by rw [Nat.mul_one]; exact hmo, List.map_replicate]
  refine ⟨w1.heap.size, w.heap.size, rfl, by omega, Nat.le_refl _, ⟨by rw [blk_new _ _ _ rfl]; rfl, blk_alloc hh _, by have := blk_lt hh; omega, by simp, hp.1, hp.2, hp.1, Nat.le_refl _, Nat.zero_le _, fun i hi => by simp at hi⟩, ?_⟩
  have hb1 : Below w.heap.size w w1 := (Below.refl _ _).grown hg1 (Nat.le_refl _) (fun k hk => by cases hk)
  exact (by repeat (first | (with_reducible assumption) | (with_reducible exact Below.refl _ _) | (with_reducible apply below_drewL) | (with_reducible apply below_alloc) | (with_reducible apply below_drew1) | (with_reducible apply below_drewN) | (refine below_set ?_ (by first | omega | (simp only [size_alloc, size_drew, size_set]; omega)) _ _)))
end Go.Proofs.Ytipehakaiiofiaa.Fn
