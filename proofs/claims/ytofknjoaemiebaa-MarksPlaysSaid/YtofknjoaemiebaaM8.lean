/- The reference's New. -/
import Derived.Test.YtofknjoaemiebaaM7
import Derived.Deep.DeepCutAuto
namespace Go.Proofs.Ytofknjoaemiebaa.Fn
open Go Go.RowKit Go.Proofs.Ytofknjoaemiebaa.Can Go.Proofs.Ytofknjoaemiebaa.Base
attribute [local go_sem] clsB AB.cell clsX AX.cell

theorem Mine.mv {α : Type} {T : Ty α} {w w' : World} {base : Nat} {e : TypeId} {v : Value} {xs : List α} (h : Mine T w base e v xs) (hm : ∀ k, v.ownBlock = some k → w'.heap[k]? = w.heap[k]?) (hz : w.heap.size ≤ w'.heap.size) : Mine T w' base e v xs :=
  Own.move h (fun k hk => by rcases hk with hk | hk; exact hk.elim; exact hm k hk) hz
abbrev mT : Ty MM := Ty.flat 3 mE m_len (fun x u hu => by simp [mE] at hu; rcases hu with rfl | rfl | rfl <;> rfl)
abbrev nT : Ty Nat := Ty.flat 1 nE n_len (fun x u hu => by simp [nE] at hu; rcases hu with rfl; rfl)
theorem info37 : (Try.prog.info? 37).map (fun i => (i.zero, i.size, i.bytes)) = some (some (.agg #[.int .i64 0, .int .i64 0, .int .i64 0]), 3, 24) := by kernel_rfl
def mz : MM := ⟨-1, 0, 0⟩
theorem refL_zero (m : Nat) : refL (List.replicate m (slot0 0)) = List.replicate m mz := by
  apply List.ext_getElem?
  intro i
  simp only [refL, List.getElem?_mapIdx, List.getElem?_replicate]
  split <;> simp [refM, slot0, mz]
theorem times_zero (m : Nat) : (List.replicate m (slot0 (0 : Int))).map (·.times) = List.replicate m 0 := by simp [slot0]

theorem rnew_calls (n : Int) (w : World) : Calls Try.prog 8 #[.int .i64 n] w fun e w' =>
    ∃ q b1 b2 c1 c2, e = .returned (.pointer (some ⟨q, 0, none⟩)) ∧ w.heap.size ≤ q ∧ q < b1 ∧ q < b2 ∧ RefT w' q b1 b2 (roomN n) c1 c2 0 (List.replicate (roomN n) (slot0 0)) ∧ Below w.heap.size w w' := by
  obtain ⟨m, hm⟩ : ∃ m, roomN n = m := ⟨_, rfl⟩
  have hp := roomN_pos n
  rw [hm] at hp ⊢
  obtain ⟨m1, hm1⟩ : ∃ m1 : Int, (if n < 1 then 1 else n) = m1 := ⟨_, rfl⟩
  have hm2 : (if (4096 : Int) < m1 then 4096 else m1) = m := by
    rw [← hm1, ← hm]; unfold roomN; split <;> split <;> (try split) <;> omega
  have HA1 := Hd.mk hm1; have HA2 := Hd.mk hm2
  clear hm1 hm2 hm
  go_enter Try.func8, Try.ntmps8
  go_upto_if 6 with fail
  go_cut [0] (fun t0 wx => t0 = .int .i64 m1 ∧ w = wx)
  case first =>
    by_cases h1 : n < 1
    · go_wp2
      go_meet
      case rel => exact ⟨by have := HA1.out; rw [if_pos (by omega)] at this; rw [this], rfl⟩
    · go_wp2
      go_meet
      case rel => exact ⟨by have := HA1.out; rw [if_neg (by omega)] at this; rw [this], rfl⟩
  case rest =>
    obtain ⟨rfl, rfl⟩ := hcut
    go_upto_if 8 with fail
    go_cut [0] (fun t0 wx => t0 = .int .i64 m ∧ w = wx)
    case first =>
      by_cases h1 : 4096 < m1
      · go_wp2
        go_meet
        case rel => exact ⟨by have := HA2.out; rw [if_pos (by omega)] at this; rw [this], rfl⟩
      · go_wp2
        go_meet
        case rel => exact ⟨by have := HA2.out; rw [if_neg (by omega)] at this; rw [this], rfl⟩
    case rest =>
      obtain ⟨rfl, rfl⟩ := hcut
      go_wp2
      go_loopw [4] (fun i wr => ∃ (k : Nat) (A1 A2 : Option Addr) (c1 c2 : Nat), k ≤ m ∧ i = .int .i64 k ∧ wr.heap[w.heap.size]? = some (.cells #[.slice A1 k c1, .slice A2 k c2] 41 (0, 0)) ∧ Hd (Mine mT wr (w.heap.size + 1) 37 (.slice A1 k c1) (List.replicate k mz)) ∧ Hd (Mine nT wr (w.heap.size + 1) 3 (.slice A2 k c2) (List.replicate k 0)) ∧ Hd (∀ j, (Value.slice A1 k c1).ownBlock = some j → (Value.slice A2 k c2).ownBlock ≠ some j) ∧ Hd (Below w.heap.size w wr)) (fun i _ => m - (intOf i).toNat)
      case atStart => exact ⟨0, none, none, 0, 0, Nat.zero_le _, rfl, blk_new _ _ _ rfl, ⟨Mine.nil _ _ _ _⟩, ⟨Mine.nil _ _ _ _⟩, ⟨fun j hj => by simp [Value.ownBlock] at hj⟩, ⟨(by repeat (first | (with_reducible assumption) | (with_reducible exact Below.refl _ _) | (with_reducible apply below_drewL) | (with_reducible apply below_alloc) | (with_reducible apply below_drew1) | (with_reducible apply below_drewN) | (refine below_set ?_ (by first | omega | (simp only [size_alloc, size_drew, size_set]; omega)) _ _)))⟩⟩
      case round =>
        obtain ⟨k, A1, A2, c1, c2, hk, rfl, hq, HM1, HM2, HJ, hb⟩ := hrel
        have hqc0 := blk_cell hq 0 _ rfl; have hqf0 := blk_frozen hq 0; have hqc1 := blk_cell hq 1 _ rfl; have hqf1 := blk_frozen hq 1; have hql := blk_lt hq
        by_cases hlt : k < m
        · have HR1 : Hd (List.replicate k mz ++ [mz] = List.replicate (k + 1) mz) := ⟨(List.replicate_succ' (n := k)).symm⟩
          have HR2 : Hd (List.replicate k 0 ++ [0] = List.replicate (k + 1) 0) := ⟨(List.replicate_succ' (n := k)).symm⟩
          have HQ := Hd.mk hq; clear hq
          go_wp2_with (first
            | (at_builtin; have hq_ := hq2; clear hq_; go_must (refine append_snoc nT (Ty.flat_flat _ _ _ _) rfl (.tmp 30) (.tmp 31) 39 3 _ 8 rfl Try.underlying39 info3 rfl (by decide) (by decide) (w.heap.size + 1) (.slice A2 k c2) (List.replicate k 0) 0 [.int .i64 0] w2.heap.size rfl rfl (blk_new _ _ _ (by rw [size_set])) rfl (HN3.out.below (by repeat (first | (with_reducible assumption) | (with_reducible exact Below.refl _ _) | (with_reducible apply below_drewL) | (with_reducible apply below_alloc) | (with_reducible apply below_drew1) | (with_reducible apply below_drewN) | (refine below_set ?_ (by first | omega | (simp only [size_alloc, size_drew, size_set]; omega)) _ _)))) (HN3.out.ne_new (by rw [size_set]; exact Nat.le_refl _)) (by simp only [size_alloc, size_set]; omega) (by rw [List.length_replicate]; omega) ?_; intro v4 w4 hM4 hb4 hk4 hat4; rw [HR2.out] at hM4; obtain ⟨A4, c4, hv4, hc4, hA4, hR4⟩ := hM4.form; rw [List.length_replicate] at hv4 hc4; subst hv4; clear hR4; have hq4 := (hk4 w.heap.size (by simp only [size_alloc, size_set]; omega) (HN3.out.ne_old (Nat.lt_succ_self _))).trans (blk_alloc HQ3.out _); have HM5 : Hd (Mine mT w4 (w.heap.size + 1) 37 (.slice A3 (k + 1) c3) (List.replicate (k + 1) mz)) := ⟨Mine.mv (HM3.out.below (by repeat (first | (with_reducible assumption) | (with_reducible exact Below.refl _ _) | (with_reducible apply below_drewL) | (with_reducible apply below_alloc) | (with_reducible apply below_drew1) | (with_reducible apply below_drewN) | (refine below_set ?_ (by first | omega | (simp only [size_alloc, size_drew, size_set]; omega)) _ _)))) (fun j hj => hk4 j (by have := (HM3.out.lt hj).1; simp only [size_alloc, size_set] at this ⊢; omega) (HJ3.out j hj)) hb4.size⟩; have HJ5 : Hd (∀ j, (Value.slice A3 (k + 1) c3).ownBlock = some j → (Value.slice A4 (k + 1) c4).ownBlock ≠ some j) := ⟨fun j hj => (by rcases hat4 with he | he; (rw [he]; exact HJ3.out j hj); (rw [he]; intro hh; injection hh with hh; have := (HM3.out.lt hj).1; simp only [size_alloc, size_set] at this hh; omega))⟩; have HB5 : Hd (Below w.heap.size w w4) := ⟨Below.trans (below_alloc (below_set HB3.out (Nat.le_refl _) 0 _) _) (hb4.mono (Nat.le_succ _))⟩; have hz4 := hb4.size; simp only [size_alloc, size_set] at hz4; have HM4 := Hd.mk hM4; clear hq2c0 hq2f0 hq2c1 hq2f1 hq2l; clear hM4 hk4 hat4 hb4; have hq4c0 := blk_cell hq4 0 _ rfl; have hq4f0 := blk_frozen hq4 0; have hq4c1 := blk_cell hq4 1 _ rfl; have hq4f1 := blk_frozen hq4 1; have hq4l := blk_lt hq4))
            | (at_builtin; go_must (refine append_snoc mT (Ty.flat_flat _ _ _ _) rfl (.tmp 20) (.tmp 22) 38 37 _ 24 rfl Try.underlying38 info37 rfl (by decide) (by decide) (w.heap.size + 1) (.slice A1 k c1) (List.replicate k mz) mz [.int .i64 (-1), .int .i64 0, .int .i64 0] wr.heap.size rfl rfl (blk_new _ _ _ rfl) rfl (HM1.out.below (by repeat (first | (with_reducible assumption) | (with_reducible exact Below.refl _ _) | (with_reducible apply below_drewL) | (with_reducible apply below_alloc) | (with_reducible apply below_drew1) | (with_reducible apply below_drewN) | (refine below_set ?_ (by first | omega | (simp only [size_alloc, size_drew, size_set]; omega)) _ _)))) (HM1.out.ne_new (Nat.le_refl _)) (by simp only [size_alloc]; omega) (by rw [List.length_replicate]; omega) ?_; intro v3 w2 hM3 hb2 hk2 hat2; rw [HR1.out] at hM3; obtain ⟨A3, c3, hv3, hc3, hA3, hR3⟩ := hM3.form; rw [List.length_replicate] at hv3 hc3; subst hv3; clear hR3; have hq2 := (hk2 w.heap.size (by simp only [size_alloc]; omega) (HM1.out.ne_old (Nat.lt_succ_self _))).trans (blk_alloc HQ.out _); have HN2 : Hd (Mine nT w2 (w.heap.size + 1) 3 (.slice A2 k c2) (List.replicate k 0)) := ⟨Mine.mv (HM2.out.below (by repeat (first | (with_reducible assumption) | (with_reducible exact Below.refl _ _) | (with_reducible apply below_drewL) | (with_reducible apply below_alloc) | (with_reducible apply below_drew1) | (with_reducible apply below_drewN) | (refine below_set ?_ (by first | omega | (simp only [size_alloc, size_drew, size_set]; omega)) _ _)))) (fun j hj => hk2 j (by have := (HM2.out.lt hj).1; simp only [size_alloc]; omega) (fun hh => HJ.out j hh hj)) hb2.size⟩; have HJ3 : Hd (∀ j, (Value.slice A3 (k + 1) c3).ownBlock = some j → (Value.slice A2 k c2).ownBlock ≠ some j) := ⟨fun j hj => (by rcases hat2 with he | he; (rw [he] at hj; exact HJ.out j hj); (rw [he] at hj; injection hj with hj; intro hh; have := (HM2.out.lt hh).1; simp only [size_alloc] at hj; omega))⟩; have HB3 : Hd (Below w.heap.size w w2) := ⟨Below.trans (below_alloc hb.out _) (hb2.mono (Nat.le_succ _))⟩; have hz2 := hb2.size; simp only [size_alloc] at hz2; have HQ3 : Hd ((w2.setCell ⟨w.heap.size, 0, none⟩ (.slice A3 (k + 1) c3)).heap[w.heap.size]? = some (.cells #[.slice A3 (k + 1) c3, .slice A2 k c2] 41 (0, 0))) := ⟨blk_set hq2 0 _ _ rfl⟩; have HN3 : Hd (Mine nT (w2.setCell ⟨w.heap.size, 0, none⟩ (.slice A3 (k + 1) c3)) (w.heap.size + 1) 3 (.slice A2 k c2) (List.replicate k 0)) := ⟨HN2.out.set (fun j hj => (by have := (HN2.out.lt hj).2; omega)) _⟩; have HM3 : Hd (Mine mT (w2.setCell ⟨w.heap.size, 0, none⟩ (.slice A3 (k + 1) c3)) (w.heap.size + 1) 37 (.slice A3 (k + 1) c3) (List.replicate (k + 1) mz)) := ⟨hM3.set (fun j hj => (by have := (hM3.lt hj).2; omega)) _⟩; clear hqc0 hqf0 hqc1 hqf1 hql; clear hM3 hk2 hat2 hb2; have hq2c0 := blk_cell hq2 0 _ rfl; have hq2f0 := blk_frozen hq2 0; have hq2c1 := blk_cell hq2 1 _ rfl; have hq2f1 := blk_frozen hq2 1; have hq2l := blk_lt hq2)))
          go_roundw
          case rel => exact ⟨k + 1, A3, A4, c3, c4, by omega, by go_num, blk_set hq4 1 _ _ rfl, ⟨HM5.out.set (fun j hj => by have := (HM5.out.lt hj).2; omega) _⟩, ⟨HM4.out.set (fun j hj => by have := (HM4.out.lt hj).2; omega) _⟩, HJ5, ⟨by have := HB5.out; exact (by repeat (first | (with_reducible assumption) | (with_reducible exact Below.refl _ _) | (with_reducible apply below_drewL) | (with_reducible apply below_alloc) | (with_reducible apply below_drew1) | (with_reducible apply below_drewN) | (refine below_set ?_ (by first | omega | (simp only [size_alloc, size_drew, size_set]; omega)) _ _)))⟩⟩
          case measure => simp [intOf]; omega
        · obtain rfl : k = m := by omega
          go_wp2
          go_ret
          obtain ⟨b1, d1, he1, hg1, hd1, hB1⟩ := HM1.out.blk m_len (by rw [List.length_replicate]; exact hp.1)
          obtain ⟨b2, d2, he2, hg2, hd2, hB2⟩ := HM2.out.blk n_len (by rw [List.length_replicate]; exact hp.1)
          rw [List.length_replicate] at he1 he2 hd1 hd2
          cases he1; cases he2
          exact ⟨_, b1, b2, c1, c2, rfl, Nat.le_refl _, by omega, by omega, ⟨hq, by rw [refL_zero]; exact hB1, by rw [times_zero]; exact hB2, by simp, by omega, by omega, fun he => HJ.out b1 rfl (by rw [he]; rfl), hd1, hd2, hp.2, fun s hs => by rw [(List.mem_replicate.1 hs).2]; exact Nat.le_refl _⟩, hb.out⟩
end Go.Proofs.Ytofknjoaemiebaa.Fn
