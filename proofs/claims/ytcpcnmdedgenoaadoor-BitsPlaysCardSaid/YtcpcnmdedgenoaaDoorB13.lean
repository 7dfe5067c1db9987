/- The reference's Drop and Add. -/
import Derived.Test.YtcpcnmdedgenoaaDoorB12
namespace Go.Proofs.YtcpcnmdedgenoaaDoor.Fn
open Go Go.RowKit Go.Proofs.YtcpcnmdedgenoaaDoor.Can Go.Proofs.YtcpcnmdedgenoaaDoor.Base
attribute [local go_sem] clsB AB.cell

def dropR (x : Int) (L : List Int) : List Int := L.filter fun y => !(y == x)
theorem dropR_snoc (x y : Int) (L : List Int) : dropR x (L ++ [y]) = if y = x then dropR x L else dropR x L ++ [y] := by
  unfold dropR
  rw [List.filter_append]
  by_cases h : y = x
  · subst h; simp
  · rw [if_neg h]; simp [h]
theorem rdrop_calls (A : Option Addr) (n c : Nat) (L : List Int) (x : Int) (S : Nat → Prop) (w : World) (hS : ∀ k, S k → k < w.heap.size) (hC : Row I w S A n L) (hn : n ≤ 1000000) :
    Calls Tryd.prog 11 #[.slice A n c, .int .i64 x] w fun e w' => ∃ v, e = .returned v ∧ Mine I w' w.heap.size 3 v (dropR x L) ∧ Below w.heap.size w w' := by
  have HC := Hd.mk hC; have HS := Hd.mk hS
  clear hC hS
  go_enter Tryd.func11, Tryd.ntmps11
  go_wp2
  go_loopw [5, 6] (fun v i wr => ∃ k : Nat, k ≤ n ∧ i = .int .i64 k ∧ Hd (Mine I wr w.heap.size 3 v (dropR x (L.take k))) ∧ Hd (Below w.heap.size w wr)) (fun _ i _ => n - (intOf i).toNat)
  case atStart => exact ⟨0, Nat.zero_le _, rfl, ⟨Mine.nil _ _ _ _⟩, ⟨Below.refl _ _⟩⟩
  case round =>
    obtain ⟨k, hk, rfl, HM, HB⟩ := hrel
    obtain ⟨A2, z, c2, hv, hz, _, _, _⟩ := HM.out.formN
    subst hv
    have hzk : z ≤ k := by rw [hz]; unfold dropR; exact Nat.le_trans (List.length_filter_le _ _) (by rw [List.length_take]; omega)
    have HZ := Hd.mk hz; clear hz
    by_cases hlt : k < n
    · obtain ⟨g, off, y, rfl, _, hg, hy, hcell⟩ := (HC.out.below HS.out HB.out).get_int k hlt
      have HT : Hd (L.take (k + 1) = L.take k ++ [y]) := ⟨by rw [List.take_add_one, hy]; rfl⟩
      clear hy
      by_cases hxy : y = x
      · have hj : (y != x) = false := by simpa using hxy
        have HX := Hd.mk hxy; clear hxy
        go_wp2
        go_roundw
        case rel => exact ⟨k + 1, by omega, by go_num, ⟨by rw [HT.out, dropR_snoc, if_pos HX.out]; exact HM.out⟩, HB⟩
        case measure => simp [intOf]; omega
      · have hj : (y != x) = true := by simpa using hxy
        have HX := Hd.mk hxy; clear hxy
        go_wp2_with (at_builtin; go_must (refine append_snoc I (Ty.int_flat _) rfl (.tmp 19) (.tmp 24) 28 3 _ 8 rfl Tryd.underlying28 info3 rfl (by decide) (by decide) w.heap.size (.slice A2 z c2) (dropR x (L.take k)) y [.int .i64 y] wr.heap.size rfl rfl (blk_new _ _ _ rfl) rfl (HM.out.below (by repeat (first | (with_reducible assumption) | (with_reducible exact Below.refl _ _) | (with_reducible apply below_drewL) | (with_reducible apply below_alloc) | (with_reducible apply below_drew1) | (with_reducible apply below_drewN) | (refine below_set ?_ (by first | omega | (simp only [size_alloc, size_drew, size_set]; omega)) _ _)))) (HM.out.ne_new (Nat.le_refl _)) (by simp only [size_alloc]; have := HB.out.size; omega) (by rw [← HZ.out]; omega) ?_; intro v2 w2 hM2 hb2 hk2 hat2; have HB2 := Hd.mk (Below.trans (below_alloc HB.out _) hb2); have HM2 := Hd.mk hM2; clear hM2 hb2 hk2 hat2))
        go_roundw
        case rel => exact ⟨k + 1, by omega, by go_num, ⟨by rw [HT.out, dropR_snoc, if_neg HX.out]; exact HM2.out⟩, HB2⟩
        case measure => simp [intOf]; omega
    · obtain rfl : k = n := by omega
      have HT : Hd (L.take k = L) := ⟨by rw [← HC.out.1, List.take_length]⟩
      go_wp2
      go_ret
      exact ⟨_, rfl, by have := HM.out; rwa [HT.out] at this, HB.out⟩
end Go.Proofs.YtcpcnmdedgenoaaDoor.Fn
