/- Classes, by the document. -/
import Derived.Test.YtpcnekdilecakaaDoorQ1
set_option linter.unusedVariables false
set_option linter.unusedSimpArgs false
namespace Go.Proofs.YtpcnekdilecakaaDoor.Tb
open Go Go.RowKit Go.Proofs.YtpcnekdilecakaaDoor.Can Go.Proofs.YtpcnekdilecakaaDoor.Base
attribute [local go_sem] clsB AB.cell

set_option maxRecDepth 20000 in
set_option maxHeartbeats 4000000 in
theorem rclass_calls (A : Option Addr) (n c : Nat) (L : List Int) (S : Nat → Prop) (w : World) (hS : ∀ k, S k → k < w.heap.size) (hC : Row I w S A n L) (hn : n ≤ 1000000) :
    Calls Tryd.prog 42 #[.slice A n c] w fun e w' => e = .returned (.string (bs (wcl 0 L))) ∧ Below w.heap.size w w' := by
  have HN := Hd.mk hC.1
  have HC := Hd.mk hC
  have HS := Hd.mk hS
  have HLN : Hd ((wcl 0 L).length ≤ 2 * n) := ⟨by have := wcl_len 0 L; rw [hC.1] at this; exact this⟩
  clear hC hS
  go_enter Tryd.func42, Tryd.ntmps42
  go_wp2
  go_loopw [3, 4, 5] (fun s f i wr => ∃ (k fm : Nat) (ys : List UInt8), k ≤ n ∧ fm ≤ k ∧ i = .int .i64 k ∧ f = .int .i64 fm ∧ s = .string (bs ys) ∧ Hd (ys ++ wcl (k - fm) (L.drop k) = wcl 0 L) ∧ Hd (Below w.heap.size w wr)) (fun s f i _ => n - (intOf i).toNat)
  case atStart => exact ⟨0, 0, [], Nat.zero_le _, Nat.le_refl _, rfl, rfl, rfl, ⟨rfl⟩, ⟨Below.refl _ _⟩⟩
  case round =>
    obtain ⟨k, fm, ys, hk, hf, rfl, rfl, rfl, HY, HB⟩ := hrel
    by_cases hlt : k < n
    · obtain ⟨b1, o1, x, rfl, -, hb1, hx, hcx⟩ := (HC.out.below HS.out HB.out).get_int k hlt
      have HXK := Hd.mk hx
      clear hx
      have hone : ∀ W v, (Calls Tryd.prog 41 #[.int .i64 v] W fun e w' => e = .returned (.string (bs (w1 v))) ∧ Below W.heap.size W w') := fun W v => rone_calls W v
      have HONE := Hd.mk hone
      clear hone
      by_cases hlast : k + 1 = n
      · have hl9 : ((k : Int) + 1 == (n : Int)) = true := by simp; omega
        have HE : Hd (wcl (k - fm) (L.drop k) = w1 ((k : Int) - fm) ++ w1 x ++ wcl 0 (L.drop (k + 1))) := ⟨by
          have e := wcl_last (k - fm) HXK.out (by rw [HN.out, hlast])
          rw [show (((k - fm : Nat)) : Int) = (k : Int) - fm by omega] at e
          exact e⟩
        go_wp2
        refine wp_region_can (.q [0, 1, 2, 3, 4, 5, 6, 7, 8, 9, 10, 11, 12, 13, 14, 15, 16] (.done)) (clsB _) (by kernel_rfl) (by kernel_rfl) (by intro _ _ d _ _ h; cases d <;> exact h) (clsB_drew _) ?_
        refine can_q (l := [⟨_,_,_,_,_,_⟩, ⟨_,_,_,_,_,_⟩, ⟨_,_,_,_,_,_⟩, ⟨_,_,_,_,_,_⟩, ⟨_,_,_,_,_,_⟩, ⟨_,_,_,_,_,_⟩, ⟨_,_,_,_,_,_⟩, ⟨_,_,_,_,_,_⟩, ⟨_,_,_,_,_,_⟩, ⟨_,_,_,_,_,_⟩, ⟨_,_,_,_,_,_⟩, ⟨_,_,_,_,_,_⟩, ⟨_,_,_,_,_,_⟩, ⟨_,_,_,_,_,_⟩, ⟨_,_,_,_,_,_⟩, ⟨_,_,_,_,_,_⟩, ⟨_,_,_,_,_,_⟩]) rfl ?_
        repeat (go_big_quiet_step (fail))
        refine wpQuiet_nil ?_
        refine can_done ?_
        have HLY : Hd (ys.length + 2 ≤ 4000000) := ⟨by have h9 := congrArg List.length HY.out; rw [HE.out] at h9; simp only [List.length_append, w1_len] at h9; have := HLN.out; omega⟩
        have ha1 : ∀ W, (Op.stringOp .add (bs ys) (bs (w1 ((k : Int) - fm)))).run Tryd.prog W = .ok (.string (bs (ys ++ w1 ((k : Int) - fm)))) W := add_bs _ _ (by rw [w1_len]; have := HLY.out; omega)
        have ha2 : ∀ W, (Op.stringOp .add (bs (ys ++ w1 ((k : Int) - fm))) (bs (w1 x))).run Tryd.prog W = .ok (.string (bs (ys ++ w1 ((k : Int) - fm) ++ w1 x))) W := add_bs _ _ (by rw [List.length_append, w1_len, w1_len]; have := HLY.out; omega)
        go_wp2
        obtain ⟨D, hD⟩ : ∃ D, wr.drew = D := ⟨_, rfl⟩
        have hcD : D.cell? ⟨b1, o1 + k, none⟩ = some (.int .i64 x) := by rw [← hD]; exact hcx
        have hbD : b1 < D.heap.size := by rw [← hD]; exact hb1
        have HBD : Hd (Below w.heap.size w D) := ⟨by rw [← hD]; exact below_drew1 HB.out⟩
        rw [hD]
        clear hD hcx hb1
        refine wp_region_can (.q [0, 1, 2, 3, 6, 7, 8, 9] (.e 4 true (.q [5] (.e 10 true (.q [11, 12] (.done)))))) (clsB _) (by kernel_rfl) (by kernel_rfl) (by intro _ _ d _ _ h; cases d <;> exact h) (clsB_drew _) ?_
        refine can_q (l := [⟨_,_,_,_,_,_⟩, ⟨_,_,_,_,_,_⟩, ⟨_,_,_,_,_,_⟩, ⟨_,_,_,_,_,_⟩, ⟨_,_,_,_,_,_⟩, ⟨_,_,_,_,_,_⟩, ⟨_,_,_,_,_,_⟩, ⟨_,_,_,_,_,_⟩]) rfl ?_
        repeat (go_big_quiet_step (fail))
        refine wpQuiet_nil ?_
        refine can_e (o := ⟨_,_,_,_,_,_⟩) rfl (fun K hK => ?_)
        go_wp2_with (go_at_call 41; go_must (refine Calls.mono (HONE.out _ _) ?_; rintro e wA ⟨rfl, hb_⟩; have HB1 := Hd.mk (below_undrew hb_); clear hb_))
        refine onK_normal (hK _ _ ⟨clsB _, clsB_of (by first | exact (HB1.out) | exact below_undrew (HB1.out)), fun _ _ h => h, ?_⟩)
        clear hK K
        refine can_q (l := [⟨_,_,_,_,_,_⟩]) rfl ?_
        repeat (go_big_quiet_step (fail))
        refine wpQuiet_nil ?_
        refine can_e (o := ⟨_,_,_,_,_,_⟩) rfl (fun K hK => ?_)
        go_wp2_with (go_at_call 41; go_must (refine Calls.mono (HONE.out _ _) ?_; rintro e wC ⟨rfl, hb_⟩; have HB2 := Hd.mk (below_seq HB1.out hb_); clear hb_))
        refine onK_normal (hK _ _ ⟨clsB _, clsB_of (by first | exact (HB2.out) | exact below_undrew (HB2.out)), fun _ _ h => h, ?_⟩)
        clear hK K
        refine can_q (l := [⟨_,_,_,_,_,_⟩, ⟨_,_,_,_,_,_⟩]) rfl ?_
        repeat (go_big_quiet_step (fail))
        refine wpQuiet_nil ?_
        refine can_done ?_
        go_wp2
        go_roundw
        case rel => exact ⟨k + 1, k + 1, _, by omega, by omega, by go_num, by go_num, rfl, ⟨by have h9 := HY.out; rw [HE.out] at h9; rw [← h9, Nat.sub_self]; simp only [List.append_assoc]⟩, ⟨below_seq HBD.out HB2.out⟩⟩
        case measure => simp [intOf]; omega
      · have hl9 : ((k : Int) + 1 == (n : Int)) = false := by simp; omega
        obtain ⟨b2, o2, y, he2, -, hb2, hy, hcy⟩ := (HC.out.below HS.out HB.out).get_int (k + 1) (by omega)
        obtain ⟨rfl, rfl⟩ : b1 = b2 ∧ o1 = o2 := by simpa using he2
        have HYK := Hd.mk hy
        have hcy2 : wr.cell? ⟨b1, o1 + (k + 1), none⟩ = some (.int .i64 y) := hcy
        clear hy he2
        by_cases hxy : y = x
        · have HE : Hd (wcl (k - fm) (L.drop k) = wcl (k + 1 - fm) (L.drop (k + 1))) := ⟨by
            have e := wcl_same (k - fm) HXK.out (by rw [HYK.out, hxy])
            rw [show k - fm + 1 = k + 1 - fm by omega] at e
            exact e⟩
          have hne : (y != x) = false := by simp [hxy]
          clear hxy
          go_wp2
          refine wp_region_can (.q [0, 1, 2, 3, 4, 5, 6, 7, 8, 9, 10, 11, 12, 13, 14, 15, 16] (.done)) (clsB _) (by kernel_rfl) (by kernel_rfl) (by intro _ _ d _ _ h; cases d <;> exact h) (clsB_drew _) ?_
          refine can_q (l := [⟨_,_,_,_,_,_⟩, ⟨_,_,_,_,_,_⟩, ⟨_,_,_,_,_,_⟩, ⟨_,_,_,_,_,_⟩, ⟨_,_,_,_,_,_⟩, ⟨_,_,_,_,_,_⟩, ⟨_,_,_,_,_,_⟩, ⟨_,_,_,_,_,_⟩, ⟨_,_,_,_,_,_⟩, ⟨_,_,_,_,_,_⟩, ⟨_,_,_,_,_,_⟩, ⟨_,_,_,_,_,_⟩, ⟨_,_,_,_,_,_⟩, ⟨_,_,_,_,_,_⟩, ⟨_,_,_,_,_,_⟩, ⟨_,_,_,_,_,_⟩, ⟨_,_,_,_,_,_⟩]) rfl ?_
          repeat (go_big_quiet_step (fail))
          refine wpQuiet_nil ?_
          refine can_done ?_
          go_wp2
          go_roundw
          case rel => exact ⟨k + 1, fm, ys, by omega, by omega, by go_num, rfl, rfl, ⟨by rw [← HE.out]; exact HY.out⟩, ⟨below_drew1 HB.out⟩⟩
          case measure => simp [intOf]; omega
        · have hne : (y != x) = true := by simpa using hxy
          have HE : Hd (wcl (k - fm) (L.drop k) = w1 ((k : Int) - fm) ++ w1 x ++ wcl 0 (L.drop (k + 1))) := ⟨by
            have e := wcl_turn (k - fm) HXK.out HYK.out hxy
            rw [show (((k - fm : Nat)) : Int) = (k : Int) - fm by omega] at e
            exact e⟩
          clear hxy
          go_wp2
          refine wp_region_can (.q [0, 1, 2, 3, 4, 5, 6, 7, 8, 9, 10, 11, 12, 13, 14, 15, 16] (.done)) (clsB _) (by kernel_rfl) (by kernel_rfl) (by intro _ _ d _ _ h; cases d <;> exact h) (clsB_drew _) ?_
          refine can_q (l := [⟨_,_,_,_,_,_⟩, ⟨_,_,_,_,_,_⟩, ⟨_,_,_,_,_,_⟩, ⟨_,_,_,_,_,_⟩, ⟨_,_,_,_,_,_⟩, ⟨_,_,_,_,_,_⟩, ⟨_,_,_,_,_,_⟩, ⟨_,_,_,_,_,_⟩, ⟨_,_,_,_,_,_⟩, ⟨_,_,_,_,_,_⟩, ⟨_,_,_,_,_,_⟩, ⟨_,_,_,_,_,_⟩, ⟨_,_,_,_,_,_⟩, ⟨_,_,_,_,_,_⟩, ⟨_,_,_,_,_,_⟩, ⟨_,_,_,_,_,_⟩, ⟨_,_,_,_,_,_⟩]) rfl ?_
          repeat (go_big_quiet_step (fail))
          refine wpQuiet_nil ?_
          refine can_done ?_
          have HLY : Hd (ys.length + 2 ≤ 4000000) := ⟨by have h9 := congrArg List.length HY.out; rw [HE.out] at h9; simp only [List.length_append, w1_len] at h9; have := HLN.out; omega⟩
          have ha1 : ∀ W, (Op.stringOp .add (bs ys) (bs (w1 ((k : Int) - fm)))).run Tryd.prog W = .ok (.string (bs (ys ++ w1 ((k : Int) - fm)))) W := add_bs _ _ (by rw [w1_len]; have := HLY.out; omega)
          have ha2 : ∀ W, (Op.stringOp .add (bs (ys ++ w1 ((k : Int) - fm))) (bs (w1 x))).run Tryd.prog W = .ok (.string (bs (ys ++ w1 ((k : Int) - fm) ++ w1 x))) W := add_bs _ _ (by rw [List.length_append, w1_len, w1_len]; have := HLY.out; omega)
          go_wp2
          obtain ⟨D, hD⟩ : ∃ D, wr.drew = D := ⟨_, rfl⟩
          have hcD : D.cell? ⟨b1, o1 + k, none⟩ = some (.int .i64 x) := by rw [← hD]; exact hcx
          have hbD : b1 < D.heap.size := by rw [← hD]; exact hb1
          have HBD : Hd (Below w.heap.size w D) := ⟨by rw [← hD]; exact below_drew1 HB.out⟩
          rw [hD]
          clear hD hcx hb1
          refine wp_region_can (.q [0, 1, 2, 3, 6, 7, 8, 9] (.e 4 true (.q [5] (.e 10 true (.q [11, 12] (.done)))))) (clsB _) (by kernel_rfl) (by kernel_rfl) (by intro _ _ d _ _ h; cases d <;> exact h) (clsB_drew _) ?_
          refine can_q (l := [⟨_,_,_,_,_,_⟩, ⟨_,_,_,_,_,_⟩, ⟨_,_,_,_,_,_⟩, ⟨_,_,_,_,_,_⟩, ⟨_,_,_,_,_,_⟩, ⟨_,_,_,_,_,_⟩, ⟨_,_,_,_,_,_⟩, ⟨_,_,_,_,_,_⟩]) rfl ?_
          repeat (go_big_quiet_step (fail))
          refine wpQuiet_nil ?_
          refine can_e (o := ⟨_,_,_,_,_,_⟩) rfl (fun K hK => ?_)
          go_wp2_with (go_at_call 41; go_must (refine Calls.mono (HONE.out _ _) ?_; rintro e wA ⟨rfl, hb_⟩; have HB1 := Hd.mk (below_undrew hb_); clear hb_))
          refine onK_normal (hK _ _ ⟨clsB _, clsB_of (by first | exact (HB1.out) | exact below_undrew (HB1.out)), fun _ _ h => h, ?_⟩)
          clear hK K
          refine can_q (l := [⟨_,_,_,_,_,_⟩]) rfl ?_
          repeat (go_big_quiet_step (fail))
          refine wpQuiet_nil ?_
          refine can_e (o := ⟨_,_,_,_,_,_⟩) rfl (fun K hK => ?_)
          go_wp2_with (go_at_call 41; go_must (refine Calls.mono (HONE.out _ _) ?_; rintro e wC ⟨rfl, hb_⟩; have HB2 := Hd.mk (below_seq HB1.out hb_); clear hb_))
          refine onK_normal (hK _ _ ⟨clsB _, clsB_of (by first | exact (HB2.out) | exact below_undrew (HB2.out)), fun _ _ h => h, ?_⟩)
          clear hK K
          refine can_q (l := [⟨_,_,_,_,_,_⟩, ⟨_,_,_,_,_,_⟩]) rfl ?_
          repeat (go_big_quiet_step (fail))
          refine wpQuiet_nil ?_
          refine can_done ?_
          go_wp2
          go_roundw
          case rel => exact ⟨k + 1, k + 1, _, by omega, by omega, by go_num, by go_num, rfl, ⟨by have h9 := HY.out; rw [HE.out] at h9; rw [← h9, Nat.sub_self]; simp only [List.append_assoc]⟩, ⟨below_seq HBD.out HB2.out⟩⟩
          case measure => simp [intOf]; omega
    · obtain rfl : k = n := by omega
      have HE : Hd (ys = wcl 0 L) := ⟨by have h9 := HY.out; rw [List.drop_eq_nil_of_le (by rw [HN.out]; exact Nat.le_refl _)] at h9; rw [← h9]; cases (k - fm) <;> simp [wcl]⟩
      go_wp2
      go_ret
      exact ⟨by rw [HE.out]; rfl, HB.out⟩
end Go.Proofs.YtpcnekdilecakaaDoor.Tb
