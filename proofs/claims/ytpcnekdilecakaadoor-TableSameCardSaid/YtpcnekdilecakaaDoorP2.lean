/- Classes that are written. -/
import Derived.Test.YtpcnekdilecakaaDoorP1
set_option linter.unusedVariables false
set_option linter.unusedSimpArgs false
namespace Go.Proofs.YtpcnekdilecakaaDoor.Tb
open Go Go.RowKit Go.Proofs.YtpcnekdilecakaaDoor.Can Go.Proofs.YtpcnekdilecakaaDoor.Base
attribute [local go_sem] clsB AB.cell

/-- From k on to m they are the same. -/
def Run (L : List Int) (k m : Nat) : Prop := m = k ∨ (k < m ∧ L[m - 1]? = L[k]? ∧ wcl 0 (L.drop k) = wcl (m - 1 - k) (L.drop (m - 1)))
theorem run_step {L : List Int} {k m : Nat} {x : Int} (h : Run L k m) (hk : L[k]? = some x) (hm : L[m]? = some x) : Run L k (m + 1) := by
  rcases h with rfl | ⟨h1, h2, h3⟩
  · exact .inr ⟨by omega, rfl, by simp⟩
  · refine .inr ⟨by omega, by rw [Nat.add_sub_cancel, hm, hk], ?_⟩
    rw [h3, Nat.add_sub_cancel]
    have e := wcl_same (l := L) (m := m - 1) (x := x) (m - 1 - k) (by rw [h2, hk]) (by rw [Nat.sub_add_cancel (by omega)]; exact hm)
    rw [Nat.sub_add_cancel (by omega)] at e
    rw [e, show m - 1 - k + 1 = m - k by omega]
theorem run_end {L : List Int} {k m : Nat} {x : Int} (h : Run L k m) (hk : L[k]? = some x) (hm : L[m]? ≠ some x) (hl : m ≤ L.length) : k < m ∧ wcl 0 (L.drop k) = w1 ((m : Int) - k - 1) ++ w1 x ++ wcl 0 (L.drop m) := by
  rcases h with rfl | ⟨h1, h2, h3⟩
  · exact absurd hk hm
  · refine ⟨h1, ?_⟩
    rw [h3]
    have e9 : (((m - 1 - k : Nat)) : Int) = (m : Int) - k - 1 := by omega
    rcases Nat.lt_or_ge m L.length with h4 | h4
    · have e := wcl_turn (l := L) (m := m - 1) (x := x) (y := L[m]) (m - 1 - k) (by rw [h2, hk]) (by rw [Nat.sub_add_cancel (by omega)]; exact List.getElem?_eq_getElem h4) (fun e => hm (by rw [List.getElem?_eq_getElem h4, e]))
      rw [Nat.sub_add_cancel (by omega)] at e
      rw [e, e9]
    · have e := wcl_last (l := L) (m := m - 1) (x := x) (m - 1 - k) (by rw [h2, hk]) (by omega)
      rw [Nat.sub_add_cancel (by omega)] at e
      rw [e, e9]
set_option maxRecDepth 20000 in
set_option maxHeartbeats 4000000 in
theorem class_calls (w : World) (base p : Nat) (v : Value) (xs : List UInt8) (A : Option Addr) (n c : Nat) (L : List Int) (S : Nat → Prop) (hw : Wr w base p v xs) (hC : Row I w S A n L) (hS : ∀ k, S k → k < w.heap.size ∧ k ≠ p ∧ v.ownBlock ≠ some k) (hl : xs.length + 2 * n ≤ 140737488355328) :
    Calls Tryd.prog 49 #[.pointer (some ⟨p, 0, none⟩), .slice A n c] w fun e w' => (∃ u, e = .returned u) ∧ ∃ v', Wr w' base p v' (xs ++ wcl 0 L) ∧ Gs p v w v' w' := by
  have hn := hC.le
  have HN := Hd.mk hC.1
  have HC : Hd (∀ v' w', Gs p v w v' w' → Row I w' S A n L) := ⟨fun v' w' h => h.fr.row hC fun b hb => ⟨(hS b hb).1, fun e => by rcases e with e | e; exact (hS b hb).2.1 e; exact (hS b hb).2.2 e⟩⟩
  have HW := Hd.mk hw
  have HL := Hd.mk hl
  have HLN : Hd (∀ k, (wcl 0 (L.drop k)).length ≤ 2 * (n - k)) := ⟨fun k => by have := wcl_len 0 (L.drop k); rw [List.length_drop, hC.1] at this; exact this⟩
  clear hC hS hw hl
  go_enter Tryd.func49, Tryd.ntmps49
  go_wp2
  go_loopw [4] (fun i wr => ∃ (k : Nat) (v' : Value) (ys : List UInt8), k ≤ n ∧ i = .int .i64 k ∧ Hd (Wr wr base p v' (xs ++ ys)) ∧ Hd (Gs p v w v' wr) ∧ Hd (ys ++ wcl 0 (L.drop k) = wcl 0 L)) (fun i _ => n - (intOf i).toNat)
  case atStart => exact ⟨0, v, [], Nat.zero_le _, rfl, ⟨by rw [List.append_nil]; exact HW.out⟩, ⟨Gs.refl _ _ _⟩, ⟨rfl⟩⟩
  case round =>
    obtain ⟨k, va, ys, hk, rfl, HWA, HGA, HY⟩ := hrel
    by_cases hlt : k < n
    · obtain ⟨bk, ok, x, rfl, -, hbk, hx, hcx⟩ := (HC.out _ _ HGA.out).get_int k hlt
      have HXK := Hd.mk hx
      clear hx
      go_wp2
      clear hbk hcx
      obtain ⟨wq, rfl⟩ : ∃ x, x = wr := ⟨_, rfl⟩
      go_loopw [5] (fun i wr => ∃ m : Nat, k ≤ m ∧ m ≤ n ∧ i = .int .i64 m ∧ Hd (Run L k m) ∧ Hd (Below wq.heap.size wq wr)) (fun i _ => n - (intOf i).toNat)
      case atStart => exact ⟨k, Nat.le_refl _, hk, rfl, ⟨.inl rfl⟩, ⟨Below.refl _ _⟩⟩
      case round =>
        obtain ⟨m, hkm, hm, rfl, HR, HB⟩ := hrel
        have HG1 : Hd (Gs p v w va wr) := ⟨HGA.out.trans (HWA.out.gs HB.out)⟩
        obtain ⟨bk2, ok2, x2, he2, -, hbk, hx, hcx⟩ := (HC.out _ _ HG1.out).get_int k hlt
        obtain ⟨rfl, rfl⟩ : bk = bk2 ∧ ok = ok2 := by simpa using he2
        obtain rfl : x = x2 := Option.some.inj (HXK.out.symm.trans hx)
        clear hx he2
        by_cases hlm : m < n
        · obtain ⟨bk3, ok3, y, he3, -, hbk3, hy, hcy⟩ := (HC.out _ _ HG1.out).get_int m hlm
          obtain ⟨rfl, rfl⟩ : bk = bk3 ∧ ok = ok3 := by simpa using he3
          have HYM := Hd.mk hy
          clear hy he3 hbk3
          by_cases hxy : y = x
          · subst hxy
            have HR2 := Hd.mk (run_step HR.out HXK.out HYM.out)
            go_wp2
            refine wp_region_can (.q [0, 1, 2, 3, 4, 5, 6, 7, 8, 9, 10, 11, 12, 13, 14] (.done)) (clsB _) (by kernel_rfl) (by kernel_rfl) (by intro _ _ d _ _ h; cases d <;> exact h) (clsB_drew _) ?_
            refine can_q (l := [⟨_,_,_,_,_,_⟩, ⟨_,_,_,_,_,_⟩, ⟨_,_,_,_,_,_⟩, ⟨_,_,_,_,_,_⟩, ⟨_,_,_,_,_,_⟩, ⟨_,_,_,_,_,_⟩, ⟨_,_,_,_,_,_⟩, ⟨_,_,_,_,_,_⟩, ⟨_,_,_,_,_,_⟩, ⟨_,_,_,_,_,_⟩, ⟨_,_,_,_,_,_⟩, ⟨_,_,_,_,_,_⟩, ⟨_,_,_,_,_,_⟩, ⟨_,_,_,_,_,_⟩, ⟨_,_,_,_,_,_⟩]) rfl ?_
            repeat (go_big_quiet_step (fail))
            refine wpQuiet_nil ?_
            refine can_done ?_
            go_wp2
            go_roundw
            case rel => exact ⟨m + 1, by omega, by omega, by go_num, HR2, ⟨below_drew1 HB.out⟩⟩
            case measure => simp [intOf]; omega
          · have hne : (y == x) = false := by simpa using hxy
            have HE := Hd.mk (run_end HR.out HXK.out (by rw [HYM.out]; exact fun h => hxy (Option.some.inj h)) (by rw [HN.out]; exact hm))
            clear hxy
            go_wp2
            refine wp_region_can (.q [0, 1, 2, 3, 4, 5, 6, 7, 8, 9, 10, 11, 12, 13, 14] (.done)) (clsB _) (by kernel_rfl) (by kernel_rfl) (by intro _ _ d _ _ h; cases d <;> exact h) (clsB_drew _) ?_
            refine can_q (l := [⟨_,_,_,_,_,_⟩, ⟨_,_,_,_,_,_⟩, ⟨_,_,_,_,_,_⟩, ⟨_,_,_,_,_,_⟩, ⟨_,_,_,_,_,_⟩, ⟨_,_,_,_,_,_⟩, ⟨_,_,_,_,_,_⟩, ⟨_,_,_,_,_,_⟩, ⟨_,_,_,_,_,_⟩, ⟨_,_,_,_,_,_⟩, ⟨_,_,_,_,_,_⟩, ⟨_,_,_,_,_,_⟩, ⟨_,_,_,_,_,_⟩, ⟨_,_,_,_,_,_⟩, ⟨_,_,_,_,_,_⟩]) rfl ?_
            repeat (go_big_quiet_step (fail))
            refine wpQuiet_nil ?_
            refine can_done ?_
            have HWB := Hd.mk (HWA.out.below (below_drew1 HB.out))
            have HGB : Hd (Gs p v w va wr.drew) := ⟨HG1.out.trans ⟨Fr.of_below (below_drew1 (Below.refl _ _)), .inl rfl⟩⟩
            have HJ := Hd.mk (one_calls wr.drew base p va (xs ++ ys) (((m : Nat) : Int) - k - 1) HWB.out (by have h8 := HLN.out 0; have h9 := congrArg List.length HY.out; rw [List.drop_zero] at h8; rw [List.length_append] at h9 ⊢; have h7 := HE.out.2; have h6 := congrArg List.length h7; simp only [List.length_append, w1, List.length_singleton] at h6; have := HL.out; omega))
            have HLY : Hd (xs.length + (ys.length + 2) ≤ 140737488355328) := ⟨by have h8 := HLN.out 0; have h9 := congrArg List.length HY.out; rw [List.drop_zero] at h8; rw [List.length_append] at h9; have h7 := HE.out.2; have h6 := congrArg List.length h7; simp only [List.length_append, w1, List.length_singleton] at h6; have := HL.out; omega⟩
            have hkm2 := HE.out.1
            go_wp2_with (first
              | (have hq_ := HW1; clear hq_; go_at_call 18; go_must (refine Calls.mono (one_calls wa base p v1 ((xs ++ ys) ++ w1 (((m : Nat) : Int) - k - 1)) x HW1.out (by simp only [List.length_append, w1, List.length_singleton]; have := HLY.out; omega)) ?_; rintro e wb ⟨⟨u, rfl⟩, v2, hw2, hg2⟩; have HW2 := Hd.mk hw2; have HG2 := Hd.mk (HGA1.out.trans hg2); clear hw2 hg2))
              | (go_at_call 18; go_must (refine Calls.mono HJ.out ?_; rintro e wa ⟨⟨u, rfl⟩, v1, hw1, hg1⟩; have HW1 := Hd.mk hw1; have HGA1 := Hd.mk (HGB.out.trans hg1); obtain ⟨bk2, ok2, x2, he2, -, hbk5, hx5, hcx5⟩ := (HC.out _ _ HGA1.out).get_int k hlt; obtain ⟨rfl, rfl⟩ : bk = bk2 ∧ ok = ok2 := (by simpa using he2); obtain rfl : x = x2 := Option.some.inj (HXK.out.symm.trans hx5); clear hx5 he2 hw1 hg1)))
            go_roundw
            case rel =>
              refine ⟨m, v2, ys ++ (w1 (((m : Nat) : Int) - k - 1) ++ w1 x), by omega, by go_num, ⟨?_⟩, HG2, ⟨?_⟩⟩
              · have h9 := HW2.out
                simp only [List.append_assoc] at h9 ⊢
                exact h9
              · have h9 := HY.out
                rw [HE.out.2] at h9
                rw [← h9]
                simp only [List.append_assoc]
            case measure => simp [intOf]; omega
        · obtain rfl : m = n := by omega
          have HE := Hd.mk (run_end HR.out HXK.out (by rw [List.getElem?_eq_none (by rw [HN.out]; exact Nat.le_refl _)]; exact fun h => by cases h) (by rw [HN.out]; exact Nat.le_refl _))
          go_wp2
          refine wp_region_can (.q [0, 1, 2, 3, 4, 5, 6, 7, 8, 9, 10, 11, 12, 13, 14] (.done)) (clsB _) (by kernel_rfl) (by kernel_rfl) (by intro _ _ d _ _ h; cases d <;> exact h) (clsB_drew _) ?_
          refine can_q (l := [⟨_,_,_,_,_,_⟩, ⟨_,_,_,_,_,_⟩, ⟨_,_,_,_,_,_⟩, ⟨_,_,_,_,_,_⟩, ⟨_,_,_,_,_,_⟩, ⟨_,_,_,_,_,_⟩, ⟨_,_,_,_,_,_⟩, ⟨_,_,_,_,_,_⟩, ⟨_,_,_,_,_,_⟩, ⟨_,_,_,_,_,_⟩, ⟨_,_,_,_,_,_⟩, ⟨_,_,_,_,_,_⟩, ⟨_,_,_,_,_,_⟩, ⟨_,_,_,_,_,_⟩, ⟨_,_,_,_,_,_⟩]) rfl ?_
          repeat (go_big_quiet_step (fail))
          refine wpQuiet_nil ?_
          refine can_done ?_
          have HWB := Hd.mk (HWA.out.below (below_drew1 HB.out))
          have HGB : Hd (Gs p v w va wr.drew) := ⟨HG1.out.trans ⟨Fr.of_below (below_drew1 (Below.refl _ _)), .inl rfl⟩⟩
          have HJ := Hd.mk (one_calls wr.drew base p va (xs ++ ys) (((m : Nat) : Int) - k - 1) HWB.out (by have h8 := HLN.out 0; have h9 := congrArg List.length HY.out; rw [List.drop_zero] at h8; rw [List.length_append] at h9 ⊢; have h7 := HE.out.2; have h6 := congrArg List.length h7; simp only [List.length_append, w1, List.length_singleton] at h6; have := HL.out; omega))
          have HLY : Hd (xs.length + (ys.length + 2) ≤ 140737488355328) := ⟨by have h8 := HLN.out 0; have h9 := congrArg List.length HY.out; rw [List.drop_zero] at h8; rw [List.length_append] at h9; have h7 := HE.out.2; have h6 := congrArg List.length h7; simp only [List.length_append, w1, List.length_singleton] at h6; have := HL.out; omega⟩
          have hkm2 := HE.out.1
          go_wp2_with (first
            | (have hq_ := HW1; clear hq_; go_at_call 18; go_must (refine Calls.mono (one_calls wa base p v1 ((xs ++ ys) ++ w1 (((m : Nat) : Int) - k - 1)) x HW1.out (by simp only [List.length_append, w1, List.length_singleton]; have := HLY.out; omega)) ?_; rintro e wb ⟨⟨u, rfl⟩, v2, hw2, hg2⟩; have HW2 := Hd.mk hw2; have HG2 := Hd.mk (HGA1.out.trans hg2); clear hw2 hg2))
            | (go_at_call 18; go_must (refine Calls.mono HJ.out ?_; rintro e wa ⟨⟨u, rfl⟩, v1, hw1, hg1⟩; have HW1 := Hd.mk hw1; have HGA1 := Hd.mk (HGB.out.trans hg1); obtain ⟨bk2, ok2, x2, he2, -, hbk5, hx5, hcx5⟩ := (HC.out _ _ HGA1.out).get_int k hlt; obtain ⟨rfl, rfl⟩ : bk = bk2 ∧ ok = ok2 := (by simpa using he2); obtain rfl : x = x2 := Option.some.inj (HXK.out.symm.trans hx5); clear hx5 he2 hw1 hg1)))
          go_roundw
          case rel =>
            refine ⟨m, v2, ys ++ (w1 (((m : Nat) : Int) - k - 1) ++ w1 x), by omega, by go_num, ⟨?_⟩, HG2, ⟨?_⟩⟩
            · have h9 := HW2.out
              simp only [List.append_assoc] at h9 ⊢
              exact h9
            · have h9 := HY.out
              rw [HE.out.2] at h9
              rw [← h9]
              simp only [List.append_assoc]
          case measure => simp [intOf]; omega
    · obtain rfl : k = n := by omega
      go_wp2
      go_end0
      exact ⟨⟨_, rfl⟩, va, by have h9 := HY.out; rw [← HN.out, wcl_end, List.append_nil] at h9; rw [← h9]; exact HWA.out, HGA.out⟩
end Go.Proofs.YtpcnekdilecakaaDoor.Tb
