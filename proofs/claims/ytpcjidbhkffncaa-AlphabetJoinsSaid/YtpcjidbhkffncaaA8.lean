/- What First computes. -/
import Derived.Test.YtpcjidbhkffncaaA7
namespace Go.Proofs.Ytpcjidbhkffncaa.Fn
open Go Go.RowKit Go.Proofs.Ytpcjidbhkffncaa.Can Go.Proofs.Ytpcjidbhkffncaa.Base
attribute [local go_sem] clsB AB.cell

theorem rightB_iff {L : List Int} : rightB L = true ↔ L = clsL (oneF L) 256 := by unfold rightB; rw [decide_eq_true_eq]
set_option maxRecDepth 20000 in
theorem first_calls (A : Option Addr) (n c : Nat) (L : List Int) (S : Nat → Prop) (w : World) (hS : ∀ k, S k → k < w.heap.size) (hC : Row I w S A n L) :
    Calls Try.prog 15 #[.slice A n c] w fun e w' => ∃ A' n' c', e = .returned (.slice A' n' c') ∧ Row I w' (fun k => w.heap.size ≤ k ∧ k < w'.heap.size) A' n' (firstL L) ∧ Below w.heap.size w w' := by
  have hn := hC.le
  have HL := Hd.mk hC.1
  have HC := Hd.mk hC; have HS := Hd.mk hS; clear hC hS
  cases hb : rightB L with
  | false =>
    have HF : Hd (firstL L = []) := ⟨by unfold firstL; rw [hb]; rfl⟩
    have HB := Hd.mk hb; clear hb
    go_enter Try.func15, Try.ntmps15
    go_wp2_with (go_at_call 10; go_must (refine Calls.mono (right_calls A n c L S w HC.out) ?_; rintro e w1 ⟨he, rfl⟩; rw [HB.out] at he; subst he))
    go_ret
    exact ⟨none, 0, 0, rfl, by rw [HF.out]; exact Row.nil _ _ _ _, Below.refl _ _⟩
  | true =>
    have HF : Hd (firstL L = asI (fstU (oneF L) 256)) := ⟨by unfold firstL; rw [hb]; rfl⟩
    have HE : Hd (L = clsL (oneF L) 256) := ⟨rightB_iff.1 hb⟩
    have hn2 : n = 256 := by rw [← HL.out, HE.out, clsL_len]
    subst hn2
    have HB := Hd.mk hb; clear hb
    go_enter Try.func15, Try.ntmps15
    go_wp2_with (go_at_call 10; go_must (refine Calls.mono (right_calls A 256 c L S w HC.out) ?_; rintro e w1 ⟨he, rfl⟩; rw [HB.out] at he; subst he))
    go_loopw [3, 12] (fun v i wr => ∃ (k : Nat), k ≤ 256 ∧ i = .int .i64 k ∧ Hd (Mine I wr w1.heap.size 3 v (asI (fstU (oneF L) k))) ∧ Hd (Below w1.heap.size w1 wr)) (fun _ i _ => 256 - (intOf i).toNat)
    case atStart => exact ⟨0, Nat.zero_le _, rfl, ⟨Mine.nil _ _ _ _⟩, ⟨Below.refl _ _⟩⟩
    case round =>
      obtain ⟨k, hk, rfl, HM, HB1⟩ := hrel
      obtain ⟨A2, z, c2, rfl, hz, hc2, hA2, hR2⟩ := HM.out.formN
      rw [asI_len, fstU_len] at hz
      have hlen : z ≤ k := by rw [hz]; exact met_len _ _
      have HZ := Hd.mk hz; have HR2 := Hd.mk hR2; clear hz hR2 hA2
      by_cases hlt : k < 256
      · obtain ⟨b, off, x, rfl, _, hb1, hx, hcell⟩ := (HC.out.below HS.out HB1.out).get_int k hlt
        have hx2 : x = (cls (oneF L) k : Int) := by
          have := clsL_get (f := oneF L) hlt
          rw [← HE.out, hx] at this; exact Option.some.inj this
        have HX := Hd.mk hx2; clear hx hx2
        by_cases hxq : x = z
        · have hJ : (x == (z : Int)) = true := by simpa using hxq
          have HT : Hd (asI (fstU (oneF L) (k + 1)) = asI (fstU (oneF L) k) ++ [(k : Int)]) := ⟨by rw [fstU_succ, if_pos (by have := HX.out; have := HZ.out; omega), asI_snoc]⟩
          go_wp2_with (at_builtin; go_must (refine append_snoc I (Ty.int_flat _) rfl (.tmp 21) (.tmp 23) 24 3 _ 8 rfl Try.underlying24 info3 rfl (by decide) (by decide) w1.heap.size (.slice A2 z c2) (asI (fstU (oneF L) k)) (k : Int) [.int .i64 (k : Int)] wr.heap.size rfl rfl (blk_new _ _ _ rfl) rfl (HM.out.below (by repeat (first | (with_reducible assumption) | (with_reducible exact Below.refl _ _) | (with_reducible apply below_drewL) | (with_reducible apply below_alloc) | (with_reducible apply below_drew1) | (with_reducible apply below_drewN) | (refine below_set ?_ (by first | omega | (simp only [size_alloc, size_drew, size_set]; omega)) _ _)))) (HM.out.ne_new (Nat.le_refl _)) (by simp only [size_alloc, size_drew]; have := HB1.out.size; omega) (by rw [asI_len, fstU_len, ← HZ.out]; omega) ?_; intro v2 w2 hM2 hb2 hk2 hat2; replace hb2 := Hd.mk (Below.trans (HB1.out.alloc HB1.out.size _) hb2); have HM2 := Hd.mk hM2; clear hM2 hk2 hat2))
          go_roundw
          case rel => exact ⟨k + 1, by omega, by go_num, ⟨by rw [HT.out]; exact HM2.out⟩, hb2⟩
          case measure => simp [intOf]; omega
        · have hJ : (x == (z : Int)) = false := by simpa using hxq
          have HT : Hd (asI (fstU (oneF L) (k + 1)) = asI (fstU (oneF L) k)) := ⟨by rw [fstU_succ, if_neg (by have := HX.out; have := HZ.out; omega)]⟩
          go_wp2
          go_roundw
          case rel => exact ⟨k + 1, by omega, by go_num, ⟨by rw [HT.out]; exact HM.out⟩, HB1⟩
          case measure => simp [intOf]; omega
      · obtain rfl : k = 256 := by omega
        go_wp2
        go_ret
        exact ⟨A2, z, c2, rfl, by rw [HF.out]; exact HR2.out, HB1.out⟩
end Go.Proofs.Ytpcjidbhkffncaa.Fn
