/- AlphabetRows: the walk. -/
import Derived.Test.YtpcjidbhkffncaaL1
namespace Go.Proofs.Ytpcjidbhkffncaa.Fn
open Go Go.RowKit Go.Proofs.Ytpcjidbhkffncaa.Can Go.Proofs.Ytpcjidbhkffncaa.Base
attribute [local go_sem] clsB AB.cell

set_option maxRecDepth 20000 in
set_option maxHeartbeats 2000000 in
theorem rows_calls (q : Int) (A : Option Addr) (c : Nat) (xs : List Int) (S : Nat → Prop) (w : World) (hS : ∀ k, S k → k < w.heap.size) (hC : Row I w S A xs.length xs) (hcap : xs.length ≤ c) :
    Calls Try.prog 5 #[.slice A xs.length c, .int .i64 q] w fun e w' => e = .returned (.bool true) ∧ Below w.heap.size w w' := by
  have hc := hC.le
  have HCAP := Hd.mk hcap; clear hcap
  have HS := Hd.mk hS; have HC := Hd.mk hC; clear hS hC
  by_cases hlong : 300 < xs.length
  · go_enter Try.func5, Try.ntmps5
    go_wp2_with (go_at_call 6; refine Calls.mono (alive_calls _) ?_; rintro e w1 ⟨rfl, hb1⟩)
    go_ret
    exact ⟨rfl, hb1⟩
  · obtain ⟨n, hn⟩ : ∃ n, xs.length = n := ⟨_, rfl⟩
    rw [hn] at HC HCAP hlong hc ⊢
    clear hn
    obtain ⟨bb, hbb⟩ : ∃ bb, rightB xs = bb := ⟨_, rfl⟩
    have HBB := Hd.mk hbb; clear hbb
    obtain ⟨F, hF⟩ : ∃ F, firstL xs = F := ⟨_, rfl⟩
    obtain ⟨G, hG⟩ : ∃ G, asI (bytesU xs q (mn n)) = G := ⟨_, rfl⟩
    have HF := Hd.mk hF; have HG := Hd.mk hG; clear hF hG
    have hbe : (bb == bb) = true := by simp
    go_enter Try.func5, Try.ntmps5
    go_wp2_with (first
      | (go_at_call 6; go_must (refine Calls.mono (alive_calls _) ?_; rintro e w9 ⟨rfl, hb9⟩))
      | (go_at_call 9; have hq_ := HR6; clear hq_; go_must (refine Calls.mono (same_calls A5 A6 c5 c6 n5 G (fun b => w4.heap.size ≤ b ∧ b < w5.heap.size) (fun b => w5.heap.size ≤ b ∧ b < w6.heap.size) w6 (fun k h => Nat.lt_of_lt_of_le h.2 hb6.size) (fun k h => h.2) (HR5.out.below (fun k h => h.2) hb6) HR6.out) ?_; rintro e w7 ⟨rfl, hb7⟩; have HB7 := Hd.mk (below_seq HB6.out hb7); clear hb7 hb6))
      | (go_at_call 18; go_must (refine Calls.mono (rbytes_calls A n c xs q S w5 (fun k hk => Nat.lt_of_lt_of_le (HS.out k hk) HB5.out.size) (HC.out.below HS.out HB5.out)) ?_; rintro e w6 ⟨A6, n6, c6, rfl, hr6, hb6⟩; rw [HG.out] at hr6; have hn6 : n5 = n6 := (by rw [← hr6.1, ← HR5.out.1]); subst hn6; have HR6 := Hd.mk hr6; have HB6 := Hd.mk (below_seq HB5.out hb6); clear hr6))
      | (go_at_call 17; go_must (refine Calls.mono (bytes_calls A n c xs q S w4 (fun k hk => Nat.lt_of_lt_of_le (HS.out k hk) HB4.out.size) (HC.out.below HS.out HB4.out) HCAP.out) ?_; rintro e w5 ⟨A5, n5, c5, rfl, hr5, hb5⟩; rw [HG.out] at hr5; have HR5 := Hd.mk hr5; have HB5 := Hd.mk (below_seq HB4.out hb5); clear hr5 hb5))
      | (go_at_call 9; go_must (refine Calls.mono (same_calls A2 A3 c2 c3 n2 F (fun b => w1.heap.size ≤ b ∧ b < w2.heap.size) (fun b => w2.heap.size ≤ b ∧ b < w3.heap.size) w3 (fun k h => Nat.lt_of_lt_of_le h.2 hb3.size) (fun k h => h.2) (HR2.out.below (fun k h => h.2) hb3) HR3.out) ?_; rintro e w4 ⟨rfl, hb4⟩; have HB4 := Hd.mk (below_seq HB3.out hb4); clear hb4 hb3))
      | (go_at_call 16; go_must (refine Calls.mono (rfirst_calls A n c xs S w2 (fun k hk => Nat.lt_of_lt_of_le (HS.out k hk) HB2.out.size) (HC.out.below HS.out HB2.out)) ?_; rintro e w3 ⟨A3, n3, c3, rfl, hr3, hb3⟩; rw [HF.out] at hr3; have hn3 : n2 = n3 := (by rw [← hr3.1, ← HR2.out.1]); subst hn3; have HR3 := Hd.mk hr3; have HB3 := Hd.mk (below_seq HB2.out hb3); clear hr3))
      | (go_at_call 15; go_must (refine Calls.mono (first_calls A n c xs S w1 (fun k hk => Nat.lt_of_lt_of_le (HS.out k hk) HB1.out.size) (HC.out.below HS.out HB1.out)) ?_; rintro e w2 ⟨A2, n2, c2, rfl, hr2, hb2⟩; rw [HF.out] at hr2; have HR2 := Hd.mk hr2; have HB2 := Hd.mk (below_seq HB1.out hb2); clear hr2 hb2))
      | (go_at_call 14; go_must (refine Calls.mono (rright_calls A n c xs S w HS.out HC.out) ?_; rintro e w1 ⟨he, hb1⟩; rw [HBB.out] at he; subst he; have HB1 := Hd.mk hb1; clear hb1))
      | (go_at_call 10; go_must (refine Calls.mono (right_calls A n c xs S w HC.out) ?_; rintro e w ⟨he, rfl⟩; rw [HBB.out] at he; subst he)))
    go_ret
    exact ⟨rfl, below_seq HB7.out hb9⟩
end Go.Proofs.Ytpcjidbhkffncaa.Fn
