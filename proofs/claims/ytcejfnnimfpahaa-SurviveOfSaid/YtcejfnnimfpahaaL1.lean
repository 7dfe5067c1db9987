/- SurviveJoined: the walk. -/
import Derived.Test.YtcejfnnimfpahaaS13
import Derived.Test.YtcejfnnimfpahaaInts
namespace Go.Proofs.Ytcejfnnimfpahaa.Fn
open Go Go.RowKit Go.Proofs.Ytcejfnnimfpahaa.Can Go.Proofs.Ytcejfnnimfpahaa.Base
attribute [local go_sem] clsB AB.cell
attribute [local go_sem high] eq29_same

theorem opens27 : Opens Try.prog 27 spotT (fun _ => True) :=
  (opens_struct2 (a := Ty.int .i64) (b := Ty.int .i64) Try.underlying27 (opens_int Try.underlying3) (opens_int Try.underlying3) rfl rfl (by kernel_rfl) (by kernel_rfl) (by kernel_rfl)).map (fun x => ⟨x.1, x.2⟩) (fun _ _ => trivial) (by
    rintro w S x cs ⟨c0, c1, rfl, h0, h1⟩
    have h0' : c0 = [.int .i64 x.1] := h0
    have h1' : c1 = [.int .i64 x.2] := h1
    subst h0' h1'
    rfl)
theorem opens29 : Opens Try.prog 29 tokT (fun _ => True) := by
  refine (opens_ints (k := .i64) 6 Try.underlying29 rfl (fun i hi => ?_) (by kernel_rfl)).map (fun l => ⟨l.1.getD 0 0, l.1.getD 1 0, l.1.getD 2 0, l.1.getD 3 0, l.1.getD 4 0, l.1.getD 5 0⟩) (fun _ _ => trivial) ?_
  · rcases i with _ | _ | _ | _ | _ | _ | i
    all_goals first | exact ⟨_, rfl, Try.underlying3, rfl, by kernel_rfl⟩ | omega
  · rintro w S ⟨l, hl⟩ cs hr
    have hr' : cs = l.map (.int .i64) := hr
    subst hr'
    match l, hl with
    | [a, b, c, d, e, f], _ => rfl
theorem opens31 : Opens Try.prog 31 eT (fun _ => True) :=
  (opens_struct2 (a := spotT) (b := tokT) Try.underlying31 opens27 opens29 rfl rfl (by kernel_rfl) (by kernel_rfl) (by kernel_rfl)).map (fun x => ⟨x.1, x.2⟩) (fun _ _ => trivial) (by
    rintro w S x cs ⟨c0, c1, rfl, h0, h1⟩
    have h0' : c0 = spotE x.1 := h0
    have h1' : c1 = tokE x.2 := h1
    subst h0' h1'
    rfl)
theorem opens22 : Opens Try.prog 22 (Ty.slice eT (by decide)) (fun _ => True) :=
  (opens_slice Try.underlying22 (by kernel_rfl) (by decide) opens31).map id (fun _ _ => trivial) (fun _ _ _ _ h => h)
set_option maxRecDepth 20000 in
set_option maxHeartbeats 4000000 in
theorem joinedl_calls (A : Option Addr) (c : Nat) (xs : List E) (dst : Int) (s : ByteArray) (S : Nat → Prop) (w : World) (hS : ∀ k, S k → k < w.heap.size) (hC : Row eT w S A xs.length xs) :
    Calls Try.prog 3 #[.slice A xs.length c, .int .i64 dst, .string s] w fun e w' => e = .returned (.bool true) ∧ Below w.heap.size w w' := by
  obtain ⟨n, hn⟩ : ∃ n, xs.length = n := ⟨_, rfl⟩
  rw [hn] at hC ⊢
  have hc := hC.le
  have HN := Hd.mk hn
  have HS := Hd.mk hS; have HC := Hd.mk hC; clear hS hC hn
  by_cases hlong : 60 < n
  ·
    go_enter Try.func3, Try.ntmps3
    go_wp2_with (go_at_call 5; refine Calls.mono (alive_calls _) ?_; rintro e w1 ⟨rfl, hb1⟩)
    go_ret
    exact ⟨rfl, hb1⟩
  by_cases hbig : (200 : Int) < s.size
  ·
    go_enter Try.func3, Try.ntmps3
    go_wp2_with (go_at_call 5; refine Calls.mono (alive_calls _) ?_; rintro e w1 ⟨rfl, hb1⟩)
    go_ret
    exact ⟨rfl, hb1⟩
  have hss : s.size ≤ 100000 := by omega
  obtain ⟨bb, hbb⟩ : ∃ bb, joinF dst 0 (xs.map (·.tok)) = bb := ⟨_, rfl⟩
  obtain ⟨B, hB⟩ : ∃ B : ByteArray, ⟨(bytesU s (xs.map (·.tok))).toArray⟩ = B := ⟨_, rfl⟩
  have HBB := Hd.mk hbb; have HBy := Hd.mk hB; clear hbb hB
  have hbe : (bb == bb) = true := by simp
  go_enter Try.func3, Try.ntmps3
  go_wp2_with (go_at_call 6; go_must (refine Calls.mono (tokens_calls A n c xs S w HS.out HC.out (by omega)) ?_; rintro e w1 ⟨A1, c1, rfl, hr1, hb1⟩; have HR1 := Hd.mk hr1; have HB1 := Hd.mk hb1; clear hr1 hb1))
  go_loopw [28] (fun i wr => ∃ (k : Nat), k ≤ n ∧ i = .int .i64 k ∧ Hd (Below w1.heap.size w1 wr)) (fun i _ => n - (intOf i).toNat)
  case atStart => exact ⟨0, Nat.zero_le _, rfl, ⟨Below.refl _ _⟩⟩
  case round =>
    obtain ⟨k, hk, rfl, HB⟩ := hrel
    have HCr := Hd.mk (HC.out.below HS.out (below_seq HB1.out HB.out))
    have HRr := Hd.mk (HR1.out.below (fun k h => h.2) HB.out)
    by_cases hlt : k < n
    · obtain ⟨b, off, e, rfl, hb1, hx, c0, c1, d0, d1, d2, d3, d4, d5⟩ := e_get HCr.out k hlt
      obtain ⟨b2, off2, x, rfl, hb2, hx2, f0, f1, f2, f3, f4, f5⟩ := tok_get HRr.out k hlt
      obtain rfl : x = e.tok := by rw [List.getElem?_map, hx] at hx2; exact (Option.some.inj hx2).symm
      clear hx hx2
      go_wp2
      refine wp_region_can (.q [0, 1, 2, 3, 4, 5, 6] (.done)) (clsB _) (by kernel_rfl) (by kernel_rfl) (by intro _ _ d _ _ h; cases d <;> exact h) (clsB_drew _) ?_
      refine can_q (l := [⟨_,_,_,_,_,_⟩, ⟨_,_,_,_,_,_⟩, ⟨_,_,_,_,_,_⟩, ⟨_,_,_,_,_,_⟩, ⟨_,_,_,_,_,_⟩, ⟨_,_,_,_,_,_⟩, ⟨_,_,_,_,_,_⟩]) rfl ?_
      repeat (go_big_quiet_step (fail))
      refine wpQuiet_nil ?_
      refine can_done ?_
      go_wp2
      go_roundw
      case rel => exact ⟨k + 1, by omega, by go_num, ⟨by have := HB.out; exact (by repeat (first | (with_reducible assumption) | (with_reducible exact Below.refl _ _) | (with_reducible apply below_drewL) | (with_reducible apply below_alloc) | (with_reducible apply below_drew1) | (with_reducible apply below_drewN) | (refine below_set ?_ (by first | omega | (simp only [size_alloc, size_drew, size_set]; omega)) _ _)))⟩⟩
      case measure => simp [intOf]; omega
    · obtain rfl : k = n := by omega
      go_wp2_with (first
        | (go_at_call 5; go_must (refine Calls.mono (alive_calls _) ?_; rintro e w9 ⟨rfl, hb9⟩))
        | (go_at_call 10; go_must (refine Calls.mono (rbytes_calls s A1 k c1 (xs.map (·.tok)) (fun k => w.heap.size ≤ k ∧ k < w1.heap.size) w4 (fun q h => Nat.lt_of_lt_of_le h.2 (below_seq HB.out HB4.out).size) (HR1.out.below (fun k h => h.2) (below_seq HB.out HB4.out)) hss (by omega)) ?_; rintro e w5 ⟨he, hb5⟩; rw [HBy.out] at he; subst he; have HB5 := Hd.mk (below_seq HB4.out hb5); clear hb5))
        | (go_at_call 9; go_must (refine Calls.mono (bytes_calls s A k c xs S w3 (fun q h => Nat.lt_of_lt_of_le (HS.out q h) (below_seq (below_seq HB1.out HB.out) HB3.out).size) (HC.out.below HS.out (below_seq (below_seq HB1.out HB.out) HB3.out)) hss (by omega)) ?_; rintro e w4 ⟨he, hb4⟩; rw [HBy.out] at he; subst he; have HB4 := Hd.mk (below_seq HB3.out hb4); clear hb4))
        | (go_at_call 8; go_must (refine Calls.mono (rjoined_calls A1 k c1 (xs.map (·.tok)) dst (fun k => w.heap.size ≤ k ∧ k < w1.heap.size) w2 (fun q h => Nat.lt_of_lt_of_le h.2 (below_seq HB.out HB2.out).size) (HR1.out.below (fun k h => h.2) (below_seq HB.out HB2.out))) ?_; rintro e w3 ⟨he, hb3⟩; rw [HBB.out] at he; subst he; have HB3 := Hd.mk (below_seq HB2.out hb3); clear hb3))
        | (go_at_call 7; go_must (refine Calls.mono (joined_calls A k c xs dst S wr (fun q h => Nat.lt_of_lt_of_le (HS.out q h) (below_seq HB1.out HB.out).size) HCr.out) ?_; rintro e w2 ⟨he, hb2⟩; rw [HBB.out] at he; subst he; have HB2 := Hd.mk hb2; clear hb2)))
      go_ret
      exact ⟨rfl, below_seq (below_seq HB1.out HB.out) (below_seq HB5.out hb9)⟩
end Go.Proofs.Ytcejfnnimfpahaa.Fn
