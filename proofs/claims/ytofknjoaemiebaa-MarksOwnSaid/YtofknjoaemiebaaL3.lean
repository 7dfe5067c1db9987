/- MarksOwn: the walk. -/
import Derived.Test.YtofknjoaemiebaaM9
namespace Go.Proofs.Ytofknjoaemiebaa.Fn
open Go Go.RowKit Go.Proofs.Ytofknjoaemiebaa.Can Go.Proofs.Ytofknjoaemiebaa.Base
attribute [local go_sem] clsB AB.cell clsX AX.cell

set_option maxRecDepth 20000 in
set_option maxHeartbeats 2000000 in
theorem own_calls (n or : Int) (w : World) : Calls Try.prog 5 #[.int .i64 n, .int .i64 or] w fun e w' => e = .returned (.bool true) ∧ Below w.heap.size w w' := by
  have H0 : Hd (∀ w, Nob w (.pointer none)) := ⟨fun _ => .inl rfl⟩
  have hlen : Hd ((idsUpto [took (slot0 0) n n, slot0 0, slot0 0] 3).length = 1) := ⟨rfl⟩
  go_enter Try.func5, Try.ntmps5
  go_wp2_with (first
    | (go_at_call 11; have hq_ := HT5; clear hq_; go_must (refine Calls.mono (get_int (id := 0) (i := 0) (s := took (slot0 0) n n) HT5.out (by decide) rfl rfl) ?_; rintro e w6 ⟨he, hb6⟩; obtain rfl : e = .returned (.tuple #[.int .i64 n, .int .i64 0]) := he; have HT6 := Hd.mk (HT5.out.below hb6); have HB6 := Hd.mk (below_seq HB5.out hb6); clear hb6 HT5 HB5))
    | (go_at_call 9; have hq_ := HX4; clear hq_; go_must (refine Calls.mono (set_int (i := 0) (s := freed 0 (took (slot0 0) n n)) n 5 HX4.out (by decide) (fun j hj => absurd hj (Nat.not_lt_zero j)) rfl rfl) ?_; rintro e w5 ⟨rfl, h, f5⟩; have HT5 := Hd.mk (HT4.out.by f5 (by omega) (by omega)); have HB5 : Hd (Below w.heap.size w w5) := ⟨Fr.seq HB4.out f5 HB4.out.size (fun b hb hx => by omega)⟩; clear h HX4 HT4 HB4))
    | (go_at_call 13; have hq_ := HX3; clear hq_; go_must (refine Calls.mono (rel_int (id := 0) (i := 0) (s := took (slot0 0) n n) HX3.out (by decide) rfl rfl) ?_; rintro e w4 ⟨rfl, h, f4⟩; have HX4 := Hd.mk h; have HT4 := Hd.mk (HT3.out.by f4 (by omega) (by omega)); have HB4 : Hd (Below w.heap.size w w4) := ⟨Fr.seq HB3.out f4 HB3.out.size (fun b hb hx => by omega)⟩; clear h HX3 HT3 HB3))
    | (go_at_call 22; have hq_ := HT2; clear hq_; go_must (refine Calls.mono (copy_calls HT2.out) ?_; rintro e w3 ⟨p2, r2, c2, rfl, hp2, hr2, hX, hb3⟩; have HX3 := Hd.mk hX; have HT3 := Hd.mk (HT2.out.below hb3); have HB3 := Hd.mk (below_seq HB2.out hb3); have hw2 := HB2.out.size; have hrl := HT2.out.row.lt; have hpl := blk_lt HT2.out.str; clear hX hb3 HT2 HB2))
    | (go_at_call 9; have hq_ := HT1; clear hq_; go_must (refine Calls.mono (set_int (i := 0) (s := slot0 0) n n HT1.out (by decide) (fun j hj => absurd hj (Nat.not_lt_zero j)) rfl rfl) ?_; rintro e w2 ⟨he, h, f2⟩; obtain rfl : e = .returned (.tuple #[.int .i64 0, .int .i64 0]) := he; have HT2 : Hd (Tab (Value.int .i64) 54 64 w2 p r 3 3 0 [took (slot0 0) n n, slot0 0, slot0 0]) := ⟨h⟩; have HB2 : Hd (Below w.heap.size w w2) := ⟨Fr.seq HB1.out f2 HB1.out.size (fun b hb hx => by omega)⟩; clear h HT1 HB1))
    | (go_at_call 7; go_must (refine Calls.mono (new_int 3 w) ?_; rintro e w1 ⟨p, r, rfl, hp, hr, h0, hb1⟩; have HT1 : Hd (Tab (Value.int .i64) 54 64 w1 p r 3 3 0 [slot0 0, slot0 0, slot0 0]) := ⟨h0⟩; have HB1 := Hd.mk hb1; clear h0 hb1)))
  generalize hV : World.alloc _ _ = V
  have HBV : Below w6.heap.size w6 V := below_of hV (by repeat (first | (with_reducible assumption) | (with_reducible exact Below.refl _ _) | (with_reducible apply below_drewL) | (with_reducible apply below_alloc) | (with_reducible apply below_drew1) | (with_reducible apply below_drewN) | (refine below_set ?_ (by first | omega | (simp only [size_alloc, size_drew, size_set]; omega)) _ _)))
  have zV : Hd (V.heap.size = w6.heap.size + 1) := ⟨by rw [← hV]; simp only [size_alloc]⟩
  have V0 := at_of hV (blk_new _ _ _ rfl)
  have V0l := blk_lt V0
  clear hV
  have HB := Hd.mk (below_seq HB6.out HBV); have HT := Hd.mk (HT6.out.below HBV); clear HBV HB6 HT6 zV
  have HZ : Hd (Nob V (.pointer (some ⟨w6.heap.size, 0, none⟩))) := ⟨.inr ⟨_, rfl, V0⟩⟩
  clear V0 V0l
  have HL : Hd (Below V.heap.size V V) := ⟨Below.refl _ _⟩
  go_wp2_with (first
    | (go_at_call 6; go_must (refine Calls.mono (alive_calls _) ?_; rintro e w9 ⟨rfl, hb9⟩))
    | (go_at_call 22; go_must (refine Calls.mono (nob22 _) ?_; rintro e w10 ⟨rfl, rfl⟩))
    | (go_at_call 19; go_must (refine Calls.mono (nob19 or (H0.out _)) ?_; rintro e w10 ⟨rfl, rfl⟩))
    | (go_at_call 21; go_must (refine Calls.mono (nob21 HZ7.out) ?_; rintro e w10 ⟨rfl, rfl⟩))
    | (go_at_call 18; have hq_ := HZ7; clear hq_; go_must (refine Calls.mono (nob18 (H0.out _)) ?_; rintro e w10 ⟨rfl, rfl⟩))
    | (go_at_call 13; go_must (refine Calls.mono (nob13 n HZ7.out) ?_; rintro e w10 ⟨rfl, rfl⟩))
    | (go_at_call 18; go_must (refine Calls.mono (len_calls HT.out (by decide)) ?_; rintro e w7 ⟨he, hb7⟩; rw [hlen.out] at he; subst he; have HZ7 : Hd (Nob w7 (.pointer (some ⟨w6.heap.size, 0, none⟩))) := ⟨by rcases HZ.out with h | ⟨p, h, hs⟩; (cases h); (exact .inr ⟨p, h, blk_below hs hb7⟩)⟩; have HB7 := Hd.mk (below_seq HB.out hb7); clear hb7))
    | (go_at_call 11; go_must (refine Calls.mono (nob11 n (H0.out _)) ?_; rintro e w10 ⟨rfl, rfl⟩))
    | (go_at_call 9; go_must (refine Calls.mono (nob9 n n (by first | exact H0.out _ | exact HZ.out)) ?_; rintro e w10 ⟨rfl, rfl⟩)))
  go_ret
  exact ⟨rfl, below_seq HB7.out hb9⟩
end Go.Proofs.Ytofknjoaemiebaa.Fn
