/- TicketPlays: the walk. -/
import Derived.Test.YtipehakaiiofiaaT10
import Derived.Deep.DeepCutAuto
import Derived.Deep.CutBlock
namespace Go.Proofs.Ytipehakaiiofiaa.Fn
open Go Go.RowKit Go.Proofs.Ytipehakaiiofiaa.Can Go.Proofs.Ytipehakaiiofiaa.Base
attribute [local go_sem] clsB AB.cell clsX AX.cell

theorem Desk.by {α : Type} {enc : α → Value} {tD tE : TypeId} {w w' : World} {p r m held a : Nat} {L rs : List α} {X : Nat → Prop} (h : Desk enc tD tE w p r m held L rs a) (hf : Fr X w w') (hp : ¬ X p) (hr : ¬ X r) : Desk enc tD tE w' p r m held L rs a :=
  h.fr (hf.same p (blk_lt h.str) hp) (hf.same r (blk_lt h.row) hr)
theorem RefD.by {w w' : World} {q m held : Nat} {A : Option Addr} {c : Nat} {L : List Int} {X : Nat → Prop} (h : RefD w q m held A c L) (hf : Fr X w w') (hX : ∀ b, X b → b < q) : RefD w' q m held A c L :=
  h.fr (fun b hb hl => hf.same b hl fun hx => by have := hX b hx; omega) hf.size

set_option maxRecDepth 20000 in
set_option maxHeartbeats 4000000 in
theorem plays_calls (seats : Int) (A : Option Addr) (c : Nat) (xs : List Act) (S : Nat → Prop) (w : World) (hS : ∀ k, S k → k < w.heap.size) (hC : Row actT w S A xs.length xs) :
    Calls Try.prog 4 #[.int .i64 seats, .slice A xs.length c] w fun e w' => e = .returned (.bool true) ∧ Below w.heap.size w w' := by
  have hc := hC.le
  have HS := Hd.mk hS; clear hS
  have HC := Hd.mk hC; clear hC
  by_cases hlong : 120 < xs.length
  · go_enter Try.func4, Try.ntmps4
    go_wp2_with (go_at_call 6; refine Calls.mono (alive_calls _) ?_; rintro e w1 ⟨rfl, hb1⟩)
    go_ret
    exact ⟨rfl, hb1⟩
  · have hm1 := seatsN_pos seats
    go_enter Try.func4, Try.ntmps4
    go_wp2_with (first
      | (go_at_call 15; go_must (refine Calls.mono (rnew_calls seats w1) ?_; rintro e w2 ⟨q, rfl, hq, hQ, hb2⟩; have HQ := Hd.mk hQ; have HD := Hd.mk (HD1.out.below hb2); have hpq : p < q := (by have := blk_lt HD1.out.str; omega); have hrq : r < q := (by have := blk_lt HD1.out.row; omega); have HB := Hd.mk (below_seq HB1.out hb2); clear hQ hb2))
      | (go_at_call 7; go_must (refine Calls.mono (new_int seats w) ?_; rintro e w1 ⟨p, r, rfl, hp, hr, h0, hb1⟩; have HD1 := Hd.mk h0; clear h0; have HB1 := Hd.mk hb1; clear hb1)))
    generalize seatsN seats = m at *
    go_loopw [27] (fun i wr => ∃ (k held a : Nat) (rs L : List Int) (B : Option Addr) (d : Nat), k ≤ xs.length ∧ i = .int .i64 k ∧ Hd (Desk (Value.int .i64) 42 3 wr p r m held L rs a) ∧ Hd (RefD wr q m held B d L) ∧ Hd (Below w.heap.size w wr)) (fun i _ => xs.length - (intOf i).toNat)
    case atStart => exact ⟨0, 0, 0, _, _, _, _, Nat.zero_le _, rfl, HD, HQ, HB⟩
    case round =>
      clear HD HQ HB HD1 HB1 hq
      obtain ⟨k, held, a, rs, L, B, d, hk, rfl, HD, HQ, HB⟩ := hrel
      by_cases hlt : k < xs.length
      · obtain ⟨b, off, s, rfl, hb1, _, hp0, hp1⟩ := act_get (HC.out.below HS.out HB.out) k hlt
        go_upto_block 2 with fail
        go_cut [9, 10, 32] (fun t9 t10 _ wx => ∃ (bb : Bool) (held3 : Nat) (L3 rs3 : List Int) (a3 : Nat) (B3 : Option Addr) (d3 : Nat), t9 = .bool bb ∧ t10 = .bool bb ∧ Hd (Desk (Value.int .i64) 42 3 wx p r m held3 L3 rs3 a3) ∧ Hd (RefD wx q m held3 B3 d3 L3) ∧ Hd (Below w.heap.size w wx))
        case first =>
          by_cases hk0 : s.kind = 0
          · go_wp2_with (first
              | (go_at_call 16; go_must (refine Calls.mono (rseat_calls HQ2.out) ?_; rintro e w3 ⟨rfl, h, f3⟩; have HQ3 := Hd.mk h; have HD3 := Hd.mk (HD2.out.by f3 (by omega) (by omega)); clear h HQ2 HD2; have HB3 : Hd (Below w.heap.size w w3) := ⟨Fr.seq HB2.out f3 HB2.out.size (fun b hb hx => by omega)⟩; clear HB2))
              | (go_at_call 8; go_must (refine Calls.mono (seat_int (HD.out.below (by repeat (first | (with_reducible assumption) | (with_reducible exact Below.refl _ _) | (with_reducible apply below_drewL) | (with_reducible apply below_alloc) | (with_reducible apply below_drew1) | (with_reducible apply below_drewN) | (refine below_set ?_ (by first | omega | (simp only [size_alloc, size_drew, size_set]; omega)) _ _))))) ?_; rintro e w2 ⟨rfl, h, f2⟩; have HD2 := Hd.mk h; have HQ2 := Hd.mk ((HQ.out.fr (fun b _ hb => by first | rfl | exact (Below.heap_alloc _ _ _ hb)) (by first | exact Nat.le_refl _ | (simp only [size_alloc, size_drew]; omega))).by f2 (fun b hb => by omega)); clear h HQ; have HB2 : Hd (Below w.heap.size w w2) := ⟨Fr.seq (below_seq HB.out (by repeat (first | (with_reducible assumption) | (with_reducible exact Below.refl _ _) | (with_reducible apply below_drewL) | (with_reducible apply below_alloc) | (with_reducible apply below_drew1) | (with_reducible apply below_drewN) | (refine below_set ?_ (by first | omega | (simp only [size_alloc, size_drew, size_set]; omega)) _ _)))) f2 (by simp only [size_alloc, size_drew, size_set]; have := HB.out.size; omega) (fun b hb hx => by omega)⟩; clear HD HB)))
            go_meet
            case rel => exact ⟨_, _, _, _, _, _, _, rfl, rfl, HD3, HQ3, HB3⟩
          by_cases hk1 : s.kind = 1
          · have hnp : ¬ wr.heap.size = p := by have := blk_lt HD.out.str; omega
            have hnr : ¬ wr.heap.size = r := by have := blk_lt HD.out.row; omega
            go_wp2
            refine wp_region_can (.q [0, 1, 2, 4, 5, 6] (.e 3 true (.e 7 false (.q [8, 9] (.done))))) (clsX (fun b => b = p ∨ b = r) _) (by kernel_rfl) (by kernel_rfl) (by intro _ _ d _ _ h; cases d <;> exact h) (clsX_drew _ _) ?_
            refine can_q (l := [⟨_,_,_,_,_,_⟩, ⟨_,_,_,_,_,_⟩, ⟨_,_,_,_,_,_⟩, ⟨_,_,_,_,_,_⟩, ⟨_,_,_,_,_,_⟩, ⟨_,_,_,_,_,_⟩]) rfl ?_
            repeat (go_big_quiet_step (fail))
            refine wpQuiet_nil ?_
            refine can_e (o := ⟨_,_,_,_,_,_⟩) rfl (fun K hK => ?_)
            go_wp2_with (go_at_call 9; go_must (refine Calls.mono (line_int s.n (HD.out.below (by repeat (first | (with_reducible assumption) | (with_reducible exact Below.refl _ _) | (with_reducible apply below_drewL) | (with_reducible apply below_alloc) | (with_reducible apply below_drew1) | (with_reducible apply below_drewN) | (refine below_set ?_ (by first | omega | (simp only [size_alloc, size_drew, size_set]; omega)) _ _))))) ?_; rintro e w2 ⟨rfl, ⟨rs2, h⟩, f2⟩; have HD2 := Hd.mk h; have HQ2 := Hd.mk ((HQ.out.fr (fun b _ hb => by first | rfl | exact (Below.heap_alloc _ _ _ hb)) (by first | exact Nat.le_refl _ | (simp only [size_alloc, size_drew]; omega))).by f2 (fun b hb => by omega)); clear h HQ; have HB2 : Hd (Below w.heap.size w w2) := ⟨Fr.seq (below_seq HB.out (by repeat (first | (with_reducible assumption) | (with_reducible exact Below.refl _ _) | (with_reducible apply below_drewL) | (with_reducible apply below_alloc) | (with_reducible apply below_drew1) | (with_reducible apply below_drewN) | (refine below_set ?_ (by first | omega | (simp only [size_alloc, size_drew, size_set]; omega)) _ _)))) f2 (by simp only [size_alloc, size_drew, size_set]; have := HB.out.size; omega) (fun b hb hx => by omega)⟩; clear HD HB))
            refine onK_normal (hK _ _ ⟨clsX _ _, clsX_self _ _, fun _ => clsX_next f2.size f2.same, ?_⟩)
            clear hK K
            refine can_e (o := ⟨_,_,_,_,_,_⟩) rfl (fun K hK => ?_)
            go_wp2_with (go_at_call 17; go_must (refine Calls.mono (rline_calls s.n HQ2.out) ?_; rintro e w3 ⟨rfl, ⟨B3, d3, h⟩, f3⟩; have HQ3 := Hd.mk h; have HD3 := Hd.mk (HD2.out.by f3 (by omega) (by omega)); clear h HQ2 HD2; have HB3 : Hd (Below w.heap.size w w3) := ⟨Fr.seq HB2.out f3 HB2.out.size (fun b hb hx => by omega)⟩; clear HB2))
            refine onK_normal (hK _ _ ⟨fun _ => True, trivial, (fun h => by cases h), ?_⟩)
            clear hK K
            refine can_q (l := [⟨_,_,_,_,_,_⟩, ⟨_,_,_,_,_,_⟩]) rfl ?_
            repeat (go_big_quiet_step (fail))
            refine wpQuiet_nil ?_
            refine can_done ?_
            go_wp2
            go_meet
            case rel => exact ⟨_, _, _, _, _, _, _, rfl, rfl, HD3, HQ3, HB3⟩
          by_cases hk2 : s.kind = 2
          · cases L with
            | nil =>
              go_wp2_with (first
                | (go_at_call 18; go_must (refine Calls.mono (rcallnil_calls HQ2.out) ?_; rintro e w3 ⟨rfl, hw⟩; subst hw; have HD3 := HD2; have HQ3 := HQ2; have HB3 := HB2; clear HD2 HQ2 HB2))
                | (go_at_call 10; go_must (refine Calls.mono (callnil_int (HD.out.below (by repeat (first | (with_reducible assumption) | (with_reducible exact Below.refl _ _) | (with_reducible apply below_drewL) | (with_reducible apply below_alloc) | (with_reducible apply below_drew1) | (with_reducible apply below_drewN) | (refine below_set ?_ (by first | omega | (simp only [size_alloc, size_drew, size_set]; omega)) _ _))))) ?_; rintro e w2 ⟨rfl, hw⟩; have HD2 := Hd.mk (HD.out.below (w' := w2) (by rw [hw]; exact (by repeat (first | (with_reducible assumption) | (with_reducible exact Below.refl _ _) | (with_reducible apply below_drewL) | (with_reducible apply below_alloc) | (with_reducible apply below_drew1) | (with_reducible apply below_drewN) | (refine below_set ?_ (by first | omega | (simp only [size_alloc, size_drew, size_set]; omega)) _ _))))); have HQ2 := Hd.mk (HQ.out.fr (w' := w2) (fun b _ hb => by rw [hw]; first | rfl | exact (Below.heap_alloc _ _ _ hb)) (by rw [hw]; first | exact Nat.le_refl _ | (simp only [size_alloc, size_drew]; omega))); have HB2 : Hd (Below w.heap.size w w2) := ⟨by rw [hw]; exact below_seq HB.out (by repeat (first | (with_reducible assumption) | (with_reducible exact Below.refl _ _) | (with_reducible apply below_drewL) | (with_reducible apply below_alloc) | (with_reducible apply below_drew1) | (with_reducible apply below_drewN) | (refine below_set ?_ (by first | omega | (simp only [size_alloc, size_drew, size_set]; omega)) _ _)))⟩; clear HD HB HQ hw)))
              go_meet
              case rel => exact ⟨_, _, _, _, _, _, _, rfl, rfl, HD3, HQ3, HB3⟩
            | cons x L =>
              go_wp2_with (first
                | (go_at_call 18; go_must (refine Calls.mono (rcall_calls HQ2.out) ?_; rintro e w3 ⟨rfl, ⟨B3, d3, h⟩, f3⟩; have HQ3 := Hd.mk h; have HD3 := Hd.mk (HD2.out.by f3 (by omega) (by omega)); clear h HQ2 HD2; have HB3 : Hd (Below w.heap.size w w3) := ⟨Fr.seq HB2.out f3 HB2.out.size (fun b hb hx => by omega)⟩; clear HB2))
                | (go_at_call 10; go_must (refine Calls.mono (call_int (HD.out.below (by repeat (first | (with_reducible assumption) | (with_reducible exact Below.refl _ _) | (with_reducible apply below_drewL) | (with_reducible apply below_alloc) | (with_reducible apply below_drew1) | (with_reducible apply below_drewN) | (refine below_set ?_ (by first | omega | (simp only [size_alloc, size_drew, size_set]; omega)) _ _))))) ?_; rintro e w2 ⟨rfl, ⟨rs2, a2, h⟩, f2⟩; have HD2 := Hd.mk h; have HQ2 := Hd.mk ((HQ.out.fr (fun b _ hb => by first | rfl | exact (Below.heap_alloc _ _ _ hb)) (by first | exact Nat.le_refl _ | (simp only [size_alloc, size_drew]; omega))).by f2 (fun b hb => by omega)); clear h HQ; have HB2 : Hd (Below w.heap.size w w2) := ⟨Fr.seq (below_seq HB.out (by repeat (first | (with_reducible assumption) | (with_reducible exact Below.refl _ _) | (with_reducible apply below_drewL) | (with_reducible apply below_alloc) | (with_reducible apply below_drew1) | (with_reducible apply below_drewN) | (refine below_set ?_ (by first | omega | (simp only [size_alloc, size_drew, size_set]; omega)) _ _)))) f2 (by simp only [size_alloc, size_drew, size_set]; have := HB.out.size; omega) (fun b hb hx => by omega)⟩; clear HD HB)))
              go_meet
              case rel => exact ⟨_, _, _, _, _, _, _, rfl, rfl, HD3, HQ3, HB3⟩
          · go_wp2_with (first
              | (go_at_call 19; go_must (refine Calls.mono (rleave_calls HQ2.out) ?_; rintro e w3 ⟨rfl, h, f3⟩; have HQ3 := Hd.mk h; have HD3 := Hd.mk (HD2.out.by f3 (by omega) (by omega)); clear h HQ2 HD2; have HB3 : Hd (Below w.heap.size w w3) := ⟨Fr.seq HB2.out f3 HB2.out.size (fun b hb hx => by omega)⟩; clear HB2))
              | (go_at_call 11; go_must (refine Calls.mono (leave_int (HD.out.below (by repeat (first | (with_reducible assumption) | (with_reducible exact Below.refl _ _) | (with_reducible apply below_drewL) | (with_reducible apply below_alloc) | (with_reducible apply below_drew1) | (with_reducible apply below_drewN) | (refine below_set ?_ (by first | omega | (simp only [size_alloc, size_drew, size_set]; omega)) _ _))))) ?_; rintro e w2 ⟨rfl, h, f2⟩; have HD2 := Hd.mk h; have HQ2 := Hd.mk ((HQ.out.fr (fun b _ hb => by first | rfl | exact (Below.heap_alloc _ _ _ hb)) (by first | exact Nat.le_refl _ | (simp only [size_alloc, size_drew]; omega))).by f2 (fun b hb => by omega)); clear h HQ; have HB2 : Hd (Below w.heap.size w w2) := ⟨Fr.seq (below_seq HB.out (by repeat (first | (with_reducible assumption) | (with_reducible exact Below.refl _ _) | (with_reducible apply below_drewL) | (with_reducible apply below_alloc) | (with_reducible apply below_drew1) | (with_reducible apply below_drewN) | (refine below_set ?_ (by first | omega | (simp only [size_alloc, size_drew, size_set]; omega)) _ _)))) f2 (by simp only [size_alloc, size_drew, size_set]; have := HB.out.size; omega) (fun b hb hx => by omega)⟩; clear HD HB)))
            go_meet
            case rel => exact ⟨_, _, _, _, _, _, _, rfl, rfl, HD3, HQ3, HB3⟩
        case rest =>
          clear HD HQ HB
          obtain ⟨bb, held3, L3, rs3, a3, B3, d3, rfl, rfl, HD4, HQ4, HB4⟩ := hcut
          have hz1 := HD4.out.held_
          have hz2 := HD4.out.in_
          have hz3 := HD4.out.m1
          obtain ⟨n, hn⟩ : ∃ n, L3.length = n := ⟨_, rfl⟩
          rw [hn] at hz2
          have HN := Hd.mk hn; clear hn
          obtain ⟨fr, hfr⟩ : ∃ fr, m - held3 = fr := ⟨_, rfl⟩
          have hfr' : (m : Int) - held3 = fr := by omega
          have HF := Hd.mk hfr; clear hfr
          cases L3 with
          | nil =>
            obtain rfl : n = 0 := by rw [← HN.out]; rfl
            go_wp2_with (go_at_call 20; go_must (refine Calls.mono (headnil_int HD4.out) ?_; rintro e w4 ⟨rfl, hw⟩; subst hw; have HD5 := HD4; have HQ5 := HQ4; clear HD4 HQ4))
            have hs := HQ5.out.str
            rw [HN.out] at hs
            have hrow := Hd.mk HQ5.out.row
            have hsc0 := blk_cell hs 0 _ rfl; have hsf0 := blk_frozen hs 0; have hsc1 := blk_cell hs 1 _ rfl; have hsf1 := blk_frozen hs 1; have hsc2 := blk_cell hs 2 _ rfl; have hsf2 := blk_frozen hs 2; have hsl := blk_lt hs
            go_wp2
            dsimp only [List.append]
            refine wp_region_can (.q [0, 1, 2, 3, 4, 6, 7, 8, 9] (.e 5 true (.e 10 true (.q [11, 12, 13, 14, 16, 17, 18, 19] (.e 15 true (.q [20, 21, 22, 23, 25, 26, 27, 28, 29] (.e 24 true (.q [30, 31, 32, 33, 35, 36, 37, 38, 39, 40, 41, 42, 43] (.e 34 true (.q (44 :: 45 :: 46 :: 47 :: 48 :: 49 :: 50 :: 51 :: 52 :: 53 :: 54 :: 55 :: 56 :: 57 :: 58 :: 59 :: 60 :: 61 :: 62 :: 63 :: 64 :: 65 :: 66 :: 67 :: 68 :: 69 :: 70 :: 71 :: 72 :: 73 :: 74 :: 75 :: 76 :: []) (.done))))))))))) (clsB _) (by kernel_rfl) (by kernel_rfl) (by intro _ _ d _ _ h; cases d <;> exact h) (clsB_drew _) ?_
            refine can_q (l := [⟨_,_,_,_,_,_⟩, ⟨_,_,_,_,_,_⟩, ⟨_,_,_,_,_,_⟩, ⟨_,_,_,_,_,_⟩, ⟨_,_,_,_,_,_⟩, ⟨_,_,_,_,_,_⟩, ⟨_,_,_,_,_,_⟩, ⟨_,_,_,_,_,_⟩, ⟨_,_,_,_,_,_⟩]) rfl ?_
            repeat (go_big_quiet_step (fail))
            refine wpQuiet_nil ?_
            refine can_e (o := ⟨_,_,_,_,_,_⟩) rfl (fun K hK => ?_)
            go_wp2_with (go_at_call 22; go_must (refine Calls.mono (all_calls (HD5.out.below (by repeat (first | (with_reducible assumption) | (with_reducible exact Below.refl _ _) | (with_reducible apply below_drewL) | (with_reducible apply below_alloc) | (with_reducible apply below_drew1) | (with_reducible apply below_drewN) | (refine below_set ?_ (by first | omega | (simp only [size_alloc, size_drew, size_set]; omega)) _ _))))) ?_; rintro e w5 ⟨A9, c9, he, hc9, hA9, hR9, hb5⟩; rw [HN.out] at he hc9 hR9; subst he; replace hb5 := below_undrew hb5; have HR9 := Hd.mk hR9; clear hR9 hA9; have HB5 := Hd.mk hb5; clear hb5))
            refine onK_normal (hK _ _ ⟨clsB _, clsB_of (by first | exact (HB5.out) | exact below_undrew (HB5.out)), fun _ _ h => h, ?_⟩)
            clear hK K
            refine can_e (o := ⟨_,_,_,_,_,_⟩) rfl (fun K hK => ?_)
            go_wp2_with (go_at_call 21; go_must (refine Calls.mono (same_calls A9 B3 c9 d3 0 _ (fun b => w4.heap.size ≤ b ∧ b < w5.heap.size) (fun b => q < b ∧ b < w4.heap.size) w5 (fun _ h => h.2) (fun _ h => Nat.lt_of_lt_of_le h.2 HB5.out.size) HR9.out (by have := hrow.out.below (fun _ h => h.2) HB5.out; rw [HN.out] at this; exact this)) ?_; rintro e w6 ⟨rfl, hb6⟩; have HB6 := Hd.mk (below_seq HB5.out hb6); have HD6 := Hd.mk (HD5.out.below HB6.out); have HQ6 := Hd.mk (HQ5.out.fr (fun b _ hb => HB6.out.block b hb) HB6.out.size); clear hb6 HB5 HR9 HD5 HQ5))
            refine onK_normal (hK _ _ ⟨clsB _, clsB_of (by first | exact (HB6.out) | exact below_undrew (HB6.out)), fun _ _ h => h, ?_⟩)
            clear hK K
            refine can_q (l := [⟨_,_,_,_,_,_⟩, ⟨_,_,_,_,_,_⟩, ⟨_,_,_,_,_,_⟩, ⟨_,_,_,_,_,_⟩, ⟨_,_,_,_,_,_⟩, ⟨_,_,_,_,_,_⟩, ⟨_,_,_,_,_,_⟩, ⟨_,_,_,_,_,_⟩]) rfl ?_
            repeat (go_big_quiet_step (fail))
            refine wpQuiet_nil ?_
            refine can_e (o := ⟨_,_,_,_,_,_⟩) rfl (fun K hK => ?_)
            go_wp2_with (go_at_call 12; go_must (refine Calls.mono (held_int HD6.out) ?_; rintro e w9 ⟨rfl, rfl⟩))
            refine onK_normal (hK _ _ ⟨clsB _, clsB_of (by first | exact (HB6.out) | exact below_undrew (HB6.out)), fun _ _ h => h, ?_⟩)
            clear hK K
            refine can_q (l := [⟨_,_,_,_,_,_⟩, ⟨_,_,_,_,_,_⟩, ⟨_,_,_,_,_,_⟩, ⟨_,_,_,_,_,_⟩, ⟨_,_,_,_,_,_⟩, ⟨_,_,_,_,_,_⟩, ⟨_,_,_,_,_,_⟩, ⟨_,_,_,_,_,_⟩, ⟨_,_,_,_,_,_⟩]) rfl ?_
            repeat (go_big_quiet_step (fail))
            refine wpQuiet_nil ?_
            refine can_e (o := ⟨_,_,_,_,_,_⟩) rfl (fun K hK => ?_)
            go_wp2_with (go_at_call 13; go_must (refine Calls.mono (waiting_int HD6.out) ?_; rintro e w9 ⟨he, rfl⟩; rw [HN.out] at he; subst he))
            refine onK_normal (hK _ _ ⟨clsB _, clsB_of (by first | exact (HB6.out) | exact below_undrew (HB6.out)), fun _ _ h => h, ?_⟩)
            clear hK K
            refine can_q (l := [⟨_,_,_,_,_,_⟩, ⟨_,_,_,_,_,_⟩, ⟨_,_,_,_,_,_⟩, ⟨_,_,_,_,_,_⟩, ⟨_,_,_,_,_,_⟩, ⟨_,_,_,_,_,_⟩, ⟨_,_,_,_,_,_⟩, ⟨_,_,_,_,_,_⟩, ⟨_,_,_,_,_,_⟩, ⟨_,_,_,_,_,_⟩, ⟨_,_,_,_,_,_⟩, ⟨_,_,_,_,_,_⟩, ⟨_,_,_,_,_,_⟩]) rfl ?_
            repeat (go_big_quiet_step (fail))
            refine wpQuiet_nil ?_
            refine can_e (o := ⟨_,_,_,_,_,_⟩) rfl (fun K hK => ?_)
            go_wp2_with (go_at_call 14; go_must (refine Calls.mono (free_int HD6.out) ?_; rintro e w9 ⟨he, rfl⟩; rw [HF.out] at he; subst he))
            refine onK_normal (hK _ _ ⟨clsB _, clsB_of (by first | exact (HB6.out) | exact below_undrew (HB6.out)), fun _ _ h => h, ?_⟩)
            clear hK K
            refine can_q (l := ⟨_,_,_,_,_,_⟩ :: ⟨_,_,_,_,_,_⟩ :: ⟨_,_,_,_,_,_⟩ :: ⟨_,_,_,_,_,_⟩ :: ⟨_,_,_,_,_,_⟩ :: ⟨_,_,_,_,_,_⟩ :: ⟨_,_,_,_,_,_⟩ :: ⟨_,_,_,_,_,_⟩ :: ⟨_,_,_,_,_,_⟩ :: ⟨_,_,_,_,_,_⟩ :: ⟨_,_,_,_,_,_⟩ :: ⟨_,_,_,_,_,_⟩ :: ⟨_,_,_,_,_,_⟩ :: ⟨_,_,_,_,_,_⟩ :: ⟨_,_,_,_,_,_⟩ :: ⟨_,_,_,_,_,_⟩ :: ⟨_,_,_,_,_,_⟩ :: ⟨_,_,_,_,_,_⟩ :: ⟨_,_,_,_,_,_⟩ :: ⟨_,_,_,_,_,_⟩ :: ⟨_,_,_,_,_,_⟩ :: ⟨_,_,_,_,_,_⟩ :: ⟨_,_,_,_,_,_⟩ :: ⟨_,_,_,_,_,_⟩ :: ⟨_,_,_,_,_,_⟩ :: ⟨_,_,_,_,_,_⟩ :: ⟨_,_,_,_,_,_⟩ :: ⟨_,_,_,_,_,_⟩ :: ⟨_,_,_,_,_,_⟩ :: ⟨_,_,_,_,_,_⟩ :: ⟨_,_,_,_,_,_⟩ :: ⟨_,_,_,_,_,_⟩ :: ⟨_,_,_,_,_,_⟩ :: []) rfl ?_
            repeat (go_big_quiet_step (fail))
            refine wpQuiet_nil ?_
            refine can_done ?_
            go_wp2
            go_roundw
            case rel => exact ⟨k + 1, held3, a3, rs3, _, B3, d3, by omega, by go_num, HD6, HQ6, ⟨below_seq HB4.out HB6.out⟩⟩
            case measure => simp [intOf]; omega
          | cons x L3 =>
            have hn0 : 0 < n := by rw [← HN.out]; simp
            obtain ⟨b2, o2, x2, he2, hq2, _, hx2, hcell2⟩ := HQ4.out.row.get_int 0 (by simp)
            obtain rfl : x = x2 := by simpa using hx2
            subst he2
            rw [Nat.add_zero] at hcell2
            clear hx2
            go_wp2_with (go_at_call 20; go_must (refine Calls.mono (head_int HD4.out) ?_; rintro e w4 ⟨rfl, h, f4⟩; have HD5 := Hd.mk h; have HQ5 := Hd.mk (HQ4.out.by f4 (fun _ h => h.elim)); have hq4 : b2 < w4.heap.size := Nat.lt_of_lt_of_le hq2.2 f4.size; replace hcell2 := (World.cell?_of_block (a := ⟨b2, o2, none⟩) (f4.same b2 hq2.2 (fun h => h))).trans hcell2; replace HB4 : Hd (Below w.heap.size w w4) := ⟨Fr.seq HB4.out f4 HB4.out.size (fun _ _ h => h)⟩; clear h HD4 HQ4))
            have hs := HQ5.out.str
            rw [HN.out] at hs
            have hrow := Hd.mk HQ5.out.row
            have hsc0 := blk_cell hs 0 _ rfl; have hsf0 := blk_frozen hs 0; have hsc1 := blk_cell hs 1 _ rfl; have hsf1 := blk_frozen hs 1; have hsc2 := blk_cell hs 2 _ rfl; have hsf2 := blk_frozen hs 2; have hsl := blk_lt hs
            go_wp2
            dsimp only [List.append]
            refine wp_region_can (.q [0, 1, 2, 3, 4, 6, 7, 8, 9] (.e 5 true (.e 10 true (.q [11, 12, 13, 14, 16, 17, 18, 19] (.e 15 true (.q [20, 21, 22, 23, 25, 26, 27, 28, 29] (.e 24 true (.q [30, 31, 32, 33, 35, 36, 37, 38, 39, 40, 41, 42, 43] (.e 34 true (.q (44 :: 45 :: 46 :: 47 :: 48 :: 49 :: 50 :: 51 :: 52 :: 53 :: 54 :: 55 :: 56 :: 57 :: 58 :: 59 :: 60 :: 61 :: 62 :: 63 :: 64 :: 65 :: 66 :: 67 :: 68 :: 69 :: 70 :: 71 :: 72 :: 73 :: 74 :: 75 :: 76 :: []) (.done))))))))))) (clsB _) (by kernel_rfl) (by kernel_rfl) (by intro _ _ d _ _ h; cases d <;> exact h) (clsB_drew _) ?_
            refine can_q (l := [⟨_,_,_,_,_,_⟩, ⟨_,_,_,_,_,_⟩, ⟨_,_,_,_,_,_⟩, ⟨_,_,_,_,_,_⟩, ⟨_,_,_,_,_,_⟩, ⟨_,_,_,_,_,_⟩, ⟨_,_,_,_,_,_⟩, ⟨_,_,_,_,_,_⟩, ⟨_,_,_,_,_,_⟩]) rfl ?_
            repeat (go_big_quiet_step (fail))
            refine wpQuiet_nil ?_
            refine can_e (o := ⟨_,_,_,_,_,_⟩) rfl (fun K hK => ?_)
            go_wp2_with (go_at_call 22; go_must (refine Calls.mono (all_calls (HD5.out.below (by repeat (first | (with_reducible assumption) | (with_reducible exact Below.refl _ _) | (with_reducible apply below_drewL) | (with_reducible apply below_alloc) | (with_reducible apply below_drew1) | (with_reducible apply below_drewN) | (refine below_set ?_ (by first | omega | (simp only [size_alloc, size_drew, size_set]; omega)) _ _))))) ?_; rintro e w5 ⟨A9, c9, he, hc9, hA9, hR9, hb5⟩; rw [HN.out] at he hc9 hR9; subst he; replace hb5 := below_undrew hb5; have HR9 := Hd.mk hR9; clear hR9 hA9; have HB5 := Hd.mk hb5; clear hb5))
            refine onK_normal (hK _ _ ⟨clsB _, clsB_of (by first | exact (HB5.out) | exact below_undrew (HB5.out)), fun _ _ h => h, ?_⟩)
            clear hK K
            refine can_e (o := ⟨_,_,_,_,_,_⟩) rfl (fun K hK => ?_)
            go_wp2_with (go_at_call 21; go_must (refine Calls.mono (same_calls A9 (some ⟨b2, o2, none⟩) c9 d3 n _ (fun b => w4.heap.size ≤ b ∧ b < w5.heap.size) (fun b => q < b ∧ b < w4.heap.size) w5 (fun _ h => h.2) (fun _ h => Nat.lt_of_lt_of_le h.2 HB5.out.size) HR9.out (by have := hrow.out.below (fun _ h => h.2) HB5.out; rw [HN.out] at this; exact this)) ?_; rintro e w6 ⟨rfl, hb6⟩; have HB6 := Hd.mk (below_seq HB5.out hb6); have HD6 := Hd.mk (HD5.out.below HB6.out); have HQ6 := Hd.mk (HQ5.out.fr (fun b _ hb => HB6.out.block b hb) HB6.out.size); clear hb6 HB5 HR9 HD5 HQ5))
            refine onK_normal (hK _ _ ⟨clsB _, clsB_of (by first | exact (HB6.out) | exact below_undrew (HB6.out)), fun _ _ h => h, ?_⟩)
            clear hK K
            refine can_q (l := [⟨_,_,_,_,_,_⟩, ⟨_,_,_,_,_,_⟩, ⟨_,_,_,_,_,_⟩, ⟨_,_,_,_,_,_⟩, ⟨_,_,_,_,_,_⟩, ⟨_,_,_,_,_,_⟩, ⟨_,_,_,_,_,_⟩, ⟨_,_,_,_,_,_⟩]) rfl ?_
            repeat (go_big_quiet_step (fail))
            refine wpQuiet_nil ?_
            refine can_e (o := ⟨_,_,_,_,_,_⟩) rfl (fun K hK => ?_)
            go_wp2_with (go_at_call 12; go_must (refine Calls.mono (held_int HD6.out) ?_; rintro e w9 ⟨rfl, rfl⟩))
            refine onK_normal (hK _ _ ⟨clsB _, clsB_of (by first | exact (HB6.out) | exact below_undrew (HB6.out)), fun _ _ h => h, ?_⟩)
            clear hK K
            refine can_q (l := [⟨_,_,_,_,_,_⟩, ⟨_,_,_,_,_,_⟩, ⟨_,_,_,_,_,_⟩, ⟨_,_,_,_,_,_⟩, ⟨_,_,_,_,_,_⟩, ⟨_,_,_,_,_,_⟩, ⟨_,_,_,_,_,_⟩, ⟨_,_,_,_,_,_⟩, ⟨_,_,_,_,_,_⟩]) rfl ?_
            repeat (go_big_quiet_step (fail))
            refine wpQuiet_nil ?_
            refine can_e (o := ⟨_,_,_,_,_,_⟩) rfl (fun K hK => ?_)
            go_wp2_with (go_at_call 13; go_must (refine Calls.mono (waiting_int HD6.out) ?_; rintro e w9 ⟨he, rfl⟩; rw [HN.out] at he; subst he))
            refine onK_normal (hK _ _ ⟨clsB _, clsB_of (by first | exact (HB6.out) | exact below_undrew (HB6.out)), fun _ _ h => h, ?_⟩)
            clear hK K
            refine can_q (l := [⟨_,_,_,_,_,_⟩, ⟨_,_,_,_,_,_⟩, ⟨_,_,_,_,_,_⟩, ⟨_,_,_,_,_,_⟩, ⟨_,_,_,_,_,_⟩, ⟨_,_,_,_,_,_⟩, ⟨_,_,_,_,_,_⟩, ⟨_,_,_,_,_,_⟩, ⟨_,_,_,_,_,_⟩, ⟨_,_,_,_,_,_⟩, ⟨_,_,_,_,_,_⟩, ⟨_,_,_,_,_,_⟩, ⟨_,_,_,_,_,_⟩]) rfl ?_
            repeat (go_big_quiet_step (fail))
            refine wpQuiet_nil ?_
            refine can_e (o := ⟨_,_,_,_,_,_⟩) rfl (fun K hK => ?_)
            go_wp2_with (go_at_call 14; go_must (refine Calls.mono (free_int HD6.out) ?_; rintro e w9 ⟨he, rfl⟩; rw [HF.out] at he; subst he))
            refine onK_normal (hK _ _ ⟨clsB _, clsB_of (by first | exact (HB6.out) | exact below_undrew (HB6.out)), fun _ _ h => h, ?_⟩)
            clear hK K
            refine can_q (l := ⟨_,_,_,_,_,_⟩ :: ⟨_,_,_,_,_,_⟩ :: ⟨_,_,_,_,_,_⟩ :: ⟨_,_,_,_,_,_⟩ :: ⟨_,_,_,_,_,_⟩ :: ⟨_,_,_,_,_,_⟩ :: ⟨_,_,_,_,_,_⟩ :: ⟨_,_,_,_,_,_⟩ :: ⟨_,_,_,_,_,_⟩ :: ⟨_,_,_,_,_,_⟩ :: ⟨_,_,_,_,_,_⟩ :: ⟨_,_,_,_,_,_⟩ :: ⟨_,_,_,_,_,_⟩ :: ⟨_,_,_,_,_,_⟩ :: ⟨_,_,_,_,_,_⟩ :: ⟨_,_,_,_,_,_⟩ :: ⟨_,_,_,_,_,_⟩ :: ⟨_,_,_,_,_,_⟩ :: ⟨_,_,_,_,_,_⟩ :: ⟨_,_,_,_,_,_⟩ :: ⟨_,_,_,_,_,_⟩ :: ⟨_,_,_,_,_,_⟩ :: ⟨_,_,_,_,_,_⟩ :: ⟨_,_,_,_,_,_⟩ :: ⟨_,_,_,_,_,_⟩ :: ⟨_,_,_,_,_,_⟩ :: ⟨_,_,_,_,_,_⟩ :: ⟨_,_,_,_,_,_⟩ :: ⟨_,_,_,_,_,_⟩ :: ⟨_,_,_,_,_,_⟩ :: ⟨_,_,_,_,_,_⟩ :: ⟨_,_,_,_,_,_⟩ :: ⟨_,_,_,_,_,_⟩ :: []) rfl ?_
            repeat (go_big_quiet_step (fail))
            refine wpQuiet_nil ?_
            refine can_done ?_
            go_wp2
            go_roundw
            case rel => exact ⟨k + 1, held3, a3, rs3, _, _, d3, by omega, by go_num, HD6, HQ6, ⟨below_seq HB4.out HB6.out⟩⟩
            case measure => simp [intOf]; omega
      · obtain rfl : k = xs.length := by omega
        go_wp2_with (go_at_call 6; go_must (refine Calls.mono (alive_calls _) ?_; rintro e w9 ⟨rfl, hb9⟩))
        go_ret
        exact ⟨rfl, below_seq HB.out hb9⟩
end Go.Proofs.Ytipehakaiiofiaa.Fn
