/- PeekerPlays: the walk. -/
import Derived.Test.YtfckpppfmjllbaaP11
namespace Go.Proofs.Ytfckpppfmjllbaa.Fn
open Go Go.RowKit Go.Proofs.Ytfckpppfmjllbaa.Can Go.Proofs.Ytfckpppfmjllbaa.Base
attribute [local go_sem] clsB AB.cell nil33 nil49

theorem new_ok (n r : Int) : Ok ⟨nN n, rN r, 0, 0, 0, 0, 0, 0, 0, tok0, 0⟩ :=
  ⟨by show 1 ≤ nN n; unfold nN; split <;> (try split) <;> omega, by show nN n ≤ 16; unfold nN; split <;> (try split) <;> omega, by show rN r ≤ 16; unfold rN; split <;> (try split) <;> omega, Nat.le_refl _, Nat.zero_le _, Nat.zero_le _, (fun h => by have h9 : (0 : Nat) = 1 := h; omega), Nat.zero_le _⟩
set_option maxRecDepth 20000 in
set_option maxHeartbeats 4000000 in
theorem plays_calls (n r : Int) (A : Option Addr) (c : Nat) (l : List Frame) (S : Nat → Prop) (w : World) (hS : ∀ k, S k → k < w.heap.size) (hC : Row frameT w S A l.length l) :
    Calls Try.prog 4 #[.int .i64 n, .int .i64 r, .slice A l.length c] w fun e w' => e = .returned (.bool true) ∧ Below w.heap.size w w' := by
  have hmf : ∀ (fn : Fn) (first cap : Array Value) (w : World), (Instr.makeFunc fn first cap).run Try.prog w = .ok (.func fn first cap) w := fun _ _ _ _ => rfl
  have hn := hC.le
  have HS := Hd.mk hS; have HC := Hd.mk hC; clear hS hC
  obtain ⟨lb, hlb⟩ : ∃ lb, lightB l = lb := ⟨_, rfl⟩
  have HLB := Hd.mk hlb; clear hlb
  cases lb with
  | false =>
    go_enter Try.func4, Try.ntmps4
    go_wp2_with (first
      | (go_at_call 6; go_must (refine Calls.mono (alive_calls _) ?_; rintro e w2 ⟨rfl, hb2⟩))
      | (go_at_call 5; go_must (refine Calls.mono (light_calls A c l S w HS.out HC.out) ?_; rintro e w1 ⟨he, hb1⟩; rw [HLB.out] at he; subst he)))
    go_ret
    exact ⟨rfl, below_seq hb1 hb2⟩
  | true =>
    have hl100 : l.length ≤ 100 := by
      have := HLB.out
      unfold lightB at this
      rw [Bool.and_eq_true, decide_eq_true_eq] at this
      exact this.2
    go_enter Try.func4, Try.ntmps4
    go_wp2_with (first
      | (go_at_call 11; go_must (refine Calls.mono (rnew_calls n r w2) ?_; rintro e w3 ⟨q, rfl, hq, h0, hb3⟩; have HQ3 := Hd.mk h0; have HP3 := Hd.mk (blk_below HP2.out hb3); have HB3 := Hd.mk (below_seq HB2.out hb3); have hpq : p < q := (by have := blk_lt HP2.out; omega); clear h0 hb3))
      | (go_at_call 7; go_must (refine Calls.mono (new_calls n r w1) ?_; rintro e w2 ⟨p, rfl, hp, h0, hb2⟩; have HP2 := Hd.mk h0; have HB2 := Hd.mk (below_seq HB1.out hb2); have hpw : w.heap.size ≤ p := (by have := HB1.out.size; omega); clear h0 hb2))
      | (go_at_call 5; go_must (refine Calls.mono (light_calls A c l S w HS.out HC.out) ?_; rintro e w1 ⟨he, hb1⟩; rw [HLB.out] at he; subst he; have HB1 := Hd.mk hb1; clear hb1)))
    go_loopw [26] (fun i wr => ∃ (k : Nat) (s : PS), k ≤ l.length ∧ i = .int .i64 k ∧ Hd (Ok s ∧ s.st ≤ k) ∧ Hd (wr.heap[p]? = some (.cells (pkC s) 51 (0, 0))) ∧ Hd (wr.heap[q]? = some (.cells (rpC s) 44 (0, 0))) ∧ Hd (Below w.heap.size w wr)) (fun i _ => l.length - (intOf i).toNat)
    case atStart => exact ⟨0, _, Nat.zero_le _, rfl, ⟨new_ok n r, Nat.zero_le _⟩, HP3, HQ3, HB3⟩
    case round =>
      clear HP3 HQ3 HB3 HP2 HB2 HB1
      obtain ⟨k, s, hk, rfl, HOK, HP, HQ, HB⟩ := hrel
      by_cases hlt : k < l.length
      · obtain ⟨b, off, f, A1, c1, rfl, hb1, hf, hc0, hc1, hc2, hc3, hrow⟩ := frame_get (HC.out.below HS.out HB.out) k hlt
        have HR := Hd.mk hrow
        clear hf hrow
        obtain ⟨s', hs'⟩ : ∃ s', stepP s f = s' := ⟨_, rfl⟩
        have hok' := step_ok f HOK.out.1 (by have := HOK.out.2; omega)
        rw [hs'] at hok'
        have HOK' : Hd (Ok s' ∧ s'.st ≤ k + 1) := ⟨hok'.1, by have := hok'.2; have := HOK.out.2; omega⟩
        have HS' := Hd.mk hs'
        clear hok' hs'
        have hSR : Hd (∀ j, S j → j < wr.heap.size ∧ j ≠ p ∧ j ≠ q) := ⟨fun j hj => by have := HS.out j hj; have := HB.out.size; omega⟩
        have hqr : q < wr.heap.size := blk_lt HQ.out
        go_wp2_with (go_at_call 8; go_must (refine Calls.mono (step_calls f A1 c1 S (s := s) (blk_alloc HP.out _) HOK.out.1 (fun j hj => ⟨by have := hSR.out j hj; simp only [size_alloc]; omega, (hSR.out j hj).2.1⟩) (HR.out.below (fun j hj => (hSR.out j hj).1) (below_alloc (Below.refl _ _) _))) ?_; rintro e w2 ⟨he, h2, f2⟩; rw [HS'.out] at he h2; subst he; have HP2 := Hd.mk h2; have HQ2 := Hd.mk (f2.blk (blk_alloc HQ.out _) (by omega)); have ht := f2.blk (blk_new wr _ _ rfl) (by omega); have HF2 : Hd (Fr (fun b => b = p) wr w2) := ⟨(Fr.of_below (below_alloc (Below.refl _ _) _)).trans f2⟩; have HR2 : Hd (Row eT w2 S A1 f.l.length f.l) := ⟨HR.out.move fun j hj => HF2.out.same j (hSR.out j hj).1 (hSR.out j hj).2.1⟩; have htc0 := blk_cell ht 0 _ rfl; have htf0 := blk_frozen ht 0; have htc1 := blk_cell ht 1 _ rfl; have htf1 := blk_frozen ht 1; have htc2 := blk_cell ht 2 _ rfl; have htf2 := blk_frozen ht 2; have htc3 := blk_cell ht 3 _ rfl; have htf3 := blk_frozen ht 3; have htl := blk_lt ht; clear h2 f2))
        clear hc0 hc1 hc2 hc3 ht
        have hz2 := HF2.out.size
        refine wp_region_can (.q [0, 1, 2] (.e 3 false (.q [4, 5, 6, 8, 9, 10, 11] (.e 7 true (.q [12, 13, 14, 15, 17, 18, 19, 20] (.e 16 true (.q [21, 22] (.done)))))))) (clsB _) (by kernel_rfl) (by kernel_rfl) (by intro _ _ d _ _ h; cases d <;> exact h) (clsB_drew _) ?_
        refine can_q (l := [⟨_,_,_,_,_,_⟩, ⟨_,_,_,_,_,_⟩, ⟨_,_,_,_,_,_⟩]) rfl ?_
        repeat (go_big_quiet_step (fail))
        refine wpQuiet_nil ?_
        refine can_e (o := ⟨_,_,_,_,_,_⟩) rfl (fun K hK => ?_)
        go_wp2_with (go_at_call 12; go_must (refine Calls.mono (rstep_calls f A1 c1 S (s := s) (blk_drew HQ2.out) HOK.out.1 (fun j hj => ⟨by have := hSR.out j hj; have := hz2; simp only [size_drew]; omega, (hSR.out j hj).2.2⟩) (HR2.out.move fun _ _ => rfl)) ?_; rintro e w3 ⟨he, h3, f3⟩; rw [HS'.out] at he h3; subst he; have HQ3 := Hd.mk h3; have HP3 := Hd.mk (f3.blk (blk_drew HP2.out) (by omega)); have HF3 : Hd (Fr (fun b => b = p ∨ b = q) wr w3) := ⟨(HF2.out.mono fun b hb => .inl hb).drew.trans (f3.mono fun b hb => .inr hb)⟩; have hq3 := HQ3.out; unfold rpC at hq3; have hq3c0 := blk_cell hq3 0 _ rfl; have hq3f0 := blk_frozen hq3 0; have hq3c1 := blk_cell hq3 1 _ rfl; have hq3f1 := blk_frozen hq3 1; have hq3c2 := blk_cell hq3 2 _ rfl; have hq3f2 := blk_frozen hq3 2; have hq3c3 := blk_cell hq3 3 _ rfl; have hq3f3 := blk_frozen hq3 3; have hq3c4 := blk_cell hq3 4 _ rfl; have hq3f4 := blk_frozen hq3 4; have hq3c5 := blk_cell hq3 5 _ rfl; have hq3f5 := blk_frozen hq3 5; have hq3c6 := blk_cell hq3 6 _ rfl; have hq3f6 := blk_frozen hq3 6; have hq3c7 := blk_cell hq3 7 _ rfl; have hq3f7 := blk_frozen hq3 7; have hq3c8 := blk_cell hq3 8 _ rfl; have hq3f8 := blk_frozen hq3 8; have hq3c9 := blk_cell hq3 9 _ rfl; have hq3f9 := blk_frozen hq3 9; have hq3c10 := blk_cell hq3 10 _ rfl; have hq3f10 := blk_frozen hq3 10; have hq3c11 := blk_cell hq3 11 _ rfl; have hq3f11 := blk_frozen hq3 11; have hq3c12 := blk_cell hq3 12 _ rfl; have hq3f12 := blk_frozen hq3 12; have hq3c13 := blk_cell hq3 13 _ rfl; have hq3f13 := blk_frozen hq3 13; have hq3c14 := blk_cell hq3 14 _ rfl; have hq3f14 := blk_frozen hq3 14; have hq3c15 := blk_cell hq3 15 _ rfl; have hq3f15 := blk_frozen hq3 15; have hq3l := blk_lt hq3; clear h3 f3 hq3))
        refine onK_normal (hK _ _ ⟨clsB _, (by first | exact clsB_drew _ | exact clsB_self _), (fun h => by cases h), ?_⟩)
        clear hK K
        refine can_q (l := [⟨_,_,_,_,_,_⟩, ⟨_,_,_,_,_,_⟩, ⟨_,_,_,_,_,_⟩, ⟨_,_,_,_,_,_⟩, ⟨_,_,_,_,_,_⟩, ⟨_,_,_,_,_,_⟩, ⟨_,_,_,_,_,_⟩]) rfl ?_
        repeat (go_big_quiet_step (fail))
        refine wpQuiet_nil ?_
        refine can_e (o := ⟨_,_,_,_,_,_⟩) rfl (fun K hK => ?_)
        go_wp2_with (go_at_call 13; go_must (refine Calls.mono (tries_calls (s := s') (by first | exact HP3.out | exact blk_drew HP3.out)) ?_; rintro e w4 ⟨rfl, rfl⟩))
        refine onK_normal (hK _ _ ⟨clsB _, clsB_of (by first | exact ((by repeat (first | (with_reducible assumption) | (with_reducible exact Below.refl _ _) | (with_reducible apply below_drewL) | (with_reducible apply below_alloc) | (with_reducible apply below_drew1) | (with_reducible apply below_drewN) | (refine below_set ?_ (by first | omega | (simp only [size_alloc, size_drew, size_set]; omega)) _ _)))) | exact below_undrew ((by repeat (first | (with_reducible assumption) | (with_reducible exact Below.refl _ _) | (with_reducible apply below_drewL) | (with_reducible apply below_alloc) | (with_reducible apply below_drew1) | (with_reducible apply below_drewN) | (refine below_set ?_ (by first | omega | (simp only [size_alloc, size_drew, size_set]; omega)) _ _))))), fun _ _ h => h, ?_⟩)
        clear hK K
        refine can_q (l := [⟨_,_,_,_,_,_⟩, ⟨_,_,_,_,_,_⟩, ⟨_,_,_,_,_,_⟩, ⟨_,_,_,_,_,_⟩, ⟨_,_,_,_,_,_⟩, ⟨_,_,_,_,_,_⟩, ⟨_,_,_,_,_,_⟩, ⟨_,_,_,_,_,_⟩]) rfl ?_
        repeat (go_big_quiet_step (fail))
        refine wpQuiet_nil ?_
        refine can_e (o := ⟨_,_,_,_,_,_⟩) rfl (fun K hK => ?_)
        go_wp2_with (go_at_call 14; go_must (refine Calls.mono (steps_calls (s := s') (by first | exact HP3.out | exact blk_drew HP3.out)) ?_; rintro e w5 ⟨rfl, rfl⟩))
        refine onK_normal (hK _ _ ⟨clsB _, clsB_of (by first | exact ((by repeat (first | (with_reducible assumption) | (with_reducible exact Below.refl _ _) | (with_reducible apply below_drewL) | (with_reducible apply below_alloc) | (with_reducible apply below_drew1) | (with_reducible apply below_drewN) | (refine below_set ?_ (by first | omega | (simp only [size_alloc, size_drew, size_set]; omega)) _ _)))) | exact below_undrew ((by repeat (first | (with_reducible assumption) | (with_reducible exact Below.refl _ _) | (with_reducible apply below_drewL) | (with_reducible apply below_alloc) | (with_reducible apply below_drew1) | (with_reducible apply below_drewN) | (refine below_set ?_ (by first | omega | (simp only [size_alloc, size_drew, size_set]; omega)) _ _))))), fun _ _ h => h, ?_⟩)
        clear hK K
        refine can_q (l := [⟨_,_,_,_,_,_⟩, ⟨_,_,_,_,_,_⟩]) rfl ?_
        repeat (go_big_quiet_step (fail))
        refine wpQuiet_nil ?_
        refine can_done ?_
        obtain ⟨tt, htt⟩ : ∃ tt, (if s'.ho = 1 then s'.t else tok0) = tt := ⟨_, rfl⟩
        obtain ⟨bb, hbb⟩ : ∃ bb, decide (s'.ho = 1) = bb := ⟨_, rfl⟩
        have HTT := Hd.mk htt; have HBB := Hd.mk hbb
        clear htt hbb
        go_wp2_with (go_at_call 10; go_must (refine Calls.mono (token_calls (s := s') (by first | exact HP3.out | exact blk_drew HP3.out | exact blk_drew (blk_drew HP3.out))) ?_; rintro e w6 ⟨he, hb6⟩; rw [HTT.out, HBB.out] at he; obtain rfl : e = .returned (.tuple #[.agg #[.int .i64 tt.k, .int .i64 tt.r, .int .i64 tt.f, .int .i64 tt.a, .int .i64 tt.t, .int .i64 tt.m], .bool bb]) := he))
        have hpq' : p ≠ q := by omega
        have hb7 := below_alloc hb6 (.cells (tokC tt) 35 (0, 0))
        have HP7 := Hd.mk (blk_below HP3.out hb7)
        have HQ7 := Hd.mk (blk_below HQ3.out hb7)
        have HT7 : Hd ((w6.alloc (.cells (tokC tt) 35 (0, 0))).heap[w6.heap.size]? = some (.cells (tokC tt) 35 (0, 0))) := ⟨blk_new _ _ _ rfl⟩
        have HB7 : Hd (Below w.heap.size w (w6.alloc (.cells (tokC tt) 35 (0, 0)))) := ⟨Fr.seq HB.out (HF3.out.trans (Fr.of_below hb7)) HB.out.size (fun x hx hy => by omega)⟩
        have hsz : w6.heap.size < (w6.alloc (.cells (tokC tt) 35 (0, 0))).heap.size := by simp only [size_alloc]; omega
        clear hb6 hb7 HP3 HQ3 hq3c0 hq3c1 hq3c2 hq3c3 hq3c4 hq3c5 hq3c6 hq3c7 hq3c8 hq3c9 hq3c10 hq3c11 hq3c12 hq3c13 hq3c14 hq3c15 hq3f0 hq3f1 hq3f2 hq3f3 hq3f4 hq3f5 hq3f6 hq3f7 hq3f8 hq3f9 hq3f10 hq3f11 hq3f12 hq3f13 hq3f14 hq3f15 hq3l
        have ht7 := HT7.out
        have hq7 := HQ7.out
        unfold tokC at ht7 hq7 HP7 HQ7 HB7 hsz
        unfold rpC at hq7
        generalize World.alloc w6 _ = V at ht7 hq7 HP7 HQ7 HB7 hsz ⊢
        generalize w6.heap.size = g at ht7 hsz ⊢
        have ht7c0 := blk_cell ht7 0 _ rfl; have ht7f0 := blk_frozen ht7 0; have ht7c1 := blk_cell ht7 1 _ rfl; have ht7f1 := blk_frozen ht7 1; have ht7c2 := blk_cell ht7 2 _ rfl; have ht7f2 := blk_frozen ht7 2; have ht7c3 := blk_cell ht7 3 _ rfl; have ht7f3 := blk_frozen ht7 3; have ht7c4 := blk_cell ht7 4 _ rfl; have ht7f4 := blk_frozen ht7 4; have ht7c5 := blk_cell ht7 5 _ rfl; have ht7f5 := blk_frozen ht7 5; have ht7l := blk_lt ht7
        have hq7c0 := blk_cell hq7 0 _ rfl; have hq7f0 := blk_frozen hq7 0; have hq7c1 := blk_cell hq7 1 _ rfl; have hq7f1 := blk_frozen hq7 1; have hq7c2 := blk_cell hq7 2 _ rfl; have hq7f2 := blk_frozen hq7 2; have hq7c3 := blk_cell hq7 3 _ rfl; have hq7f3 := blk_frozen hq7 3; have hq7c4 := blk_cell hq7 4 _ rfl; have hq7f4 := blk_frozen hq7 4; have hq7c5 := blk_cell hq7 5 _ rfl; have hq7f5 := blk_frozen hq7 5; have hq7c6 := blk_cell hq7 6 _ rfl; have hq7f6 := blk_frozen hq7 6; have hq7c7 := blk_cell hq7 7 _ rfl; have hq7f7 := blk_frozen hq7 7; have hq7c8 := blk_cell hq7 8 _ rfl; have hq7f8 := blk_frozen hq7 8; have hq7c9 := blk_cell hq7 9 _ rfl; have hq7f9 := blk_frozen hq7 9; have hq7c10 := blk_cell hq7 10 _ rfl; have hq7f10 := blk_frozen hq7 10; have hq7c11 := blk_cell hq7 11 _ rfl; have hq7f11 := blk_frozen hq7 11; have hq7c12 := blk_cell hq7 12 _ rfl; have hq7f12 := blk_frozen hq7 12; have hq7c13 := blk_cell hq7 13 _ rfl; have hq7f13 := blk_frozen hq7 13; have hq7c14 := blk_cell hq7 14 _ rfl; have hq7f14 := blk_frozen hq7 14; have hq7c15 := blk_cell hq7 15 _ rfl; have hq7f15 := blk_frozen hq7 15; have hq7l := blk_lt hq7
        clear ht7 hq7
        by_cases h1 : s'.ho = 1
        · have h1I : ((s'.ho : Int) == 1) = true := by simp; omega
          have hbt : bb = true := by rw [← HBB.out]; simp [h1]
          have htt' : tt = s'.t := by rw [← HTT.out]; simp [h1]
          subst hbt htt'
          have hne : ∀ W, (binOp .neq 35 (.agg #[.int .i64 s'.t.k, .int .i64 s'.t.r, .int .i64 s'.t.f, .int .i64 s'.t.a, .int .i64 s'.t.t, .int .i64 s'.t.m]) (.agg #[.int .i64 s'.t.k, .int .i64 s'.t.r, .int .i64 s'.t.f, .int .i64 s'.t.a, .int .i64 s'.t.t, .int .i64 s'.t.m])).run Try.prog W = .ok (.bool false) W := fun W => ne35 W s'.t
          clear h1
          refine wp_region_can (.q [0, 1, 2, 3, 4, 5, 6, 7, 8, 9, 10, 11, 12, 13, 14, 15, 16, 17, 18, 19, 20, 21, 22, 23, 24, 25, 26] (.done)) (clsB _) (by kernel_rfl) (by kernel_rfl) (by intro _ _ d _ _ h; cases d <;> exact h) (clsB_drew _) ?_
          refine can_q (l := [⟨_,_,_,_,_,_⟩, ⟨_,_,_,_,_,_⟩, ⟨_,_,_,_,_,_⟩, ⟨_,_,_,_,_,_⟩, ⟨_,_,_,_,_,_⟩, ⟨_,_,_,_,_,_⟩, ⟨_,_,_,_,_,_⟩, ⟨_,_,_,_,_,_⟩, ⟨_,_,_,_,_,_⟩, ⟨_,_,_,_,_,_⟩, ⟨_,_,_,_,_,_⟩, ⟨_,_,_,_,_,_⟩, ⟨_,_,_,_,_,_⟩, ⟨_,_,_,_,_,_⟩, ⟨_,_,_,_,_,_⟩, ⟨_,_,_,_,_,_⟩, ⟨_,_,_,_,_,_⟩, ⟨_,_,_,_,_,_⟩, ⟨_,_,_,_,_,_⟩, ⟨_,_,_,_,_,_⟩, ⟨_,_,_,_,_,_⟩, ⟨_,_,_,_,_,_⟩, ⟨_,_,_,_,_,_⟩, ⟨_,_,_,_,_,_⟩, ⟨_,_,_,_,_,_⟩, ⟨_,_,_,_,_,_⟩, ⟨_,_,_,_,_,_⟩]) rfl ?_
          repeat (go_big_quiet_step (fail))
          refine wpQuiet_nil ?_
          refine can_done ?_
          go_wp2
          go_roundw
          case rel => exact ⟨k + 1, s', by omega, by go_num, HOK', ⟨blk_drew HP7.out⟩, ⟨blk_drew HQ7.out⟩, ⟨below_drew1 HB7.out⟩⟩
          case measure => simp [intOf]; omega
        · have h1I : ((s'.ho : Int) == 1) = false := by simp; omega
          have hbt : bb = false := by rw [← HBB.out]; simp [h1]
          have htt' : tt = tok0 := by rw [← HTT.out]; simp [h1]
          subst hbt htt'
          have hne : ∀ W, (binOp .neq 35 (.agg #[.int .i64 0, .int .i64 0, .int .i64 0, .int .i64 0, .int .i64 0, .int .i64 0]) (.agg #[.int .i64 0, .int .i64 0, .int .i64 0, .int .i64 0, .int .i64 0, .int .i64 0])).run Try.prog W = .ok (.bool false) W := fun W => ne35 W tok0
          clear h1
          unfold tok0 at *
          refine wp_region_can (.q [0, 1, 2, 3, 4, 5, 6, 7, 8, 9, 10, 11, 12, 13, 14, 15, 16, 17, 18, 19, 20, 21, 22, 23, 24, 25, 26] (.done)) (clsB _) (by kernel_rfl) (by kernel_rfl) (by intro _ _ d _ _ h; cases d <;> exact h) (clsB_drew _) ?_
          refine can_q (l := [⟨_,_,_,_,_,_⟩, ⟨_,_,_,_,_,_⟩, ⟨_,_,_,_,_,_⟩, ⟨_,_,_,_,_,_⟩, ⟨_,_,_,_,_,_⟩, ⟨_,_,_,_,_,_⟩, ⟨_,_,_,_,_,_⟩, ⟨_,_,_,_,_,_⟩, ⟨_,_,_,_,_,_⟩, ⟨_,_,_,_,_,_⟩, ⟨_,_,_,_,_,_⟩, ⟨_,_,_,_,_,_⟩, ⟨_,_,_,_,_,_⟩, ⟨_,_,_,_,_,_⟩, ⟨_,_,_,_,_,_⟩, ⟨_,_,_,_,_,_⟩, ⟨_,_,_,_,_,_⟩, ⟨_,_,_,_,_,_⟩, ⟨_,_,_,_,_,_⟩, ⟨_,_,_,_,_,_⟩, ⟨_,_,_,_,_,_⟩, ⟨_,_,_,_,_,_⟩, ⟨_,_,_,_,_,_⟩, ⟨_,_,_,_,_,_⟩, ⟨_,_,_,_,_,_⟩, ⟨_,_,_,_,_,_⟩, ⟨_,_,_,_,_,_⟩]) rfl ?_
          repeat (go_big_quiet_step (fail))
          refine wpQuiet_nil ?_
          refine can_done ?_
          go_wp2
          go_roundw
          case rel => exact ⟨k + 1, s', by omega, by go_num, HOK', ⟨blk_drew HP7.out⟩, ⟨blk_drew HQ7.out⟩, ⟨below_drew1 HB7.out⟩⟩
          case measure => simp [intOf]; omega
      · obtain rfl : k = l.length := by omega
        go_wp2_with (go_at_call 6; go_must (refine Calls.mono (alive_calls _) ?_; rintro e w7 ⟨rfl, hb7⟩))
        go_ret
        exact ⟨rfl, below_seq HB.out hb7⟩
end Go.Proofs.Ytfckpppfmjllbaa.Fn
