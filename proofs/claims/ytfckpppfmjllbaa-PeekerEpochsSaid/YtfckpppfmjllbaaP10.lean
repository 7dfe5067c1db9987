/- What the reference's Step computes. -/
import Derived.Test.YtfckpppfmjllbaaP9
namespace Go.Proofs.Ytfckpppfmjllbaa.Fn
open Go Go.RowKit Go.Proofs.Ytfckpppfmjllbaa.Can Go.Proofs.Ytfckpppfmjllbaa.Base
attribute [local go_sem] clsB AB.cell

set_option maxRecDepth 20000 in
set_option maxHeartbeats 2000000 in
theorem rstep_calls (f : Frame) (A : Option Addr) (c : Nat) (S : Nat → Prop) {q : Nat} {s : PS} {w : World} (h : w.heap[q]? = some (.cells (rpC s) 44 (0, 0))) (ok : Ok s) (hS : ∀ k, S k → k < w.heap.size ∧ k ≠ q) (hC : Row eT w S A f.l.length f.l) :
    Calls Try.prog 12 #[.pointer (some ⟨q, 0, none⟩), .agg #[.int .i64 f.epoch, .int .i64 f.spot.at_, .int .i64 f.spot.mode, .slice A f.l.length c]] w fun e w' =>
      e = .returned (.int .i64 (stepP s f).ho) ∧ w'.heap[q]? = some (.cells (rpC (stepP s f)) 44 (0, 0)) ∧ Fr (fun b => b = q) w w' := by
  have hs := h
  unfold rpC at hs
  have HH := Hd.mk h; have HSS := Hd.mk hS; have HC := Hd.mk hC; clear h hS hC
  have hst := ok.st
  have hqw := blk_lt HH.out
  by_cases h0 : s.ho = 0
  · have hz := hs
    rw [h0] at hz
    have hzc0 := blk_cell hz 0 _ rfl; have hzf0 := blk_frozen hz 0; have hzc1 := blk_cell hz 1 _ rfl; have hzf1 := blk_frozen hz 1; have hzc2 := blk_cell hz 2 _ rfl; have hzf2 := blk_frozen hz 2; have hzc3 := blk_cell hz 3 _ rfl; have hzf3 := blk_frozen hz 3; have hzc4 := blk_cell hz 4 _ rfl; have hzf4 := blk_frozen hz 4; have hzc5 := blk_cell hz 5 _ rfl; have hzf5 := blk_frozen hz 5; have hzc6 := blk_cell hz 6 _ rfl; have hzf6 := blk_frozen hz 6; have hzc7 := blk_cell hz 7 _ rfl; have hzf7 := blk_frozen hz 7; have hzc8 := blk_cell hz 8 _ rfl; have hzf8 := blk_frozen hz 8; have hzc9 := blk_cell hz 9 _ rfl; have hzf9 := blk_frozen hz 9; have hzc10 := blk_cell hz 10 _ rfl; have hzf10 := blk_frozen hz 10; have hzc11 := blk_cell hz 11 _ rfl; have hzf11 := blk_frozen hz 11; have hzc12 := blk_cell hz 12 _ rfl; have hzf12 := blk_frozen hz 12; have hzc13 := blk_cell hz 13 _ rfl; have hzf13 := blk_frozen hz 13; have hzc14 := blk_cell hz 14 _ rfl; have hzf14 := blk_frozen hz 14; have hzc15 := blk_cell hz 15 _ rfl; have hzf15 := blk_frozen hz 15; have hzl := blk_lt hz
    clear hs hz
    have hok := Hd.mk ok; clear ok
    have HPC : Hd (∀ W : World, W.heap[q]? = some (.cells (rpC s) 44 (0, 0)) → (W.setCell ⟨q, 3, none⟩ (.int .i64 ((s.st : Int) + 1))).heap[q]? = some (.cells (rpC { s with st := s.st + 1, ho := 0 }) 44 (0, 0))) := ⟨fun W hW => blk_set hW 3 _ _ (by unfold rpC; rw [h0]; rfl)⟩
    by_cases ph0 : s.ph = 0
    · have HS : Hd (stepP s f = { s with st := s.st + 1, ep := f.epoch, a := f.spot.at_, m := f.spot.mode, le := s.n, ph := 1, ho := 0 }) := ⟨by unfold stepP; rw [if_neg (by simp [h0])]; simp only [ph0]⟩
      have phI : (s.ph : Int) = 0 := by omega
      go_enter Try.func12, Try.ntmps12
      go_wp2
      go_ret
      generalize hW : World.alloc _ _ = W
      refine ⟨ret_int (by rw [HS.out]; rfl), ?_, ?_⟩
      · have y0 := HPC.out _ HH.out
        have y1 := blk_set y0 6 (.int .i64 f.epoch) (rpC { s with st := s.st + 1, ho := 0, ep := f.epoch }) rfl
        have y2 := blk_set y1 7 (.int .i64 f.spot.at_) (rpC { s with st := s.st + 1, ho := 0, ep := f.epoch, a := f.spot.at_ }) rfl
        have y3 := blk_set y2 8 (.int .i64 f.spot.mode) (rpC { s with st := s.st + 1, ho := 0, ep := f.epoch, a := f.spot.at_, m := f.spot.mode }) rfl
        have y4 := blk_set y3 9 (.int .i64 s.n) (rpC { s with st := s.st + 1, ho := 0, ep := f.epoch, a := f.spot.at_, m := f.spot.mode, le := s.n }) rfl
        have y5 := blk_set y4 5 (.int .i64 1) (rpC { s with st := s.st + 1, ho := 0, ep := f.epoch, a := f.spot.at_, m := f.spot.mode, le := s.n, ph := 1 }) rfl
        rw [HS.out, ← hW]
        exact blk_alloc y5 _
      · rw [← hW]
        exact (Fr.set (Fr.set (Fr.set (Fr.set (Fr.set (Fr.set (Fr.refl (fun b => b = q) _) (.inl rfl) _ _) (.inl rfl) _ _) (.inl rfl) _ _) (.inl rfl) _ _) (.inl rfl) _ _) (.inl rfl) _ _).alloc _
    · have phJ : ((s.ph : Int) == 0) = false := by simpa using ph0
      by_cases ph1 : s.ph = 1
      · have HS : Hd (stepP s f = { lookP { s with st := s.st + 1 } f.l with ho := lookR { s with st := s.st + 1 } f.l }) := ⟨by unfold stepP; rw [if_neg (by simp [h0])]; simp only [ph1]⟩
        have phI : ((s.ph : Int) == 1) = true := by simp; omega
        have hl := hok.out.l1 ph1
        have hl2 : s.le ≤ 16 := Nat.le_trans hl.2 hok.out.n2
        have hl1 := hl.1
        clear hl
        obtain ⟨t, ht0⟩ : ∃ t, (getE f.l ⟨s.a, s.m⟩).getD tok0 = t := ⟨_, rfl⟩
        obtain ⟨bb, hbb⟩ : ∃ bb, (getE f.l ⟨s.a, s.m⟩).isSome = bb := ⟨_, rfl⟩
        have HT := Hd.mk ht0; have HBB := Hd.mk hbb
        clear ht0 hbb
        have HB : Hd (∀ V : World, V.heap.size = w.heap.size + 1 → Fr (fun b => b = q) w V → ∀ W, Below V.heap.size V W → Calls Try.prog 9 #[.agg #[.int .i64 f.epoch, .int .i64 f.spot.at_, .int .i64 f.spot.mode, .slice A f.l.length c], .agg #[.int .i64 s.a, .int .i64 s.m]] W fun e w' => e = .returned (.tuple #[.agg #[.int .i64 t.k, .int .i64 t.r, .int .i64 t.f, .int .i64 t.a, .int .i64 t.t, .int .i64 t.m], .bool bb]) ∧ Below W.heap.size W w') := ⟨fun V hz hF W hW => by
          have hrow : Row eT V S A f.l.length f.l := HC.out.move fun k hk => hF.same k (HSS.out k hk).1 (HSS.out k hk).2
          have hV : ∀ k, S k → k < V.heap.size := fun k hk => Nat.lt_of_lt_of_le (HSS.out k hk).1 hF.size
          have := known_calls A f.l.length c f.l f.epoch f.spot.at_ f.spot.mode s.a s.m S W (fun k hk => Nat.lt_of_lt_of_le (hV k hk) hW.size) (hrow.below hV hW)
          rw [HT.out, HBB.out] at this
          exact this⟩
        go_enter Try.func12, Try.ntmps12
        go_wp2
        generalize hV : World.alloc _ _ = V
        have hp : V.heap[q]? = some (.cells (rpC { s with st := s.st + 1, ho := 0 }) 44 (0, 0)) := by rw [← hV]; exact blk_alloc (HPC.out _ HH.out) _
        have hV0 : V.heap[w.heap.size]? = some (.cells #[.int .i64 f.epoch, .int .i64 f.spot.at_, .int .i64 f.spot.mode, .slice A f.l.length c] 31 (0, 0)) := by rw [← hV]; exact blk_new _ _ _ (by rw [size_set])
        have hF : Fr (fun b => b = q) w V := by rw [← hV]; exact (Fr.set (Fr.refl (fun b => b = q) _) (.inl rfl) _ _).alloc _
        have hzV : V.heap.size = w.heap.size + 1 := by rw [← hV]; simp only [size_set, size_alloc]
        have HK : Hd (∀ W, Below V.heap.size V W → Calls Try.prog 9 #[.agg #[.int .i64 f.epoch, .int .i64 f.spot.at_, .int .i64 f.spot.mode, .slice A f.l.length c], .agg #[.int .i64 s.a, .int .i64 s.m]] W fun e w' => e = .returned (.tuple #[.agg #[.int .i64 t.k, .int .i64 t.r, .int .i64 t.f, .int .i64 t.a, .int .i64 t.t, .int .i64 t.m], .bool bb]) ∧ Below W.heap.size W w') := ⟨HB.out V hzV hF⟩
        have HF := Hd.mk hF; have HP := Hd.mk hp; have HZ := Hd.mk hzV
        unfold rpC at hp
        clear hzc0 hzf0 hzc1 hzf1 hzc2 hzf2 hzc3 hzf3 hzc4 hzf4 hzc5 hzf5 hzc6 hzf6 hzc7 hzf7 hzc8 hzf8 hzc9 hzf9 hzc10 hzf10 hzc11 hzf11 hzc12 hzf12 hzc13 hzf13 hzc14 hzf14 hzc15 hzf15 hzl
        have hpc0 := blk_cell hp 0 _ rfl; have hpf0 := blk_frozen hp 0; have hpc1 := blk_cell hp 1 _ rfl; have hpf1 := blk_frozen hp 1; have hpc2 := blk_cell hp 2 _ rfl; have hpf2 := blk_frozen hp 2; have hpc3 := blk_cell hp 3 _ rfl; have hpf3 := blk_frozen hp 3; have hpc4 := blk_cell hp 4 _ rfl; have hpf4 := blk_frozen hp 4; have hpc5 := blk_cell hp 5 _ rfl; have hpf5 := blk_frozen hp 5; have hpc6 := blk_cell hp 6 _ rfl; have hpf6 := blk_frozen hp 6; have hpc7 := blk_cell hp 7 _ rfl; have hpf7 := blk_frozen hp 7; have hpc8 := blk_cell hp 8 _ rfl; have hpf8 := blk_frozen hp 8; have hpc9 := blk_cell hp 9 _ rfl; have hpf9 := blk_frozen hp 9; have hpc10 := blk_cell hp 10 _ rfl; have hpf10 := blk_frozen hp 10; have hpc11 := blk_cell hp 11 _ rfl; have hpf11 := blk_frozen hp 11; have hpc12 := blk_cell hp 12 _ rfl; have hpf12 := blk_frozen hp 12; have hpc13 := blk_cell hp 13 _ rfl; have hpf13 := blk_frozen hp 13; have hpc14 := blk_cell hp 14 _ rfl; have hpf14 := blk_frozen hp 14; have hpc15 := blk_cell hp 15 _ rfl; have hpf15 := blk_frozen hp 15; have hpl := blk_lt hp
        have hV0c0 := blk_cell hV0 0 _ rfl; have hV0f0 := blk_frozen hV0 0; have hV0c1 := blk_cell hV0 1 _ rfl; have hV0f1 := blk_frozen hV0 1; have hV0c2 := blk_cell hV0 2 _ rfl; have hV0f2 := blk_frozen hV0 2; have hV0c3 := blk_cell hV0 3 _ rfl; have hV0f3 := blk_frozen hV0 3; have hV0l := blk_lt hV0
        clear hV hF hp hV0 hzV HB HPC
        refine wp_region_can (.q [0, 1, 2, 3, 4] (.b 5 false (.q [6, 7, 8] (.e 9 true (.e 10 false (.q [11] (.done))))) 9 true (.e 5 false (.q [6, 7, 8] (.e 10 false (.q [11] (.done))))))) (clsB _) (by kernel_rfl) (by kernel_rfl) (by intro _ _ d _ _ h; cases d <;> exact h) (clsB_drew _) ?_
        refine can_q (l := [⟨_,_,_,_,_,_⟩, ⟨_,_,_,_,_,_⟩, ⟨_,_,_,_,_,_⟩, ⟨_,_,_,_,_,_⟩, ⟨_,_,_,_,_,_⟩]) rfl ?_
        repeat (go_big_quiet_step (fail))
        refine wpQuiet_nil ?_
        apply cut_one (fun g U => w.heap.size < g ∧ Below V.heap.size V U ∧ U.heap[g]? = some (.cells (tokC t) 35 (0, 0)))
        case main =>
          intro key
          refine can_b (o := ⟨_,_,_,_,_,_⟩) (oj := ⟨_,_,_,_,_,_⟩) rfl rfl (fun K hK => ?_) (fun K hK => ?_)
          · go_wp2_with (go_at_call 9; go_must (refine Calls.mono (HK.out _ (below_drew1 (Below.refl _ _))) ?_; rintro e w1 ⟨rfl, hb1⟩; replace hb1 := below_undrew hb1))
            refine onK_normal (hK _ _ ⟨clsB _, clsB_of (by first | exact (hb1) | exact below_undrew (hb1)), fun _ _ h => h, ?_⟩)
            clear hK K
            refine can_q (l := [⟨_,_,_,_,_,_⟩, ⟨_,_,_,_,_,_⟩, ⟨_,_,_,_,_,_⟩]) rfl ?_
            repeat (go_big_quiet_step (fail))
            refine wpQuiet_nil ?_
            refine can_e (o := ⟨_,_,_,_,_,_⟩) rfl (fun K hK => ?_)
            go_wp2_with fail
            refine onK_normal (hK _ _ ⟨clsB _, clsB_of (by first | exact ((below_alloc hb1 _)) | exact below_undrew ((below_alloc hb1 _))), fun _ _ h => h, ?_⟩)
            clear hK K
            refine can_e (o := ⟨_,_,_,_,_,_⟩) rfl (fun K hK => ?_)
            go_wp2_with fail
            refine onK_normal (hK _ _ ⟨fun _ => True, trivial, (fun h => by cases h), ?_⟩)
            clear hK K
            refine can_q (l := [⟨_,_,_,_,_,_⟩]) rfl ?_
            repeat (go_big_quiet_step (fail))
            refine wpQuiet_nil ?_
            refine can_done ?_
            have hz := hb1.size
            generalize hU : World.alloc w1 _ = U
            have hg : U.heap[w1.heap.size]? = some (.cells (tokC t) 35 (0, 0)) := by rw [← hU]; exact blk_new _ _ _ rfl
            have hb2 : Below V.heap.size V U := by rw [← hU]; exact below_alloc hb1 _
            have hz2 := HZ.out
            generalize w1.heap.size = g at hg hz ⊢
            exact key g U ⟨by omega, hb2, hg⟩
          · go_wp2_with fail
            refine onK_normal (hK _ _ ⟨clsB _, clsB_of (by first | exact ((by repeat (first | (with_reducible assumption) | (with_reducible exact Below.refl _ _) | (with_reducible apply below_drewL) | (with_reducible apply below_alloc) | (with_reducible apply below_drew1) | (with_reducible apply below_drewN) | (refine below_set ?_ (by first | omega | (simp only [size_alloc, size_drew, size_set]; omega)) _ _)))) | exact below_undrew ((by repeat (first | (with_reducible assumption) | (with_reducible exact Below.refl _ _) | (with_reducible apply below_drewL) | (with_reducible apply below_alloc) | (with_reducible apply below_drew1) | (with_reducible apply below_drewN) | (refine below_set ?_ (by first | omega | (simp only [size_alloc, size_drew, size_set]; omega)) _ _))))), fun _ _ h => h, ?_⟩)
            clear hK K
            refine can_e (o := ⟨_,_,_,_,_,_⟩) rfl (fun K hK => ?_)
            go_wp2_with (go_at_call 9; go_must (refine Calls.mono (HK.out _ (by repeat (first | (with_reducible assumption) | (with_reducible exact Below.refl _ _) | (with_reducible apply below_drewL) | (with_reducible apply below_alloc) | (with_reducible apply below_drew1) | (with_reducible apply below_drewN) | (refine below_set ?_ (by first | omega | (simp only [size_alloc, size_drew, size_set]; omega)) _ _)))) ?_; rintro e w1 ⟨rfl, hb1⟩; have hg1 : w1.heap[V.heap.size]? = some (.cells #[.int .i64 0, .int .i64 0, .int .i64 0, .int .i64 0, .int .i64 0, .int .i64 0] 35 (0, 0)) := (hb1.block V.heap.size (by simp only [size_alloc, size_drew]; omega)).trans (by first | exact blk_new V _ _ rfl | exact blk_drew (blk_new V _ _ rfl)); have hb2 : Below V.heap.size V w1 := Below.trans (by first | exact below_alloc (Below.refl _ _) _ | exact below_drew1 (below_alloc (Below.refl _ _) _) | exact below_alloc (below_drew1 (Below.refl _ _)) _) (hb1.mono (by simp only [size_alloc, size_drew]; omega)); have hg1c0 := blk_cell hg1 0 _ rfl; have hg1f0 := blk_frozen hg1 0; have hg1c1 := blk_cell hg1 1 _ rfl; have hg1f1 := blk_frozen hg1 1; have hg1c2 := blk_cell hg1 2 _ rfl; have hg1f2 := blk_frozen hg1 2; have hg1c3 := blk_cell hg1 3 _ rfl; have hg1f3 := blk_frozen hg1 3; have hg1c4 := blk_cell hg1 4 _ rfl; have hg1f4 := blk_frozen hg1 4; have hg1c5 := blk_cell hg1 5 _ rfl; have hg1f5 := blk_frozen hg1 5; have hg1l := blk_lt hg1))
            refine onK_normal (hK _ _ ⟨clsB _, clsB_of (by first | exact ((below_drewL hb2)) | exact below_undrew ((below_drewL hb2))), fun _ _ h => h, ?_⟩)
            clear hK K
            refine can_q (l := [⟨_,_,_,_,_,_⟩, ⟨_,_,_,_,_,_⟩, ⟨_,_,_,_,_,_⟩]) rfl ?_
            repeat (go_big_quiet_step (fail))
            refine wpQuiet_nil ?_
            refine can_e (o := ⟨_,_,_,_,_,_⟩) rfl (fun K hK => ?_)
            go_wp2_with fail
            refine onK_normal (hK _ _ ⟨fun _ => True, trivial, (fun h => by cases h), ?_⟩)
            clear hK K
            refine can_q (l := [⟨_,_,_,_,_,_⟩]) rfl ?_
            repeat (go_big_quiet_step (fail))
            refine wpQuiet_nil ?_
            refine can_done ?_
            generalize hU : World.setCell _ _ _ = U
            have hg : U.heap[V.heap.size]? = some (.cells (tokC t) 35 (0, 0)) := by
              rw [← hU]
              exact blk_set (blk_set (blk_set (blk_set (blk_set (blk_set hg1 0 _ _ rfl) 1 _ _ rfl) 2 _ _ rfl) 3 _ _ rfl) 4 _ _ rfl) 5 _ _ rfl
            have hb3 : Below V.heap.size V U := by rw [← hU]; exact (by repeat (first | (with_reducible assumption) | (with_reducible exact Below.refl _ _) | (with_reducible apply below_drewL) | (with_reducible apply below_alloc) | (with_reducible apply below_drew1) | (with_reducible apply below_drewN) | (refine below_set ?_ (by first | omega | (simp only [size_alloc, size_drew, size_set]; omega)) _ _)))
            have hz : w.heap.size < V.heap.size := by have := HZ.out; omega
            generalize V.heap.size = g at hg hz ⊢
            exact key g U ⟨by omega, hb3, hg⟩
        case key =>
          rintro g U ⟨hgw, hbU, hgU⟩
          have hu := blk_below HP.out hbU
          have HU := Hd.mk hu
          have HFU : Hd (Fr (fun b => b = q) w U) := ⟨HF.out.trans (Fr.of_below hbU)⟩
          have HGU := Hd.mk hgU
          have hgq : ¬ g = q := by omega
          unfold rpC at hu
          unfold tokC at hgU
          clear hpc0 hpf0 hpc1 hpf1 hpc2 hpf2 hpc3 hpf3 hpc4 hpf4 hpc5 hpf5 hpc6 hpf6 hpc7 hpf7 hpc8 hpf8 hpc9 hpf9 hpc10 hpf10 hpc11 hpf11 hpc12 hpf12 hpc13 hpf13 hpc14 hpf14 hpc15 hpf15 hpl
          clear hV0c0 hV0f0 hV0c1 hV0f1 hV0c2 hV0f2 hV0c3 hV0f3 hV0l
          clear HP HK hbU
          cases hb : bb with
          | false =>
            subst hb
            have hno : getE f.l ⟨s.a, s.m⟩ = none := by have := HBB.out; cases h : getE f.l ⟨s.a, s.m⟩ with | none => rfl | some x => rw [h] at this; cases this
            have HP : Hd (stepP s f = { failP { s with st := s.st + 1, ho := 0 } with ho := failR { s with st := s.st + 1, ho := 0 } }) := ⟨by rw [HS.out]; unfold lookP lookR; simp only [hno]; rfl⟩
            clear hno hu hgU
            go_wp2_with (go_at_call 19; go_must (refine Calls.mono (rfail_calls (s := { s with st := s.st + 1, ho := 0 }) HU.out (by have := hok.out.tr; have := hok.out.st; show s.tr ≤ 1000; omega) hok.out.re rfl) ?_; rintro e w2 ⟨rfl, h2, f2⟩; have H2 := Hd.mk h2; unfold rpC at h2; have F2 := Hd.mk f2; have h2c0 := blk_cell h2 0 _ rfl; have h2f0 := blk_frozen h2 0; have h2c1 := blk_cell h2 1 _ rfl; have h2f1 := blk_frozen h2 1; have h2c2 := blk_cell h2 2 _ rfl; have h2f2 := blk_frozen h2 2; have h2c3 := blk_cell h2 3 _ rfl; have h2f3 := blk_frozen h2 3; have h2c4 := blk_cell h2 4 _ rfl; have h2f4 := blk_frozen h2 4; have h2c5 := blk_cell h2 5 _ rfl; have h2f5 := blk_frozen h2 5; have h2c6 := blk_cell h2 6 _ rfl; have h2f6 := blk_frozen h2 6; have h2c7 := blk_cell h2 7 _ rfl; have h2f7 := blk_frozen h2 7; have h2c8 := blk_cell h2 8 _ rfl; have h2f8 := blk_frozen h2 8; have h2c9 := blk_cell h2 9 _ rfl; have h2f9 := blk_frozen h2 9; have h2c10 := blk_cell h2 10 _ rfl; have h2f10 := blk_frozen h2 10; have h2c11 := blk_cell h2 11 _ rfl; have h2f11 := blk_frozen h2 11; have h2c12 := blk_cell h2 12 _ rfl; have h2f12 := blk_frozen h2 12; have h2c13 := blk_cell h2 13 _ rfl; have h2f13 := blk_frozen h2 13; have h2c14 := blk_cell h2 14 _ rfl; have h2f14 := blk_frozen h2 14; have h2c15 := blk_cell h2 15 _ rfl; have h2f15 := blk_frozen h2 15; have h2l := blk_lt h2; clear h2 f2))
            go_ret
            exact ⟨ret_int (by rw [HP.out] <;> rfl), by rw [HP.out]; exact H2.out, HFU.out.trans F2.out⟩
          | true =>
            subst hb
            have hyes : getE f.l ⟨s.a, s.m⟩ = some t := by have := HBB.out; have h9 := HT.out; cases h : getE f.l ⟨s.a, s.m⟩ with | none => rw [h] at this; cases this | some x => rw [h] at h9; rw [← h9]; rfl
            obtain ⟨le2, hle2⟩ : ∃ le2, s.le - 1 = le2 := ⟨_, rfl⟩
            have HP : Hd (stepP s f = { s with st := s.st + 1, t := t, a := t.t, m := t.m, le := le2, ph := if le2 = 0 then 2 else 1, ho := 0 }) := ⟨by rw [HS.out]; unfold lookP lookR; simp only [hyes, hle2, ph1]⟩
            have hle : (s.le : Int) - 1 = (le2 : Int) := by omega
            clear hle2
            have huc0 := blk_cell hu 0 _ rfl; have huf0 := blk_frozen hu 0; have huc1 := blk_cell hu 1 _ rfl; have huf1 := blk_frozen hu 1; have huc2 := blk_cell hu 2 _ rfl; have huf2 := blk_frozen hu 2; have huc3 := blk_cell hu 3 _ rfl; have huf3 := blk_frozen hu 3; have huc4 := blk_cell hu 4 _ rfl; have huf4 := blk_frozen hu 4; have huc5 := blk_cell hu 5 _ rfl; have huf5 := blk_frozen hu 5; have huc6 := blk_cell hu 6 _ rfl; have huf6 := blk_frozen hu 6; have huc7 := blk_cell hu 7 _ rfl; have huf7 := blk_frozen hu 7; have huc8 := blk_cell hu 8 _ rfl; have huf8 := blk_frozen hu 8; have huc9 := blk_cell hu 9 _ rfl; have huf9 := blk_frozen hu 9; have huc10 := blk_cell hu 10 _ rfl; have huf10 := blk_frozen hu 10; have huc11 := blk_cell hu 11 _ rfl; have huf11 := blk_frozen hu 11; have huc12 := blk_cell hu 12 _ rfl; have huf12 := blk_frozen hu 12; have huc13 := blk_cell hu 13 _ rfl; have huf13 := blk_frozen hu 13; have huc14 := blk_cell hu 14 _ rfl; have huf14 := blk_frozen hu 14; have huc15 := blk_cell hu 15 _ rfl; have huf15 := blk_frozen hu 15; have hul := blk_lt hu
            have hgUc0 := blk_cell hgU 0 _ rfl; have hgUf0 := blk_frozen hgU 0; have hgUc1 := blk_cell hgU 1 _ rfl; have hgUf1 := blk_frozen hgU 1; have hgUc2 := blk_cell hgU 2 _ rfl; have hgUf2 := blk_frozen hgU 2; have hgUc3 := blk_cell hgU 3 _ rfl; have hgUf3 := blk_frozen hgU 3; have hgUc4 := blk_cell hgU 4 _ rfl; have hgUf4 := blk_frozen hgU 4; have hgUc5 := blk_cell hgU 5 _ rfl; have hgUf5 := blk_frozen hgU 5; have hgUl := blk_lt hgU
            clear hyes hu hgU
            have y0 := HU.out
            by_cases h0' : le2 = 0
            · subst h0'
              go_wp2
              go_ret
              generalize hW : World.setCell _ _ _ = W
              refine ⟨ret_int (by rw [HP.out]; rfl), ?_, ?_⟩
              · have y1 := blk_set y0 10 (.int .i64 t.k) (rpC { s with st := s.st + 1, ho := 0, t := ⟨t.k, s.t.r, s.t.f, s.t.a, s.t.t, s.t.m⟩ }) rfl
                have y2 := blk_set y1 11 (.int .i64 t.r) (rpC { s with st := s.st + 1, ho := 0, t := ⟨t.k, t.r, s.t.f, s.t.a, s.t.t, s.t.m⟩ }) rfl
                have y3 := blk_set y2 12 (.int .i64 t.f) (rpC { s with st := s.st + 1, ho := 0, t := ⟨t.k, t.r, t.f, s.t.a, s.t.t, s.t.m⟩ }) rfl
                have y4 := blk_set y3 13 (.int .i64 t.a) (rpC { s with st := s.st + 1, ho := 0, t := ⟨t.k, t.r, t.f, t.a, s.t.t, s.t.m⟩ }) rfl
                have y5 := blk_set y4 14 (.int .i64 t.t) (rpC { s with st := s.st + 1, ho := 0, t := ⟨t.k, t.r, t.f, t.a, t.t, s.t.m⟩ }) rfl
                have y6 := blk_set y5 15 (.int .i64 t.m) (rpC { s with st := s.st + 1, ho := 0, t := t }) rfl
                have y7 := blk_set y6 7 (.int .i64 t.t) (rpC { s with st := s.st + 1, ho := 0, t := t, a := t.t }) rfl
                have y8 := blk_set y7 8 (.int .i64 t.m) (rpC { s with st := s.st + 1, ho := 0, t := t, a := t.t, m := t.m }) rfl
                have y9 := blk_set y8 9 (.int .i64 0) (rpC { s with st := s.st + 1, ho := 0, t := t, a := t.t, m := t.m, le := 0 }) rfl
                have y10 := blk_set y9 5 (.int .i64 2) (rpC { s with st := s.st + 1, ho := 0, t := t, a := t.t, m := t.m, le := 0, ph := 2 }) rfl
                rw [HP.out, ← hW]
                exact y10
              · rw [← hW]
                exact Fr.set (Fr.set (Fr.set (Fr.set (Fr.set (Fr.set (Fr.set (Fr.set (Fr.set (Fr.set HFU.out (.inl rfl) _ _) (.inl rfl) _ _) (.inl rfl) _ _) (.inl rfl) _ _) (.inl rfl) _ _) (.inl rfl) _ _) (.inl rfl) _ _) (.inl rfl) _ _) (.inl rfl) _ _) (.inl rfl) _ _
            · have h0I : ¬ (le2 : Int) = 0 := by omega
              have h0K : ((le2 : Int) == 0) = false := by simpa using h0I
              go_wp2
              go_ret
              generalize hW : World.setCell _ _ _ = W
              refine ⟨ret_int (by rw [HP.out]; rfl), ?_, ?_⟩
              · have y1 := blk_set y0 10 (.int .i64 t.k) (rpC { s with st := s.st + 1, ho := 0, t := ⟨t.k, s.t.r, s.t.f, s.t.a, s.t.t, s.t.m⟩ }) rfl
                have y2 := blk_set y1 11 (.int .i64 t.r) (rpC { s with st := s.st + 1, ho := 0, t := ⟨t.k, t.r, s.t.f, s.t.a, s.t.t, s.t.m⟩ }) rfl
                have y3 := blk_set y2 12 (.int .i64 t.f) (rpC { s with st := s.st + 1, ho := 0, t := ⟨t.k, t.r, t.f, s.t.a, s.t.t, s.t.m⟩ }) rfl
                have y4 := blk_set y3 13 (.int .i64 t.a) (rpC { s with st := s.st + 1, ho := 0, t := ⟨t.k, t.r, t.f, t.a, s.t.t, s.t.m⟩ }) rfl
                have y5 := blk_set y4 14 (.int .i64 t.t) (rpC { s with st := s.st + 1, ho := 0, t := ⟨t.k, t.r, t.f, t.a, t.t, s.t.m⟩ }) rfl
                have y6 := blk_set y5 15 (.int .i64 t.m) (rpC { s with st := s.st + 1, ho := 0, t := t }) rfl
                have y7 := blk_set y6 7 (.int .i64 t.t) (rpC { s with st := s.st + 1, ho := 0, t := t, a := t.t }) rfl
                have y8 := blk_set y7 8 (.int .i64 t.m) (rpC { s with st := s.st + 1, ho := 0, t := t, a := t.t, m := t.m }) rfl
                have y9 := blk_set y8 9 (.int .i64 le2) (rpC { s with st := s.st + 1, ho := 0, t := t, a := t.t, m := t.m, le := le2 }) rfl
                rw [ph1] at y9
                rw [HP.out, if_neg h0', ← hW]
                exact y9
              · rw [← hW]
                exact Fr.set (Fr.set (Fr.set (Fr.set (Fr.set (Fr.set (Fr.set (Fr.set (Fr.set HFU.out (.inl rfl) _ _) (.inl rfl) _ _) (.inl rfl) _ _) (.inl rfl) _ _) (.inl rfl) _ _) (.inl rfl) _ _) (.inl rfl) _ _) (.inl rfl) _ _) (.inl rfl) _ _
      · have HS : Hd (stepP s f = if f.epoch = s.ep then { s with st := s.st + 1, ho := 1 } else { failP { s with st := s.st + 1 } with ho := failR { s with st := s.st + 1 } }) := ⟨by unfold stepP; rw [if_neg (by simp [h0])]; have h2 : s.ph = 2 := (by have := hok.out.ph; omega); simp only [h2]⟩
        have phK : ((s.ph : Int) == 1) = false := by simp; omega
        by_cases hep : f.epoch = s.ep
        · have hepJ : (f.epoch == s.ep) = true := by simpa using hep
          go_enter Try.func12, Try.ntmps12
          go_wp2
          refine wp_region_can (.q [0, 1, 2, 3, 4, 5, 6] (.done)) (clsB _) (by kernel_rfl) (by kernel_rfl) (by intro _ _ d _ _ h; cases d <;> exact h) (clsB_drew _) ?_
          refine can_q (l := [⟨_,_,_,_,_,_⟩, ⟨_,_,_,_,_,_⟩, ⟨_,_,_,_,_,_⟩, ⟨_,_,_,_,_,_⟩, ⟨_,_,_,_,_,_⟩, ⟨_,_,_,_,_,_⟩, ⟨_,_,_,_,_,_⟩]) rfl ?_
          repeat (go_big_quiet_step (fail))
          refine wpQuiet_nil ?_
          refine can_done ?_
          go_wp2
          go_ret
          refine ⟨ret_int (by rw [HS.out, if_pos hep]; rfl), ?_, ?_⟩
          · rw [HS.out, if_pos hep]
            run_tac do let g ← Lean.Elab.Tactic.getMainGoal; Lean.logInfo m!"{← g.getType}"
            exact blk_drew (blk_alloc (blk_set (HPC.out _ HH.out) 4 _ _ rfl) _)
          · exact ((Fr.set (Fr.set (Fr.refl (fun b => b = q) _) (.inl rfl) _ _) (.inl rfl) _ _).alloc _).drew
        · have hepJ : (f.epoch == s.ep) = false := by simpa using hep
          go_enter Try.func12, Try.ntmps12
          go_wp2
          refine wp_region_can (.q [0, 1, 2, 3, 4, 5, 6] (.done)) (clsB _) (by kernel_rfl) (by kernel_rfl) (by intro _ _ d _ _ h; cases d <;> exact h) (clsB_drew _) ?_
          refine can_q (l := [⟨_,_,_,_,_,_⟩, ⟨_,_,_,_,_,_⟩, ⟨_,_,_,_,_,_⟩, ⟨_,_,_,_,_,_⟩, ⟨_,_,_,_,_,_⟩, ⟨_,_,_,_,_,_⟩, ⟨_,_,_,_,_,_⟩]) rfl ?_
          repeat (go_big_quiet_step (fail))
          refine wpQuiet_nil ?_
          refine can_done ?_
          go_wp2_with (go_at_call 19; go_must (refine Calls.mono (rfail_calls (s := { s with st := s.st + 1, ho := 0 }) (blk_drew (blk_alloc (HPC.out _ HH.out) _)) (by have := hok.out.tr; have := hok.out.st; show s.tr ≤ 1000; omega) hok.out.re rfl) ?_; rintro e w2 ⟨rfl, h2, f2⟩; have H2 := Hd.mk h2; unfold rpC at h2; have F2 := Hd.mk f2; clear hzc0 hzf0 hzc1 hzf1 hzc2 hzf2 hzc3 hzf3 hzc4 hzf4 hzc5 hzf5 hzc6 hzf6 hzc7 hzf7 hzc8 hzf8 hzc9 hzf9 hzc10 hzf10 hzc11 hzf11 hzc12 hzf12 hzc13 hzf13 hzc14 hzf14 hzc15 hzf15 hzl; have h2c0 := blk_cell h2 0 _ rfl; have h2f0 := blk_frozen h2 0; have h2c1 := blk_cell h2 1 _ rfl; have h2f1 := blk_frozen h2 1; have h2c2 := blk_cell h2 2 _ rfl; have h2f2 := blk_frozen h2 2; have h2c3 := blk_cell h2 3 _ rfl; have h2f3 := blk_frozen h2 3; have h2c4 := blk_cell h2 4 _ rfl; have h2f4 := blk_frozen h2 4; have h2c5 := blk_cell h2 5 _ rfl; have h2f5 := blk_frozen h2 5; have h2c6 := blk_cell h2 6 _ rfl; have h2f6 := blk_frozen h2 6; have h2c7 := blk_cell h2 7 _ rfl; have h2f7 := blk_frozen h2 7; have h2c8 := blk_cell h2 8 _ rfl; have h2f8 := blk_frozen h2 8; have h2c9 := blk_cell h2 9 _ rfl; have h2f9 := blk_frozen h2 9; have h2c10 := blk_cell h2 10 _ rfl; have h2f10 := blk_frozen h2 10; have h2c11 := blk_cell h2 11 _ rfl; have h2f11 := blk_frozen h2 11; have h2c12 := blk_cell h2 12 _ rfl; have h2f12 := blk_frozen h2 12; have h2c13 := blk_cell h2 13 _ rfl; have h2f13 := blk_frozen h2 13; have h2c14 := blk_cell h2 14 _ rfl; have h2f14 := blk_frozen h2 14; have h2c15 := blk_cell h2 15 _ rfl; have h2f15 := blk_frozen h2 15; have h2l := blk_lt h2; clear h2 f2))
          go_ret
          refine ⟨ret_int (by rw [HS.out, if_neg hep]; rfl), by rw [HS.out, if_neg hep]; exact H2.out, ?_⟩
          exact ((Fr.set (Fr.refl (fun b => b = q) _) (.inl rfl) _ _).alloc _).drew.trans F2.out
  · have h0I : ¬ (s.ho : Int) = 0 := by omega
    have h0J : ((s.ho : Int) == 0) = false := by simpa using h0I
    have HS : Hd (stepP s f = s) := ⟨by unfold stepP; rw [if_pos h0]⟩
    have hsc0 := blk_cell hs 0 _ rfl; have hsf0 := blk_frozen hs 0; have hsc1 := blk_cell hs 1 _ rfl; have hsf1 := blk_frozen hs 1; have hsc2 := blk_cell hs 2 _ rfl; have hsf2 := blk_frozen hs 2; have hsc3 := blk_cell hs 3 _ rfl; have hsf3 := blk_frozen hs 3; have hsc4 := blk_cell hs 4 _ rfl; have hsf4 := blk_frozen hs 4; have hsc5 := blk_cell hs 5 _ rfl; have hsf5 := blk_frozen hs 5; have hsc6 := blk_cell hs 6 _ rfl; have hsf6 := blk_frozen hs 6; have hsc7 := blk_cell hs 7 _ rfl; have hsf7 := blk_frozen hs 7; have hsc8 := blk_cell hs 8 _ rfl; have hsf8 := blk_frozen hs 8; have hsc9 := blk_cell hs 9 _ rfl; have hsf9 := blk_frozen hs 9; have hsc10 := blk_cell hs 10 _ rfl; have hsf10 := blk_frozen hs 10; have hsc11 := blk_cell hs 11 _ rfl; have hsf11 := blk_frozen hs 11; have hsc12 := blk_cell hs 12 _ rfl; have hsf12 := blk_frozen hs 12; have hsc13 := blk_cell hs 13 _ rfl; have hsf13 := blk_frozen hs 13; have hsc14 := blk_cell hs 14 _ rfl; have hsf14 := blk_frozen hs 14; have hsc15 := blk_cell hs 15 _ rfl; have hsf15 := blk_frozen hs 15; have hsl := blk_lt hs
    clear hs
    go_enter Try.func12, Try.ntmps12
    go_wp2
    go_ret
    exact ⟨ret_int (by rw [HS.out]), by rw [HS.out]; exact blk_alloc HH.out _, Fr.of_below (by repeat (first | (with_reducible assumption) | (with_reducible exact Below.refl _ _) | (with_reducible apply below_drewL) | (with_reducible apply below_alloc) | (with_reducible apply below_drew1) | (with_reducible apply below_drewN) | (refine below_set ?_ (by first | omega | (simp only [size_alloc, size_drew, size_set]; omega)) _ _)))⟩
end Go.Proofs.Ytfckpppfmjllbaa.Fn
