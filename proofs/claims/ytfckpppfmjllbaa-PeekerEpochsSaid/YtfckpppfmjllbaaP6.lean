/- What Step, Token, Tries and Steps compute. -/
import Derived.Test.YtfckpppfmjllbaaP5
namespace Go.Proofs.Ytfckpppfmjllbaa.Fn
open Go Go.RowKit Go.Proofs.Ytfckpppfmjllbaa.Can Go.Proofs.Ytfckpppfmjllbaa.Base
theorem nil33 (fn : Fn) (a b : Array Value) (W : World) : (binOp .eql 33 (.func fn a b) .nilFunc).run Try.prog W = .ok (.bool false) W := by
  have h : ∀ d : Nat, (Op.equalIn (d + 1) 33 (.func fn a b) .nilFunc).run Try.prog W = .ok false W := fun d => by simp [Op.equalIn, run_underlying Try.underlying33]
  simp only [binOp]
  simp [Op.equal, Op.maxDepth, h 9999]
theorem nil49 (fn : Fn) (a b : Array Value) (W : World) : (binOp .eql 49 (.func fn a b) .nilFunc).run Try.prog W = .ok (.bool false) W := by
  have h : ∀ d : Nat, (Op.equalIn (d + 1) 49 (.func fn a b) .nilFunc).run Try.prog W = .ok false W := fun d => by simp [Op.equalIn, run_underlying Try.underlying49]
  simp only [binOp]
  simp [Op.equal, Op.maxDepth, h 9999]
attribute [local go_sem] clsB AB.cell nil33 nil49

def stepP (s : PS) (f : Frame) : PS :=
  if s.ho ≠ 0 then s else
    match s.ph with
    | 0 => { s with st := s.st + 1, ep := f.epoch, a := f.spot.at_, m := f.spot.mode, le := s.n, ph := 1, ho := 0 }
    | 1 => { lookP { s with st := s.st + 1 } f.l with ho := lookR { s with st := s.st + 1 } f.l }
    | _ => if f.epoch = s.ep then { s with st := s.st + 1, ho := 1 } else { failP { s with st := s.st + 1 } with ho := failR { s with st := s.st + 1 } }
/-- What holds of a peeker between steps. -/
structure Ok (s : PS) : Prop where
  n1 : 1 ≤ s.n
  n2 : s.n ≤ 16
  re : s.re ≤ 16
  tr : s.tr ≤ s.st
  st : s.st ≤ 1000
  ph : s.ph ≤ 2
  l1 : s.ph = 1 → 1 ≤ s.le ∧ s.le ≤ s.n
  ho : s.ho ≤ 2
set_option maxRecDepth 20000 in
set_option maxHeartbeats 2000000 in
theorem step_calls (f : Frame) (A : Option Addr) (c : Nat) (S : Nat → Prop) {p : Nat} {s : PS} {w : World} (h : w.heap[p]? = some (.cells (pkC s) 51 (0, 0))) (ok : Ok s) (hS : ∀ k, S k → k < w.heap.size ∧ k ≠ p) (hC : Row eT w S A f.l.length f.l) :
    Calls Try.prog 8 #[.pointer (some ⟨p, 0, none⟩), .int .i64 f.epoch, .agg #[.int .i64 f.spot.at_, .int .i64 f.spot.mode], .func (Fn.func 9) #[.agg #[.int .i64 f.epoch, .int .i64 f.spot.at_, .int .i64 f.spot.mode, .slice A f.l.length c]] #[]] w fun e w' =>
      e = .returned (.int .i64 (stepP s f).ho) ∧ w'.heap[p]? = some (.cells (pkC (stepP s f)) 51 (0, 0)) ∧ Fr (fun b => b = p) w w' := by
  have hs := h
  unfold pkC fnV at hs
  have HH := Hd.mk h; have HSS := Hd.mk hS; have HC := Hd.mk hC; clear h hS hC
  have hst := ok.st
  by_cases h0 : s.ho = 0
  · have hz := hs
    rw [h0] at hz
    have hzc0 := blk_cell hz 0 _ rfl; have hzf0 := blk_frozen hz 0; have hzc1 := blk_cell hz 1 _ rfl; have hzf1 := blk_frozen hz 1; have hzc2 := blk_cell hz 2 _ rfl; have hzf2 := blk_frozen hz 2; have hzc3 := blk_cell hz 3 _ rfl; have hzf3 := blk_frozen hz 3; have hzc4 := blk_cell hz 4 _ rfl; have hzf4 := blk_frozen hz 4; have hzc5 := blk_cell hz 5 _ rfl; have hzf5 := blk_frozen hz 5; have hzc6 := blk_cell hz 6 _ rfl; have hzf6 := blk_frozen hz 6; have hzc7 := blk_cell hz 7 _ rfl; have hzf7 := blk_frozen hz 7; have hzc8 := blk_cell hz 8 _ rfl; have hzf8 := blk_frozen hz 8; have hzc9 := blk_cell hz 9 _ rfl; have hzf9 := blk_frozen hz 9; have hzc10 := blk_cell hz 10 _ rfl; have hzf10 := blk_frozen hz 10; have hzc11 := blk_cell hz 11 _ rfl; have hzf11 := blk_frozen hz 11; have hzc12 := blk_cell hz 12 _ rfl; have hzf12 := blk_frozen hz 12; have hzc13 := blk_cell hz 13 _ rfl; have hzf13 := blk_frozen hz 13; have hzc14 := blk_cell hz 14 _ rfl; have hzf14 := blk_frozen hz 14; have hzc15 := blk_cell hz 15 _ rfl; have hzf15 := blk_frozen hz 15; have hzl := blk_lt hz
    clear hs hz
    have HPC : Hd (∀ W : World, W.heap[p]? = some (.cells (pkC s) 51 (0, 0)) → (W.setCell ⟨p, 3, none⟩ (.int .i64 ((s.st : Int) + 1))).heap[p]? = some (.cells (pkC { s with st := s.st + 1 }) 51 (0, 0))) := ⟨fun W hW => blk_set hW 3 _ _ rfl⟩
    go_enter Try.func8, Try.ntmps8
    go_wp2
    generalize hV : World.alloc _ _ = V
    have hp : V.heap[p]? = some (.cells (pkC { s with st := s.st + 1 }) 51 (0, 0)) := by rw [← hV]; exact blk_alloc (blk_set HH.out 3 _ _ rfl) _
    have hV0 : V.heap[w.heap.size]? = some (.cells #[.int .i64 f.spot.at_, .int .i64 f.spot.mode] 28 (0, 0)) := by rw [← hV]; exact blk_new _ _ _ (by rw [size_set])
    have hF : Fr (fun b => b = p) w V := by rw [← hV]; exact (Fr.set (Fr.refl (fun b => b = p) _) (.inl rfl) _ _).alloc _
    have HP := Hd.mk hp; have HF := Hd.mk hF
    have HR : Hd (Row eT V S A f.l.length f.l) := ⟨HC.out.move fun k hk => hF.same k (HSS.out k hk).1 (HSS.out k hk).2⟩
    have HSV : Hd (∀ k, S k → k < V.heap.size) := ⟨fun k hk => Nat.lt_of_lt_of_le (HSS.out k hk).1 hF.size⟩
    clear hzc0 hzf0 hzc1 hzf1 hzc2 hzf2 hzc3 hzf3 hzc4 hzf4 hzc5 hzf5 hzc6 hzf6 hzc7 hzf7 hzc8 hzf8 hzc9 hzf9 hzc10 hzf10 hzc11 hzf11 hzc12 hzf12 hzc13 hzf13 hzc14 hzf14 hzc15 hzf15 hzl
    clear hV hF HPC
    have hok := Hd.mk ok
    by_cases ph0 : s.ph = 0
    · have hfn : fnOf s.ph = 16 := by rw [ph0]; rfl
      have HS : Hd (stepP s f = { s with st := s.st + 1, ep := f.epoch, a := f.spot.at_, m := f.spot.mode, le := s.n, ph := 1, ho := 0 }) := ⟨by unfold stepP; rw [if_neg (by simp [h0])]; simp only [ph0]⟩
      unfold pkC fnV at hp
      simp only [hfn] at hp
      have hpc0 := blk_cell hp 0 _ rfl; have hpf0 := blk_frozen hp 0; have hpc1 := blk_cell hp 1 _ rfl; have hpf1 := blk_frozen hp 1; have hpc2 := blk_cell hp 2 _ rfl; have hpf2 := blk_frozen hp 2; have hpc3 := blk_cell hp 3 _ rfl; have hpf3 := blk_frozen hp 3; have hpc4 := blk_cell hp 4 _ rfl; have hpf4 := blk_frozen hp 4; have hpc5 := blk_cell hp 5 _ rfl; have hpf5 := blk_frozen hp 5; have hpc6 := blk_cell hp 6 _ rfl; have hpf6 := blk_frozen hp 6; have hpc7 := blk_cell hp 7 _ rfl; have hpf7 := blk_frozen hp 7; have hpc8 := blk_cell hp 8 _ rfl; have hpf8 := blk_frozen hp 8; have hpc9 := blk_cell hp 9 _ rfl; have hpf9 := blk_frozen hp 9; have hpc10 := blk_cell hp 10 _ rfl; have hpf10 := blk_frozen hp 10; have hpc11 := blk_cell hp 11 _ rfl; have hpf11 := blk_frozen hp 11; have hpc12 := blk_cell hp 12 _ rfl; have hpf12 := blk_frozen hp 12; have hpc13 := blk_cell hp 13 _ rfl; have hpf13 := blk_frozen hp 13; have hpc14 := blk_cell hp 14 _ rfl; have hpf14 := blk_frozen hp 14; have hpc15 := blk_cell hp 15 _ rfl; have hpf15 := blk_frozen hp 15; have hpl := blk_lt hp
      have hV0c0 := blk_cell hV0 0 _ rfl; have hV0f0 := blk_frozen hV0 0; have hV0c1 := blk_cell hV0 1 _ rfl; have hV0f1 := blk_frozen hV0 1; have hV0l := blk_lt hV0
      clear hp hV0
      refine wp_region_can (.q [0, 1, 2, 3, 4, 5, 6, 7, 8, 9] (.e 10 false (.q [11, 12] (.e 13 false (.done))))) (clsB _) (by kernel_rfl) (by kernel_rfl) (by intro _ _ d _ _ h; cases d <;> exact h) (clsB_drew _) ?_
      refine can_q (l := [⟨_,_,_,_,_,_⟩, ⟨_,_,_,_,_,_⟩, ⟨_,_,_,_,_,_⟩, ⟨_,_,_,_,_,_⟩, ⟨_,_,_,_,_,_⟩, ⟨_,_,_,_,_,_⟩, ⟨_,_,_,_,_,_⟩, ⟨_,_,_,_,_,_⟩, ⟨_,_,_,_,_,_⟩, ⟨_,_,_,_,_,_⟩]) rfl ?_
      repeat (go_big_quiet_step (fail))
      refine wpQuiet_nil ?_
      refine can_e (o := ⟨_,_,_,_,_,_⟩) rfl (fun K hK => ?_)
      go_wp2_with (go_at_call 16; go_must (refine Calls.mono (note_calls f.epoch f.spot.at_ f.spot.mode A f.l.length c (s := { s with st := s.st + 1 }) HP.out) ?_; rintro e w2 ⟨he, h2, f2⟩; subst he; have H2 := Hd.mk h2; unfold pkC fnV at h2; have F2 := Hd.mk f2; clear hpc0 hpf0 hpc1 hpf1 hpc2 hpf2 hpc3 hpf3 hpc4 hpf4 hpc5 hpf5 hpc6 hpf6 hpc7 hpf7 hpc8 hpf8 hpc9 hpf9 hpc10 hpf10 hpc11 hpf11 hpc12 hpf12 hpc13 hpf13 hpc14 hpf14 hpc15 hpf15 hpl; have h2c0 := blk_cell h2 0 _ rfl; have h2f0 := blk_frozen h2 0; have h2c1 := blk_cell h2 1 _ rfl; have h2f1 := blk_frozen h2 1; have h2c2 := blk_cell h2 2 _ rfl; have h2f2 := blk_frozen h2 2; have h2c3 := blk_cell h2 3 _ rfl; have h2f3 := blk_frozen h2 3; have h2c4 := blk_cell h2 4 _ rfl; have h2f4 := blk_frozen h2 4; have h2c5 := blk_cell h2 5 _ rfl; have h2f5 := blk_frozen h2 5; have h2c6 := blk_cell h2 6 _ rfl; have h2f6 := blk_frozen h2 6; have h2c7 := blk_cell h2 7 _ rfl; have h2f7 := blk_frozen h2 7; have h2c8 := blk_cell h2 8 _ rfl; have h2f8 := blk_frozen h2 8; have h2c9 := blk_cell h2 9 _ rfl; have h2f9 := blk_frozen h2 9; have h2c10 := blk_cell h2 10 _ rfl; have h2f10 := blk_frozen h2 10; have h2c11 := blk_cell h2 11 _ rfl; have h2f11 := blk_frozen h2 11; have h2c12 := blk_cell h2 12 _ rfl; have h2f12 := blk_frozen h2 12; have h2c13 := blk_cell h2 13 _ rfl; have h2f13 := blk_frozen h2 13; have h2c14 := blk_cell h2 14 _ rfl; have h2f14 := blk_frozen h2 14; have h2c15 := blk_cell h2 15 _ rfl; have h2f15 := blk_frozen h2 15; have h2l := blk_lt h2; clear h2 f2))
      refine onK_normal (hK _ _ ⟨fun _ => True, trivial, (fun h => by cases h), ?_⟩)
      clear hK K
      refine can_q (l := [⟨_,_,_,_,_,_⟩, ⟨_,_,_,_,_,_⟩]) rfl ?_
      repeat (go_big_quiet_step (fail))
      refine wpQuiet_nil ?_
      refine can_e (o := ⟨_,_,_,_,_,_⟩) rfl (fun K hK => ?_)
      go_wp2_with fail
      refine onK_normal (hK _ _ ⟨fun _ => True, trivial, (fun h => by cases h), ?_⟩)
      clear hK K
      refine can_done ?_
      go_wp2
      go_ret
      refine ⟨ret_int (by rw [HS.out] <;> rfl), by rw [HS.out]; exact blk_set H2.out 4 _ _ rfl, Fr.set (HF.out.drew.trans F2.out) (.inl rfl) _ _⟩
    · by_cases ph1 : s.ph = 1
      · have hfn : fnOf s.ph = 20 := by rw [ph1]; rfl
        have HS : Hd (stepP s f = { lookP { s with st := s.st + 1 } f.l with ho := lookR { s with st := s.st + 1 } f.l }) := ⟨by unfold stepP; rw [if_neg (by simp [h0])]; simp only [ph1]⟩
        have hl := ok.l1 ph1
        unfold pkC fnV at hp
        simp only [hfn] at hp
        have hpc0 := blk_cell hp 0 _ rfl; have hpf0 := blk_frozen hp 0; have hpc1 := blk_cell hp 1 _ rfl; have hpf1 := blk_frozen hp 1; have hpc2 := blk_cell hp 2 _ rfl; have hpf2 := blk_frozen hp 2; have hpc3 := blk_cell hp 3 _ rfl; have hpf3 := blk_frozen hp 3; have hpc4 := blk_cell hp 4 _ rfl; have hpf4 := blk_frozen hp 4; have hpc5 := blk_cell hp 5 _ rfl; have hpf5 := blk_frozen hp 5; have hpc6 := blk_cell hp 6 _ rfl; have hpf6 := blk_frozen hp 6; have hpc7 := blk_cell hp 7 _ rfl; have hpf7 := blk_frozen hp 7; have hpc8 := blk_cell hp 8 _ rfl; have hpf8 := blk_frozen hp 8; have hpc9 := blk_cell hp 9 _ rfl; have hpf9 := blk_frozen hp 9; have hpc10 := blk_cell hp 10 _ rfl; have hpf10 := blk_frozen hp 10; have hpc11 := blk_cell hp 11 _ rfl; have hpf11 := blk_frozen hp 11; have hpc12 := blk_cell hp 12 _ rfl; have hpf12 := blk_frozen hp 12; have hpc13 := blk_cell hp 13 _ rfl; have hpf13 := blk_frozen hp 13; have hpc14 := blk_cell hp 14 _ rfl; have hpf14 := blk_frozen hp 14; have hpc15 := blk_cell hp 15 _ rfl; have hpf15 := blk_frozen hp 15; have hpl := blk_lt hp
        have hV0c0 := blk_cell hV0 0 _ rfl; have hV0f0 := blk_frozen hV0 0; have hV0c1 := blk_cell hV0 1 _ rfl; have hV0f1 := blk_frozen hV0 1; have hV0l := blk_lt hV0
        clear hp hV0
        refine wp_region_can (.q [0, 1, 2, 3, 4, 5, 6, 7, 8, 9] (.e 10 false (.q [11, 12] (.e 13 false (.done))))) (clsB _) (by kernel_rfl) (by kernel_rfl) (by intro _ _ d _ _ h; cases d <;> exact h) (clsB_drew _) ?_
        refine can_q (l := [⟨_,_,_,_,_,_⟩, ⟨_,_,_,_,_,_⟩, ⟨_,_,_,_,_,_⟩, ⟨_,_,_,_,_,_⟩, ⟨_,_,_,_,_,_⟩, ⟨_,_,_,_,_,_⟩, ⟨_,_,_,_,_,_⟩, ⟨_,_,_,_,_,_⟩, ⟨_,_,_,_,_,_⟩, ⟨_,_,_,_,_,_⟩]) rfl ?_
        repeat (go_big_quiet_step (fail))
        refine wpQuiet_nil ?_
        refine can_e (o := ⟨_,_,_,_,_,_⟩) rfl (fun K hK => ?_)
        go_wp2_with (go_at_call 20; go_must (refine Calls.mono (look_calls f.epoch f.spot.at_ f.spot.mode A f.l.length c f.l S (s := { s with st := s.st + 1 }) (blk_drew HP.out) HSV.out (HR.out.move fun _ _ => rfl) (by show s.tr ≤ 1000; have := hok.out.tr; omega) hok.out.re hl.1 (by have := hok.out.n2; show s.le ≤ 16; omega)) ?_; rintro e w2 ⟨he, h2, f2⟩; subst he; have H2 := Hd.mk h2; unfold pkC fnV at h2; have F2 := Hd.mk f2; clear hpc0 hpf0 hpc1 hpf1 hpc2 hpf2 hpc3 hpf3 hpc4 hpf4 hpc5 hpf5 hpc6 hpf6 hpc7 hpf7 hpc8 hpf8 hpc9 hpf9 hpc10 hpf10 hpc11 hpf11 hpc12 hpf12 hpc13 hpf13 hpc14 hpf14 hpc15 hpf15 hpl; have h2c0 := blk_cell h2 0 _ rfl; have h2f0 := blk_frozen h2 0; have h2c1 := blk_cell h2 1 _ rfl; have h2f1 := blk_frozen h2 1; have h2c2 := blk_cell h2 2 _ rfl; have h2f2 := blk_frozen h2 2; have h2c3 := blk_cell h2 3 _ rfl; have h2f3 := blk_frozen h2 3; have h2c4 := blk_cell h2 4 _ rfl; have h2f4 := blk_frozen h2 4; have h2c5 := blk_cell h2 5 _ rfl; have h2f5 := blk_frozen h2 5; have h2c6 := blk_cell h2 6 _ rfl; have h2f6 := blk_frozen h2 6; have h2c7 := blk_cell h2 7 _ rfl; have h2f7 := blk_frozen h2 7; have h2c8 := blk_cell h2 8 _ rfl; have h2f8 := blk_frozen h2 8; have h2c9 := blk_cell h2 9 _ rfl; have h2f9 := blk_frozen h2 9; have h2c10 := blk_cell h2 10 _ rfl; have h2f10 := blk_frozen h2 10; have h2c11 := blk_cell h2 11 _ rfl; have h2f11 := blk_frozen h2 11; have h2c12 := blk_cell h2 12 _ rfl; have h2f12 := blk_frozen h2 12; have h2c13 := blk_cell h2 13 _ rfl; have h2f13 := blk_frozen h2 13; have h2c14 := blk_cell h2 14 _ rfl; have h2f14 := blk_frozen h2 14; have h2c15 := blk_cell h2 15 _ rfl; have h2f15 := blk_frozen h2 15; have h2l := blk_lt h2; clear h2 f2))
        refine onK_normal (hK _ _ ⟨fun _ => True, trivial, (fun h => by cases h), ?_⟩)
        clear hK K
        refine can_q (l := [⟨_,_,_,_,_,_⟩, ⟨_,_,_,_,_,_⟩]) rfl ?_
        repeat (go_big_quiet_step (fail))
        refine wpQuiet_nil ?_
        refine can_e (o := ⟨_,_,_,_,_,_⟩) rfl (fun K hK => ?_)
        go_wp2_with fail
        refine onK_normal (hK _ _ ⟨fun _ => True, trivial, (fun h => by cases h), ?_⟩)
        clear hK K
        refine can_done ?_
        go_wp2
        go_ret
        refine ⟨ret_int (by rw [HS.out] <;> rfl), by rw [HS.out]; exact blk_set H2.out 4 _ _ rfl, Fr.set (HF.out.drew.trans F2.out) (.inl rfl) _ _⟩
      · have hfn : fnOf s.ph = 23 := by have h2 : s.ph = 2 := (by have := ok.ph; omega); rw [h2]; rfl
        have HS : Hd (stepP s f = if f.epoch = s.ep then { s with st := s.st + 1, ho := 1 } else { failP { s with st := s.st + 1 } with ho := failR { s with st := s.st + 1 } }) := ⟨by unfold stepP; rw [if_neg (by simp [h0])]; have h2 : s.ph = 2 := (by have := ok.ph; omega); simp only [h2]⟩
        by_cases hep : f.epoch = s.ep
        · have HS2 : Hd (stepP s f = { s with st := s.st + 1, ho := 1 }) := ⟨by rw [HS.out, if_pos hep]⟩
          have HASK : Hd (∀ W : World, W.heap[p]? = some (.cells (pkC { s with st := s.st + 1 }) 51 (0, 0)) → Calls Try.prog 23 #[.pointer (some ⟨p, 0, none⟩), nowV f.epoch f.spot.at_ f.spot.mode A f.l.length c] W fun e w' => e = .returned (.int .i64 1) ∧ w'.heap[p]? = some (.cells (pkC { s with st := s.st + 1 }) 51 (0, 0)) ∧ Fr (fun b => b = p) W w') := ⟨fun W hW => by
            have h9 := ask_calls f.epoch f.spot.at_ f.spot.mode A f.l.length c (s := { s with st := s.st + 1 }) hW (by show s.tr ≤ 1000; have := ok.tr; omega) ok.re
            rw [if_pos hep, if_pos hep] at h9; exact h9⟩
          clear HS hep
          have HS := HS2
          unfold pkC fnV at hp
          simp only [hfn] at hp
          have hpc0 := blk_cell hp 0 _ rfl; have hpf0 := blk_frozen hp 0; have hpc1 := blk_cell hp 1 _ rfl; have hpf1 := blk_frozen hp 1; have hpc2 := blk_cell hp 2 _ rfl; have hpf2 := blk_frozen hp 2; have hpc3 := blk_cell hp 3 _ rfl; have hpf3 := blk_frozen hp 3; have hpc4 := blk_cell hp 4 _ rfl; have hpf4 := blk_frozen hp 4; have hpc5 := blk_cell hp 5 _ rfl; have hpf5 := blk_frozen hp 5; have hpc6 := blk_cell hp 6 _ rfl; have hpf6 := blk_frozen hp 6; have hpc7 := blk_cell hp 7 _ rfl; have hpf7 := blk_frozen hp 7; have hpc8 := blk_cell hp 8 _ rfl; have hpf8 := blk_frozen hp 8; have hpc9 := blk_cell hp 9 _ rfl; have hpf9 := blk_frozen hp 9; have hpc10 := blk_cell hp 10 _ rfl; have hpf10 := blk_frozen hp 10; have hpc11 := blk_cell hp 11 _ rfl; have hpf11 := blk_frozen hp 11; have hpc12 := blk_cell hp 12 _ rfl; have hpf12 := blk_frozen hp 12; have hpc13 := blk_cell hp 13 _ rfl; have hpf13 := blk_frozen hp 13; have hpc14 := blk_cell hp 14 _ rfl; have hpf14 := blk_frozen hp 14; have hpc15 := blk_cell hp 15 _ rfl; have hpf15 := blk_frozen hp 15; have hpl := blk_lt hp
          have hV0c0 := blk_cell hV0 0 _ rfl; have hV0f0 := blk_frozen hV0 0; have hV0c1 := blk_cell hV0 1 _ rfl; have hV0f1 := blk_frozen hV0 1; have hV0l := blk_lt hV0
          clear hp hV0
          refine wp_region_can (.q [0, 1, 2, 3, 4, 5, 6, 7, 8, 9] (.e 10 false (.q [11, 12] (.e 13 false (.done))))) (clsB _) (by kernel_rfl) (by kernel_rfl) (by intro _ _ d _ _ h; cases d <;> exact h) (clsB_drew _) ?_
          refine can_q (l := [⟨_,_,_,_,_,_⟩, ⟨_,_,_,_,_,_⟩, ⟨_,_,_,_,_,_⟩, ⟨_,_,_,_,_,_⟩, ⟨_,_,_,_,_,_⟩, ⟨_,_,_,_,_,_⟩, ⟨_,_,_,_,_,_⟩, ⟨_,_,_,_,_,_⟩, ⟨_,_,_,_,_,_⟩, ⟨_,_,_,_,_,_⟩]) rfl ?_
          repeat (go_big_quiet_step (fail))
          refine wpQuiet_nil ?_
          refine can_e (o := ⟨_,_,_,_,_,_⟩) rfl (fun K hK => ?_)
          go_wp2_with (go_at_call 23; go_must (refine Calls.mono (HASK.out _ (blk_drew HP.out)) ?_; rintro e w2 ⟨he, h2, f2⟩; subst he; have H2 := Hd.mk h2; unfold pkC fnV at h2; have F2 := Hd.mk f2; clear hpc0 hpf0 hpc1 hpf1 hpc2 hpf2 hpc3 hpf3 hpc4 hpf4 hpc5 hpf5 hpc6 hpf6 hpc7 hpf7 hpc8 hpf8 hpc9 hpf9 hpc10 hpf10 hpc11 hpf11 hpc12 hpf12 hpc13 hpf13 hpc14 hpf14 hpc15 hpf15 hpl; have h2c0 := blk_cell h2 0 _ rfl; have h2f0 := blk_frozen h2 0; have h2c1 := blk_cell h2 1 _ rfl; have h2f1 := blk_frozen h2 1; have h2c2 := blk_cell h2 2 _ rfl; have h2f2 := blk_frozen h2 2; have h2c3 := blk_cell h2 3 _ rfl; have h2f3 := blk_frozen h2 3; have h2c4 := blk_cell h2 4 _ rfl; have h2f4 := blk_frozen h2 4; have h2c5 := blk_cell h2 5 _ rfl; have h2f5 := blk_frozen h2 5; have h2c6 := blk_cell h2 6 _ rfl; have h2f6 := blk_frozen h2 6; have h2c7 := blk_cell h2 7 _ rfl; have h2f7 := blk_frozen h2 7; have h2c8 := blk_cell h2 8 _ rfl; have h2f8 := blk_frozen h2 8; have h2c9 := blk_cell h2 9 _ rfl; have h2f9 := blk_frozen h2 9; have h2c10 := blk_cell h2 10 _ rfl; have h2f10 := blk_frozen h2 10; have h2c11 := blk_cell h2 11 _ rfl; have h2f11 := blk_frozen h2 11; have h2c12 := blk_cell h2 12 _ rfl; have h2f12 := blk_frozen h2 12; have h2c13 := blk_cell h2 13 _ rfl; have h2f13 := blk_frozen h2 13; have h2c14 := blk_cell h2 14 _ rfl; have h2f14 := blk_frozen h2 14; have h2c15 := blk_cell h2 15 _ rfl; have h2f15 := blk_frozen h2 15; have h2l := blk_lt h2; clear h2 f2))
          refine onK_normal (hK _ _ ⟨fun _ => True, trivial, (fun h => by cases h), ?_⟩)
          clear hK K
          refine can_q (l := [⟨_,_,_,_,_,_⟩, ⟨_,_,_,_,_,_⟩]) rfl ?_
          repeat (go_big_quiet_step (fail))
          refine wpQuiet_nil ?_
          refine can_e (o := ⟨_,_,_,_,_,_⟩) rfl (fun K hK => ?_)
          go_wp2_with fail
          refine onK_normal (hK _ _ ⟨fun _ => True, trivial, (fun h => by cases h), ?_⟩)
          clear hK K
          refine can_done ?_
          go_wp2
          go_ret
          refine ⟨ret_int (by rw [HS.out] <;> rfl), by rw [HS.out]; exact blk_set H2.out 4 _ _ rfl, Fr.set (HF.out.drew.trans F2.out) (.inl rfl) _ _⟩
        · have HS2 : Hd (stepP s f = { failP { s with st := s.st + 1 } with ho := failR { s with st := s.st + 1 } }) := ⟨by rw [HS.out, if_neg hep]⟩
          have HASK : Hd (∀ W : World, W.heap[p]? = some (.cells (pkC { s with st := s.st + 1 }) 51 (0, 0)) → Calls Try.prog 23 #[.pointer (some ⟨p, 0, none⟩), nowV f.epoch f.spot.at_ f.spot.mode A f.l.length c] W fun e w' => e = .returned (.int .i64 (failR { s with st := s.st + 1 } : Nat)) ∧ w'.heap[p]? = some (.cells (pkC (failP { s with st := s.st + 1 })) 51 (0, 0)) ∧ Fr (fun b => b = p) W w') := ⟨fun W hW => by
            have h9 := ask_calls f.epoch f.spot.at_ f.spot.mode A f.l.length c (s := { s with st := s.st + 1 }) hW (by show s.tr ≤ 1000; have := ok.tr; omega) ok.re
            rw [if_neg hep, if_neg hep] at h9; exact h9⟩
          clear HS hep
          have HS := HS2
          unfold pkC fnV at hp
          simp only [hfn] at hp
          have hpc0 := blk_cell hp 0 _ rfl; have hpf0 := blk_frozen hp 0; have hpc1 := blk_cell hp 1 _ rfl; have hpf1 := blk_frozen hp 1; have hpc2 := blk_cell hp 2 _ rfl; have hpf2 := blk_frozen hp 2; have hpc3 := blk_cell hp 3 _ rfl; have hpf3 := blk_frozen hp 3; have hpc4 := blk_cell hp 4 _ rfl; have hpf4 := blk_frozen hp 4; have hpc5 := blk_cell hp 5 _ rfl; have hpf5 := blk_frozen hp 5; have hpc6 := blk_cell hp 6 _ rfl; have hpf6 := blk_frozen hp 6; have hpc7 := blk_cell hp 7 _ rfl; have hpf7 := blk_frozen hp 7; have hpc8 := blk_cell hp 8 _ rfl; have hpf8 := blk_frozen hp 8; have hpc9 := blk_cell hp 9 _ rfl; have hpf9 := blk_frozen hp 9; have hpc10 := blk_cell hp 10 _ rfl; have hpf10 := blk_frozen hp 10; have hpc11 := blk_cell hp 11 _ rfl; have hpf11 := blk_frozen hp 11; have hpc12 := blk_cell hp 12 _ rfl; have hpf12 := blk_frozen hp 12; have hpc13 := blk_cell hp 13 _ rfl; have hpf13 := blk_frozen hp 13; have hpc14 := blk_cell hp 14 _ rfl; have hpf14 := blk_frozen hp 14; have hpc15 := blk_cell hp 15 _ rfl; have hpf15 := blk_frozen hp 15; have hpl := blk_lt hp
          have hV0c0 := blk_cell hV0 0 _ rfl; have hV0f0 := blk_frozen hV0 0; have hV0c1 := blk_cell hV0 1 _ rfl; have hV0f1 := blk_frozen hV0 1; have hV0l := blk_lt hV0
          clear hp hV0
          refine wp_region_can (.q [0, 1, 2, 3, 4, 5, 6, 7, 8, 9] (.e 10 false (.q [11, 12] (.e 13 false (.done))))) (clsB _) (by kernel_rfl) (by kernel_rfl) (by intro _ _ d _ _ h; cases d <;> exact h) (clsB_drew _) ?_
          refine can_q (l := [⟨_,_,_,_,_,_⟩, ⟨_,_,_,_,_,_⟩, ⟨_,_,_,_,_,_⟩, ⟨_,_,_,_,_,_⟩, ⟨_,_,_,_,_,_⟩, ⟨_,_,_,_,_,_⟩, ⟨_,_,_,_,_,_⟩, ⟨_,_,_,_,_,_⟩, ⟨_,_,_,_,_,_⟩, ⟨_,_,_,_,_,_⟩]) rfl ?_
          repeat (go_big_quiet_step (fail))
          refine wpQuiet_nil ?_
          refine can_e (o := ⟨_,_,_,_,_,_⟩) rfl (fun K hK => ?_)
          go_wp2_with (go_at_call 23; go_must (refine Calls.mono (HASK.out _ (blk_drew HP.out)) ?_; rintro e w2 ⟨he, h2, f2⟩; subst he; have H2 := Hd.mk h2; unfold pkC fnV at h2; have F2 := Hd.mk f2; clear hpc0 hpf0 hpc1 hpf1 hpc2 hpf2 hpc3 hpf3 hpc4 hpf4 hpc5 hpf5 hpc6 hpf6 hpc7 hpf7 hpc8 hpf8 hpc9 hpf9 hpc10 hpf10 hpc11 hpf11 hpc12 hpf12 hpc13 hpf13 hpc14 hpf14 hpc15 hpf15 hpl; have h2c0 := blk_cell h2 0 _ rfl; have h2f0 := blk_frozen h2 0; have h2c1 := blk_cell h2 1 _ rfl; have h2f1 := blk_frozen h2 1; have h2c2 := blk_cell h2 2 _ rfl; have h2f2 := blk_frozen h2 2; have h2c3 := blk_cell h2 3 _ rfl; have h2f3 := blk_frozen h2 3; have h2c4 := blk_cell h2 4 _ rfl; have h2f4 := blk_frozen h2 4; have h2c5 := blk_cell h2 5 _ rfl; have h2f5 := blk_frozen h2 5; have h2c6 := blk_cell h2 6 _ rfl; have h2f6 := blk_frozen h2 6; have h2c7 := blk_cell h2 7 _ rfl; have h2f7 := blk_frozen h2 7; have h2c8 := blk_cell h2 8 _ rfl; have h2f8 := blk_frozen h2 8; have h2c9 := blk_cell h2 9 _ rfl; have h2f9 := blk_frozen h2 9; have h2c10 := blk_cell h2 10 _ rfl; have h2f10 := blk_frozen h2 10; have h2c11 := blk_cell h2 11 _ rfl; have h2f11 := blk_frozen h2 11; have h2c12 := blk_cell h2 12 _ rfl; have h2f12 := blk_frozen h2 12; have h2c13 := blk_cell h2 13 _ rfl; have h2f13 := blk_frozen h2 13; have h2c14 := blk_cell h2 14 _ rfl; have h2f14 := blk_frozen h2 14; have h2c15 := blk_cell h2 15 _ rfl; have h2f15 := blk_frozen h2 15; have h2l := blk_lt h2; clear h2 f2))
          refine onK_normal (hK _ _ ⟨fun _ => True, trivial, (fun h => by cases h), ?_⟩)
          clear hK K
          refine can_q (l := [⟨_,_,_,_,_,_⟩, ⟨_,_,_,_,_,_⟩]) rfl ?_
          repeat (go_big_quiet_step (fail))
          refine wpQuiet_nil ?_
          refine can_e (o := ⟨_,_,_,_,_,_⟩) rfl (fun K hK => ?_)
          go_wp2_with fail
          refine onK_normal (hK _ _ ⟨fun _ => True, trivial, (fun h => by cases h), ?_⟩)
          clear hK K
          refine can_done ?_
          go_wp2
          go_ret
          refine ⟨ret_int (by rw [HS.out] <;> rfl), by rw [HS.out]; exact blk_set H2.out 4 _ _ rfl, Fr.set (HF.out.drew.trans F2.out) (.inl rfl) _ _⟩
  · have h0I : ¬ (s.ho : Int) = 0 := by omega
    have h0J : ((s.ho : Int) == 0) = false := by simpa using h0I
    have HS : Hd (stepP s f = s) := ⟨by unfold stepP; rw [if_pos h0]⟩
    have hsc0 := blk_cell hs 0 _ rfl; have hsf0 := blk_frozen hs 0; have hsc1 := blk_cell hs 1 _ rfl; have hsf1 := blk_frozen hs 1; have hsc2 := blk_cell hs 2 _ rfl; have hsf2 := blk_frozen hs 2; have hsc3 := blk_cell hs 3 _ rfl; have hsf3 := blk_frozen hs 3; have hsc4 := blk_cell hs 4 _ rfl; have hsf4 := blk_frozen hs 4; have hsc5 := blk_cell hs 5 _ rfl; have hsf5 := blk_frozen hs 5; have hsc6 := blk_cell hs 6 _ rfl; have hsf6 := blk_frozen hs 6; have hsc7 := blk_cell hs 7 _ rfl; have hsf7 := blk_frozen hs 7; have hsc8 := blk_cell hs 8 _ rfl; have hsf8 := blk_frozen hs 8; have hsc9 := blk_cell hs 9 _ rfl; have hsf9 := blk_frozen hs 9; have hsc10 := blk_cell hs 10 _ rfl; have hsf10 := blk_frozen hs 10; have hsc11 := blk_cell hs 11 _ rfl; have hsf11 := blk_frozen hs 11; have hsc12 := blk_cell hs 12 _ rfl; have hsf12 := blk_frozen hs 12; have hsc13 := blk_cell hs 13 _ rfl; have hsf13 := blk_frozen hs 13; have hsc14 := blk_cell hs 14 _ rfl; have hsf14 := blk_frozen hs 14; have hsc15 := blk_cell hs 15 _ rfl; have hsf15 := blk_frozen hs 15; have hsl := blk_lt hs
    clear hs
    go_enter Try.func8, Try.ntmps8
    go_wp2
    go_ret
    exact ⟨ret_int (by rw [HS.out]), by rw [HS.out]; exact blk_alloc HH.out _, Fr.of_below (by repeat (first | (with_reducible assumption) | (with_reducible exact Below.refl _ _) | (with_reducible apply below_drewL) | (with_reducible apply below_alloc) | (with_reducible apply below_drew1) | (with_reducible apply below_drewN) | (refine below_set ?_ (by first | omega | (simp only [size_alloc, size_drew, size_set]; omega)) _ _)))⟩
end Go.Proofs.Ytfckpppfmjllbaa.Fn
