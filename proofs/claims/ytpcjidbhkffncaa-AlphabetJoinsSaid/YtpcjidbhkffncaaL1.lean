/- AlphabetOf: the walk. -/
import Derived.Test.YtpcjidbhkffncaaA12
namespace Go.Proofs.Ytpcjidbhkffncaa.Fn
open Go Go.RowKit Go.Proofs.Ytpcjidbhkffncaa.Can Go.Proofs.Ytpcjidbhkffncaa.Base
attribute [local go_sem] clsB AB.cell

theorem opens39 : Opens Try.prog 39 rT (fun _ => True) :=
  (opens_struct2 (a := Ty.int .i64) (b := Ty.int .i64) Try.underlying39 (opens_int Try.underlying3) (opens_int Try.underlying3) rfl rfl (by kernel_rfl) (by kernel_rfl) (by kernel_rfl)).map (fun x => ⟨x.1, x.2⟩) (fun _ _ => trivial) (by
    rintro w S x cs ⟨c0, c1, rfl, h0, h1⟩
    have h0' : c0 = [.int .i64 x.1] := h0
    have h1' : c1 = [.int .i64 x.2] := h1
    subst h0' h1'
    rfl)
theorem opens22 : Opens Try.prog 22 (Ty.slice rT (by decide)) (fun _ => True) :=
  (opens_slice Try.underlying22 (by kernel_rfl) (by decide) opens39).map id (fun _ _ => trivial) (fun _ _ _ _ h => h)
theorem opens24 : Opens Try.prog 24 (Ty.slice (Ty.int .i64) (by decide)) (fun l => ∀ x ∈ l, (Lit.int .i64 x).wf = true) :=
  (opens_slice Try.underlying24 (by kernel_rfl) (by decide) (opens_int Try.underlying3)).map id (fun _ h => h) (fun _ _ _ _ h => h)
set_option maxRecDepth 20000 in
set_option maxHeartbeats 2000000 in
theorem ofl_calls (a b : Nat) (ha : a ≤ 255) (hb : b ≤ 255) (A : Option Addr) (c : Nat) (xs : List Rg) (S : Nat → Prop) (w : World) (hS : ∀ k, S k → k < w.heap.size) (hC : Row rT w S A xs.length xs) :
    Calls Try.prog 3 #[.slice A xs.length c, .int .u8 a, .int .u8 b] w fun e w' => e = .returned (.bool true) ∧ Below w.heap.size w w' := by
  have hc := hC.le
  have HS := Hd.mk hS; have HC := Hd.mk hC; clear hS hC
  by_cases hlong : 12 < xs.length
  · go_enter Try.func3, Try.ntmps3
    go_wp2_with (go_at_call 6; refine Calls.mono (alive_calls _) ?_; rintro e w1 ⟨rfl, hb1⟩)
    go_ret
    exact ⟨rfl, hb1⟩
  · go_enter Try.func3, Try.ntmps3
    obtain ⟨f, hf⟩ : ∃ f, keyF xs = f := ⟨_, rfl⟩
    have HF := Hd.mk hf
    obtain ⟨m, hm⟩ : ∃ m, (met f 256).length = m := ⟨_, rfl⟩
    have HM := Hd.mk hm
    have hm9 : m ≤ 256 := by rw [← hm]; exact met_len _ _
    clear hf hm
    go_wp2_with (first
      | (go_at_call 10; go_must (refine Calls.mono (right_calls (some ⟨g, 0, none⟩) 256 256 (clsL f 256) (fun b => b = g) _ HR.out) ?_; rintro e w3 ⟨he, rfl⟩; rw [right_cls] at he; subst he))
      | (go_at_call 9; go_must (refine Calls.mono (same_calls (some ⟨g, 0, none⟩) A2 256 c2 256 (clsL f 256) (fun b => b = g) (fun b => w1.heap.size ≤ b ∧ b < w2.heap.size) _ (by rintro k rfl; exact HG.out.lt) (fun k h => h.2) HR0.out HR2.out) ?_; rintro e w3 ⟨rfl, hb3⟩; have HB := Hd.mk (below_seq HB2.out hb3); have HG3 := Hd.mk (HG.out.below hb3); have HR := Hd.mk (HR0.out.below (by rintro k rfl; exact HG.out.lt) hb3); have hG3 := HG3.out; have hcell1 := hG3.cell0 i_len (clsL_get (f := f) (show a < 256 by omega)) rfl; have hcell2 := hG3.cell0 i_len (clsL_get (f := f) (show b < 256 by omega)) rfl; rw [Nat.mul_one] at hcell1 hcell2; have hgl3 := hG3.lt; clear hG3 hb3 HG HR0 HR2 HB2))
      | (go_at_call 8; go_must (refine Calls.mono (rof_calls A xs.length c xs S w1 (fun k hk => Nat.lt_of_lt_of_le (HS.out k hk) HB1.out.size) (HC.out.below HS.out HB1.out)) ?_; rintro e w2 ⟨A2, n2, c2, rfl, hr2, hb2⟩; rw [HF.out, HM.out]; rw [HF.out] at hr2; have hn2 : n2 = 256 := (by rw [← hr2.1, clsL_len]); subst hn2; have HR2 := Hd.mk hr2; have HB2 := Hd.mk (below_seq HB1.out hb2); have hG2 := HG1.out.below hb2; have hr0 := blk_rowI hG2 (S := fun b => b = g) rfl (by rw [clsL_len]; omega); rw [clsL_len] at hr0; have HR0 := Hd.mk hr0; have HG := Hd.mk hG2; clear hr2 hb2 hr0 hG2 HG1 HB1))
      | (go_at_call 7; go_must (refine Calls.mono (aof_calls A xs.length c xs S w HS.out HC.out) ?_; rintro e w1 ⟨g, rfl, hg, hG, hb1⟩; rw [HF.out, HM.out]; rw [HF.out] at hG; have HG1 := Hd.mk hG; have HB1 := Hd.mk hb1; clear hG hb1)))
    have hsame := cls_same (f := f) (a := a) (b := b)
    obtain ⟨x, hx⟩ : ∃ x, cls f a = x := ⟨_, rfl⟩
    obtain ⟨y, hy⟩ : ∃ y, cls f b = y := ⟨_, rfl⟩
    rw [hx] at hcell1 hsame
    rw [hy] at hcell2 hsame
    have HSa := Hd.mk hsame
    clear hsame hx hy
    by_cases hk : f a = f b
    · have HT : Hd (apB xs (a : Nat) (b : Nat) = false) := ⟨by unfold apB; rw [← HF.out] at hk; simpa [keyF] using hk⟩
      have hxy : ((x : Int) == (y : Int)) = true := by rw [HSa.out.2 hk]; simp
      clear hk
      go_wp2
      refine wp_region_can (.q [0, 1, 2, 3, 4, 5, 6, 7, 8, 9, 10, 11, 12, 13] (.e 14 true (.q [15, 16, 17] (.e 18 false (.q [19, 20] (.done)))))) (clsB _) (by kernel_rfl) (by kernel_rfl) (by intro _ _ d _ _ h; cases d <;> exact h) (clsB_drew _) ?_
      refine can_q (l := [⟨_,_,_,_,_,_⟩, ⟨_,_,_,_,_,_⟩, ⟨_,_,_,_,_,_⟩, ⟨_,_,_,_,_,_⟩, ⟨_,_,_,_,_,_⟩, ⟨_,_,_,_,_,_⟩, ⟨_,_,_,_,_,_⟩, ⟨_,_,_,_,_,_⟩, ⟨_,_,_,_,_,_⟩, ⟨_,_,_,_,_,_⟩, ⟨_,_,_,_,_,_⟩, ⟨_,_,_,_,_,_⟩, ⟨_,_,_,_,_,_⟩, ⟨_,_,_,_,_,_⟩]) rfl ?_
      repeat (go_big_quiet_step (fail))
      refine wpQuiet_nil ?_
      refine can_e (o := ⟨_,_,_,_,_,_⟩) rfl (fun K hK => ?_)
      go_wp2_with (go_at_call 11; go_must (refine Calls.mono (apart_calls A xs.length c xs a b S _ (by omega) (by omega) ((HC.out.below HS.out HB.out).below (fun k hk => Nat.lt_of_lt_of_le (HS.out k hk) HB.out.size) (by repeat (first | (with_reducible assumption) | (with_reducible exact Below.refl _ _) | (with_reducible apply below_drewL) | (with_reducible apply below_alloc) | (with_reducible apply below_drew1) | (with_reducible apply below_drewN) | (refine below_set ?_ (by first | omega | (simp only [size_alloc, size_drew, size_set]; omega)) _ _))))) ?_; rintro e w5 ⟨he, rfl⟩; rw [HT.out] at he; subst he))
      refine onK_normal (hK _ _ ⟨clsB _, (by first | exact clsB_drew _ | exact clsB_self _), fun _ => clsB_next (by first | exact ((by repeat (first | (with_reducible assumption) | (with_reducible exact Below.refl _ _) | (with_reducible apply below_drewL) | (with_reducible apply below_alloc) | (with_reducible apply below_drew1) | (with_reducible apply below_drewN) | (refine below_set ?_ (by first | omega | (simp only [size_alloc, size_drew, size_set]; omega)) _ _)))) | exact below_undrew ((by repeat (first | (with_reducible assumption) | (with_reducible exact Below.refl _ _) | (with_reducible apply below_drewL) | (with_reducible apply below_alloc) | (with_reducible apply below_drew1) | (with_reducible apply below_drewN) | (refine below_set ?_ (by first | omega | (simp only [size_alloc, size_drew, size_set]; omega)) _ _))))), ?_⟩)
      clear hK K
      refine can_q (l := [⟨_,_,_,_,_,_⟩, ⟨_,_,_,_,_,_⟩, ⟨_,_,_,_,_,_⟩]) rfl ?_
      repeat (go_big_quiet_step (fail))
      refine wpQuiet_nil ?_
      refine can_e (o := ⟨_,_,_,_,_,_⟩) rfl (fun K hK => ?_)
      go_wp2_with (go_at_call 6; go_must (refine Calls.mono (alive_calls _) ?_; rintro e w6 ⟨rfl, hb6⟩))
      refine onK_normal (hK _ _ ⟨fun _ => True, trivial, (fun h => by cases h), ?_⟩)
      clear hK K
      refine can_q (l := [⟨_,_,_,_,_,_⟩, ⟨_,_,_,_,_,_⟩]) rfl ?_
      repeat (go_big_quiet_step (fail))
      refine wpQuiet_nil ?_
      refine can_done ?_
      go_wp2
      go_ret
      exact ⟨rfl, below_seq HB.out (by first | exact hb6 | exact below_undrew hb6)⟩
    · have HT : Hd (apB xs (a : Nat) (b : Nat) = true) := ⟨by unfold apB; rw [← HF.out] at hk; simpa [keyF] using hk⟩
      have hxy : ((x : Int) == (y : Int)) = false := by have := mt HSa.out.1 hk; simp; omega
      clear hk
      go_wp2
      refine wp_region_can (.q [0, 1, 2, 3, 4, 5, 6, 7, 8, 9, 10, 11, 12, 13] (.e 14 true (.q [15, 16, 17] (.e 18 false (.q [19, 20] (.done)))))) (clsB _) (by kernel_rfl) (by kernel_rfl) (by intro _ _ d _ _ h; cases d <;> exact h) (clsB_drew _) ?_
      refine can_q (l := [⟨_,_,_,_,_,_⟩, ⟨_,_,_,_,_,_⟩, ⟨_,_,_,_,_,_⟩, ⟨_,_,_,_,_,_⟩, ⟨_,_,_,_,_,_⟩, ⟨_,_,_,_,_,_⟩, ⟨_,_,_,_,_,_⟩, ⟨_,_,_,_,_,_⟩, ⟨_,_,_,_,_,_⟩, ⟨_,_,_,_,_,_⟩, ⟨_,_,_,_,_,_⟩, ⟨_,_,_,_,_,_⟩, ⟨_,_,_,_,_,_⟩, ⟨_,_,_,_,_,_⟩]) rfl ?_
      repeat (go_big_quiet_step (fail))
      refine wpQuiet_nil ?_
      refine can_e (o := ⟨_,_,_,_,_,_⟩) rfl (fun K hK => ?_)
      go_wp2_with (go_at_call 11; go_must (refine Calls.mono (apart_calls A xs.length c xs a b S _ (by omega) (by omega) ((HC.out.below HS.out HB.out).below (fun k hk => Nat.lt_of_lt_of_le (HS.out k hk) HB.out.size) (by repeat (first | (with_reducible assumption) | (with_reducible exact Below.refl _ _) | (with_reducible apply below_drewL) | (with_reducible apply below_alloc) | (with_reducible apply below_drew1) | (with_reducible apply below_drewN) | (refine below_set ?_ (by first | omega | (simp only [size_alloc, size_drew, size_set]; omega)) _ _))))) ?_; rintro e w5 ⟨he, rfl⟩; rw [HT.out] at he; subst he))
      refine onK_normal (hK _ _ ⟨clsB _, (by first | exact clsB_drew _ | exact clsB_self _), fun _ => clsB_next (by first | exact ((by repeat (first | (with_reducible assumption) | (with_reducible exact Below.refl _ _) | (with_reducible apply below_drewL) | (with_reducible apply below_alloc) | (with_reducible apply below_drew1) | (with_reducible apply below_drewN) | (refine below_set ?_ (by first | omega | (simp only [size_alloc, size_drew, size_set]; omega)) _ _)))) | exact below_undrew ((by repeat (first | (with_reducible assumption) | (with_reducible exact Below.refl _ _) | (with_reducible apply below_drewL) | (with_reducible apply below_alloc) | (with_reducible apply below_drew1) | (with_reducible apply below_drewN) | (refine below_set ?_ (by first | omega | (simp only [size_alloc, size_drew, size_set]; omega)) _ _))))), ?_⟩)
      clear hK K
      refine can_q (l := [⟨_,_,_,_,_,_⟩, ⟨_,_,_,_,_,_⟩, ⟨_,_,_,_,_,_⟩]) rfl ?_
      repeat (go_big_quiet_step (fail))
      refine wpQuiet_nil ?_
      refine can_e (o := ⟨_,_,_,_,_,_⟩) rfl (fun K hK => ?_)
      go_wp2_with (go_at_call 6; go_must (refine Calls.mono (alive_calls _) ?_; rintro e w6 ⟨rfl, hb6⟩))
      refine onK_normal (hK _ _ ⟨fun _ => True, trivial, (fun h => by cases h), ?_⟩)
      clear hK K
      refine can_q (l := [⟨_,_,_,_,_,_⟩, ⟨_,_,_,_,_,_⟩]) rfl ?_
      repeat (go_big_quiet_step (fail))
      refine wpQuiet_nil ?_
      refine can_done ?_
      go_wp2
      go_ret
      exact ⟨rfl, below_seq HB.out (by first | exact hb6 | exact below_undrew hb6)⟩
end Go.Proofs.Ytpcjidbhkffncaa.Fn
