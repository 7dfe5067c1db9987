/- What failed, ask, note and Behind compute. -/
import Derived.Test.YtfckpppfmjllbaaP3
import Derived.Laws.EntriesVeiled
namespace Go.Proofs.Ytfckpppfmjllbaa.Fn
open Go Go.RowKit Go.Proofs.Ytfckpppfmjllbaa.Can Go.Proofs.Ytfckpppfmjllbaa.Base
attribute [local go_sem] clsB AB.cell clsO AO.cell

def failP (s : PS) : PS := { s with tr := s.tr + 1, ph := 0 }
def failR (s : PS) : Nat := if s.re < s.tr + 1 then 2 else 0
theorem failed_calls {p : Nat} {s : PS} {w : World} (h : w.heap[p]? = some (.cells (pkC s) 51 (0, 0))) (ht : s.tr ≤ 1000) (hr : s.re ≤ 16) : Calls Try.prog 21 #[.pointer (some ⟨p, 0, none⟩)] w fun e w' =>
    e = .returned (.int .i64 (failR s : Nat)) ∧ w'.heap[p]? = some (.cells (pkC (failP s)) 51 (0, 0)) ∧ Fr (fun b => b = p) w w' := by
  have hs := h
  unfold pkC fnV at hs
  have hsc0 := blk_cell hs 0 _ rfl; have hsf0 := blk_frozen hs 0; have hsc1 := blk_cell hs 1 _ rfl; have hsf1 := blk_frozen hs 1; have hsc2 := blk_cell hs 2 _ rfl; have hsf2 := blk_frozen hs 2; have hsc3 := blk_cell hs 3 _ rfl; have hsf3 := blk_frozen hs 3; have hsc4 := blk_cell hs 4 _ rfl; have hsf4 := blk_frozen hs 4; have hsc5 := blk_cell hs 5 _ rfl; have hsf5 := blk_frozen hs 5; have hsc6 := blk_cell hs 6 _ rfl; have hsf6 := blk_frozen hs 6; have hsc7 := blk_cell hs 7 _ rfl; have hsf7 := blk_frozen hs 7; have hsc8 := blk_cell hs 8 _ rfl; have hsf8 := blk_frozen hs 8; have hsc9 := blk_cell hs 9 _ rfl; have hsf9 := blk_frozen hs 9; have hsc10 := blk_cell hs 10 _ rfl; have hsf10 := blk_frozen hs 10; have hsc11 := blk_cell hs 11 _ rfl; have hsf11 := blk_frozen hs 11; have hsc12 := blk_cell hs 12 _ rfl; have hsf12 := blk_frozen hs 12; have hsc13 := blk_cell hs 13 _ rfl; have hsf13 := blk_frozen hs 13; have hsc14 := blk_cell hs 14 _ rfl; have hsf14 := blk_frozen hs 14; have hsc15 := blk_cell hs 15 _ rfl; have hsf15 := blk_frozen hs 15; have hsl := blk_lt hs
  unfold failR
  have HH := Hd.mk h; clear h hs
  have hF : Hd (((((w.setCell ⟨p, 2, none⟩ (.int .i64 ((s.tr : Int) + 1))).setCell ⟨p, 15, none⟩ (fnV 16)).drew).heap[p]? = some (.cells (pkC (failP s)) 51 (0, 0))) ∧ Fr (fun b => b = p) w (((w.setCell ⟨p, 2, none⟩ (.int .i64 ((s.tr : Int) + 1))).setCell ⟨p, 15, none⟩ (fnV 16)).drew)) :=
    ⟨blk_drew (blk_set (blk_set HH.out 2 _ _ rfl) 15 _ _ rfl), (Fr.set (Fr.set (Fr.refl (fun b => b = p) _) (.inl rfl) _ _) (.inl rfl) _ _).drew⟩
  by_cases hc : s.re < s.tr + 1
  · have hcI : (s.re : Int) < (s.tr : Int) + 1 := by omega
    rw [if_pos hc]
    go_enter Try.func21, Try.ntmps21
    go_wp2
    refine wp_region_can (.q [0, 1, 2, 3, 4, 5, 6, 7, 8] (.done)) (clsB _) (by kernel_rfl) (by kernel_rfl) (by intro _ _ d _ _ h; cases d <;> exact h) (clsB_drew _) ?_
    refine can_q (l := [⟨_,_,_,_,_,_⟩, ⟨_,_,_,_,_,_⟩, ⟨_,_,_,_,_,_⟩, ⟨_,_,_,_,_,_⟩, ⟨_,_,_,_,_,_⟩, ⟨_,_,_,_,_,_⟩, ⟨_,_,_,_,_,_⟩, ⟨_,_,_,_,_,_⟩, ⟨_,_,_,_,_,_⟩]) rfl ?_
    repeat (go_big_quiet_step (fail))
    refine wpQuiet_nil ?_
    refine can_done ?_
    go_wp2
    go_ret
    exact ⟨rfl, hF.out⟩
  · have hcI : ¬ (s.re : Int) < (s.tr : Int) + 1 := by omega
    rw [if_neg hc]
    go_enter Try.func21, Try.ntmps21
    go_wp2
    refine wp_region_can (.q [0, 1, 2, 3, 4, 5, 6, 7, 8] (.done)) (clsB _) (by kernel_rfl) (by kernel_rfl) (by intro _ _ d _ _ h; cases d <;> exact h) (clsB_drew _) ?_
    refine can_q (l := [⟨_,_,_,_,_,_⟩, ⟨_,_,_,_,_,_⟩, ⟨_,_,_,_,_,_⟩, ⟨_,_,_,_,_,_⟩, ⟨_,_,_,_,_,_⟩, ⟨_,_,_,_,_,_⟩, ⟨_,_,_,_,_,_⟩, ⟨_,_,_,_,_,_⟩, ⟨_,_,_,_,_,_⟩]) rfl ?_
    repeat (go_big_quiet_step (fail))
    refine wpQuiet_nil ?_
    refine can_done ?_
    go_wp2
    go_ret
    exact ⟨rfl, hF.out⟩
/-- What a step is told, as a value. -/
def nowV (ep a m : Int) (A : Option Addr) (n c : Nat) : Value := .agg #[.int .i64 ep, .int .i64 a, .int .i64 m, .func (Fn.func 9) #[.agg #[.int .i64 ep, .int .i64 a, .int .i64 m, .slice A n c]] #[]]
theorem ask_calls (ep a m : Int) (A : Option Addr) (n c : Nat) {p : Nat} {s : PS} {w : World} (h : w.heap[p]? = some (.cells (pkC s) 51 (0, 0))) (ht : s.tr ≤ 1000) (hr : s.re ≤ 16) : Calls Try.prog 23 #[.pointer (some ⟨p, 0, none⟩), nowV ep a m A n c] w fun e w' =>
    e = .returned (.int .i64 ((if ep = s.ep then 1 else failR s : Nat) : Int)) ∧ w'.heap[p]? = some (.cells (pkC (if ep = s.ep then s else failP s)) 51 (0, 0)) ∧ Fr (fun b => b = p) w w' := by
  have hs := h
  unfold pkC fnV at hs
  have hsc0 := blk_cell hs 0 _ rfl; have hsf0 := blk_frozen hs 0; have hsc1 := blk_cell hs 1 _ rfl; have hsf1 := blk_frozen hs 1; have hsc2 := blk_cell hs 2 _ rfl; have hsf2 := blk_frozen hs 2; have hsc3 := blk_cell hs 3 _ rfl; have hsf3 := blk_frozen hs 3; have hsc4 := blk_cell hs 4 _ rfl; have hsf4 := blk_frozen hs 4; have hsc5 := blk_cell hs 5 _ rfl; have hsf5 := blk_frozen hs 5; have hsc6 := blk_cell hs 6 _ rfl; have hsf6 := blk_frozen hs 6; have hsc7 := blk_cell hs 7 _ rfl; have hsf7 := blk_frozen hs 7; have hsc8 := blk_cell hs 8 _ rfl; have hsf8 := blk_frozen hs 8; have hsc9 := blk_cell hs 9 _ rfl; have hsf9 := blk_frozen hs 9; have hsc10 := blk_cell hs 10 _ rfl; have hsf10 := blk_frozen hs 10; have hsc11 := blk_cell hs 11 _ rfl; have hsf11 := blk_frozen hs 11; have hsc12 := blk_cell hs 12 _ rfl; have hsf12 := blk_frozen hs 12; have hsc13 := blk_cell hs 13 _ rfl; have hsf13 := blk_frozen hs 13; have hsc14 := blk_cell hs 14 _ rfl; have hsf14 := blk_frozen hs 14; have hsc15 := blk_cell hs 15 _ rfl; have hsf15 := blk_frozen hs 15; have hsl := blk_lt hs
  unfold nowV
  have HH := Hd.mk h; clear h hs
  by_cases hc : ep = s.ep
  · rw [if_pos hc, if_pos hc]
    subst hc
    go_enter Try.func23, Try.ntmps23
    go_wp2
    refine wp_region_can (.q [0, 1, 2, 3, 4, 5, 6] (.done)) (clsB _) (by kernel_rfl) (by kernel_rfl) (by intro _ _ d _ _ h; cases d <;> exact h) (clsB_drew _) ?_
    refine can_q (l := [⟨_,_,_,_,_,_⟩, ⟨_,_,_,_,_,_⟩, ⟨_,_,_,_,_,_⟩, ⟨_,_,_,_,_,_⟩, ⟨_,_,_,_,_,_⟩, ⟨_,_,_,_,_,_⟩, ⟨_,_,_,_,_,_⟩]) rfl ?_
    repeat (go_big_quiet_step (fail))
    refine wpQuiet_nil ?_
    refine can_done ?_
    go_wp2
    go_ret
    exact ⟨rfl, blk_drew (blk_alloc HH.out _), Fr.of_below (by repeat (first | (with_reducible assumption) | (with_reducible exact Below.refl _ _) | (with_reducible apply below_drewL) | (with_reducible apply below_alloc) | (with_reducible apply below_drew1) | (with_reducible apply below_drewN) | (refine below_set ?_ (by first | omega | (simp only [size_alloc, size_drew, size_set]; omega)) _ _)))⟩
  · rw [if_neg hc, if_neg hc]
    go_enter Try.func23, Try.ntmps23
    go_wp2
    refine wp_region_can (.q [0, 1, 2, 3, 4, 5, 6] (.done)) (clsB _) (by kernel_rfl) (by kernel_rfl) (by intro _ _ d _ _ h; cases d <;> exact h) (clsB_drew _) ?_
    refine can_q (l := [⟨_,_,_,_,_,_⟩, ⟨_,_,_,_,_,_⟩, ⟨_,_,_,_,_,_⟩, ⟨_,_,_,_,_,_⟩, ⟨_,_,_,_,_,_⟩, ⟨_,_,_,_,_,_⟩, ⟨_,_,_,_,_,_⟩]) rfl ?_
    repeat (go_big_quiet_step (fail))
    refine wpQuiet_nil ?_
    refine can_done ?_
    go_wp2_with (go_at_call 21; go_must (refine Calls.mono (failed_calls (s := s) (blk_drew (blk_alloc HH.out _)) ht hr) ?_; rintro e w2 ⟨rfl, h2, f2⟩))
    go_ret
    exact ⟨rfl, h2, (Fr.of_below (by repeat (first | (with_reducible assumption) | (with_reducible exact Below.refl _ _) | (with_reducible apply below_drewL) | (with_reducible apply below_alloc) | (with_reducible apply below_drew1) | (with_reducible apply below_drewN) | (refine below_set ?_ (by first | omega | (simp only [size_alloc, size_drew, size_set]; omega)) _ _)))).trans f2⟩
theorem note_calls (ep a m : Int) (A : Option Addr) (n c : Nat) {p : Nat} {s : PS} {w : World} (h : w.heap[p]? = some (.cells (pkC s) 51 (0, 0))) : Calls Try.prog 16 #[.pointer (some ⟨p, 0, none⟩), nowV ep a m A n c] w fun e w' =>
    e = .returned (.int .i64 0) ∧ w'.heap[p]? = some (.cells (pkC { s with ep := ep, a := a, m := m, le := s.n, ph := 1 }) 51 (0, 0)) ∧ Fr (fun b => b = p) w w' := by
  have hs := h
  unfold pkC fnV at hs
  have hsc0 := blk_cell hs 0 _ rfl; have hsf0 := blk_frozen hs 0; have hsc1 := blk_cell hs 1 _ rfl; have hsf1 := blk_frozen hs 1; have hsc2 := blk_cell hs 2 _ rfl; have hsf2 := blk_frozen hs 2; have hsc3 := blk_cell hs 3 _ rfl; have hsf3 := blk_frozen hs 3; have hsc4 := blk_cell hs 4 _ rfl; have hsf4 := blk_frozen hs 4; have hsc5 := blk_cell hs 5 _ rfl; have hsf5 := blk_frozen hs 5; have hsc6 := blk_cell hs 6 _ rfl; have hsf6 := blk_frozen hs 6; have hsc7 := blk_cell hs 7 _ rfl; have hsf7 := blk_frozen hs 7; have hsc8 := blk_cell hs 8 _ rfl; have hsf8 := blk_frozen hs 8; have hsc9 := blk_cell hs 9 _ rfl; have hsf9 := blk_frozen hs 9; have hsc10 := blk_cell hs 10 _ rfl; have hsf10 := blk_frozen hs 10; have hsc11 := blk_cell hs 11 _ rfl; have hsf11 := blk_frozen hs 11; have hsc12 := blk_cell hs 12 _ rfl; have hsf12 := blk_frozen hs 12; have hsc13 := blk_cell hs 13 _ rfl; have hsf13 := blk_frozen hs 13; have hsc14 := blk_cell hs 14 _ rfl; have hsf14 := blk_frozen hs 14; have hsc15 := blk_cell hs 15 _ rfl; have hsf15 := blk_frozen hs 15; have hsl := blk_lt hs
  unfold nowV
  have HH := Hd.mk h; clear h hs
  have hne : ¬ w.heap.size = p := by omega
  go_enter Try.func16, Try.ntmps16
  go_wp2
  generalize hV : World.alloc _ _ = V
  have HBV : Below w.heap.size w V := below_of hV (by repeat (first | (with_reducible assumption) | (with_reducible exact Below.refl _ _) | (with_reducible apply below_drewL) | (with_reducible apply below_alloc) | (with_reducible apply below_drew1) | (with_reducible apply below_drewN) | (refine below_set ?_ (by first | omega | (simp only [size_alloc, size_drew, size_set]; omega)) _ _)))
  have zV : Hd (V.heap.size = w.heap.size + 1) := ⟨by rw [← hV]; simp only [size_alloc]⟩
  have V0 := at_of hV (blk_new _ _ _ rfl)
  have V0l := blk_lt V0
  clear hV
  have hv := blk_below HH.out HBV
  have HV := Hd.mk hv
  unfold pkC fnV at hv
  clear hsc0 hsf0 hsc1 hsf1 hsc2 hsf2 hsc3 hsf3 hsc4 hsf4 hsc5 hsf5 hsc6 hsf6 hsc7 hsf7 hsc8 hsf8 hsc9 hsf9 hsc10 hsf10 hsc11 hsf11 hsc12 hsf12 hsc13 hsf13 hsc14 hsf14 hsc15 hsf15 hsl
  have hvc0 := blk_cell hv 0 _ rfl; have hvf0 := blk_frozen hv 0; have hvc1 := blk_cell hv 1 _ rfl; have hvf1 := blk_frozen hv 1; have hvc2 := blk_cell hv 2 _ rfl; have hvf2 := blk_frozen hv 2; have hvc3 := blk_cell hv 3 _ rfl; have hvf3 := blk_frozen hv 3; have hvc4 := blk_cell hv 4 _ rfl; have hvf4 := blk_frozen hv 4; have hvc5 := blk_cell hv 5 _ rfl; have hvf5 := blk_frozen hv 5; have hvc6 := blk_cell hv 6 _ rfl; have hvf6 := blk_frozen hv 6; have hvc7 := blk_cell hv 7 _ rfl; have hvf7 := blk_frozen hv 7; have hvc8 := blk_cell hv 8 _ rfl; have hvf8 := blk_frozen hv 8; have hvc9 := blk_cell hv 9 _ rfl; have hvf9 := blk_frozen hv 9; have hvc10 := blk_cell hv 10 _ rfl; have hvf10 := blk_frozen hv 10; have hvc11 := blk_cell hv 11 _ rfl; have hvf11 := blk_frozen hv 11; have hvc12 := blk_cell hv 12 _ rfl; have hvf12 := blk_frozen hv 12; have hvc13 := blk_cell hv 13 _ rfl; have hvf13 := blk_frozen hv 13; have hvc14 := blk_cell hv 14 _ rfl; have hvf14 := blk_frozen hv 14; have hvc15 := blk_cell hv 15 _ rfl; have hvf15 := blk_frozen hv 15; have hvl := blk_lt hv
  have V0c0 := blk_cell V0 0 _ rfl
  have V0f0 := blk_frozen V0 0
  have V0c1 := blk_cell V0 1 _ rfl
  have V0f1 := blk_frozen V0 1
  have V0c2 := blk_cell V0 2 _ rfl
  have V0f2 := blk_frozen V0 2
  have V0c3 := blk_cell V0 3 _ rfl
  have V0f3 := blk_frozen V0 3
  have HBB := Hd.mk HBV
  clear hv V0 HBV HH zV
  refine wp_region_can (.q [0, 1, 2, 3, 4, 5, 6, 7, 8, 9, 10, 11, 12] (.e 13 true (.q [14, 15] (.e 16 false (.q [17, 18] (.e 19 false (.done))))))) (clsO (fun b o => b = p ∧ 5 ≤ o ∧ o ≤ 8) _) (by kernel_rfl) (by kernel_rfl) (by intro _ _ d _ _ h; cases d <;> exact h) (clsO_drew _ _) ?_
  refine can_q (l := [⟨_,_,_,_,_,_⟩, ⟨_,_,_,_,_,_⟩, ⟨_,_,_,_,_,_⟩, ⟨_,_,_,_,_,_⟩, ⟨_,_,_,_,_,_⟩, ⟨_,_,_,_,_,_⟩, ⟨_,_,_,_,_,_⟩, ⟨_,_,_,_,_,_⟩, ⟨_,_,_,_,_,_⟩, ⟨_,_,_,_,_,_⟩, ⟨_,_,_,_,_,_⟩, ⟨_,_,_,_,_,_⟩, ⟨_,_,_,_,_,_⟩]) rfl ?_
  repeat (go_big_quiet_step (fail))
  refine wpQuiet_nil ?_
  refine can_e (o := ⟨_,_,_,_,_,_⟩) rfl (fun K hK => ?_)
  go_wp2_with fail
  refine onK_normal (hK _ _ ⟨clsO _ _, (by first | exact clsO_self _ _ | exact clsO_drew _ _), fun _ => clsO_next (by simp only [size_drew, size_set]; omega) (fun a hb hW => ?_), ?_⟩)
  · exact World.cell?_setCell_other V ⟨p, 5, none⟩ a _ (fun he => hW (by rw [← he]; exact ⟨rfl, Nat.le_refl 5, show 5 ≤ 8 by decide⟩))
  clear hK K
  refine can_q (l := [⟨_,_,_,_,_,_⟩, ⟨_,_,_,_,_,_⟩]) rfl ?_
  repeat (go_big_quiet_step (fail))
  refine wpQuiet_nil ?_
  refine can_e (o := ⟨_,_,_,_,_,_⟩) rfl (fun K hK => ?_)
  go_wp2_with fail
  refine onK_normal (hK _ _ ⟨fun _ => True, trivial, (fun h => by cases h), ?_⟩)
  clear hK K
  refine can_q (l := [⟨_,_,_,_,_,_⟩, ⟨_,_,_,_,_,_⟩]) rfl ?_
  repeat (go_big_quiet_step (fail))
  refine wpQuiet_nil ?_
  refine can_e (o := ⟨_,_,_,_,_,_⟩) rfl (fun K hK => ?_)
  go_wp2_with fail
  refine onK_normal (hK _ _ ⟨fun _ => True, trivial, (fun h => by cases h), ?_⟩)
  clear hK K
  refine can_done ?_
  go_wp2
  go_ret
  refine ⟨rfl, ?_, ?_⟩
  · exact blk_drew (blk_set (blk_set (blk_set (blk_set (blk_set HV.out 5 _ _ rfl) 6 _ _ rfl) 7 _ _ rfl) 8 _ _ rfl) 15 _ _ rfl)
  · exact (Fr.set (Fr.set (Fr.set (Fr.set (Fr.set (Fr.of_below (X := fun b => b = p) HBB.out) (.inl rfl) _ _) (.inl rfl) _ _) (.inl rfl) _ _) (.inl rfl) _ _) (.inl rfl) _ _).drew
theorem behind_calls (t : Tok) (w : World) : Calls Try.prog 22 #[tokV t] w fun e w' => e = .returned (.agg #[.int .i64 t.t, .int .i64 t.m]) ∧ Below w.heap.size w w' := by
  unfold tokV
  go_enter Try.func22, Try.ntmps22
  go_wp2
  refine bodyPost_ret (results_cell_row rfl _ _ (w.heap.size + 1) 28 #[.int .i64 t.t, .int .i64 t.m] (0, 0) _ rfl (blk_new _ _ _ (by rw [size_alloc])) Try.underlying28 rfl (by kernel_rfl)) rfl ?_
  exact ⟨rfl, (by repeat (first | (with_reducible assumption) | (with_reducible exact Below.refl _ _) | (with_reducible apply below_drewL) | (with_reducible apply below_alloc) | (with_reducible apply below_drew1) | (with_reducible apply below_drewN) | (refine below_set ?_ (by first | omega | (simp only [size_alloc, size_drew, size_set]; omega)) _ _)))⟩
end Go.Proofs.Ytfckpppfmjllbaa.Fn
