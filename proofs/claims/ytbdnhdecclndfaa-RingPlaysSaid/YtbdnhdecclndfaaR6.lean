/- The law's own example; what the reference computes. -/
import Derived.Test.YtbdnhdecclndfaaR5
import Derived.Deep.DeepCutAuto
namespace Go.Proofs.Ytbdnhdecclndfaa.Fn
open Go Go.RowKit Go.Proofs.Ytbdnhdecclndfaa.Can Go.Proofs.Ytbdnhdecclndfaa.Base
attribute [local go_sem] clsB AB.cell

set_option maxRecDepth 20000 in
set_option maxHeartbeats 2000000 in
theorem alive_calls (w : World) : Calls Try.prog 5 #[] w fun e w' => e = .returned (.bool true) ∧ Below w.heap.size w w' := by
  go_enter Try.func5, Try.ntmps5
  go_wp2_with (first
    | (go_at_call 13; go_must (refine Calls.mono (end_calls h5) ?_; rintro e w7 ⟨he, rfl⟩; obtain rfl : e = .returned (.int .i64 6) := he))
    | (go_at_call 12; go_must (refine Calls.mono (floor_calls h5) ?_; rintro e w6 ⟨he, rfl⟩; obtain rfl : e = .returned (.int .i64 3) := he))
    | (go_at_call 18; go_must (refine Calls.mono (text_calls 0 9 h4 (by decide)) ?_; rintro e w5 ⟨he, f5⟩; obtain rfl : e = .returned (.string ⟨#[100, 103, 104]⟩) := he; have h5 := h4.below f5))
    | (go_at_call 8; have hq_ := f2; clear hq_; go_must (refine Calls.mono (put_calls ⟨#[103, 104]⟩ h3 (by decide)) ?_; rintro e w4 ⟨he, ⟨rs4, h⟩, f4⟩; obtain rfl : e = .returned (.int .i64 2) := he; have h4 : Rg w4 p r 4 3 [97, 98, 99, 100, 103, 104] rs4 := h; clear h))
    | (go_at_call 10; go_must (refine Calls.mono (raise_calls 3 h2 (by decide)) ?_; rintro e w3 ⟨he, h, f3⟩; obtain rfl : e = .returned (.int .i64 3) := he; have h3 : Rg w3 p r 4 3 [97, 98, 99, 100] rs2 := h; clear h))
    | (go_at_call 8; go_must (refine Calls.mono (put_calls ⟨#[97, 98, 99, 100, 101, 102]⟩ h1 (by decide)) ?_; rintro e w2 ⟨he, ⟨rs2, h⟩, f2⟩; obtain rfl : e = .returned (.int .i64 4) := he; have h2 : Rg w2 p r 4 0 [97, 98, 99, 100] rs2 := h; clear h))
    | (go_at_call 6; go_must (refine Calls.mono (new_calls 4 w) ?_; rintro e w1 ⟨p, r, rs, rfl, hp, hr, h0, hb0⟩; have h1 : Rg w1 p r 4 0 [] rs := h0; clear h0)))
  go_ret
  exact ⟨rfl, Fr.seq hb0 (X := fun b => b = p ∨ b = r) (f2.trans ((f3.mono fun b h => .inl h).trans (f4.trans (Fr.of_below f5)))) hb0.size (fun b hb hx => by omega)⟩

theorem cell_tmp_row {P : Program} {fn : Func} {p u : Tmp} {ty : TypeId} (h : fn.results = #[.cell p ty, .tmp u]) (tmps : Array Value) (w : World) (g : Nat) (t : TypeId) (cs : Array Value) (fr : Nat × Nat) (d : TypeDesc)
    (hp : tmps.getD p undef = .pointer (some ⟨g, 0, none⟩)) (hg : w.heap[g]? = some (.cells cs t fr))
    (hu : P.underlying ty = some d) (hd : (match d with | .struct _ | .array _ _ => true | _ => false) = true) (hi : (P.info? ty).map (·.size) = some cs.size) :
    (results fn tmps).run P w = .ok (.tuple #[.agg cs, tmps.getD u undef]) w := by
  have hp' : tmps[p]?.getD undef = .pointer (some ⟨g, 0, none⟩) := by simpa using hp
  rw [results_cell_tmp h]
  simp [hp', asAddr, run_loadVar_row w g t ty cs fr d hg hu hd hi, Result.andThen]
def Wv (m : Nat) (A : ByteArray) (fl : Nat) : Value := .agg #[.int .i64 m, .string A, .int .i64 fl]
theorem rnew_calls (n : Int) (w : World) : Calls Try.prog 7 #[.int .i64 n] w fun e w' => e = .returned (Wv (roomN n) ByteArray.empty 0) ∧ Below w.heap.size w w' := by
  obtain ⟨m, hm⟩ : ∃ m, roomN n = m := ⟨_, rfl⟩
  have hp := roomN_pos n
  rw [hm] at hp ⊢
  have HM := Hd.mk hm; clear hm
  unfold Wv
  by_cases h1 : n < 1
  · have h2 : m = 1 := by rw [← HM.out]; unfold roomN; rw [if_pos h1]; rfl
    subst h2
    go_enter Try.func7, Try.ntmps7
    go_wp2
    refine bodyPost_ret (results_cell_row rfl _ _ w.heap.size 28 _ (0, 0) _ rfl (blk_new _ _ _ rfl) Try.underlying28 rfl (by kernel_rfl)) rfl ?_
    exact ⟨rfl, (by repeat (first | (with_reducible assumption) | (with_reducible exact Below.refl _ _) | (with_reducible apply below_drewL) | (with_reducible apply below_alloc) | (with_reducible apply below_drew1) | (with_reducible apply below_drewN) | (refine below_set ?_ (by first | omega | (simp only [size_alloc, size_drew, size_set]; omega)) _ _)))⟩
  · by_cases h2 : 65536 < n
    · have h3 : m = 65536 := by rw [← HM.out]; unfold roomN; rw [if_neg h1, if_pos h2]; rfl
      subst h3
      go_enter Try.func7, Try.ntmps7
      go_wp2
      refine bodyPost_ret (results_cell_row rfl _ _ w.heap.size 28 _ (0, 0) _ rfl (blk_new _ _ _ rfl) Try.underlying28 rfl (by kernel_rfl)) rfl ?_
      exact ⟨rfl, (by repeat (first | (with_reducible assumption) | (with_reducible exact Below.refl _ _) | (with_reducible apply below_drewL) | (with_reducible apply below_alloc) | (with_reducible apply below_drew1) | (with_reducible apply below_drewN) | (refine below_set ?_ (by first | omega | (simp only [size_alloc, size_drew, size_set]; omega)) _ _)))⟩
    · have h3 : n = m := by rw [← HM.out]; unfold roomN; rw [if_neg h1, if_neg h2]; omega
      subst h3
      go_enter Try.func7, Try.ntmps7
      go_wp2
      refine bodyPost_ret (results_cell_row rfl _ _ w.heap.size 28 _ (0, 0) _ rfl (blk_new _ _ _ rfl) Try.underlying28 rfl (by kernel_rfl)) rfl ?_
      exact ⟨rfl, (by repeat (first | (with_reducible assumption) | (with_reducible exact Below.refl _ _) | (with_reducible apply below_drewL) | (with_reducible apply below_alloc) | (with_reducible apply below_drew1) | (with_reducible apply below_drewN) | (refine below_set ?_ (by first | omega | (simp only [size_alloc, size_drew, size_set]; omega)) _ _)))⟩
set_option maxHeartbeats 1000000 in
theorem rput_calls (s : ByteArray) {m fl : Nat} {A : ByteArray} (hm : m ≤ 65536) (hE : A.size + s.size ≤ 1000000000) (hf : fl ≤ A.size) (hr : A.size ≤ fl + m) (w : World) : Calls Try.prog 9 #[Wv m A fl, .string s] w fun e w' =>
    e = .returned (.tuple #[Wv m (A ++ s.extract 0 (min s.size (fl + m - A.size))) fl, .int .i64 ((min s.size (fl + m - A.size) : Nat) : Int)]) ∧ Below w.heap.size w w' := by
  unfold Wv
  obtain ⟨lf, hlf⟩ : ∃ lf, fl + m - A.size = lf := ⟨_, rfl⟩
  have hlfI : (fl : Int) + m - A.size = lf := by omega
  rw [hlf]
  by_cases hc : s.size < lf
  · have hcI : (s.size : Int) < lf := by omega
    rw [Nat.min_eq_left (by omega)]
    have hns : s.size ≤ s.size := by omega
    have hsl : (s.extract 0 s.size).size = s.size := by rw [← bl_len, bl_ext]; simp [bl_len] <;> omega
    have hadd : ∀ W, (Op.stringOp .add A (s.extract 0 s.size)).run Try.prog W = .ok (.string (A ++ s.extract 0 s.size)) W := fun W => run_string_add_sum (w := W) A _ (by rw [hsl]; omega)
    go_enter Try.func9, Try.ntmps9
    go_wp2
    refine wp_region_can (.q [0, 1, 2, 3, 4, 5, 6] (.e 7 false (.done))) (clsB _) (by kernel_rfl) (by kernel_rfl) (by intro _ _ d _ _ h; cases d <;> exact h) (clsB_drew _) ?_
    refine can_q (l := [⟨_,_,_,_,_,_⟩, ⟨_,_,_,_,_,_⟩, ⟨_,_,_,_,_,_⟩, ⟨_,_,_,_,_,_⟩, ⟨_,_,_,_,_,_⟩, ⟨_,_,_,_,_,_⟩, ⟨_,_,_,_,_,_⟩]) rfl ?_
    repeat (go_big_quiet_step (fail))
    refine wpQuiet_nil ?_
    refine can_e (o := ⟨_,_,_,_,_,_⟩) rfl (fun K hK => ?_)
    go_wp2_with fail
    refine onK_normal (hK _ _ ⟨fun _ => True, trivial, (fun h => by cases h), ?_⟩)
    clear hK K
    refine can_done ?_
    go_wp2
    refine bodyPost_ret (cell_tmp_row rfl _ _ (w.heap.size + 1) 28 #[.int .i64 m, .string (A ++ s.extract 0 s.size), .int .i64 fl] (0, 0) _ rfl ?_ Try.underlying28 rfl (by kernel_rfl)) rfl ?_
    · try rw [show s.extract 0 s.size = s from ByteArray.extract_zero_size]
      exact blk_drew (blk_new _ _ _ (by rw [size_alloc]))
    · exact ⟨rfl, (by repeat (first | (with_reducible assumption) | (with_reducible exact Below.refl _ _) | (with_reducible apply below_drewL) | (with_reducible apply below_alloc) | (with_reducible apply below_drew1) | (with_reducible apply below_drewN) | (refine below_set ?_ (by first | omega | (simp only [size_alloc, size_drew, size_set]; omega)) _ _)))⟩
  · have hcI : ¬ (s.size : Int) < lf := by omega
    rw [Nat.min_eq_right (by omega)]
    have hns : lf ≤ s.size := by omega
    have hsl : (s.extract 0 lf).size = lf := by rw [← bl_len, bl_ext]; simp [bl_len] <;> omega
    have hadd : ∀ W, (Op.stringOp .add A (s.extract 0 lf)).run Try.prog W = .ok (.string (A ++ s.extract 0 lf)) W := fun W => run_string_add_sum (w := W) A _ (by rw [hsl]; omega)
    go_enter Try.func9, Try.ntmps9
    go_wp2
    refine wp_region_can (.q [0, 1, 2, 3, 4, 5, 6] (.e 7 false (.done))) (clsB _) (by kernel_rfl) (by kernel_rfl) (by intro _ _ d _ _ h; cases d <;> exact h) (clsB_drew _) ?_
    refine can_q (l := [⟨_,_,_,_,_,_⟩, ⟨_,_,_,_,_,_⟩, ⟨_,_,_,_,_,_⟩, ⟨_,_,_,_,_,_⟩, ⟨_,_,_,_,_,_⟩, ⟨_,_,_,_,_,_⟩, ⟨_,_,_,_,_,_⟩]) rfl ?_
    repeat (go_big_quiet_step (fail))
    refine wpQuiet_nil ?_
    refine can_e (o := ⟨_,_,_,_,_,_⟩) rfl (fun K hK => ?_)
    go_wp2_with fail
    refine onK_normal (hK _ _ ⟨fun _ => True, trivial, (fun h => by cases h), ?_⟩)
    clear hK K
    refine can_done ?_
    go_wp2
    refine bodyPost_ret (cell_tmp_row rfl _ _ (w.heap.size + 1) 28 #[.int .i64 m, .string (A ++ s.extract 0 lf), .int .i64 fl] (0, 0) _ rfl ?_ Try.underlying28 rfl (by kernel_rfl)) rfl ?_
    · try rw [show s.extract 0 s.size = s from ByteArray.extract_zero_size]
      exact blk_drew (blk_new _ _ _ (by rw [size_alloc]))
    · exact ⟨rfl, (by repeat (first | (with_reducible assumption) | (with_reducible exact Below.refl _ _) | (with_reducible apply below_drewL) | (with_reducible apply below_alloc) | (with_reducible apply below_drew1) | (with_reducible apply below_drewN) | (refine below_set ?_ (by first | omega | (simp only [size_alloc, size_drew, size_set]; omega)) _ _)))⟩
theorem rraise_calls (f : Int) {m fl : Nat} {A : ByteArray} (hE : A.size ≤ 1000000000) (hf : fl ≤ A.size) (w : World) : Calls Try.prog 11 #[Wv m A fl, .int .i64 f] w fun e w' =>
    e = .returned (.tuple #[Wv m A (newFl f fl A.size), .int .i64 ((newFl f fl A.size - fl : Nat) : Int)]) ∧ Below w.heap.size w w' := by
  unfold Wv
  by_cases c1 : f < fl
  · have c2 : (fl : Int) ≤ A.size := by omega
    have HQ : Hd (newFl f fl A.size = fl) := ⟨by unfold newFl; first | rw [if_pos (by omega)] | (rw [if_neg (by omega)]; first | rw [if_pos (by omega)] | (rw [if_neg (by omega)]; omega))⟩
    rw [HQ.out]
    have hq := newFl_ge f (fl := fl) (e := A.size) hf
    rw [HQ.out] at hq
    go_enter Try.func11, Try.ntmps11
    go_wp2
    refine bodyPost_ret (cell_tmp_row rfl _ _ (w.heap.size + 1) 28 #[.int .i64 m, .string A, .int .i64 (fl : Nat)] (0, 0) _ rfl (blk_new _ _ _ (by rw [size_alloc])) Try.underlying28 rfl (by kernel_rfl)) rfl ?_
    exact ⟨by (have h9 := hq.1; first | rfl | (refine congrArg (fun z => Ending.returned (.tuple #[_, .int .i64 z])) ?_; omega)), (by repeat (first | (with_reducible assumption) | (with_reducible exact Below.refl _ _) | (with_reducible apply below_drewL) | (with_reducible apply below_alloc) | (with_reducible apply below_drew1) | (with_reducible apply below_drewN) | (refine below_set ?_ (by first | omega | (simp only [size_alloc, size_drew, size_set]; omega)) _ _)))⟩
  · by_cases c2 : (A.size : Int) < f
    · have c3 := c2
      have HQ : Hd (newFl f fl A.size = A.size) := ⟨by unfold newFl; first | rw [if_pos (by omega)] | (rw [if_neg (by omega)]; first | rw [if_pos (by omega)] | (rw [if_neg (by omega)]; omega))⟩
      rw [HQ.out]
      have hq := newFl_ge f (fl := fl) (e := A.size) hf
      rw [HQ.out] at hq
      go_enter Try.func11, Try.ntmps11
      go_wp2
      refine bodyPost_ret (cell_tmp_row rfl _ _ (w.heap.size + 1) 28 #[.int .i64 m, .string A, .int .i64 (A.size : Nat)] (0, 0) _ rfl (blk_new _ _ _ (by rw [size_alloc])) Try.underlying28 rfl (by kernel_rfl)) rfl ?_
      exact ⟨by (have h9 := hq.1; first | rfl | (refine congrArg (fun z => Ending.returned (.tuple #[_, .int .i64 z])) ?_; omega)), (by repeat (first | (with_reducible assumption) | (with_reducible exact Below.refl _ _) | (with_reducible apply below_drewL) | (with_reducible apply below_alloc) | (with_reducible apply below_drew1) | (with_reducible apply below_drewN) | (refine below_set ?_ (by first | omega | (simp only [size_alloc, size_drew, size_set]; omega)) _ _)))⟩
    · obtain ⟨n, rfl⟩ : ∃ n : Nat, f = n := ⟨f.toNat, by omega⟩
      have c3 : (fl : Int) ≤ n := by omega
      have c4 : (n : Int) ≤ A.size := by omega
      have HQ : Hd (newFl (n : Int) fl A.size = n) := ⟨by unfold newFl; first | rw [if_pos (by omega)] | (rw [if_neg (by omega)]; first | rw [if_pos (by omega)] | (rw [if_neg (by omega)]; omega))⟩
      rw [HQ.out]
      have hq := newFl_ge (n : Int) (fl := fl) (e := A.size) hf
      rw [HQ.out] at hq
      go_enter Try.func11, Try.ntmps11
      go_wp2
      refine bodyPost_ret (cell_tmp_row rfl _ _ (w.heap.size + 1) 28 #[.int .i64 m, .string A, .int .i64 (n : Nat)] (0, 0) _ rfl (blk_new _ _ _ (by rw [size_alloc])) Try.underlying28 rfl (by kernel_rfl)) rfl ?_
      exact ⟨by (have h9 := hq.1; first | rfl | (refine congrArg (fun z => Ending.returned (.tuple #[_, .int .i64 z])) ?_; omega)), (by repeat (first | (with_reducible assumption) | (with_reducible exact Below.refl _ _) | (with_reducible apply below_drewL) | (with_reducible apply below_alloc) | (with_reducible apply below_drew1) | (with_reducible apply below_drewN) | (refine below_set ?_ (by first | omega | (simp only [size_alloc, size_drew, size_set]; omega)) _ _)))⟩
theorem rtext_calls (f t : Int) {m fl : Nat} {A : ByteArray} (hE : A.size ≤ 1000000000) (hf : fl ≤ A.size) (w : World) : Calls Try.prog 17 #[Wv m A fl, .int .i64 f, .int .i64 t] w fun e w' =>
    e = .returned (.string ⟨(textL (bl A) fl f t).toArray⟩) ∧ Below w.heap.size w w' := by
  have hx : ∀ lo hi : Nat, A.extract lo hi = ⟨(((bl A).take hi).drop lo).toArray⟩ := fun lo hi => by
    apply ByteArray.ext
    rw [ByteArray.data_extract]
    apply Array.toList_inj.1
    simp [bl, List.extract_eq_take_drop, List.drop_take]
  unfold Wv textL
  rw [bl_len]
  obtain ⟨lo, hlo⟩ : ∃ lo, loN f fl = lo := ⟨_, rfl⟩
  obtain ⟨hi, hhi⟩ : ∃ hi, hiN t A.size = hi := ⟨_, rfl⟩
  rw [hlo, hhi, ← hx]
  have hemp : hi ≤ lo → A.extract lo hi = ByteArray.empty := fun h => by
    rw [hx, List.drop_eq_nil_of_le (by rw [List.length_take]; omega)]; rfl
  clear hx
  unfold loN at hlo
  unfold hiN at hhi
  by_cases c1 : f < fl
  · rw [if_pos c1] at hlo
    obtain rfl : fl = lo := by omega
    by_cases c2 : (A.size : Int) < t
    · rw [if_pos c2] at hhi
      obtain rfl : A.size = hi := by omega
      by_cases c3 : A.size ≤ fl
      · have c4 : (A.size : Int) ≤ fl := by omega
        have h0 : A.extract fl A.size = ByteArray.empty := hemp (by omega)
        rw [h0]
        clear h0
        go_enter Try.func17, Try.ntmps17
        go_wp2
        go_ret
        exact ⟨rfl, (by repeat (first | (with_reducible assumption) | (with_reducible exact Below.refl _ _) | (with_reducible apply below_drewL) | (with_reducible apply below_alloc) | (with_reducible apply below_drew1) | (with_reducible apply below_drewN) | (refine below_set ?_ (by first | omega | (simp only [size_alloc, size_drew, size_set]; omega)) _ _)))⟩
      · have c4 : ¬ (A.size : Int) ≤ fl := by omega
        clear hemp
        go_enter Try.func17, Try.ntmps17
        go_wp2
        go_ret
        exact ⟨rfl, (by repeat (first | (with_reducible assumption) | (with_reducible exact Below.refl _ _) | (with_reducible apply below_drewL) | (with_reducible apply below_alloc) | (with_reducible apply below_drew1) | (with_reducible apply below_drewN) | (refine below_set ?_ (by first | omega | (simp only [size_alloc, size_drew, size_set]; omega)) _ _)))⟩
    · rw [if_neg c2] at hhi
      by_cases c3 : t ≤ fl
      · have c4 := c3
        have h0 : A.extract fl hi = ByteArray.empty := hemp (by omega)
        rw [h0]
        clear h0
        go_enter Try.func17, Try.ntmps17
        go_wp2
        go_ret
        exact ⟨rfl, (by repeat (first | (with_reducible assumption) | (with_reducible exact Below.refl _ _) | (with_reducible apply below_drewL) | (with_reducible apply below_alloc) | (with_reducible apply below_drew1) | (with_reducible apply below_drewN) | (refine below_set ?_ (by first | omega | (simp only [size_alloc, size_drew, size_set]; omega)) _ _)))⟩
      · obtain rfl : t = hi := by omega
        have c4 : (hi : Int) ≤ A.size := by omega
        clear hemp
        go_enter Try.func17, Try.ntmps17
        go_wp2
        go_ret
        exact ⟨rfl, (by repeat (first | (with_reducible assumption) | (with_reducible exact Below.refl _ _) | (with_reducible apply below_drewL) | (with_reducible apply below_alloc) | (with_reducible apply below_drew1) | (with_reducible apply below_drewN) | (refine below_set ?_ (by first | omega | (simp only [size_alloc, size_drew, size_set]; omega)) _ _)))⟩
  · rw [if_neg c1] at hlo
    obtain rfl : f = lo := by omega
    by_cases c2 : (A.size : Int) < t
    · rw [if_pos c2] at hhi
      obtain rfl : A.size = hi := by omega
      by_cases c3 : A.size ≤ lo
      · have c4 : (A.size : Int) ≤ lo := by omega
        have h0 : A.extract lo A.size = ByteArray.empty := hemp (by omega)
        rw [h0]
        clear h0
        go_enter Try.func17, Try.ntmps17
        go_wp2
        go_ret
        exact ⟨rfl, (by repeat (first | (with_reducible assumption) | (with_reducible exact Below.refl _ _) | (with_reducible apply below_drewL) | (with_reducible apply below_alloc) | (with_reducible apply below_drew1) | (with_reducible apply below_drewN) | (refine below_set ?_ (by first | omega | (simp only [size_alloc, size_drew, size_set]; omega)) _ _)))⟩
      · have c4 : ¬ (A.size : Int) ≤ lo := by omega
        clear hemp
        go_enter Try.func17, Try.ntmps17
        go_wp2
        go_ret
        exact ⟨rfl, (by repeat (first | (with_reducible assumption) | (with_reducible exact Below.refl _ _) | (with_reducible apply below_drewL) | (with_reducible apply below_alloc) | (with_reducible apply below_drew1) | (with_reducible apply below_drewN) | (refine below_set ?_ (by first | omega | (simp only [size_alloc, size_drew, size_set]; omega)) _ _)))⟩
    · rw [if_neg c2] at hhi
      by_cases c3 : t ≤ lo
      · have c4 := c3
        have h0 : A.extract lo hi = ByteArray.empty := hemp (by omega)
        rw [h0]
        clear h0
        go_enter Try.func17, Try.ntmps17
        go_wp2
        go_ret
        exact ⟨rfl, (by repeat (first | (with_reducible assumption) | (with_reducible exact Below.refl _ _) | (with_reducible apply below_drewL) | (with_reducible apply below_alloc) | (with_reducible apply below_drew1) | (with_reducible apply below_drewN) | (refine below_set ?_ (by first | omega | (simp only [size_alloc, size_drew, size_set]; omega)) _ _)))⟩
      · obtain rfl : t = hi := by omega
        have c4 : (hi : Int) ≤ A.size := by omega
        clear hemp
        go_enter Try.func17, Try.ntmps17
        go_wp2
        go_ret
        exact ⟨rfl, (by repeat (first | (with_reducible assumption) | (with_reducible exact Below.refl _ _) | (with_reducible apply below_drewL) | (with_reducible apply below_alloc) | (with_reducible apply below_drew1) | (with_reducible apply below_drewN) | (refine below_set ?_ (by first | omega | (simp only [size_alloc, size_drew, size_set]; omega)) _ _)))⟩
end Go.Proofs.Ytbdnhdecclndfaa.Fn
