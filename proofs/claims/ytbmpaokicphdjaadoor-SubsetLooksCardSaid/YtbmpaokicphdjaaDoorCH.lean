/- Texts: C22, C23, C24, C25. -/
import Derived.Test.YtbmpaokicphdjaaDoorCG
set_option linter.unusedVariables false
set_option linter.unusedSimpArgs false
/- The automaton of ab. -/
namespace Go.Proofs.YtbmpaokicphdjaaDoor.Fn
open Go Go.RowKit Go.Proofs.YtbmpaokicphdjaaDoor.Can Go.Proofs.YtbmpaokicphdjaaDoor.Base
attribute [local go_sem] clsB AB.cell

def twoQ : List St := [⟨-1, -1, -1, [], 7⟩, ⟨98, 98, 0, [], -1⟩, ⟨97, 97, 1, [], -1⟩]
def stC (x : St) : List Value := [.int .i64 x.lo, .int .i64 x.hi, .int .i64 x.dst, .slice none 0 0, .int .i64 x.tag]
theorem stC_rel {w : World} {S : Nat → Prop} {x : St} (he : x.eps = []) : stT.rel w S x (stC x) := by
  obtain ⟨lo, hi, dst, eps, tag⟩ := x
  dsimp only at he
  subst he
  exact ⟨[.int .i64 lo], _, rfl, rfl, [.int .i64 hi], _, rfl, rfl, [.int .i64 dst], _, rfl, rfl, [.slice none 0 0], [.int .i64 tag], rfl, ⟨none, 0, rfl, Nat.le_refl _, fun _ => rfl, Row.nil _ _ _ _⟩, rfl⟩
def twoC : List Value := [.int .i64 (-1), .int .i64 (-1), .int .i64 (-1), .slice none 0 0, .int .i64 7, .int .i64 98, .int .i64 98, .int .i64 0, .slice none 0 0, .int .i64 (-1), .int .i64 97, .int .i64 97, .int .i64 1, .slice none 0 0, .int .i64 (-1)]
def TwoAt (w : World) (b : Nat) : Prop := w.heap[b]? = some (.cells twoC.toArray 71 (0, 0))
theorem two_row {w : World} {b : Nat} (h : TwoAt w b) : NF w (fun k => k = b) (some ⟨b, 0, none⟩) twoQ := by
  refine ⟨?_, fun k hk => hk ▸ blk_lt h⟩
  have hc : Cells stT w (fun k => k = b) twoQ twoC := ((Cells.nil.snoc (stC_rel (x := ⟨-1, -1, -1, [], 7⟩) rfl)).snoc (stC_rel (x := ⟨98, 98, 0, [], -1⟩) rfl)).snoc (stC_rel (x := ⟨97, 97, 1, [], -1⟩) rfl)
  refine hc.row rfl (by decide) fun j u hu => ?_
  rw [Nat.zero_add]
  exact blk_cell h j u (by rw [List.getElem?_toArray]; exact hu)
set_option maxHeartbeats 1000000 in
theorem two_calls (w : World) : Calls Tryd.prog 49 #[] w fun e w' => ∃ b, e = .returned (.agg #[.int .i64 2, .slice (some ⟨b, 0, none⟩) 3 3]) ∧ w.heap.size ≤ b ∧ TwoAt w' b ∧ Below w.heap.size w w' := by
  go_enter Tryd.func49, Tryd.ntmps49
  go_wp2
  refine bodyPost_ret (results_cell_row rfl _ _ w.heap.size 58 #[.int .i64 2, .slice (some ⟨w.heap.size + 1, 0, none⟩) 3 3] (0, 0) _ rfl (blk_alloc (blk_new _ _ _ rfl) _) Tryd.underlying58 rfl (by kernel_rfl)) rfl ?_
  refine ⟨w.heap.size + 1, rfl, Nat.le_succ _, ?_, below_alloc (below_alloc (Below.refl _ _) _) _⟩
  exact blk_new _ _ _ (by rw [size_alloc])
theorem two_ok : checkV 2 twoQ = 0 := by decide
theorem two_okN : okN 2 twoQ := (checkV_ok two_ok).1
theorem two_eps (i k : Nat) : ¬ epsE twoQ i k := by
  rintro ⟨x, hx, hk⟩
  have hm := List.mem_of_getElem? hx
  have he : x.eps = [] := by
    unfold twoQ at hm
    simp only [List.mem_cons, List.not_mem_nil, or_false] at hm
    rcases hm with rfl | rfl | rfl <;> rfl
  rw [he] at hk
  cases hk
theorem two_id {m : List Bool} (h : m.length = 3) : closeM epsE twoQ m = m :=
  (closeM_eq (epsE_stays two_okN) (by rw [h]; exact Nat.le_refl _) h (fun _ h => h) (fun i k _ he => absurd he (two_eps i k)) (fun _ h => .base h)).symm
theorem two_start : startM 2 twoQ = [false, false, true] := by
  unfold startM
  have h := start_marks 3 2 (by decide)
  show closeM epsE twoQ (marksP 3 fun k => (k : Int) = ((2 : Nat) : Int)) = _
  rw [← h, two_id (by decide)]
  decide
theorem two_step (c : Nat) (m : List Bool) (h : m.length = 3) : stepM twoQ c m = rstepK twoQ c m 3 := by
  rw [← rstep_marks two_okN c m h]
  exact two_id ((rstepK_ok two_okN c m 3).1)
theorem two_any (m : List Bool) (h : m.length = 3) : closeM anyE twoQ m = goK twoQ 3 (goK twoQ 3 (goK twoQ 3 m)) := by
  have hr : ∀ {a : List Bool}, a.length = 3 → aRound twoQ a = goK twoQ 3 a ∧ (goK twoQ 3 a).length = 3 := fun {a} ha => by
    have h1 := (goK_ok two_okN (m := a) ha 3).1
    exact ⟨two_id h1, h1⟩
  rw [← aRounds_done two_okN h]
  show closeM epsE twoQ (aRound twoQ (aRound twoQ (aRound twoQ m))) = _
  obtain ⟨e1, l1⟩ := hr h
  obtain ⟨e2, l2⟩ := hr l1
  obtain ⟨e3, l3⟩ := hr l2
  rw [e1, e2, e3, two_id l3]
theorem two_1 : stepM twoQ 97 [false, false, true] = [false, true, false] := by rw [two_step _ _ rfl]; decide
theorem two_2 : stepM twoQ 98 [false, true, false] = [true, false, false] := by rw [two_step _ _ rfl]; decide
theorem two_3 : stepM twoQ 98 [true, false, false] = [false, false, false] := by rw [two_step _ _ rfl]; decide
theorem two_run : runM 2 twoQ [97, 98] = [true, false, false] := by
  show stepM twoQ 98 (stepM twoQ 97 (startM 2 twoQ)) = _
  rw [two_start, two_1, two_2]
theorem two_best : bestM twoQ [true, false, false] = 7 := by decide
theorem two_alive1 : aliveM twoQ [false, true, false] = true := by unfold aliveM; rw [two_any _ rfl]; decide
theorem two_alive3 : aliveM twoQ [false, false, false] = false := by unfold aliveM; rw [two_any _ rfl]; decide
end Go.Proofs.YtbmpaokicphdjaaDoor.Fn

/- The law's example: the calls. -/
namespace Go.Proofs.YtbmpaokicphdjaaDoor.Fn
open Go Go.RowKit Go.Proofs.YtbmpaokicphdjaaDoor.Can Go.Proofs.YtbmpaokicphdjaaDoor.Base

theorem TwoAt.below {w w' : World} {b : Nat} (h : TwoAt w b) (hb : Below w.heap.size w w') : TwoAt w' b := blk_below h hb
structure TS (w : World) (base g : Nat) (m : List Bool) : Prop where
  out : ∃ ws, SetA w base g 3 ws ∧ marksW 3 ws = m
theorem TS.below {w w' : World} {base g : Nat} {m : List Bool} (h : TS w base g m) (hb : Below w.heap.size w w') : TS w' base g m := by
  obtain ⟨ws, h1, h2⟩ := h.out
  exact ⟨ws, h1.below hb, h2⟩
theorem TS.mono {w : World} {base base' g : Nat} {m : List Bool} (h : TS w base g m) (hb : base' ≤ base) : TS w base' g m := by
  obtain ⟨ws, h1, h2⟩ := h.out
  exact ⟨ws, h1.mono hb, h2⟩
theorem TS.move {w w' : World} {base g : Nat} {m : List Bool} (h : TS w base g m) (hs : w.heap.size ≤ w'.heap.size) (hm : w'.heap[g]? = w.heap[g]?) : TS w' base g m := by
  obtain ⟨ws, h1, h2⟩ := h.out
  exact ⟨ws, h1.move hs hm, h2⟩
theorem TS.lo {w : World} {base g : Nat} {m : List Bool} (h : TS w base g m) : base ≤ g ∧ g < w.heap.size := by
  obtain ⟨ws, h1, _⟩ := h.out
  exact ⟨h1.lo, h1.hi⟩
def twoV (b : Nat) : Value := .agg #[.int .i64 2, .slice (some ⟨b, 0, none⟩) 3 3]
def set3 (g : Nat) : Value := .agg #[.slice (some ⟨g, 0, none⟩) 1 1, .int .i64 3]
theorem two_Start (b : Nat) (w : World) (h : TwoAt w b) : Calls Tryd.prog 44 #[twoV b] w fun e w' => ∃ g, e = .returned (.tuple #[set3 g, .int .i64 0]) ∧ TS w' w.heap.size g [false, false, true] ∧ Below w.heap.size w w' := by
  have h9 := start_ok 2 (some ⟨b, 0, none⟩) 3 twoQ _ w (two_row h) two_ok
  rw [two_start] at h9
  refine Calls.mono h9 ?_
  rintro e w' ⟨g, ws, rfl, h1, h2, h3⟩
  exact ⟨g, rfl, ⟨ws, h1, h2⟩, h3⟩
theorem two_Step (b g : Nat) (c : Nat) (hc : c < 256) (m m' : List Bool) (base : Nat) (w : World) (h : TwoAt w b) (hs : TS w base g m) (hm : stepM twoQ c m = m') (hT : TabAt 0 Lib.deBruijn64tab w) (h0 : 0 < w.heap.size) : Calls Tryd.prog 45 #[twoV b, set3 g, .int .u8 c] w fun e w' => ∃ g', e = .returned (.tuple #[set3 g', .int .i64 0]) ∧ TS w' w.heap.size g' m' ∧ Below w.heap.size w w' := by
  obtain ⟨ws, h1, rfl⟩ := hs.out
  have h9 := step_ok 2 (some ⟨b, 0, none⟩) 3 twoQ _ g 3 1 c hc ws w (two_row h) two_ok h1.ok h1.wd h1.hi hT h0
  have hl : ws.length = 1 := h1.ok.len
  rw [hl] at h9
  have e3 : stepM twoQ c (marksW twoQ.length ws) = m' := hm
  rw [e3] at h9
  refine Calls.mono h9 ?_
  rintro e w' ⟨g, ws, rfl, h1, h2, h3⟩
  exact ⟨g, rfl, ⟨ws, h1, h2⟩, h3⟩
theorem two_Best (b g : Nat) (m : List Bool) (base : Nat) (w : World) (h : TwoAt w b) (hs : TS w base g m) (hT : TabAt 0 Lib.deBruijn64tab w) (h0 : 0 < w.heap.size) : Calls Tryd.prog 47 #[twoV b, set3 g] w fun e w' => e = .returned (.int .i64 (bestM twoQ m)) ∧ Below w.heap.size w w' := by
  obtain ⟨ws, h1, rfl⟩ := hs.out
  have h9 := best_ok 2 (some ⟨b, 0, none⟩) 3 twoQ _ g 3 1 ws w (two_row h) two_ok h1.ok h1.wd h1.hi hT h0
  have hl : ws.length = 1 := h1.ok.len
  rw [hl] at h9
  exact h9
theorem two_Alive (b g : Nat) (m : List Bool) (base : Nat) (w : World) (h : TwoAt w b) (hs : TS w base g m) (hT : TabAt 0 Lib.deBruijn64tab w) (h0 : 0 < w.heap.size) : Calls Tryd.prog 48 #[twoV b, set3 g] w fun e w' => e = .returned (.bool (aliveM twoQ m)) ∧ Below w.heap.size w w' := by
  obtain ⟨ws, h1, rfl⟩ := hs.out
  have h9 := alive_ok 2 (some ⟨b, 0, none⟩) 3 3 twoQ _ g 3 1 ws w rfl (two_row h) two_ok h1.ok h1.wd h1.hi hT h0
  have hl : ws.length = 1 := h1.ok.len
  rw [hl] at h9
  exact h9
theorem two_Run (b : Nat) (t : ByteArray) (ht : t.size ≤ 1000) (w : World) (h : TwoAt w b) (hT : TabAt 0 Lib.deBruijn64tab w) (h0 : 0 < w.heap.size) : Calls Tryd.prog 42 #[twoV b, .string t] w fun e w' => e = .returned (.tuple #[.int .i64 (bestM twoQ (runM 2 twoQ (bl t))), .int .i64 0]) ∧ Below w.heap.size w w' :=
  run_ok 2 (some ⟨b, 0, none⟩) 3 3 twoQ _ t w rfl (two_row h) two_ok ht hT h0
end Go.Proofs.YtbmpaokicphdjaaDoor.Fn

/- The law's example. -/
namespace Go.Proofs.YtbmpaokicphdjaaDoor.Fn
open Go Go.RowKit Go.Proofs.YtbmpaokicphdjaaDoor.Can Go.Proofs.YtbmpaokicphdjaaDoor.Base
attribute [local go_sem] clsB AB.cell

abbrev zSet : Obj := .cells #[.slice none 0 0, .int .i64 0] 28 (0, 0)
abbrev oSet (g : Nat) : Obj := .cells #[.slice (some ⟨g, 0, none⟩) 1 1, .int .i64 3] 28 (0, 0)
theorem box_done {V X : World} {b3 g : Nat} {m : List Bool} (hbox : X.heap[b3]? = some zSet) (hs : TS X 0 g m) (hne : g ≠ b3) (hb : Below V.heap.size V X) (hV : V.heap.size ≤ b3) :
    Hd (((X.setCell ⟨b3, 0, none⟩ (.slice (some ⟨g, 0, none⟩) 1 1)).setCell ⟨b3, 1, none⟩ (.int .i64 3)).heap[b3]? = some (oSet g)) ∧ Hd (TS ((X.setCell ⟨b3, 0, none⟩ (.slice (some ⟨g, 0, none⟩) 1 1)).setCell ⟨b3, 1, none⟩ (.int .i64 3)) 0 g m) ∧ Hd (Below V.heap.size V ((X.setCell ⟨b3, 0, none⟩ (.slice (some ⟨g, 0, none⟩) 1 1)).setCell ⟨b3, 1, none⟩ (.int .i64 3))) :=
  ⟨⟨blk_set (blk_set hbox 0 _ _ rfl) 1 _ _ rfl⟩, ⟨hs.move (by rw [size_set, size_set]; exact Nat.le_refl _) ((Below.heap_setCell _ _ _ _ (by show ¬ g = b3; exact hne)).trans (Below.heap_setCell _ _ _ _ (by show ¬ g = b3; exact hne)))⟩, ⟨below_set (below_set hb hV _ _) hV _ _⟩⟩
theorem two_e9 : bestM twoQ (runM 2 twoQ (bl ⟨#[97, 98]⟩)) = 7 := by
  show bestM twoQ (runM 2 twoQ [97, 98]) = 7
  rw [two_run, two_best]
set_option maxRecDepth 20000 in
set_option maxHeartbeats 4000000 in
theorem closeL_calls (w : World) (hT : TabAt 0 Lib.deBruijn64tab w) (h0 : 0 < w.heap.size) : Calls Tryd.prog 41 #[] w fun e w' => e = .returned (.bool true) ∧ Below w.heap.size w w' := by
  have HTB : Hd (∀ {W : World}, Below w.heap.size w W → TabAt 0 Lib.deBruijn64tab W) := ⟨fun hb j hj => (hb.cell (p := ⟨0, j, none⟩) h0).trans (hT j hj)⟩
  have H0 : Hd (∀ {W : World}, Below w.heap.size w W → 0 < W.heap.size) := ⟨fun hb => Nat.lt_of_lt_of_le h0 hb.size⟩
  clear hT h0
  go_enter Tryd.func41, Tryd.ntmps41
  go_upto_region 2 with (first
    | (go_at_call 44; go_must (have h9 := two_Start b1 w1 HTw1.out; unfold twoV set3 at h9; refine Calls.mono h9 ?_; clear h9; rintro e w2 ⟨g1, rfl, hs_, hb_⟩; have HS2 := Hd.mk hs_; have HB2 := Hd.mk (below_seq HBw1.out hb_); clear hs_ hb_))
    | (go_at_call 49; go_must (refine Calls.mono (two_calls _) ?_; rintro e w1 ⟨b1, rfl, hb_, ht_, hw_⟩; (try rw [size_drew] at hb_); have HTw1 := Hd.mk ht_; have HLw1 := Hd.mk hb_; have HBw1 := Hd.mk hw_; clear hb_ ht_ hw_)))
  have HBX : Hd ((w2.alloc (.cells #[.slice (some ⟨g1, 0, none⟩) 1 1, .int .i64 3] 28)).heap[w2.heap.size]? = some (oSet g1)) := ⟨blk_new _ _ _ rfl⟩
  have HSX := Hd.mk ((HS2.out.mono (Nat.zero_le _)).below (below_alloc (Below.refl _ _) (.cells #[.slice (some ⟨g1, 0, none⟩) 1 1, .int .i64 3] 28)))
  have HBV := Hd.mk (below_seq HB2.out (below_alloc (Below.refl _ _) (.cells #[.slice (some ⟨g1, 0, none⟩) 1 1, .int .i64 3] 28)))
  generalize World.alloc w2 _ = V at *
  generalize w2.heap.size = p1 at *
  clear HS2 HB2 HBw1 HTw1 HLw1
  have hbx := HBX.out
  have hbxc0 := blk_cell hbx 0 _ rfl; have hbxf0 := blk_frozen hbx 0; have hbxc1 := blk_cell hbx 1 _ rfl; have hbxf1 := blk_frozen hbx 1; have hbxl := blk_lt hbx
  go_cut [3, 4] (fun v3 v4 wx => ∃ (p' g' : Nat), v3 = .pointer (some ⟨p', 0, none⟩) ∧ v4 = .int .i64 0 ∧ Hd (wx.heap[p']? = some (oSet g')) ∧ Hd (TS wx 0 g' [false, true, false]) ∧ Hd (Below V.heap.size V wx))
  case first =>
    refine wp_region_can (.q [1] (.b 0 true (.b 2 false (.q [3, 4, 5] (.e 6 true (.e 7 false (.q [8] (.done))))) 6 true (.e 2 false (.q [3, 4, 5] (.e 7 false (.q [8] (.done)))))) 6 true (.e 0 true (.e 2 false (.q [3, 4, 5] (.e 7 false (.q [8] (.done)))))))) (clsB _) (by kernel_rfl) (by kernel_rfl) (by intro _ _ d _ _ h; cases d <;> exact h) (clsB_drew _) ?_
    refine can_q (l := [⟨_,_,_,_,_,_⟩]) rfl ?_
    repeat (go_big_quiet_step (fail))
    refine wpQuiet_nil ?_
    have hzV := HBV.out.size
    refine can_b (o := ⟨_,_,_,_,_,_⟩) (oj := ⟨_,_,_,_,_,_⟩) rfl rfl (fun K hK => ?_) (fun K hK => ?_)
    · go_wp2_with (go_at_call 49; go_must (refine Calls.mono (two_calls _) ?_; rintro e wa ⟨ba, rfl, hb_, ht_, hw_⟩; (try rw [size_drew] at hb_); have HTwa := Hd.mk ht_; have HLwa := Hd.mk hb_; have HBwa := Hd.mk hw_; clear hb_ ht_ hw_))
      have HVA := Hd.mk (below_undrew HBwa.out)
      refine onK_normal (hK _ _ ⟨clsB _, clsB_of (by first | exact (HVA.out) | exact below_undrew (HVA.out)), fun _ _ h => h, ?_⟩)
      clear hK K
      refine can_b (o := ⟨_,_,_,_,_,_⟩) (oj := ⟨_,_,_,_,_,_⟩) rfl rfl (fun K hK => ?_) (fun K hK => ?_)
      · go_wp2_with (go_at_call 45; go_must (have h9 := two_Step ba g1 97 (by decide) [false, false, true] [false, true, false] 0 (wa) HTwa.out (HSX.out.below HVA.out) two_1 (HTB.out (below_seq HBV.out HVA.out)) (H0.out (below_seq HBV.out HVA.out)); unfold twoV set3 at h9; refine Calls.mono h9 ?_; clear h9; rintro e wb ⟨gb, rfl, hs_, hb_⟩; have HSwb := Hd.mk hs_; have HBwb := Hd.mk hb_; clear hs_ hb_))
        have HVB := Hd.mk (below_seq HVA.out HBwb.out)
        refine onK_normal (hK _ _ ⟨clsB _, clsB_of (by first | exact (HVB.out) | exact below_undrew (HVB.out)), fun _ _ h => h, ?_⟩)
        clear hK K
        refine can_q (l := [⟨_,_,_,_,_,_⟩, ⟨_,_,_,_,_,_⟩, ⟨_,_,_,_,_,_⟩]) rfl ?_
        repeat (go_big_quiet_step (fail))
        refine wpQuiet_nil ?_
        refine can_e (o := ⟨_,_,_,_,_,_⟩) rfl (fun K hK => ?_)
        go_wp2_with fail
        refine onK_normal (hK _ _ ⟨clsB _, clsB_of (by first | exact ((below_alloc HVB.out _)) | exact below_undrew ((below_alloc HVB.out _))), fun _ _ h => h, ?_⟩)
        clear hK K
        refine can_e (o := ⟨_,_,_,_,_,_⟩) rfl (fun K hK => ?_)
        go_wp2_with fail
        refine onK_normal (hK _ _ ⟨fun _ => True, trivial, (fun h => by cases h), ?_⟩)
        clear hK K
        refine can_q (l := [⟨_,_,_,_,_,_⟩]) rfl ?_
        repeat (go_big_quiet_step (fail))
        refine wpQuiet_nil ?_
        refine can_done ?_
        go_wp2
        go_meet
        case rel => exact ⟨_, _, rfl, rfl, ⟨blk_new _ _ _ rfl⟩, ⟨(HSwb.out.mono (Nat.zero_le _)).below (below_alloc (Below.refl _ _) _)⟩, ⟨below_alloc HVB.out _⟩⟩
      · go_wp2_with fail
        refine onK_normal (hK _ _ ⟨clsB _, clsB_of (by first | exact ((below_alloc HVA.out _)) | exact below_undrew ((below_alloc HVA.out _))), fun _ _ h => h, ?_⟩)
        clear hK K
        refine can_e (o := ⟨_,_,_,_,_,_⟩) rfl (fun K hK => ?_)
        go_wp2_with (go_at_call 45; go_must (have h9 := two_Step ba g1 97 (by decide) [false, false, true] [false, true, false] 0 (wa.alloc (.cells #[.slice none 0 0, .int .i64 0] 28)) (HTwa.out.below (below_alloc (Below.refl _ _) _)) (HSX.out.below (below_alloc HVA.out _)) two_1 (HTB.out (below_seq HBV.out (below_alloc HVA.out _))) (H0.out (below_seq HBV.out (below_alloc HVA.out _))); unfold twoV set3 at h9; refine Calls.mono h9 ?_; clear h9; rintro e wb ⟨gb, rfl, hs_, hb_⟩; have HSwb := Hd.mk hs_; have HBwb := Hd.mk hb_; clear hs_ hb_))
        have HVB := Hd.mk (below_seq HVA.out (below_seq (below_alloc (Below.refl _ _) _) HBwb.out))
        have hq := blk_below (blk_new wa (.cells #[.slice none 0 0, .int .i64 0] 28) _ rfl) HBwb.out
        refine onK_normal (hK _ _ ⟨clsB _, clsB_of (by first | exact (HVB.out) | exact below_undrew (HVB.out)), fun _ _ h => h, ?_⟩)
        clear hK K
        refine can_q (l := [⟨_,_,_,_,_,_⟩, ⟨_,_,_,_,_,_⟩, ⟨_,_,_,_,_,_⟩]) rfl ?_
        repeat (go_big_quiet_step (fail))
        refine wpQuiet_nil ?_
        have hqc0 := blk_cell hq 0 _ rfl; have hqf0 := blk_frozen hq 0; have hqc1 := blk_cell hq 1 _ rfl; have hqf1 := blk_frozen hq 1; have hql := blk_lt hq
        refine can_e (o := ⟨_,_,_,_,_,_⟩) rfl (fun K hK => ?_)
        go_wp2_with fail
        refine onK_normal (hK _ _ ⟨fun _ => True, trivial, (fun h => by cases h), ?_⟩)
        clear hK K
        refine can_q (l := [⟨_,_,_,_,_,_⟩]) rfl ?_
        repeat (go_big_quiet_step (fail))
        refine wpQuiet_nil ?_
        refine can_done ?_
        go_wp2
        go_meet
        case rel =>
          obtain ⟨q1, q2, q3⟩ := box_done (V := V) (g := gb) (m := [false, true, false]) hq (HSwb.out.mono (Nat.zero_le _)) (by have := HSwb.out.lo; rw [size_alloc] at this; omega) HVB.out HVA.out.size
          exact ⟨_, _, rfl, rfl, q1, q2, q3⟩
    · go_wp2_with fail
      refine onK_normal (hK _ _ ⟨clsB _, clsB_of (by first | exact ((below_alloc (below_drew1 (Below.refl V.heap.size V)) _)) | exact below_undrew ((below_alloc (below_drew1 (Below.refl V.heap.size V)) _))), fun _ _ h => h, ?_⟩)
      clear hK K
      refine can_e (o := ⟨_,_,_,_,_,_⟩) rfl (fun K hK => ?_)
      go_wp2_with (go_at_call 49; go_must (refine Calls.mono (two_calls _) ?_; rintro e wa ⟨ba, rfl, hb_, ht_, hw_⟩; (try rw [size_drew] at hb_); have HTwa := Hd.mk ht_; have HLwa := Hd.mk hb_; have HBwa := Hd.mk hw_; clear hb_ ht_ hw_))
      have HVA := Hd.mk (below_seq (below_alloc (below_drew1 (Below.refl V.heap.size V)) (.cells #[.slice none 0 0, .int .i64 0] 28)) HBwa.out)
      refine onK_normal (hK _ _ ⟨clsB _, clsB_of (by first | exact (HVA.out) | exact below_undrew (HVA.out)), fun _ _ h => h, ?_⟩)
      clear hK K
      have hqa : wa.heap[V.heap.size]? = some zSet := blk_below (blk_new V.drew _ _ rfl) HBwa.out
      refine can_e (o := ⟨_,_,_,_,_,_⟩) rfl (fun K hK => ?_)
      go_wp2_with (go_at_call 45; go_must (have h9 := two_Step ba g1 97 (by decide) [false, false, true] [false, true, false] 0 (wa) HTwa.out (HSX.out.below HVA.out) two_1 (HTB.out (below_seq HBV.out HVA.out)) (H0.out (below_seq HBV.out HVA.out)); unfold twoV set3 at h9; refine Calls.mono h9 ?_; clear h9; rintro e wb ⟨gb, rfl, hs_, hb_⟩; have HSwb := Hd.mk hs_; have HBwb := Hd.mk hb_; clear hs_ hb_))
      have HVB := Hd.mk (below_seq HVA.out HBwb.out)
      have hq := blk_below hqa HBwb.out
      refine onK_normal (hK _ _ ⟨clsB _, clsB_of (by first | exact (HVB.out) | exact below_undrew (HVB.out)), fun _ _ h => h, ?_⟩)
      clear hK K
      refine can_q (l := [⟨_,_,_,_,_,_⟩, ⟨_,_,_,_,_,_⟩, ⟨_,_,_,_,_,_⟩]) rfl ?_
      repeat (go_big_quiet_step (fail))
      refine wpQuiet_nil ?_
      have hqc0 := blk_cell hq 0 _ rfl; have hqf0 := blk_frozen hq 0; have hqc1 := blk_cell hq 1 _ rfl; have hqf1 := blk_frozen hq 1; have hql := blk_lt hq
      refine can_e (o := ⟨_,_,_,_,_,_⟩) rfl (fun K hK => ?_)
      go_wp2_with fail
      refine onK_normal (hK _ _ ⟨fun _ => True, trivial, (fun h => by cases h), ?_⟩)
      clear hK K
      refine can_q (l := [⟨_,_,_,_,_,_⟩]) rfl ?_
      repeat (go_big_quiet_step (fail))
      refine wpQuiet_nil ?_
      refine can_done ?_
      go_wp2
      go_meet
      case rel =>
        obtain ⟨q1, q2, q3⟩ := box_done (V := V) (g := gb) (m := [false, true, false]) hq (HSwb.out.mono (Nat.zero_le _)) (by have := HSwb.out.lo; have h5 := HBwa.out.size; rw [size_drew, size_alloc] at h5; omega) HVB.out (Nat.le_refl _)
        exact ⟨_, _, rfl, rfl, q1, q2, q3⟩
  case rest =>
    obtain ⟨p2, g2, rfl, rfl, HBX2, HSX2, HBW2⟩ := hcut
    clear hbxc0 hbxf0 hbxc1 hbxf1 hbxl
    have HBV2 := Hd.mk (below_seq HBV.out HBW2.out)
    clear hbx HBX HSX HBW2 HBV
    generalize wc = V2 at *
    have hbx2 := HBX2.out
    have hbx2c0 := blk_cell hbx2 0 _ rfl; have hbx2f0 := blk_frozen hbx2 0; have hbx2c1 := blk_cell hbx2 1 _ rfl; have hbx2f1 := blk_frozen hbx2 1; have hbx2l := blk_lt hbx2
    go_upto_region 3 with fail
    go_cut [5, 6] (fun v3 v4 wx => ∃ (p' g' : Nat), v3 = .pointer (some ⟨p', 0, none⟩) ∧ v4 = .int .i64 0 ∧ Hd (wx.heap[p']? = some (oSet g')) ∧ Hd (TS wx 0 g' [true, false, false]) ∧ Hd (Below V2.heap.size V2 wx))
    case first =>
      refine wp_region_can (.q [1] (.b 0 true (.b 2 false (.q [3, 4, 5] (.e 6 true (.e 7 false (.q [8] (.done))))) 6 true (.e 2 false (.q [3, 4, 5] (.e 7 false (.q [8] (.done)))))) 6 true (.e 0 true (.e 2 false (.q [3, 4, 5] (.e 7 false (.q [8] (.done)))))))) (clsB _) (by kernel_rfl) (by kernel_rfl) (by intro _ _ d _ _ h; cases d <;> exact h) (clsB_drew _) ?_
      refine can_q (l := [⟨_,_,_,_,_,_⟩]) rfl ?_
      repeat (go_big_quiet_step (fail))
      refine wpQuiet_nil ?_
      have hzV := HBV2.out.size
      refine can_b (o := ⟨_,_,_,_,_,_⟩) (oj := ⟨_,_,_,_,_,_⟩) rfl rfl (fun K hK => ?_) (fun K hK => ?_)
      · go_wp2_with (go_at_call 49; go_must (refine Calls.mono (two_calls _) ?_; rintro e wa ⟨ba, rfl, hb_, ht_, hw_⟩; (try rw [size_drew] at hb_); have HTwa := Hd.mk ht_; have HLwa := Hd.mk hb_; have HBwa := Hd.mk hw_; clear hb_ ht_ hw_))
        have HVA := Hd.mk (below_undrew HBwa.out)
        refine onK_normal (hK _ _ ⟨clsB _, clsB_of (by first | exact (HVA.out) | exact below_undrew (HVA.out)), fun _ _ h => h, ?_⟩)
        clear hK K
        refine can_b (o := ⟨_,_,_,_,_,_⟩) (oj := ⟨_,_,_,_,_,_⟩) rfl rfl (fun K hK => ?_) (fun K hK => ?_)
        · go_wp2_with (go_at_call 45; go_must (have h9 := two_Step ba g2 98 (by decide) [false, true, false] [true, false, false] 0 (wa) HTwa.out (HSX2.out.below HVA.out) two_2 (HTB.out (below_seq HBV2.out HVA.out)) (H0.out (below_seq HBV2.out HVA.out)); unfold twoV set3 at h9; refine Calls.mono h9 ?_; clear h9; rintro e wb ⟨gb, rfl, hs_, hb_⟩; have HSwb := Hd.mk hs_; have HBwb := Hd.mk hb_; clear hs_ hb_))
          have HVB := Hd.mk (below_seq HVA.out HBwb.out)
          refine onK_normal (hK _ _ ⟨clsB _, clsB_of (by first | exact (HVB.out) | exact below_undrew (HVB.out)), fun _ _ h => h, ?_⟩)
          clear hK K
          refine can_q (l := [⟨_,_,_,_,_,_⟩, ⟨_,_,_,_,_,_⟩, ⟨_,_,_,_,_,_⟩]) rfl ?_
          repeat (go_big_quiet_step (fail))
          refine wpQuiet_nil ?_
          refine can_e (o := ⟨_,_,_,_,_,_⟩) rfl (fun K hK => ?_)
          go_wp2_with fail
          refine onK_normal (hK _ _ ⟨clsB _, clsB_of (by first | exact ((below_alloc HVB.out _)) | exact below_undrew ((below_alloc HVB.out _))), fun _ _ h => h, ?_⟩)
          clear hK K
          refine can_e (o := ⟨_,_,_,_,_,_⟩) rfl (fun K hK => ?_)
          go_wp2_with fail
          refine onK_normal (hK _ _ ⟨fun _ => True, trivial, (fun h => by cases h), ?_⟩)
          clear hK K
          refine can_q (l := [⟨_,_,_,_,_,_⟩]) rfl ?_
          repeat (go_big_quiet_step (fail))
          refine wpQuiet_nil ?_
          refine can_done ?_
          go_wp2
          go_meet
          case rel => exact ⟨_, _, rfl, rfl, ⟨blk_new _ _ _ rfl⟩, ⟨(HSwb.out.mono (Nat.zero_le _)).below (below_alloc (Below.refl _ _) _)⟩, ⟨below_alloc HVB.out _⟩⟩
        · go_wp2_with fail
          refine onK_normal (hK _ _ ⟨clsB _, clsB_of (by first | exact ((below_alloc HVA.out _)) | exact below_undrew ((below_alloc HVA.out _))), fun _ _ h => h, ?_⟩)
          clear hK K
          refine can_e (o := ⟨_,_,_,_,_,_⟩) rfl (fun K hK => ?_)
          go_wp2_with (go_at_call 45; go_must (have h9 := two_Step ba g2 98 (by decide) [false, true, false] [true, false, false] 0 (wa.alloc (.cells #[.slice none 0 0, .int .i64 0] 28)) (HTwa.out.below (below_alloc (Below.refl _ _) _)) (HSX2.out.below (below_alloc HVA.out _)) two_2 (HTB.out (below_seq HBV2.out (below_alloc HVA.out _))) (H0.out (below_seq HBV2.out (below_alloc HVA.out _))); unfold twoV set3 at h9; refine Calls.mono h9 ?_; clear h9; rintro e wb ⟨gb, rfl, hs_, hb_⟩; have HSwb := Hd.mk hs_; have HBwb := Hd.mk hb_; clear hs_ hb_))
          have HVB := Hd.mk (below_seq HVA.out (below_seq (below_alloc (Below.refl _ _) _) HBwb.out))
          have hq := blk_below (blk_new wa (.cells #[.slice none 0 0, .int .i64 0] 28) _ rfl) HBwb.out
          refine onK_normal (hK _ _ ⟨clsB _, clsB_of (by first | exact (HVB.out) | exact below_undrew (HVB.out)), fun _ _ h => h, ?_⟩)
          clear hK K
          refine can_q (l := [⟨_,_,_,_,_,_⟩, ⟨_,_,_,_,_,_⟩, ⟨_,_,_,_,_,_⟩]) rfl ?_
          repeat (go_big_quiet_step (fail))
          refine wpQuiet_nil ?_
          have hqc0 := blk_cell hq 0 _ rfl; have hqf0 := blk_frozen hq 0; have hqc1 := blk_cell hq 1 _ rfl; have hqf1 := blk_frozen hq 1; have hql := blk_lt hq
          refine can_e (o := ⟨_,_,_,_,_,_⟩) rfl (fun K hK => ?_)
          go_wp2_with fail
          refine onK_normal (hK _ _ ⟨fun _ => True, trivial, (fun h => by cases h), ?_⟩)
          clear hK K
          refine can_q (l := [⟨_,_,_,_,_,_⟩]) rfl ?_
          repeat (go_big_quiet_step (fail))
          refine wpQuiet_nil ?_
          refine can_done ?_
          go_wp2
          go_meet
          case rel =>
            obtain ⟨q1, q2, q3⟩ := box_done (V := V2) (g := gb) (m := [true, false, false]) hq (HSwb.out.mono (Nat.zero_le _)) (by have := HSwb.out.lo; rw [size_alloc] at this; omega) HVB.out HVA.out.size
            exact ⟨_, _, rfl, rfl, q1, q2, q3⟩
      · go_wp2_with fail
        refine onK_normal (hK _ _ ⟨clsB _, clsB_of (by first | exact ((below_alloc (below_drew1 (Below.refl V2.heap.size V2)) _)) | exact below_undrew ((below_alloc (below_drew1 (Below.refl V2.heap.size V2)) _))), fun _ _ h => h, ?_⟩)
        clear hK K
        refine can_e (o := ⟨_,_,_,_,_,_⟩) rfl (fun K hK => ?_)
        go_wp2_with (go_at_call 49; go_must (refine Calls.mono (two_calls _) ?_; rintro e wa ⟨ba, rfl, hb_, ht_, hw_⟩; (try rw [size_drew] at hb_); have HTwa := Hd.mk ht_; have HLwa := Hd.mk hb_; have HBwa := Hd.mk hw_; clear hb_ ht_ hw_))
        have HVA := Hd.mk (below_seq (below_alloc (below_drew1 (Below.refl V2.heap.size V2)) (.cells #[.slice none 0 0, .int .i64 0] 28)) HBwa.out)
        refine onK_normal (hK _ _ ⟨clsB _, clsB_of (by first | exact (HVA.out) | exact below_undrew (HVA.out)), fun _ _ h => h, ?_⟩)
        clear hK K
        have hqa : wa.heap[V2.heap.size]? = some zSet := blk_below (blk_new V2.drew _ _ rfl) HBwa.out
        refine can_e (o := ⟨_,_,_,_,_,_⟩) rfl (fun K hK => ?_)
        go_wp2_with (go_at_call 45; go_must (have h9 := two_Step ba g2 98 (by decide) [false, true, false] [true, false, false] 0 (wa) HTwa.out (HSX2.out.below HVA.out) two_2 (HTB.out (below_seq HBV2.out HVA.out)) (H0.out (below_seq HBV2.out HVA.out)); unfold twoV set3 at h9; refine Calls.mono h9 ?_; clear h9; rintro e wb ⟨gb, rfl, hs_, hb_⟩; have HSwb := Hd.mk hs_; have HBwb := Hd.mk hb_; clear hs_ hb_))
        have HVB := Hd.mk (below_seq HVA.out HBwb.out)
        have hq := blk_below hqa HBwb.out
        refine onK_normal (hK _ _ ⟨clsB _, clsB_of (by first | exact (HVB.out) | exact below_undrew (HVB.out)), fun _ _ h => h, ?_⟩)
        clear hK K
        refine can_q (l := [⟨_,_,_,_,_,_⟩, ⟨_,_,_,_,_,_⟩, ⟨_,_,_,_,_,_⟩]) rfl ?_
        repeat (go_big_quiet_step (fail))
        refine wpQuiet_nil ?_
        have hqc0 := blk_cell hq 0 _ rfl; have hqf0 := blk_frozen hq 0; have hqc1 := blk_cell hq 1 _ rfl; have hqf1 := blk_frozen hq 1; have hql := blk_lt hq
        refine can_e (o := ⟨_,_,_,_,_,_⟩) rfl (fun K hK => ?_)
        go_wp2_with fail
        refine onK_normal (hK _ _ ⟨fun _ => True, trivial, (fun h => by cases h), ?_⟩)
        clear hK K
        refine can_q (l := [⟨_,_,_,_,_,_⟩]) rfl ?_
        repeat (go_big_quiet_step (fail))
        refine wpQuiet_nil ?_
        refine can_done ?_
        go_wp2
        go_meet
        case rel =>
          obtain ⟨q1, q2, q3⟩ := box_done (V := V2) (g := gb) (m := [true, false, false]) hq (HSwb.out.mono (Nat.zero_le _)) (by have := HSwb.out.lo; have h5 := HBwa.out.size; rw [size_drew, size_alloc] at h5; omega) HVB.out (Nat.le_refl _)
          exact ⟨_, _, rfl, rfl, q1, q2, q3⟩
    case rest =>
      obtain ⟨p3, g3, rfl, rfl, HBX3, HSX3, HBW3⟩ := hcut
      clear hbx2c0 hbx2f0 hbx2c1 hbx2f1 hbx2l
      have HBV3 := Hd.mk (below_seq HBV2.out HBW3.out)
      have HBX2' := Hd.mk (blk_below HBX2.out HBW3.out)
      have HSX2' := Hd.mk (HSX2.out.below HBW3.out)
      clear hbx2 HBX2 HSX2 HBW3 HBV2
      generalize wc = V3 at *
      have hbx3 := HBX3.out
      have hbx3c0 := blk_cell hbx3 0 _ rfl; have hbx3f0 := blk_frozen hbx3 0; have hbx3c1 := blk_cell hbx3 1 _ rfl; have hbx3f1 := blk_frozen hbx3 1; have hbx3l := blk_lt hbx3
      go_upto_region 4 with fail
      go_cut [7, 8] (fun v3 v4 wx => ∃ (p' g' : Nat), v3 = .pointer (some ⟨p', 0, none⟩) ∧ v4 = .int .i64 0 ∧ Hd (wx.heap[p']? = some (oSet g')) ∧ Hd (TS wx 0 g' [false, false, false]) ∧ Hd (Below V3.heap.size V3 wx))
      case first =>
        refine wp_region_can (.q [1] (.b 0 true (.b 2 false (.q [3, 4, 5] (.e 6 true (.e 7 false (.q [8] (.done))))) 6 true (.e 2 false (.q [3, 4, 5] (.e 7 false (.q [8] (.done)))))) 6 true (.e 0 true (.e 2 false (.q [3, 4, 5] (.e 7 false (.q [8] (.done)))))))) (clsB _) (by kernel_rfl) (by kernel_rfl) (by intro _ _ d _ _ h; cases d <;> exact h) (clsB_drew _) ?_
        refine can_q (l := [⟨_,_,_,_,_,_⟩]) rfl ?_
        repeat (go_big_quiet_step (fail))
        refine wpQuiet_nil ?_
        have hzV := HBV3.out.size
        refine can_b (o := ⟨_,_,_,_,_,_⟩) (oj := ⟨_,_,_,_,_,_⟩) rfl rfl (fun K hK => ?_) (fun K hK => ?_)
        · go_wp2_with (go_at_call 49; go_must (refine Calls.mono (two_calls _) ?_; rintro e wa ⟨ba, rfl, hb_, ht_, hw_⟩; (try rw [size_drew] at hb_); have HTwa := Hd.mk ht_; have HLwa := Hd.mk hb_; have HBwa := Hd.mk hw_; clear hb_ ht_ hw_))
          have HVA := Hd.mk (below_undrew HBwa.out)
          refine onK_normal (hK _ _ ⟨clsB _, clsB_of (by first | exact (HVA.out) | exact below_undrew (HVA.out)), fun _ _ h => h, ?_⟩)
          clear hK K
          refine can_b (o := ⟨_,_,_,_,_,_⟩) (oj := ⟨_,_,_,_,_,_⟩) rfl rfl (fun K hK => ?_) (fun K hK => ?_)
          · go_wp2_with (go_at_call 45; go_must (have h9 := two_Step ba g3 98 (by decide) [true, false, false] [false, false, false] 0 (wa) HTwa.out (HSX3.out.below HVA.out) two_3 (HTB.out (below_seq HBV3.out HVA.out)) (H0.out (below_seq HBV3.out HVA.out)); unfold twoV set3 at h9; refine Calls.mono h9 ?_; clear h9; rintro e wb ⟨gb, rfl, hs_, hb_⟩; have HSwb := Hd.mk hs_; have HBwb := Hd.mk hb_; clear hs_ hb_))
            have HVB := Hd.mk (below_seq HVA.out HBwb.out)
            refine onK_normal (hK _ _ ⟨clsB _, clsB_of (by first | exact (HVB.out) | exact below_undrew (HVB.out)), fun _ _ h => h, ?_⟩)
            clear hK K
            refine can_q (l := [⟨_,_,_,_,_,_⟩, ⟨_,_,_,_,_,_⟩, ⟨_,_,_,_,_,_⟩]) rfl ?_
            repeat (go_big_quiet_step (fail))
            refine wpQuiet_nil ?_
            refine can_e (o := ⟨_,_,_,_,_,_⟩) rfl (fun K hK => ?_)
            go_wp2_with fail
            refine onK_normal (hK _ _ ⟨clsB _, clsB_of (by first | exact ((below_alloc HVB.out _)) | exact below_undrew ((below_alloc HVB.out _))), fun _ _ h => h, ?_⟩)
            clear hK K
            refine can_e (o := ⟨_,_,_,_,_,_⟩) rfl (fun K hK => ?_)
            go_wp2_with fail
            refine onK_normal (hK _ _ ⟨fun _ => True, trivial, (fun h => by cases h), ?_⟩)
            clear hK K
            refine can_q (l := [⟨_,_,_,_,_,_⟩]) rfl ?_
            repeat (go_big_quiet_step (fail))
            refine wpQuiet_nil ?_
            refine can_done ?_
            go_wp2
            go_meet
            case rel => exact ⟨_, _, rfl, rfl, ⟨blk_new _ _ _ rfl⟩, ⟨(HSwb.out.mono (Nat.zero_le _)).below (below_alloc (Below.refl _ _) _)⟩, ⟨below_alloc HVB.out _⟩⟩
          · go_wp2_with fail
            refine onK_normal (hK _ _ ⟨clsB _, clsB_of (by first | exact ((below_alloc HVA.out _)) | exact below_undrew ((below_alloc HVA.out _))), fun _ _ h => h, ?_⟩)
            clear hK K
            refine can_e (o := ⟨_,_,_,_,_,_⟩) rfl (fun K hK => ?_)
            go_wp2_with (go_at_call 45; go_must (have h9 := two_Step ba g3 98 (by decide) [true, false, false] [false, false, false] 0 (wa.alloc (.cells #[.slice none 0 0, .int .i64 0] 28)) (HTwa.out.below (below_alloc (Below.refl _ _) _)) (HSX3.out.below (below_alloc HVA.out _)) two_3 (HTB.out (below_seq HBV3.out (below_alloc HVA.out _))) (H0.out (below_seq HBV3.out (below_alloc HVA.out _))); unfold twoV set3 at h9; refine Calls.mono h9 ?_; clear h9; rintro e wb ⟨gb, rfl, hs_, hb_⟩; have HSwb := Hd.mk hs_; have HBwb := Hd.mk hb_; clear hs_ hb_))
            have HVB := Hd.mk (below_seq HVA.out (below_seq (below_alloc (Below.refl _ _) _) HBwb.out))
            have hq := blk_below (blk_new wa (.cells #[.slice none 0 0, .int .i64 0] 28) _ rfl) HBwb.out
            refine onK_normal (hK _ _ ⟨clsB _, clsB_of (by first | exact (HVB.out) | exact below_undrew (HVB.out)), fun _ _ h => h, ?_⟩)
            clear hK K
            refine can_q (l := [⟨_,_,_,_,_,_⟩, ⟨_,_,_,_,_,_⟩, ⟨_,_,_,_,_,_⟩]) rfl ?_
            repeat (go_big_quiet_step (fail))
            refine wpQuiet_nil ?_
            have hqc0 := blk_cell hq 0 _ rfl; have hqf0 := blk_frozen hq 0; have hqc1 := blk_cell hq 1 _ rfl; have hqf1 := blk_frozen hq 1; have hql := blk_lt hq
            refine can_e (o := ⟨_,_,_,_,_,_⟩) rfl (fun K hK => ?_)
            go_wp2_with fail
            refine onK_normal (hK _ _ ⟨fun _ => True, trivial, (fun h => by cases h), ?_⟩)
            clear hK K
            refine can_q (l := [⟨_,_,_,_,_,_⟩]) rfl ?_
            repeat (go_big_quiet_step (fail))
            refine wpQuiet_nil ?_
            refine can_done ?_
            go_wp2
            go_meet
            case rel =>
              obtain ⟨q1, q2, q3⟩ := box_done (V := V3) (g := gb) (m := [false, false, false]) hq (HSwb.out.mono (Nat.zero_le _)) (by have := HSwb.out.lo; rw [size_alloc] at this; omega) HVB.out HVA.out.size
              exact ⟨_, _, rfl, rfl, q1, q2, q3⟩
        · go_wp2_with fail
          refine onK_normal (hK _ _ ⟨clsB _, clsB_of (by first | exact ((below_alloc (below_drew1 (Below.refl V3.heap.size V3)) _)) | exact below_undrew ((below_alloc (below_drew1 (Below.refl V3.heap.size V3)) _))), fun _ _ h => h, ?_⟩)
          clear hK K
          refine can_e (o := ⟨_,_,_,_,_,_⟩) rfl (fun K hK => ?_)
          go_wp2_with (go_at_call 49; go_must (refine Calls.mono (two_calls _) ?_; rintro e wa ⟨ba, rfl, hb_, ht_, hw_⟩; (try rw [size_drew] at hb_); have HTwa := Hd.mk ht_; have HLwa := Hd.mk hb_; have HBwa := Hd.mk hw_; clear hb_ ht_ hw_))
          have HVA := Hd.mk (below_seq (below_alloc (below_drew1 (Below.refl V3.heap.size V3)) (.cells #[.slice none 0 0, .int .i64 0] 28)) HBwa.out)
          refine onK_normal (hK _ _ ⟨clsB _, clsB_of (by first | exact (HVA.out) | exact below_undrew (HVA.out)), fun _ _ h => h, ?_⟩)
          clear hK K
          have hqa : wa.heap[V3.heap.size]? = some zSet := blk_below (blk_new V3.drew _ _ rfl) HBwa.out
          refine can_e (o := ⟨_,_,_,_,_,_⟩) rfl (fun K hK => ?_)
          go_wp2_with (go_at_call 45; go_must (have h9 := two_Step ba g3 98 (by decide) [true, false, false] [false, false, false] 0 (wa) HTwa.out (HSX3.out.below HVA.out) two_3 (HTB.out (below_seq HBV3.out HVA.out)) (H0.out (below_seq HBV3.out HVA.out)); unfold twoV set3 at h9; refine Calls.mono h9 ?_; clear h9; rintro e wb ⟨gb, rfl, hs_, hb_⟩; have HSwb := Hd.mk hs_; have HBwb := Hd.mk hb_; clear hs_ hb_))
          have HVB := Hd.mk (below_seq HVA.out HBwb.out)
          have hq := blk_below hqa HBwb.out
          refine onK_normal (hK _ _ ⟨clsB _, clsB_of (by first | exact (HVB.out) | exact below_undrew (HVB.out)), fun _ _ h => h, ?_⟩)
          clear hK K
          refine can_q (l := [⟨_,_,_,_,_,_⟩, ⟨_,_,_,_,_,_⟩, ⟨_,_,_,_,_,_⟩]) rfl ?_
          repeat (go_big_quiet_step (fail))
          refine wpQuiet_nil ?_
          have hqc0 := blk_cell hq 0 _ rfl; have hqf0 := blk_frozen hq 0; have hqc1 := blk_cell hq 1 _ rfl; have hqf1 := blk_frozen hq 1; have hql := blk_lt hq
          refine can_e (o := ⟨_,_,_,_,_,_⟩) rfl (fun K hK => ?_)
          go_wp2_with fail
          refine onK_normal (hK _ _ ⟨fun _ => True, trivial, (fun h => by cases h), ?_⟩)
          clear hK K
          refine can_q (l := [⟨_,_,_,_,_,_⟩]) rfl ?_
          repeat (go_big_quiet_step (fail))
          refine wpQuiet_nil ?_
          refine can_done ?_
          go_wp2
          go_meet
          case rel =>
            obtain ⟨q1, q2, q3⟩ := box_done (V := V3) (g := gb) (m := [false, false, false]) hq (HSwb.out.mono (Nat.zero_le _)) (by have := HSwb.out.lo; have h5 := HBwa.out.size; rw [size_drew, size_alloc] at h5; omega) HVB.out (Nat.le_refl _)
            exact ⟨_, _, rfl, rfl, q1, q2, q3⟩
      case rest =>
        obtain ⟨p4, g4, rfl, rfl, HBX4, HSX4, HBW4⟩ := hcut
        clear hbx3c0 hbx3f0 hbx3c1 hbx3f1 hbx3l
        have HBV4 := Hd.mk (below_seq HBV3.out HBW4.out)
        have HBX2 := Hd.mk (blk_below HBX2'.out HBW4.out)
        have HSX2 := Hd.mk (HSX2'.out.below HBW4.out)
        have HBX3' := Hd.mk (blk_below HBX3.out HBW4.out)
        have HSX3' := Hd.mk (HSX3.out.below HBW4.out)
        clear hbx3 HBX3 HSX3 HBW4 HBV3 HBX2' HSX2'
        generalize wc = V4 at *
        go_upto_region 6 with (first
          | (go_at_call 42; go_must (have h9 := two_Run b5 ⟨#[97, 98]⟩ (by decide) w5 HTw5.out (HTB.out (below_seq HBV4.out HBw5.out)) (H0.out (below_seq HBV4.out HBw5.out)); unfold twoV at h9; have e9 : bestM twoQ (runM 2 twoQ (bl ⟨#[97, 98]⟩)) = 7 := two_e9; rw [e9] at h9; refine Calls.mono h9 ?_; clear h9 e9; rintro e w6 ⟨rfl, hb_⟩; have HB6 := Hd.mk (below_seq HBw5.out hb_); clear hb_))
          | (go_at_call 49; go_must (refine Calls.mono (two_calls _) ?_; rintro e w5 ⟨b5, rfl, hb_, ht_, hw_⟩; (try rw [size_drew] at hb_); have HTw5 := Hd.mk ht_; have HLw5 := Hd.mk hb_; have HBw5 := Hd.mk hw_; clear hb_ ht_ hw_)))
        have HBV6 := Hd.mk (below_seq HBV4.out HB6.out)
        have hbx2 := blk_below HBX2.out HB6.out
        have hbx3 := blk_below HBX3'.out HB6.out
        have hbx4 := blk_below HBX4.out HB6.out
        have HS2 := Hd.mk (HSX2.out.below HB6.out)
        have HS3 := Hd.mk (HSX3'.out.below HB6.out)
        have HS4 := Hd.mk (HSX4.out.below HB6.out)
        have hbx2c0 := blk_cell hbx2 0 _ rfl; have hbx2f0 := blk_frozen hbx2 0; have hbx2c1 := blk_cell hbx2 1 _ rfl; have hbx2f1 := blk_frozen hbx2 1; have hbx2l := blk_lt hbx2
        have hbx3c0 := blk_cell hbx3 0 _ rfl; have hbx3f0 := blk_frozen hbx3 0; have hbx3c1 := blk_cell hbx3 1 _ rfl; have hbx3f1 := blk_frozen hbx3 1; have hbx3l := blk_lt hbx3
        have hbx4c0 := blk_cell hbx4 0 _ rfl; have hbx4f0 := blk_frozen hbx4 0; have hbx4c1 := blk_cell hbx4 1 _ rfl; have hbx4f1 := blk_frozen hbx4 1; have hbx4l := blk_lt hbx4
        clear HBX2 HBX3' HBX4 HSX2 HSX3' HSX4 HB6 HBw5 HTw5 HLw5
        refine wp_region_can (.q [0, 1, 2, 3, 4, 5, 6, 7, 8, 9, 10, 12] (.e 11 true (.e 13 false (.q [14, 15, 17] (.e 16 true (.e 18 false (.q [19, 20, 21, 23] (.e 22 true (.e 24 false (.q [25, 26, 27] (.done))))))))))) (clsB _) (by kernel_rfl) (by kernel_rfl) (by intro _ _ d _ _ h; cases d <;> exact h) (clsB_drew _) ?_
        refine can_q (l := [⟨_,_,_,_,_,_⟩, ⟨_,_,_,_,_,_⟩, ⟨_,_,_,_,_,_⟩, ⟨_,_,_,_,_,_⟩, ⟨_,_,_,_,_,_⟩, ⟨_,_,_,_,_,_⟩, ⟨_,_,_,_,_,_⟩, ⟨_,_,_,_,_,_⟩, ⟨_,_,_,_,_,_⟩, ⟨_,_,_,_,_,_⟩, ⟨_,_,_,_,_,_⟩, ⟨_,_,_,_,_,_⟩]) rfl ?_
        repeat (go_big_quiet_step (fail))
        refine wpQuiet_nil ?_
        refine can_e (o := ⟨_,_,_,_,_,_⟩) rfl (fun K hK => ?_)
        go_wp2_with (go_at_call 49; go_must (refine Calls.mono (two_calls _) ?_; rintro e u1 ⟨c1, rfl, hb_, ht_, hw_⟩; (try rw [size_drew] at hb_); have HTu1 := Hd.mk ht_; have HLu1 := Hd.mk hb_; have HBu1 := Hd.mk hw_; clear hb_ ht_ hw_))
        have HU1 := Hd.mk (below_undrew HBu1.out)
        refine onK_normal (hK _ _ ⟨clsB _, clsB_of (by first | exact (HU1.out) | exact below_undrew (HU1.out)), fun _ _ h => h, ?_⟩)
        clear hK K
        refine can_e (o := ⟨_,_,_,_,_,_⟩) rfl (fun K hK => ?_)
        go_wp2_with (go_at_call 48; go_must (have h9 := two_Alive c1 g2 [false, true, false] 0 u1 HTu1.out (HS2.out.below HU1.out) (HTB.out (below_seq HBV6.out HU1.out)) (H0.out (below_seq HBV6.out HU1.out)); unfold twoV set3 at h9; rw [two_alive1] at h9; refine Calls.mono h9 ?_; clear h9; rintro e u2 ⟨rfl, hb_⟩; have HU2 := Hd.mk (below_seq HU1.out hb_); clear hb_))
        refine onK_normal (hK _ _ ⟨clsB _, clsB_of (by first | exact (HU2.out) | exact below_undrew (HU2.out)), fun _ _ h => h, ?_⟩)
        clear hK K
        refine can_q (l := [⟨_,_,_,_,_,_⟩, ⟨_,_,_,_,_,_⟩, ⟨_,_,_,_,_,_⟩]) rfl ?_
        repeat (go_big_quiet_step (fail))
        refine wpQuiet_nil ?_
        refine can_e (o := ⟨_,_,_,_,_,_⟩) rfl (fun K hK => ?_)
        go_wp2_with (go_at_call 49; go_must (refine Calls.mono (two_calls _) ?_; rintro e u3 ⟨c3, rfl, hb_, ht_, hw_⟩; (try rw [size_drew] at hb_); have HTu3 := Hd.mk ht_; have HLu3 := Hd.mk hb_; have HBu3 := Hd.mk hw_; clear hb_ ht_ hw_))
        have HU3 := Hd.mk (below_seq HU2.out HBu3.out)
        refine onK_normal (hK _ _ ⟨clsB _, clsB_of (by first | exact (HU3.out) | exact below_undrew (HU3.out)), fun _ _ h => h, ?_⟩)
        clear hK K
        refine can_e (o := ⟨_,_,_,_,_,_⟩) rfl (fun K hK => ?_)
        go_wp2_with (go_at_call 47; go_must (have h9 := two_Best c3 g3 [true, false, false] 0 u3 HTu3.out (HS3.out.below HU3.out) (HTB.out (below_seq HBV6.out HU3.out)) (H0.out (below_seq HBV6.out HU3.out)); unfold twoV set3 at h9; rw [two_best] at h9; refine Calls.mono h9 ?_; clear h9; rintro e u4 ⟨rfl, hb_⟩; have HU4 := Hd.mk (below_seq HU3.out hb_); clear hb_))
        refine onK_normal (hK _ _ ⟨clsB _, clsB_of (by first | exact (HU4.out) | exact below_undrew (HU4.out)), fun _ _ h => h, ?_⟩)
        clear hK K
        refine can_q (l := [⟨_,_,_,_,_,_⟩, ⟨_,_,_,_,_,_⟩, ⟨_,_,_,_,_,_⟩, ⟨_,_,_,_,_,_⟩]) rfl ?_
        repeat (go_big_quiet_step (fail))
        refine wpQuiet_nil ?_
        refine can_e (o := ⟨_,_,_,_,_,_⟩) rfl (fun K hK => ?_)
        go_wp2_with (go_at_call 49; go_must (refine Calls.mono (two_calls _) ?_; rintro e u5 ⟨c5, rfl, hb_, ht_, hw_⟩; (try rw [size_drew] at hb_); have HTu5 := Hd.mk ht_; have HLu5 := Hd.mk hb_; have HBu5 := Hd.mk hw_; clear hb_ ht_ hw_))
        have HU5 := Hd.mk (below_seq HU4.out HBu5.out)
        refine onK_normal (hK _ _ ⟨clsB _, clsB_of (by first | exact (HU5.out) | exact below_undrew (HU5.out)), fun _ _ h => h, ?_⟩)
        clear hK K
        refine can_e (o := ⟨_,_,_,_,_,_⟩) rfl (fun K hK => ?_)
        go_wp2_with (go_at_call 48; go_must (have h9 := two_Alive c5 g4 [false, false, false] 0 u5 HTu5.out (HS4.out.below HU5.out) (HTB.out (below_seq HBV6.out HU5.out)) (H0.out (below_seq HBV6.out HU5.out)); unfold twoV set3 at h9; rw [two_alive3] at h9; refine Calls.mono h9 ?_; clear h9; rintro e u6 ⟨rfl, hb_⟩; have HU6 := Hd.mk (below_seq HU5.out hb_); clear hb_))
        refine onK_normal (hK _ _ ⟨fun _ => True, trivial, (fun h => by cases h), ?_⟩)
        clear hK K
        refine can_q (l := [⟨_,_,_,_,_,_⟩, ⟨_,_,_,_,_,_⟩, ⟨_,_,_,_,_,_⟩]) rfl ?_
        repeat (go_big_quiet_step (fail))
        refine wpQuiet_nil ?_
        refine can_done ?_
        go_wp2
        go_ret
        exact ⟨rfl, below_seq HBV6.out HU6.out⟩
end Go.Proofs.YtbmpaokicphdjaaDoor.Fn

/- ClosureRuns. -/
namespace Go.Proofs.YtbmpaokicphdjaaDoor.Fn
open Go Go.RowKit Go.Proofs.YtbmpaokicphdjaaDoor.Can Go.Proofs.YtbmpaokicphdjaaDoor.Base
attribute [local go_sem] clsB AB.cell

theorem bestF_cases (b : Int) (x : St) (y : Bool) : (bestF b x y = b ∧ ¬ (y = true ∧ 0 ≤ x.tag ∧ (b < 0 ∨ x.tag < b))) ∨ (bestF b x y = x.tag ∧ y = true ∧ 0 ≤ x.tag) := by
  unfold bestF
  split
  · rename_i h; exact .inr ⟨rfl, h.1, h.2.1⟩
  · rename_i h; exact .inl ⟨rfl, h⟩
theorem bestK_cases (q : List St) (m : List Bool) : ∀ k, (bestK q m k = -1 ∧ ∀ i, i < k → ∀ x, q[i]? = some x → isIn m i → x.tag < 0) ∨ (0 ≤ bestK q m k ∧ ∃ i x, q[i]? = some x ∧ isIn m i ∧ 0 ≤ x.tag) := by
  intro k
  induction k with
  | zero => exact .inl ⟨rfl, fun i hi => by omega⟩
  | succ k ih =>
    cases hx : q[k]? with
    | none =>
      have e : bestK q m (k + 1) = bestK q m k := by unfold bestK; rw [List.range_succ, List.foldl_append, List.foldl_cons, List.foldl_nil, hx]
      rw [e]
      rcases ih with ⟨h1, h2⟩ | h1
      · refine .inl ⟨h1, fun i hi x hx2 hin => ?_⟩
        rcases Nat.lt_or_ge i k with h3 | h3
        · exact h2 i h3 x hx2 hin
        · obtain rfl : i = k := by omega
          rw [hx] at hx2; cases hx2
      · exact .inr h1
    | some x =>
      rw [bestK_succ hx]
      rcases bestF_cases (bestK q m k) x (m.getD k false) with ⟨h1, h2⟩ | ⟨h1, h2, h3⟩
      · rw [h1]
        rcases ih with ⟨h4, h5⟩ | h4
        · refine .inl ⟨h4, fun i hi y hy hin => ?_⟩
          rcases Nat.lt_or_ge i k with h6 | h6
          · exact h5 i h6 y hy hin
          · obtain rfl : i = k := by omega
            rw [hx] at hy; cases hy
            rcases Int.lt_or_le x.tag 0 with h7 | h7
            · exact h7
            · exact absurd ⟨hin, h7, .inl (by omega)⟩ h2
        · exact .inr h4
      · rw [h1]
        exact .inr ⟨h3, k, x, hx, h2, h3⟩
theorem bestM_K (q : List St) (m : List Bool) : bestM q m = bestK q m q.length := rfl
theorem runM_len (st : Int) (q : List St) (t : List UInt8) : (runM st q t).length = q.length := by
  refine snoc_ind (P := fun t => (runM st q t).length = q.length) ?_ (fun t b _ => ?_) t
  · exact closeM_len _ _ _
  · rw [runM_snoc]; exact closeM_len _ _ _
theorem byte_any {q : List St} {c i k : Nat} (h : byteE q c i k) : anyE q i k := by obtain ⟨x, hx, h1, _, _, h2⟩ := h; exact ⟨x, hx, .inr ⟨h1, h2⟩⟩
/-- Where nothing is alive no text that goes on has a tag. -/
theorem run_dead {st : Int} {q : List St} (hok : okN st q) (t more : List UInt8) (h : aliveM q (runM st q t) = false) : bestM q (runM st q (t ++ more)) = -1 := by
  have hsub : ∀ more k, isIn (runM st q (t ++ more)) k → isIn (closeM anyE q (runM st q t)) k := by
    have hin : ∀ k, isIn (closeM anyE q (runM st q t)) k ↔ Cl (anyE q) (isIn (runM st q t)) k := fun k => closeM_in (anyE_stays hok) (by rw [runM_len]; exact Nat.le_refl _) k
    intro more
    refine snoc_ind (P := fun more => ∀ k, isIn (runM st q (t ++ more)) k → isIn (closeM anyE q (runM st q t)) k) ?_ (fun l b ih => ?_) more
    · intro k hk
      rw [List.append_nil] at hk
      exact (hin k).2 (.base hk)
    · intro k hk
      rw [← List.append_assoc, runM_snoc] at hk
      unfold stepM at hk
      rw [closeM_in (epsE_stays hok) (by rw [marksP_len]; exact Nat.le_refl _)] at hk
      refine (hin k).2 (hk.least (fun i hi => ?_) (fun i j hi he => .step hi (eps_any he)))
      obtain ⟨_, j, hj, hb⟩ := (marksP_in _ _ _).1 hi
      exact .step ((hin j).1 (ih j hj)) (byte_any hb)
  have hn : ¬ 0 ≤ bestM q (closeM anyE q (runM st q t)) := of_decide_eq_false h
  rw [bestM_K] at hn ⊢
  rcases bestK_cases q (runM st q (t ++ more)) q.length with ⟨h1, _⟩ | ⟨_, i, x, hx, hi, ht⟩
  · exact h1
  · rcases bestK_cases q (closeM anyE q (runM st q t)) q.length with ⟨_, h2⟩ | ⟨h2, _⟩
    · have := h2 i (List.getElem?_eq_some_iff.1 hx).1 x hx (hsub more i hi)
      omega
    · exact absurd h2 hn
theorem bl_add (a b : ByteArray) : bl (a ++ b) = bl a ++ bl b := by simp [bl]
theorem checkV_small {st : Int} {q : List St} (h : q.length ≤ 4096) : checkV st q = if okN st q then 0 else 3 := by unfold checkV; rw [if_neg (by omega)]
end Go.Proofs.YtbmpaokicphdjaaDoor.Fn
