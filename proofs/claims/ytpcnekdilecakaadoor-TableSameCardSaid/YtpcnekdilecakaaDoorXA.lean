/- Texts: X1, X2, X3, X4. -/
import Derived.Test.YtpcnekdilecakaaDoorR8
/- The law's bare lexer. -/
set_option linter.unusedVariables false
set_option linter.unusedSimpArgs false
namespace Go.Proofs.YtpcnekdilecakaaDoor.Tb
open Go Go.RowKit Go.Proofs.YtpcnekdilecakaaDoor.Can Go.Proofs.YtpcnekdilecakaaDoor.Base
attribute [local go_sem] clsB AB.cell

theorem row_single {α : Type} {T : Ty α} {w : World} {S : Nat → Prop} {g : Nat} {x : α} {cs : List Value} {e : TypeId} {fr : Nat × Nat} (hb : w.heap[g]? = some (.cells cs.toArray e fr)) (hr : T.rel w S x cs) (hS : S g) : Row T w S (some ⟨g, 0, none⟩) 1 [x] := by
  refine ⟨rfl, by omega, fun _ => ⟨g, 0, rfl, hS, fun j p hj => ?_⟩⟩
  cases j with
  | zero =>
    obtain rfl : x = p := by simpa using hj
    refine ⟨cs, hr, fun i u hu => ?_⟩
    have h9 := blk_cell hb i u (by simpa using hu)
    rw [Nat.zero_mul, Nat.add_zero, Nat.zero_add]
    exact h9
  | succ j => simp at hj
def bareD : Df.Df := ⟨List.replicate 256 0, 1, [], [], -1⟩
def bareL : Lx := ⟨[⟨#[109]⟩], [bareD], []⟩
theorem rep_at (j : Nat) (h : j < 256) : Al.atN (List.replicate 256 0) j = 0 := by
  unfold Al.atN
  rw [List.getD_eq_getElem?_getD, List.getElem?_replicate, if_pos h]
  rfl
theorem cls_rep (j : Nat) (h : j < 256) : Al.cls (Al.oneF (List.replicate 256 0)) j = 0 := by
  have e0 : Al.cls (Al.oneF (List.replicate 256 0)) 0 = 0 := rfl
  rw [← e0]
  exact Al.cls_same.2 (Al.oneF_eq.2 (by rw [rep_at j h, rep_at 0 (by omega)]))
theorem right_rep : Al.rightB (List.replicate 256 0) = true := by
  refine Al.right_yes (by rw [List.length_replicate]) fun j hj => ?_
  rw [cls_rep j hj, List.getElem?_replicate, if_pos hj]
  rfl
theorem first_rep : (Al.firstL (List.replicate 256 0)).length = 1 := by
  obtain ⟨h1, -, -, -⟩ := Df.max_first right_rep
  have hne : List.replicate 256 (0 : Int) ≠ [] := fun h => by have h9 := congrArg List.length h; rw [List.length_replicate] at h9; exact absurd h9 (by decide)
  obtain ⟨h2, -⟩ := Df.maxOf_is hne
  rw [List.mem_replicate] at h2
  rw [h2.2] at h1
  omega
theorem bare_ok : Df.okD bareD := ⟨⟨by decide, rfl, by decide, by decide, right_rep, by show (1 : Int) = _; rw [show bareD.cls = List.replicate 256 0 from rfl, first_rep]; rfl⟩, show Df.okT bareD from ⟨fun r hr => (by have h' : r ∈ ([] : List (List Int)) := hr; exact absurd h' (List.not_mem_nil)), fun t ht => (by have h' : t ∈ ([] : List Int) := ht; exact absurd h' (List.not_mem_nil))⟩⟩
theorem bare_right : rightB bareL = true := by
  have h1 : modesB bareL.modes = true := by decide
  have h2 : dfaB 0 bareD = true := by
    unfold dfaB
    rw [decide_eq_true bare_ok]
    decide
  unfold rightB
  rw [h1]
  show (true && true && true && true && true && true && (dfaB 0 bareD && true)) = true
  rw [h2]
  rfl
theorem bare_put : putL bareL = [83, 80, 1, 1, 1, 109, 0, 255, 0, 0, 0, 0, 0] := by
  have e : wcl 0 bareD.cls = [255, 0] := by
    have key : ∀ n k, wcl k (List.replicate (n + 1) 0) = w1 (((k + n : Nat)) : Int) ++ w1 0 := fun n => by
      induction n with
      | zero => intro k; rfl
      | succ n ih =>
        intro k
        rw [List.replicate_succ, List.replicate_succ]
        show (if (0 : Int) = 0 then wcl (k + 1) (0 :: List.replicate n 0) else _) = _
        rw [if_pos rfl, ← List.replicate_succ, ih (k + 1)]
        congr 2
        omega
    rw [show bareD.cls = List.replicate (255 + 1) 0 from rfl, key]
    rfl
  have e3 : putL bareL = w1 83 ++ w1 80 ++ w1 1 ++ w1 1 ++ wtext ⟨#[109]⟩ ++ w1 0 ++ wdfa bareD := by
    show w1 83 ++ w1 80 ++ w1 1 ++ w1 1 ++ (wtext ⟨#[109]⟩ ++ []) ++ w1 0 ++ [] ++ (wdfa bareD ++ []) = _
    rw [List.append_nil, List.append_nil, List.append_nil]
  have e4 : wdfa bareD = wcl 0 bareD.cls ++ w2 0 ++ w2 0 ++ [] := rfl
  rw [e3, e4, e]
  rfl
set_option maxRecDepth 20000 in
set_option maxHeartbeats 4000000 in
theorem bare_calls (w : World) : Calls Tryd.prog 17 #[] w fun e w' => ∃ A1 A2 c1 c2, e = .returned (.agg #[.slice A1 1 c1, .slice A2 1 c2, .slice none 0 0]) ∧ LX w' (fun k => w.heap.size ≤ k ∧ k < w'.heap.size) A1 A2 none 1 1 0 bareL ∧ Below w.heap.size w w' := by
  obtain ⟨i0, hi, hz, hs, hbb⟩ := info_of (P := Tryd.prog) (e := 3) (z := some (.int .i64 0)) (s := 1) (b := 8) (by kernel_rfl)
  have HI := Hd.mk (And.intro hi (And.intro hz (And.intro hs hbb)))
  clear hi hz hs hbb
  go_enter Tryd.func17, Tryd.ntmps17
  go_wp2_with (at_make; go_must (refine wpList_make_full _ rfl (.const (.int .i64 256)) (.const (.int .i64 256)) 44 rfl w.heap.size 3 i0 (.int .i64 0) 1 Tryd.underlying44 HI.out.1 HI.out.2.1 HI.out.2.2.1 .i64 .i64 256 256 256 rfl rfl rfl rfl (by rw [HI.out.2.2.2]; omega) (by simp only [maxLen]; omega) (by simp only [size_alloc]; omega) ?_; intro w1 ho1 hg1; have hb1 : Below (w.heap.size + 2) ((w.alloc (.cells #[.slice none 0 0, .slice none 0 0, .slice none 0 0] 26)).alloc (.cells #[.string ⟨#[109]⟩] 9)) w1 := (Below.refl _ _).grown hg1 (by simp only [size_alloc]; omega) (fun k hk => by cases hk); have hq : w1.heap[w.heap.size]? = some (.cells #[.slice none 0 0, .slice none 0 0, .slice none 0 0] 26 (0, 0)) := (hb1.block _ (by omega)).trans (blk_alloc (blk_new _ _ _ rfl) _); have hs1 : w1.heap[w.heap.size + 1]? = some (.cells #[.string ⟨#[109]⟩] 9 (0, 0)) := (hb1.block _ (by omega)).trans (blk_new _ _ _ (by rw [size_alloc])); have HO := Hd.mk ho1; have HB1 := Hd.mk hb1; have hz1 := hb1.size; have hqc0 := blk_cell hq 0 _ rfl; have hqf0 := blk_frozen hq 0; have hqc1 := blk_cell hq 1 _ rfl; have hqf1 := blk_frozen hq 1; have hqc2 := blk_cell hq 2 _ rfl; have hqf2 := blk_frozen hq 2; have hql := blk_lt hq; clear ho1 hg1 hb1))
  have hzz := HB1.out.size
  simp only [size_alloc] at hzz
  have hbk := Blk.made (enc := Al.iE) (x := 0) Al.i_len (by decide) rfl HO.out
  simp only [size_alloc] at hbk
  refine bodyPost_ret (results_cell_row rfl _ _ w.heap.size 26 #[.slice (some ⟨w.heap.size + 1, 0, none⟩) 1 1, .slice (some ⟨w1.heap.size, 0, none⟩) 1 1, .slice none 0 0] (0, 0) _ rfl (blk_alloc (blk_set (blk_set (blk_set hq 0 _ _ rfl) 1 _ _ rfl) 2 _ _ rfl) _) Tryd.underlying26 rfl (by kernel_rfl)) rfl ?_
  generalize hY1 : World.setCell _ _ _ = Y1
  have hfY : Fr (fun b => b = w.heap.size) w1 Y1 := by rw [← hY1]; exact (((Fr.refl (fun b => b = w.heap.size) _).set (.inl rfl) _ _).set (.inl rfl) _ _).set (.inl rfl) _ _
  have hzY : Y1.heap.size = w1.heap.size := by rw [← hY1]; simp only [size_set]
  obtain ⟨Y, hY⟩ : ∃ Y, Y1.alloc (.cells #[.slice (some ⟨w.heap.size + 1 + 1, 0, none⟩) 256 256, .int .i64 1, .slice none 0 0, .slice none 0 0, .int .i64 (-1)] 47) = Y := ⟨_, rfl⟩
  rw [hY]
  have hg3 : Y.heap[w1.heap.size]? = some (.cells #[.slice (some ⟨w.heap.size + 1 + 1, 0, none⟩) 256 256, .int .i64 1, .slice none 0 0, .slice none 0 0, .int .i64 (-1)] 47 (0, 0)) := by rw [← hY]; exact blk_new _ _ _ hzY.symm
  have hYz : Y.heap.size = w1.heap.size + 1 := by rw [← hY, size_alloc, hzY]
  have hYb : Below Y1.heap.size Y1 Y := by rw [← hY]; exact below_alloc (Below.refl _ _) _
  have hs2 : Y.heap[w.heap.size + 1]? = some (.cells #[.string ⟨#[109]⟩] 9 (0, 0)) := blk_below (hfY.blk hs1 (by omega)) hYb
  have hbk2 : Blk Al.iE Y 3 (w.heap.size + 1 + 1) (List.replicate 256 0) := (hbk.fr hfY (by omega)).below hYb
  refine ⟨_, _, _, _, rfl, ⟨row_single hs2 rfl ⟨by omega, by omega⟩, row_single hg3 ?_ ⟨by omega, by omega⟩, Row.nil _ _ _ _, fun k hk => hk.2, fun s hs => ?_, fun a ha => ?_⟩, ?_⟩
  · have h9 := Al.blk_rowI (S := fun k => w.heap.size ≤ k ∧ k < Y.heap.size) hbk2 ⟨by omega, by omega⟩ (by rw [List.length_replicate]; omega)
    exact ⟨[.slice (some ⟨w.heap.size + 1 + 1, 0, none⟩) 256 256], _, rfl, ⟨some ⟨w.heap.size + 1 + 1, 0, none⟩, 256, by show _ = [Value.slice _ (List.replicate 256 (0 : Int)).length 256]; rw [List.length_replicate], by show (List.replicate 256 (0 : Int)).length ≤ 256; rw [List.length_replicate]; exact Nat.le_refl _, fun h => (by cases h), h9⟩, [.int .i64 1], _, rfl, rfl, [.slice none 0 0], _, rfl, ⟨none, 0, rfl, Nat.le_refl _, fun _ => rfl, Row.nil _ _ _ _⟩, [.slice none 0 0], _, rfl, ⟨none, 0, rfl, Nat.le_refl _, fun _ => rfl, Row.nil _ _ _ _⟩, rfl⟩
  · obtain rfl := List.mem_singleton.1 hs
    decide
  · exact absurd ha (List.not_mem_nil)
  · have b1 : Below w.heap.size w w1 := (below_alloc (below_alloc (Below.refl _ _) _) _).trans (HB1.out.mono (by omega))
    exact below_seq (b1.trans (hfY.below (by omega) (fun b hb e => by omega))) hYb
end Go.Proofs.YtpcnekdilecakaaDoor.Tb

/- The law's example. -/
set_option linter.unusedVariables false
set_option linter.unusedSimpArgs false
namespace Go.Proofs.YtpcnekdilecakaaDoor.Tb
open Go Go.RowKit Go.Proofs.YtpcnekdilecakaaDoor.Can Go.Proofs.YtpcnekdilecakaaDoor.Base
attribute [local go_sem] clsB AB.cell

theorem get_bare : getF (putL bareL) = some bareL := get_put bare_right
/-- Get, of bytes that are a lexer's. -/
theorem get_ok (A0 : Option Addr) (n0 c0 : Nat) (b : List UInt8) (l : Lx) (hg : getF b = some l) (S : Nat → Prop) (w : World) (hS : ∀ k, S k → k < w.heap.size) (hrow : Row bT w S A0 n0 b) (hc0 : n0 ≤ c0) (hB : Bg w) :
    Calls Tryd.prog 11 #[.slice A0 n0 c0] w fun e w' => (∃ A1 A2 A3 n1 n2 n3 c1 c2 c3, e = .returned (.tuple #[.agg #[.slice A1 n1 c1, .slice A2 n2 c2, .slice A3 n3 c3], .int .i64 0]) ∧ LX w' (fun k => w.heap.size ≤ k ∧ k < w'.heap.size) A1 A2 A3 n1 n2 n3 l) ∧ Below w.heap.size w w' :=
  (get_calls A0 n0 c0 b S w hS hrow hc0 hB).mono (by
    rintro e w' ⟨h, hb⟩
    rcases h with ⟨l', A1, A2, A3, n1, n2, n3, c1, c2, c3, h1, h2, h3⟩ | ⟨h1, h2⟩
    · obtain rfl := Option.some.inj (hg.symm.trans h1)
      exact ⟨⟨A1, A2, A3, n1, n2, n3, c1, c2, c3, h2, h3⟩, hb⟩
    · rw [hg] at h1; cases h1)
theorem get_none (A0 : Option Addr) (n0 c0 : Nat) (b : List UInt8) (hg : getF b = none) (S : Nat → Prop) (w : World) (hS : ∀ k, S k → k < w.heap.size) (hrow : Row bT w S A0 n0 b) (hc0 : n0 ≤ c0) (hB : Bg w) :
    Calls Tryd.prog 11 #[.slice A0 n0 c0] w fun e w' => e = .returned (.tuple #[.agg #[.slice none 0 0, .slice none 0 0, .slice none 0 0], .int .i64 3]) ∧ Below w.heap.size w w' :=
  (get_calls A0 n0 c0 b S w hS hrow hc0 hB).mono (by
    rintro e w' ⟨h, hb⟩
    rcases h with ⟨l', A1, A2, A3, n1, n2, n3, c1, c2, c3, h1, h2, h3⟩ | ⟨h1, h2⟩
    · rw [hg] at h1; cases h1
    · exact ⟨h2, hb⟩)
set_option maxRecDepth 20000 in
set_option maxHeartbeats 8000000 in
theorem alive_calls (w : World) (hB : Bg w) : Calls Tryd.prog 7 #[] w fun e w' => e = .returned (.bool true) ∧ Below w.heap.size w w' := by
  have HBG := Hd.mk hB
  clear hB
  go_enter Tryd.func7, Tryd.ntmps7
  have TOK := Hd.mk trivial
  go_upto_region 3 with (first
    | (have hq_ := TOK; clear hq_ TOK; go_at_call 17; go_must (refine Calls.mono (bare_calls w) ?_; rintro e w1 ⟨B1, B2, d1, d2, rfl, hL, hb_⟩; have HL1 := Hd.mk hL; have HB1 := Hd.mk hb_; clear hL hb_))
    | (go_at_call 8; go_must (refine Calls.mono (put_ok B1 B2 none 1 1 0 d1 d2 0 bareL bare_right _ w1 HL1.out (HBG.out.below HB1.out)) ?_; rintro e w2 ⟨v, rfl, hM, hb_⟩; obtain ⟨A9, n9, c9, rfl, -, hc9, -, hrow⟩ := hM.formN; have HR2 := Hd.mk hrow; have HB2 := Hd.mk hb_; have HB12 := Hd.mk (below_seq HB1.out hb_); clear hM hb_ hrow))
    | (go_at_call 11; go_must (refine Calls.mono (get_ok A9 n9 c9 (putL bareL) bareL get_bare _ w2 (fun k hk => hk.2) HR2.out hc9 (HBG.out.below HB12.out)) ?_; rintro e w3 ⟨⟨A1, A2, A3, n1, n2, n3, c1, c2, c3, rfl, hL⟩, hb_⟩; have HL3 := Hd.mk hL; have HB3 := Hd.mk hb_; have HB13 := Hd.mk (below_seq HB12.out hb_); clear hL hb_)))
  generalize hV : World.alloc w3 _ = V
  have hbV : Below w3.heap.size w3 V := by rw [← hV]; exact below_alloc (Below.refl _ _) _
  have hx : V.heap[w3.heap.size]? = some (.cells #[.slice A1 n1 c1, .slice A2 n2 c2, .slice A3 n3 c3] 26 (0, 0)) := by rw [← hV]; exact blk_new _ _ _ rfl
  have HLV := Hd.mk (HL3.out.below hbV)
  have HBV := Hd.mk (below_seq HB13.out hbV)
  have HRV : Hd (Row bT V (fun k => w1.heap.size ≤ k ∧ k < w2.heap.size) A9 n9 (putL bareL)) := ⟨HR2.out.below (fun k hk => hk.2) (below_seq HB3.out hbV)⟩
  have hcv : ∀ X : AB V, (convert 29 9 (.slice A9 n9 c9)).run Tryd.prog X.x = .ok (.string (bs (putL bareL))) X.x := fun X => conv_back 29 9 5 Tryd.underlying29 Tryd.underlying5 Tryd.underlying9 (HRV.out.move (fun k hk => X.ok k (by have := (below_seq HB3.out hbV).size; omega))) (by rw [bare_put]; show 13 ≤ _; omega)
  have hq : ((bs (putL bareL)).toList == (⟨#[83, 80, 1, 1, 1, 109, 0, 255, 0, 0, 0, 0, 0]⟩ : ByteArray).toList) = true := by rw [bare_put, str_beq]; exact decide_eq_true rfl
  have hq2 : ((bs (putL bareL)).toList == [83, 80, 1, 1, 1, 109, 0, 255, 0, 0, 0, 0, 0]) = true := by rw [bare_put, Go.ByteArray.toList_eq]; rfl
  have HX := Hd.mk hx
  clear hV hbV
  have hxc0 := blk_cell hx 0 _ rfl; have hxf0 := blk_frozen hx 0; have hxc1 := blk_cell hx 1 _ rfl; have hxf1 := blk_frozen hx 1; have hxc2 := blk_cell hx 2 _ rfl; have hxf2 := blk_frozen hx 2; have hxl := blk_lt hx
  refine wp_region_can (.q [0, 1, 2, 3, 4, 5, 6, 7, 8, 9, 10, 11, 12] (.e 13 true (.e 14 false (.q [15, 16, 17] (.e 18 false (.q [19, 20] (.done))))))) (clsB _) (by kernel_rfl) (by kernel_rfl) (by intro _ _ d _ _ h; cases d <;> exact h) (clsB_drew _) ?_
  refine can_q (l := [⟨_,_,_,_,_,_⟩, ⟨_,_,_,_,_,_⟩, ⟨_,_,_,_,_,_⟩, ⟨_,_,_,_,_,_⟩, ⟨_,_,_,_,_,_⟩, ⟨_,_,_,_,_,_⟩, ⟨_,_,_,_,_,_⟩, ⟨_,_,_,_,_,_⟩, ⟨_,_,_,_,_,_⟩, ⟨_,_,_,_,_,_⟩, ⟨_,_,_,_,_,_⟩, ⟨_,_,_,_,_,_⟩, ⟨_,_,_,_,_,_⟩]) rfl ?_
  repeat (go_big_quiet_step (fail))
  refine wpQuiet_nil ?_
  refine can_e (o := ⟨_,_,_,_,_,_⟩) rfl (fun K hK => ?_)
  go_wp2_with (go_at_call 17; go_must (refine Calls.mono (bare_calls _) ?_; rintro e w5 ⟨E1, E2, f1, f2, rfl, hL, hb_⟩; have HL5 := Hd.mk hL; have HB5 : Hd (Below V.heap.size V w5) := ⟨by first | exact hb_ | exact below_undrew hb_⟩; clear hL hb_))
  refine onK_normal (hK _ _ ⟨clsB _, clsB_of (by first | exact (HB5.out) | exact below_undrew (HB5.out)), fun _ _ h => h, ?_⟩)
  clear hK K
  refine can_e (o := ⟨_,_,_,_,_,_⟩) rfl (fun K hK => ?_)
  go_wp2_with (go_at_call 14; go_must (refine Calls.mono (tsame_calls A1 A2 A3 E1 E2 none n1 n2 n3 1 1 0 c1 c2 c3 f1 f2 0 bareL bareL true (by simp) _ _ w5 (HLV.out.below HB5.out) HL5.out) ?_; rintro e w6 ⟨rfl, hb_⟩; have HB6 := Hd.mk (below_seq HB5.out hb_); clear hb_))
  refine onK_normal (hK _ _ ⟨clsB _, clsB_of (by first | exact (HB6.out) | exact below_undrew (HB6.out)), fun _ _ h => h, ?_⟩)
  clear hK K
  refine can_q (l := [⟨_,_,_,_,_,_⟩, ⟨_,_,_,_,_,_⟩, ⟨_,_,_,_,_,_⟩]) rfl ?_
  repeat (go_big_quiet_step (fail))
  refine wpQuiet_nil ?_
  refine can_e (o := ⟨_,_,_,_,_,_⟩) rfl (fun K hK => ?_)
  go_wp2_with (go_at_call 10; go_must (refine Calls.mono (tright_calls A1 A2 A3 n1 n2 n3 c1 c2 c3 bareL true bare_right _ w6 (HLV.out.below HB6.out)) ?_; rintro e w7 ⟨rfl, hb_⟩; have HB7 := Hd.mk (below_seq HB6.out hb_); clear hb_))
  refine onK_normal (hK _ _ ⟨clsB _, clsB_of (by first | exact (HB7.out) | exact below_undrew (HB7.out)), fun _ _ h => h, ?_⟩)
  clear hK K
  refine can_q (l := [⟨_,_,_,_,_,_⟩, ⟨_,_,_,_,_,_⟩]) rfl ?_
  repeat (go_big_quiet_step (fail))
  refine wpQuiet_nil ?_
  refine can_done ?_
  go_wp2
  go_ret
  exact ⟨rfl, below_seq HBV.out HB7.out⟩
end Go.Proofs.YtpcnekdilecakaaDoor.Tb

/- TablePuts. -/
set_option linter.unusedVariables false
set_option linter.unusedSimpArgs false
namespace Go.Proofs.YtpcnekdilecakaaDoor.Tb
open Go Go.RowKit Go.Proofs.YtpcnekdilecakaaDoor.Can Go.Proofs.YtpcnekdilecakaaDoor.Base
attribute [local go_sem] clsB AB.cell

set_option maxRecDepth 20000 in
set_option maxHeartbeats 8000000 in
theorem tputs_calls (A1 A2 A3 : Option Addr) (n1 n2 n3 c1 c2 c3 : Nat) (l : Lx) (S : Nat → Prop) (w : World) (hL : LX w S A1 A2 A3 n1 n2 n3 l) (hB : Bg w) :
    Calls Tryd.prog 3 #[.agg #[.slice A1 n1 c1, .slice A2 n2 c2, .slice A3 n3 c3]] w fun e w' => e = .returned (.bool true) ∧ Below w.heap.size w w' := by
  obtain ⟨W0, hW0⟩ : ∃ W0, w.alloc (.cells #[.slice A1 n1 c1, .slice A2 n2 c2, .slice A3 n3 c3] 26) = W0 := ⟨_, rfl⟩
  have hBW : Below w.heap.size w W0 := by rw [← hW0]; exact below_alloc (Below.refl _ _) _
  have hx : W0.heap[w.heap.size]? = some (.cells #[.slice A1 n1 c1, .slice A2 n2 c2, .slice A3 n3 c3] 26 (0, 0)) := by rw [← hW0]; exact blk_new _ _ _ rfl
  have HX := Hd.mk hx
  have HBW := Hd.mk hBW
  have HLW := Hd.mk (hL.below hBW)
  have HBG := Hd.mk (hB.below hBW)
  clear hL hBW hB
  go_enter Tryd.func3, Tryd.ntmps3
  go_upto_region 1 with fail
  clear hW0
  have hxc0 := blk_cell hx 0 _ rfl; have hxf0 := blk_frozen hx 0; have hxc1 := blk_cell hx 1 _ rfl; have hxf1 := blk_frozen hx 1; have hxc2 := blk_cell hx 2 _ rfl; have hxf2 := blk_frozen hx 2; have hxl := blk_lt hx
  go_upto_region 3 with (first
    | (go_at_call 6; go_must (refine Calls.mono (rfar_calls A1 A2 A3 n1 n2 n3 c1 c2 c3 l S W0 HLW.out) ?_; rintro e w1 ⟨⟨b, rfl⟩, hb_⟩; have HB1 := Hd.mk hb_; have hx1 := blk_below hx hb_; clear hxc0 hxf0 hxc1 hxf1 hxc2 hxf2 hxl; have hx1c0 := blk_cell hx1 0 _ rfl; have hx1f0 := blk_frozen hx1 0; have hx1c1 := blk_cell hx1 1 _ rfl; have hx1f1 := blk_frozen hx1 1; have hx1c2 := blk_cell hx1 2 _ rfl; have hx1f2 := blk_frozen hx1 2; have hx1l := blk_lt hx1; clear hb_ hx; revert b; refine bool_two ?_ ?_))
    | (go_at_call 7; go_must (refine Calls.mono (alive_calls w1 (HBG.out.below HB1.out)) ?_; rintro e w2 ⟨rfl, hb_⟩; have HB2 := Hd.mk (below_seq HB1.out hb_); clear hb_)))
  · go_ret
    exact ⟨rfl, below_seq HBW.out HB2.out⟩
  cases hrb : rightB l with
  | false =>
    have HRB := Hd.mk hrb
    clear hrb
    go_wp2_with (first
      | (go_at_call 8; go_must (refine Calls.mono (put_bad A1 A2 A3 n1 n2 n3 c1 c2 c3 l HRB.out S w1 (HLW.out.below HB1.out)) ?_; rintro e w2 ⟨rfl, hb_⟩; have HB2 := Hd.mk (below_seq HB1.out hb_); have hx2 := blk_below hx1 hb_; clear hx1c0 hx1f0 hx1c1 hx1f1 hx1c2 hx1f2 hx1l; have hx2c0 := blk_cell hx2 0 _ rfl; have hx2f0 := blk_frozen hx2 0; have hx2c1 := blk_cell hx2 1 _ rfl; have hx2f1 := blk_frozen hx2 1; have hx2c2 := blk_cell hx2 2 _ rfl; have hx2f2 := blk_frozen hx2 2; have hx2l := blk_lt hx2; clear hb_ hx1))
      | (go_at_call 9; go_must (refine Calls.mono (rright_calls A1 A2 A3 n1 n2 n3 c1 c2 c3 l false HRB.out S w2 (HLW.out.below HB2.out)) ?_; rintro e w3 ⟨rfl, hb_⟩; have HB3 := Hd.mk (below_seq HB2.out hb_); have hx3 := blk_below hx2 hb_; clear hx2c0 hx2f0 hx2c1 hx2f1 hx2c2 hx2f2 hx2l; have hx3c0 := blk_cell hx3 0 _ rfl; have hx3f0 := blk_frozen hx3 0; have hx3c1 := blk_cell hx3 1 _ rfl; have hx3f1 := blk_frozen hx3 1; have hx3c2 := blk_cell hx3 2 _ rfl; have hx3f2 := blk_frozen hx3 2; have hx3l := blk_lt hx3; clear hb_ hx2))
      | (go_at_call 10; go_must (refine Calls.mono (tright_calls A1 A2 A3 n1 n2 n3 c1 c2 c3 l false HRB.out S w3 (HLW.out.below HB3.out)) ?_; rintro e w4 ⟨rfl, hb_⟩; have HB4 := Hd.mk (below_seq HB3.out hb_); clear hb_))
      | (go_at_call 7; go_must (refine Calls.mono (alive_calls w4 (HBG.out.below HB4.out)) ?_; rintro e w5 ⟨rfl, hb_⟩; have HB5 := Hd.mk (below_seq HB4.out hb_); clear hb_)))
    go_ret
    exact ⟨rfl, below_seq HBW.out HB5.out⟩
  | true =>
    have HRB := Hd.mk hrb
    have HGP := Hd.mk (get_put hrb)
    have HPL : Hd ((putL l).length ≤ 20000000) := ⟨(RB.of hrb).put_len⟩
    clear hrb
    go_upto_region 10 with (first
      | (go_at_call 8; go_must (refine Calls.mono (put_ok A1 A2 A3 n1 n2 n3 c1 c2 c3 l HRB.out S w1 (HLW.out.below HB1.out) (HBG.out.below HB1.out)) ?_; rintro e w2 ⟨v, rfl, hM, hb_⟩; obtain ⟨A9, n9, c9, rfl, -, hc9, -, hrow⟩ := hM.formN; have HR2 := Hd.mk hrow; have HB2 := Hd.mk (below_seq HB1.out hb_); have hx2 := blk_below hx1 hb_; clear hx1c0 hx1f0 hx1c1 hx1f1 hx1c2 hx1f2 hx1l; have hx2c0 := blk_cell hx2 0 _ rfl; have hx2f0 := blk_frozen hx2 0; have hx2c1 := blk_cell hx2 1 _ rfl; have hx2f1 := blk_frozen hx2 1; have hx2c2 := blk_cell hx2 2 _ rfl; have hx2f2 := blk_frozen hx2 2; have hx2l := blk_lt hx2; clear hb_ hx1 hM hrow))
      | (go_at_call 9; go_must (refine Calls.mono (rright_calls A1 A2 A3 n1 n2 n3 c1 c2 c3 l true HRB.out S w2 (HLW.out.below HB2.out)) ?_; rintro e w3 ⟨rfl, hb_⟩; have HB3 := Hd.mk (below_seq HB2.out hb_); have HR3 := Hd.mk (HR2.out.below (fun k hk => hk.2) hb_); have HZ3 := Hd.mk hb_.size; have hx3 := blk_below hx2 hb_; clear hx2c0 hx2f0 hx2c1 hx2f1 hx2c2 hx2f2 hx2l; have hx3c0 := blk_cell hx3 0 _ rfl; have hx3f0 := blk_frozen hx3 0; have hx3c1 := blk_cell hx3 1 _ rfl; have hx3f1 := blk_frozen hx3 1; have hx3c2 := blk_cell hx3 2 _ rfl; have hx3f2 := blk_frozen hx3 2; have hx3l := blk_lt hx3; clear hb_ hx2))
      | (go_at_call 10; go_must (refine Calls.mono (tright_calls A1 A2 A3 n1 n2 n3 c1 c2 c3 l true HRB.out S w3 (HLW.out.below HB3.out)) ?_; rintro e w4 ⟨rfl, hb_⟩; have HB4 := Hd.mk (below_seq HB3.out hb_); have HR4 := Hd.mk (HR3.out.below (fun k hk => Nat.lt_of_lt_of_le hk.2 HZ3.out) hb_); have HZ4 := Hd.mk (Nat.le_trans HZ3.out hb_.size); have hx4 := blk_below hx3 hb_; clear hx3c0 hx3f0 hx3c1 hx3f1 hx3c2 hx3f2 hx3l; have hx4c0 := blk_cell hx4 0 _ rfl; have hx4f0 := blk_frozen hx4 0; have hx4c1 := blk_cell hx4 1 _ rfl; have hx4f1 := blk_frozen hx4 1; have hx4c2 := blk_cell hx4 2 _ rfl; have hx4f2 := blk_frozen hx4 2; have hx4l := blk_lt hx4; clear hb_ hx3))
      | (go_at_call 11; go_must (refine Calls.mono (get_ok A9 n9 c9 (putL l) l HGP.out _ w4 (fun k hk => Nat.lt_of_lt_of_le hk.2 HZ4.out) HR4.out hc9 (HBG.out.below HB4.out)) ?_; rintro e w5 ⟨⟨E1, E2, E3, m1, m2, m3, e1, e2, e3, rfl, hL⟩, hb_⟩; have HL5 := Hd.mk hL; have HB5 := Hd.mk (below_seq HB4.out hb_); have HR5 := Hd.mk (HR4.out.below (fun k hk => Nat.lt_of_lt_of_le hk.2 HZ4.out) hb_); have HZ5 := Hd.mk (Nat.le_trans HZ4.out hb_.size); have hx5 := blk_below hx4 hb_; clear hx4c0 hx4f0 hx4c1 hx4f1 hx4c2 hx4f2 hx4l; clear hb_ hx4 hL)))
    generalize hV : World.alloc w5 _ = V
    have hbV : Below w5.heap.size w5 V := by rw [← hV]; exact below_alloc (Below.refl _ _) _
    have hy : V.heap[w5.heap.size]? = some (.cells #[.slice E1 m1 e1, .slice E2 m2 e2, .slice E3 m3 e3] 26 (0, 0)) := by rw [← hV]; exact blk_new _ _ _ rfl
    have hx6 := blk_below hx5 hbV
    have HLV := Hd.mk (HLW.out.below (below_seq HB5.out hbV))
    have HLX := Hd.mk (HL5.out.below hbV)
    have HBV := Hd.mk (below_seq HB5.out hbV)
    have hcv : ∀ X : AB V, (convert 29 9 (.slice A9 n9 c9)).run Tryd.prog X.x = .ok (.string (bs (putL l))) X.x := fun X => conv_back 29 9 5 Tryd.underlying29 Tryd.underlying5 Tryd.underlying9 ((HR5.out.below (fun k hk => Nat.lt_of_lt_of_le hk.2 HZ5.out) hbV).move (fun k hk => X.ok k (by have := hbV.size; have := HZ5.out; omega))) (by have := HPL.out; omega)
    have hq : ((bs (putL l)).toList == (bs (putL l)).toList) = true := by rw [str_beq]; exact decide_eq_true rfl
    clear hV hbV hx5
    have hx6c0 := blk_cell hx6 0 _ rfl; have hx6f0 := blk_frozen hx6 0; have hx6c1 := blk_cell hx6 1 _ rfl; have hx6f1 := blk_frozen hx6 1; have hx6c2 := blk_cell hx6 2 _ rfl; have hx6f2 := blk_frozen hx6 2; have hx6l := blk_lt hx6
    have hyc0 := blk_cell hy 0 _ rfl; have hyf0 := blk_frozen hy 0; have hyc1 := blk_cell hy 1 _ rfl; have hyf1 := blk_frozen hy 1; have hyc2 := blk_cell hy 2 _ rfl; have hyf2 := blk_frozen hy 2; have hyl := blk_lt hy
    refine wp_region_can (.q [0, 1, 2, 3, 4, 5] (.e 6 true (.q [7, 8, 9, 10, 11, 12, 13, 14, 15] (.e 16 false (.q [17, 18] (.e 19 false (.q [20, 21] (.done)))))))) (clsB _) (by kernel_rfl) (by kernel_rfl) (by intro _ _ d _ _ h; cases d <;> exact h) (clsB_drew _) ?_
    refine can_q (l := [⟨_,_,_,_,_,_⟩, ⟨_,_,_,_,_,_⟩, ⟨_,_,_,_,_,_⟩, ⟨_,_,_,_,_,_⟩, ⟨_,_,_,_,_,_⟩, ⟨_,_,_,_,_,_⟩]) rfl ?_
    repeat (go_big_quiet_step (fail))
    refine wpQuiet_nil ?_
    refine can_e (o := ⟨_,_,_,_,_,_⟩) rfl (fun K hK => ?_)
    go_wp2_with (go_at_call 12; go_must (refine Calls.mono (rput_calls A1 A2 A3 n1 n2 n3 c1 c2 c3 l HRB.out S V.drew (HLV.out.below (below_drew1 (Below.refl _ _)))) ?_; rintro e w6 ⟨rfl, hb_⟩; have HB6 : Hd (Below V.heap.size V w6) := ⟨below_undrew hb_⟩; clear hb_))
    refine onK_normal (hK _ _ ⟨clsB _, clsB_of (by first | exact (HB6.out) | exact below_undrew (HB6.out)), fun _ _ h => h, ?_⟩)
    clear hK K
    refine can_q (l := [⟨_,_,_,_,_,_⟩, ⟨_,_,_,_,_,_⟩, ⟨_,_,_,_,_,_⟩, ⟨_,_,_,_,_,_⟩, ⟨_,_,_,_,_,_⟩, ⟨_,_,_,_,_,_⟩, ⟨_,_,_,_,_,_⟩, ⟨_,_,_,_,_,_⟩, ⟨_,_,_,_,_,_⟩]) rfl ?_
    repeat (go_big_quiet_step (fail))
    refine wpQuiet_nil ?_
    refine can_e (o := ⟨_,_,_,_,_,_⟩) rfl (fun K hK => ?_)
    go_wp2_with (go_at_call 13; go_must (refine Calls.mono (rsame_calls E1 E2 E3 A1 A2 A3 m1 m2 m3 n1 n2 n3 e1 e2 e3 c1 c2 c3 l l true (by simp) _ _ w6 (HLX.out.below HB6.out) (HLV.out.below HB6.out)) ?_; rintro e w7 ⟨rfl, hb_⟩; have HB7 := Hd.mk (below_seq HB6.out hb_); clear hb_))
    refine onK_normal (hK _ _ ⟨clsB _, clsB_of (by first | exact (HB7.out) | exact below_undrew (HB7.out)), fun _ _ h => h, ?_⟩)
    clear hK K
    refine can_q (l := [⟨_,_,_,_,_,_⟩, ⟨_,_,_,_,_,_⟩]) rfl ?_
    repeat (go_big_quiet_step (fail))
    refine wpQuiet_nil ?_
    refine can_e (o := ⟨_,_,_,_,_,_⟩) rfl (fun K hK => ?_)
    go_wp2_with (go_at_call 7; go_must (refine Calls.mono (alive_calls w7 ((HBG.out.below HBV.out).below HB7.out)) ?_; rintro e w8 ⟨rfl, hb_⟩; have HB8 := Hd.mk (below_seq HB7.out hb_); clear hb_))
    refine onK_normal (hK _ _ ⟨clsB _, clsB_of (by first | exact (HB8.out) | exact below_undrew (HB8.out)), fun _ _ h => h, ?_⟩)
    clear hK K
    refine can_q (l := [⟨_,_,_,_,_,_⟩, ⟨_,_,_,_,_,_⟩]) rfl ?_
    repeat (go_big_quiet_step (fail))
    refine wpQuiet_nil ?_
    refine can_done ?_
    go_wp2
    go_ret
    exact ⟨rfl, below_seq HBW.out (below_seq HBV.out HB8.out)⟩
end Go.Proofs.YtpcnekdilecakaaDoor.Tb

/- TableGets. -/
set_option linter.unusedVariables false
set_option linter.unusedSimpArgs false
namespace Go.Proofs.YtpcnekdilecakaaDoor.Tb
open Go Go.RowKit Go.Proofs.YtpcnekdilecakaaDoor.Can Go.Proofs.YtpcnekdilecakaaDoor.Base
attribute [local go_sem] clsB AB.cell

set_option maxRecDepth 20000 in
set_option maxHeartbeats 8000000 in
theorem tgets_calls (A0 : Option Addr) (n0 c0 : Nat) (b : List UInt8) (S : Nat → Prop) (w : World) (hS : ∀ k, S k → k < w.heap.size) (hrow : Row bT w S A0 n0 b) (hc0 : n0 ≤ c0) (hB : Bg w) :
    Calls Tryd.prog 4 #[.slice A0 n0 c0] w fun e w' => e = .returned (.bool true) ∧ Below w.heap.size w w' := by
  have hle := hrow.le
  have HROW := Hd.mk hrow
  have HS := Hd.mk hS
  have HBG := Hd.mk hB
  clear hrow hS hB
  by_cases h3000 : 3000 < n0
  · go_enter Tryd.func4, Tryd.ntmps4
    go_wp2_with (go_at_call 7; go_must (refine Calls.mono (alive_calls w HBG.out) ?_; rintro e w2 ⟨rfl, hb_⟩; have HB2 := Hd.mk hb_; clear hb_))
    go_ret
    exact ⟨rfl, HB2.out⟩
  cases hg : getF b with
  | none =>
    have HJ := Hd.mk (get_none A0 n0 c0 b hg S w HS.out HROW.out hc0 HBG.out)
    clear hg
    go_enter Tryd.func4, Tryd.ntmps4
    go_wp2_with (first
      | (go_at_call 11; go_must (refine Calls.mono HJ.out ?_; rintro e w1 ⟨rfl, hb_⟩; have HB1 := Hd.mk hb_; clear hb_))
      | (go_at_call 7; go_must (refine Calls.mono (alive_calls _ (HBG.out.below (below_alloc HB1.out _))) ?_; rintro e w2 ⟨rfl, hb_⟩; have HB2 := Hd.mk (below_seq (below_alloc HB1.out _) hb_); clear hb_)))
    go_ret
    exact ⟨rfl, HB2.out⟩
  | some l =>
    have HJ := Hd.mk (get_ok A0 n0 c0 b l hg S w HS.out HROW.out hc0 HBG.out)
    have HRP := Hd.mk (get_some hg)
    clear hg
    go_enter Tryd.func4, Tryd.ntmps4
    go_upto_region 6 with (go_at_call 11; go_must (refine Calls.mono HJ.out ?_; rintro e w1 ⟨⟨A1, A2, A3, n1, n2, n3, c1, c2, c3, rfl, hL⟩, hb_⟩; have HL1 := Hd.mk hL; have HB1 := Hd.mk hb_; clear hL hb_))
    generalize hV : World.alloc w1 _ = V
    have hbV : Below w1.heap.size w1 V := by rw [← hV]; exact below_alloc (Below.refl _ _) _
    have hx : V.heap[w1.heap.size]? = some (.cells #[.slice A1 n1 c1, .slice A2 n2 c2, .slice A3 n3 c3] 26 (0, 0)) := by rw [← hV]; exact blk_new _ _ _ rfl
    have HLV := Hd.mk (HL1.out.below hbV)
    have HBV := Hd.mk (below_seq HB1.out hbV)
    have hcv : ∀ X : AB V, (convert 29 9 (.slice A0 n0 c0)).run Tryd.prog X.x = .ok (.string (bs b)) X.x := fun X => conv_back 29 9 5 Tryd.underlying29 Tryd.underlying5 Tryd.underlying9 ((HROW.out.below HS.out HBV.out).move (fun k hk => X.ok k (Nat.lt_of_lt_of_le (HS.out k hk) HBV.out.size))) (by rw [HROW.out.1]; omega)
    have hq : ((bs (putL l)).toList == (bs b).toList) = true := by rw [HRP.out.2, str_beq]; exact decide_eq_true rfl
    clear hV hbV
    have hxc0 := blk_cell hx 0 _ rfl; have hxf0 := blk_frozen hx 0; have hxc1 := blk_cell hx 1 _ rfl; have hxf1 := blk_frozen hx 1; have hxc2 := blk_cell hx 2 _ rfl; have hxf2 := blk_frozen hx 2; have hxl := blk_lt hx
    refine wp_region_can (.q [0] (.e 1 false (.q [2, 3, 5, 6] (.e 4 true (.q [7, 8, 9] (.e 10 false (.q [11, 12] (.done)))))))) (clsB _) (by kernel_rfl) (by kernel_rfl) (by intro _ _ d _ _ h; cases d <;> exact h) (clsB_drew _) ?_
    refine can_q (l := [⟨_,_,_,_,_,_⟩]) rfl ?_
    repeat (go_big_quiet_step (fail))
    refine wpQuiet_nil ?_
    refine can_e (o := ⟨_,_,_,_,_,_⟩) rfl (fun K hK => ?_)
    go_wp2_with (go_at_call 9; go_must (refine Calls.mono (rright_calls A1 A2 A3 n1 n2 n3 c1 c2 c3 l true HRP.out.1 _ V.drew (HLV.out.below (below_drew1 (Below.refl _ _)))) ?_; rintro e w6 ⟨rfl, hb_⟩; have HB6 : Hd (Below V.heap.size V w6) := ⟨below_undrew hb_⟩; clear hb_))
    refine onK_normal (hK _ _ ⟨clsB _, clsB_of (by first | exact (HB6.out) | exact below_undrew (HB6.out)), fun _ _ h => h, ?_⟩)
    clear hK K
    refine can_q (l := [⟨_,_,_,_,_,_⟩, ⟨_,_,_,_,_,_⟩, ⟨_,_,_,_,_,_⟩, ⟨_,_,_,_,_,_⟩]) rfl ?_
    repeat (go_big_quiet_step (fail))
    refine wpQuiet_nil ?_
    refine can_e (o := ⟨_,_,_,_,_,_⟩) rfl (fun K hK => ?_)
    go_wp2_with (go_at_call 12; go_must (refine Calls.mono (rput_calls A1 A2 A3 n1 n2 n3 c1 c2 c3 l HRP.out.1 _ w6 (HLV.out.below HB6.out)) ?_; rintro e w7 ⟨rfl, hb_⟩; have HB7 := Hd.mk (below_seq HB6.out hb_); clear hb_))
    refine onK_normal (hK _ _ ⟨clsB _, clsB_of (by first | exact (HB7.out) | exact below_undrew (HB7.out)), fun _ _ h => h, ?_⟩)
    clear hK K
    refine can_q (l := [⟨_,_,_,_,_,_⟩, ⟨_,_,_,_,_,_⟩, ⟨_,_,_,_,_,_⟩]) rfl ?_
    repeat (go_big_quiet_step (fail))
    refine wpQuiet_nil ?_
    refine can_e (o := ⟨_,_,_,_,_,_⟩) rfl (fun K hK => ?_)
    go_wp2_with (go_at_call 7; go_must (refine Calls.mono (alive_calls w7 ((HBG.out.below HBV.out).below HB7.out)) ?_; rintro e w8 ⟨rfl, hb_⟩; have HB8 := Hd.mk (below_seq HB7.out hb_); clear hb_))
    refine onK_normal (hK _ _ ⟨clsB _, clsB_of (by first | exact (HB8.out) | exact below_undrew (HB8.out)), fun _ _ h => h, ?_⟩)
    clear hK K
    refine can_q (l := [⟨_,_,_,_,_,_⟩, ⟨_,_,_,_,_,_⟩]) rfl ?_
    repeat (go_big_quiet_step (fail))
    refine wpQuiet_nil ?_
    refine can_done ?_
    go_wp2
    go_ret
    exact ⟨rfl, below_seq HBV.out HB8.out⟩
end Go.Proofs.YtpcnekdilecakaaDoor.Tb
