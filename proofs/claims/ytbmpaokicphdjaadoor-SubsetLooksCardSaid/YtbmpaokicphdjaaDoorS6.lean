/- Find and Get. -/
import Derived.Test.YtbmpaokicphdjaaDoorS5
set_option linter.unusedVariables false
set_option linter.unusedSimpArgs false
namespace Go.Proofs.YtbmpaokicphdjaaDoor.Fn
open Go Go.RowKit Go.Proofs.YtbmpaokicphdjaaDoor.Can Go.Proofs.YtbmpaokicphdjaaDoor.Base
attribute [local go_sem] clsB AB.cell nilH1 nilH2

theorem cell_tmp_row {P : Program} {fn : Func} {p u : Tmp} {ty : TypeId} (h : fn.results = #[.cell p ty, .tmp u]) (tmps : Array Value) (w : World) (g : Nat) (t : TypeId) (cs : Array Value) (fr : Nat × Nat) (d : TypeDesc)
    (hp : tmps.getD p undef = .pointer (some ⟨g, 0, none⟩)) (hg : w.heap[g]? = some (.cells cs t fr))
    (hu : P.underlying ty = some d) (hd : (match d with | .struct _ | .array _ _ => true | _ => false) = true) (hi : (P.info? ty).map (·.size) = some cs.size) :
    (results fn tmps).run P w = .ok (.tuple #[.agg cs, tmps.getD u undef]) w := by
  have hp' : tmps[p]?.getD undef = .pointer (some ⟨g, 0, none⟩) := by simpa using hp
  rw [results_cell_tmp h]
  simp [hp', asAddr, run_loadVar_row w g t ty cs fr d hg hu hd hi, Result.andThen]

theorem find_old (base p room k : Nat) (F : Nat → Prop) (xs : List (Nat × List Nat)) (A : Option Addr) (c gs r : Nat) (ws : List Nat) (w : World) (hB : Tbl w base p F room xs) (hK : Wok r ws) (h1 : Wd w A gs ws) (hT : TabAt 0 Lib.deBruijn64tab w) (h0 : 0 < w.heap.size) (hk : (xs.map lst)[k]? = some (elemsI ws)) :
    Calls Tryd.prog 36 #[.pointer (some ⟨p, 0, none⟩), .agg #[.slice A ws.length c, .int .i64 r]] w fun e w' => e = .returned (.tuple #[.int .i64 k, .bool true]) ∧ Below w.heap.size w w' := by
  obtain ⟨v, g, S, P, hI, hl1, hl2, hl3, fp, fg, fv, fS⟩ := hB.ex
  obtain ⟨Av, cv, rfl, hcv, hAv, hrow⟩ := hI.own.form
  have hobj := hI.obj
  unfold tabV at hobj
  have hxr := hB.xr
  have hr2 := hB.r2
  have hpl := blk_lt hobj
  have hbp := hI.bp
  have HOBJ := Hd.mk hobj
  obtain ⟨nx, hnx⟩ : ∃ n, xs.length = n := ⟨_, rfl⟩
  rw [hnx] at hobj hcv hrow hl1 hl2 hxr
  obtain ⟨n, hn⟩ : ∃ n, P.length = n := ⟨_, rfl⟩
  rw [hn] at hobj hl1 hl2 hl3
  have HNX := Hd.mk hnx; have HN := Hd.mk hn; have HI := Hd.mk hI; have HROW := Hd.mk hrow; have HB := Hd.mk hB
  have HMADE := Hd.mk (fun (W : World) (hb : Below w.heap.size w W) => made_calls p _ _ _ _ _ _ W (blk_below HOBJ.out hb))
  have HLT := Hd.mk (own_lt hI.own)
  have HPLC := Hd.mk (fun (W : World) (hb : Below w.heap.size w W) => place_calls base p g gs r room xs.length _ A c S xs P ws W (hI.below hb) (by rw [hn, hnx]; omega) hK (h1.below hb) (fun j hj => (hb.cell (p := ⟨0, j, none⟩) h0).trans (hT j hj)) (Nat.lt_of_lt_of_le h0 hb.size))
  obtain ⟨q, hq⟩ : ∃ q, ws.length = q := ⟨_, rfl⟩
  rw [hq] at HPLC ⊢
  have HKK := Hd.mk hk
  clear hI hrow hB hnx hn hAv fv fS fp fg hK h1 hT hobj hk hq
  go_enter Tryd.func36, Tryd.ntmps36
  go_wp2_with (first
    | (go_at_call 77; have hq_ := hs1; clear hq_; go_must (refine Calls.mono (HPLC.out _ (below_alloc (Below.refl _ _) _)) ?_; rintro e w2 ⟨i, b, rfl, hiP, hpl2, hb2⟩; rcases hpl2 with ⟨rfl, k2, hk2, hL, hP2⟩ | ⟨rfl, _, hab⟩; rotate_left; exact absurd HKK.out (hab k (by have := (List.getElem?_eq_some_iff.1 HKK.out).1; rwa [List.length_map] at this)); obtain rfl := nodup_get HI.out.nod hL HKK.out; have HB2 := Hd.mk (below_seq (below_alloc (Below.refl _ _) _) hb2); have hp2 := blk_below HOBJ.out HB2.out; rw [HNX.out, HN.out] at hp2; rw [HN.out] at hiP; have hc2 := Blk.icell (HI.out.below HB2.out).blk hP2; have hgl2 := (HI.out.below HB2.out).blk.lt; have hp2c0 := blk_cell hp2 0 _ rfl; have hp2f0 := blk_frozen hp2 0; have hp2c1 := blk_cell hp2 1 _ rfl; have hp2f1 := blk_frozen hp2 1; have hp2c2 := blk_cell hp2 2 _ rfl; have hp2f2 := blk_frozen hp2 2; have hp2c3 := blk_cell hp2 3 _ rfl; have hp2f3 := blk_frozen hp2 3; have hp2l := blk_lt hp2; clear hb2 hL hk2))
    | (go_at_call 76; go_must (refine Calls.mono (HMADE.out _ (below_alloc (Below.refl _ _) _)) ?_; rintro e w1 ⟨rfl, rfl⟩; have hs1 := Hd.mk trivial; have hx1 := blk_new w (.cells #[.slice A q c, .int .i64 r] 28) _ rfl; have hx1c0 := blk_cell hx1 0 _ rfl; have hx1f0 := blk_frozen hx1 0; have hx1c1 := blk_cell hx1 1 _ rfl; have hx1f1 := blk_frozen hx1 1; have hx1l := blk_lt hx1)))
  go_ret2
  exact ⟨rfl, HB2.out⟩
theorem find_no (base p room : Nat) (F : Nat → Prop) (xs : List (Nat × List Nat)) (A : Option Addr) (c gs r : Nat) (ws : List Nat) (w : World) (hB : Tbl w base p F room xs) (hK : Wok r ws) (h1 : Wd w A gs ws) (hT : TabAt 0 Lib.deBruijn64tab w) (h0 : 0 < w.heap.size) (hk : elemsI ws ∉ xs.map lst) :
    Calls Tryd.prog 36 #[.pointer (some ⟨p, 0, none⟩), .agg #[.slice A ws.length c, .int .i64 r]] w fun e w' => e = .returned (.tuple #[.int .i64 (-1), .bool false]) ∧ Below w.heap.size w w' := by
  obtain ⟨v, g, S, P, hI, hl1, hl2, hl3, fp, fg, fv, fS⟩ := hB.ex
  obtain ⟨Av, cv, rfl, hcv, hAv, hrow⟩ := hI.own.form
  have hobj := hI.obj
  unfold tabV at hobj
  have hxr := hB.xr
  have hr2 := hB.r2
  have hpl := blk_lt hobj
  have hbp := hI.bp
  have HOBJ := Hd.mk hobj
  obtain ⟨nx, hnx⟩ : ∃ n, xs.length = n := ⟨_, rfl⟩
  rw [hnx] at hobj hcv hrow hl1 hl2 hxr
  obtain ⟨n, hn⟩ : ∃ n, P.length = n := ⟨_, rfl⟩
  rw [hn] at hobj hl1 hl2 hl3
  have HNX := Hd.mk hnx; have HN := Hd.mk hn; have HI := Hd.mk hI; have HROW := Hd.mk hrow; have HB := Hd.mk hB
  have HMADE := Hd.mk (fun (W : World) (hb : Below w.heap.size w W) => made_calls p _ _ _ _ _ _ W (blk_below HOBJ.out hb))
  have HLT := Hd.mk (own_lt hI.own)
  have HPLC := Hd.mk (fun (W : World) (hb : Below w.heap.size w W) => place_calls base p g gs r room xs.length _ A c S xs P ws W (hI.below hb) (by rw [hn, hnx]; omega) hK (h1.below hb) (fun j hj => (hb.cell (p := ⟨0, j, none⟩) h0).trans (hT j hj)) (Nat.lt_of_lt_of_le h0 hb.size))
  obtain ⟨q, hq⟩ : ∃ q, ws.length = q := ⟨_, rfl⟩
  rw [hq] at HPLC ⊢
  have HKK := Hd.mk hk
  clear hI hrow hB hnx hn hAv fv fS fp fg hK h1 hT hobj hk hq
  go_enter Tryd.func36, Tryd.ntmps36
  go_wp2_with (first
    | (go_at_call 77; have hq_ := hs1; clear hq_; go_must (refine Calls.mono (HPLC.out _ (below_alloc (Below.refl _ _) _)) ?_; rintro e w2 ⟨i, b, rfl, hiP, hpl2, hb2⟩; rcases hpl2 with ⟨rfl, k2, hk2, hL, hP2⟩ | ⟨rfl, _, hab⟩; exact absurd (List.mem_of_getElem? hL) HKK.out; have HB2 := Hd.mk (below_seq (below_alloc (Below.refl _ _) _) hb2); clear hb2 hab))
    | (go_at_call 76; go_must (refine Calls.mono (HMADE.out _ (below_alloc (Below.refl _ _) _)) ?_; rintro e w1 ⟨rfl, rfl⟩; have hs1 := Hd.mk trivial; have hx1 := blk_new w (.cells #[.slice A q c, .int .i64 r] 28) _ rfl; have hx1c0 := blk_cell hx1 0 _ rfl; have hx1f0 := blk_frozen hx1 0; have hx1c1 := blk_cell hx1 1 _ rfl; have hx1f1 := blk_frozen hx1 1; have hx1l := blk_lt hx1)))
  go_ret2
  exact ⟨rfl, HB2.out⟩
theorem get_calls (base p room k : Nat) (F : Nat → Prop) (xs : List (Nat × List Nat)) (x : Nat × List Nat) (w : World) (hB : Tbl w base p F room xs) (hk : xs[k]? = some x) :
    Calls Tryd.prog 39 #[.pointer (some ⟨p, 0, none⟩), .int .i64 k] w fun e w' => ∃ g', e = .returned (.tuple #[.agg #[.slice (some ⟨g', 0, none⟩) x.2.length x.2.length, .int .i64 x.1], .bool true]) ∧ Wok x.1 x.2 ∧ w.heap.size ≤ g' ∧ g' < w'.heap.size ∧ Wd w' (some ⟨g', 0, none⟩) g' x.2 ∧ Below w.heap.size w w' := by
  obtain ⟨v, g, S, P, hI, hl1, hl2, hl3, fp, fg, fv, fS⟩ := hB.ex
  obtain ⟨Av, cv, rfl, hcv, hAv, hrow⟩ := hI.own.form
  have hobj := hI.obj
  unfold tabV at hobj
  have hxr := hB.xr
  have hr2 := hB.r2
  have hpl := blk_lt hobj
  have hbp := hI.bp
  have HOBJ := Hd.mk hobj
  obtain ⟨nx, hnx⟩ : ∃ n, xs.length = n := ⟨_, rfl⟩
  rw [hnx] at hobj hcv hrow hl1 hl2 hxr
  obtain ⟨n, hn⟩ : ∃ n, P.length = n := ⟨_, rfl⟩
  rw [hn] at hobj hl1 hl2 hl3
  have HNX := Hd.mk hnx; have HN := Hd.mk hn; have HI := Hd.mk hI; have HROW := Hd.mk hrow; have HB := Hd.mk hB
  have HMADE := Hd.mk (fun (W : World) (hb : Below w.heap.size w W) => made_calls p _ _ _ _ _ _ W (blk_below HOBJ.out hb))
  have HLT := Hd.mk (own_lt hI.own)
  have hknx : k < nx := by rw [← hnx]; exact (List.getElem?_eq_some_iff.1 hk).1
  obtain ⟨b, off, z, A', c', g', rfl, _, hbl, hz, hc0, hc1, hok', hwd', hS'⟩ := set_get hrow k hknx
  obtain rfl : z = x := by rw [hk] at hz; exact (Option.some.inj hz).symm
  obtain ⟨zr, zw⟩ := z
  dsimp only at *
  have HCP := Hd.mk (fun (W : World) (hb : Below w.heap.size w W) => copy_calls A' c' g' zr zw W hok' (hwd'.below hb))
  obtain ⟨zn, hzn⟩ : ∃ n, zw.length = n := ⟨_, rfl⟩
  rw [hzn] at hc0 HCP ⊢
  have HOK := Hd.mk hok'
  clear hI hrow hB hnx hn hAv fv fS fp fg hk hz hok' hwd' hS' hzn
  have hobjc0 := blk_cell hobj 0 _ rfl; have hobjf0 := blk_frozen hobj 0; have hobjc1 := blk_cell hobj 1 _ rfl; have hobjf1 := blk_frozen hobj 1; have hobjc2 := blk_cell hobj 2 _ rfl; have hobjf2 := blk_frozen hobj 2; have hobjc3 := blk_cell hobj 3 _ rfl; have hobjf3 := blk_frozen hobj 3; have hobjl := blk_lt hobj
  clear hobj
  go_enter Tryd.func39, Tryd.ntmps39
  go_wp2_with (first
    | (go_at_call 20; have hq_ := hs1; clear hq_; go_must (refine Calls.mono (HCP.out _ (below_alloc (Below.refl _ _) _)) ?_; rintro e w2 ⟨g2, rfl, hg2, hgl2, hw2, hb2⟩; have HW2 := Hd.mk hw2; have HB2 := Hd.mk (below_seq (below_alloc (Below.refl _ _) _) hb2); have hx2 := blk_below hx1 hb2; have hx2c0 := blk_cell hx2 0 _ rfl; have hx2f0 := blk_frozen hx2 0; have hx2c1 := blk_cell hx2 1 _ rfl; have hx2f1 := blk_frozen hx2 1; have hx2l := blk_lt hx2; clear hb2 hw2))
    | (go_at_call 76; go_must (refine Calls.mono (HMADE.out _ (below_alloc (Below.refl _ _) _)) ?_; rintro e w1 ⟨rfl, rfl⟩; have hs1 := Hd.mk trivial; have hx1 := blk_new w (.cells #[.slice none 0 0, .int .i64 0] 28) _ rfl)))
  have hx2l := blk_lt hx2
  have hb9 := below_set (below_set HB2.out (Nat.le_refl _) 0 (.slice (some ⟨g2, 0, none⟩) zn zn)) (Nat.le_refl _) 1 (.int .i64 zr)
  refine bodyPost_ret (cell_tmp_row rfl _ _ w.heap.size 28 #[.slice (some ⟨g2, 0, none⟩) zn zn, .int .i64 zr] (0, 0) _ rfl (blk_set (blk_set hx2 0 _ _ rfl) 1 _ _ rfl) Tryd.underlying28 rfl (by kernel_rfl)) rfl ?_
  rw [size_alloc] at hg2
  refine ⟨g2, rfl, HOK.out, by omega, by simp only [size_set]; exact hgl2, ?_, hb9⟩
  exact (HW2.out.move (Below.heap_setCell _ _ _ _ (by show ¬ g2 = w.heap.size; omega))).move (Below.heap_setCell _ _ _ _ (by show ¬ g2 = w.heap.size; omega))
theorem get_over (base p room : Nat) (k : Nat) (F : Nat → Prop) (xs : List (Nat × List Nat)) (w : World) (hB : Tbl w base p F room xs) (hk : xs.length ≤ k) :
    Calls Tryd.prog 39 #[.pointer (some ⟨p, 0, none⟩), .int .i64 k] w fun e w' => e = .returned (.tuple #[.agg #[.slice none 0 0, .int .i64 0], .bool false]) ∧ Below w.heap.size w w' := by
  obtain ⟨v, g, S, P, hI, hl1, hl2, hl3, fp, fg, fv, fS⟩ := hB.ex
  obtain ⟨Av, cv, rfl, hcv, hAv, hrow⟩ := hI.own.form
  have hobj := hI.obj
  unfold tabV at hobj
  have hxr := hB.xr
  have hr2 := hB.r2
  have hpl := blk_lt hobj
  have hbp := hI.bp
  have HOBJ := Hd.mk hobj
  obtain ⟨nx, hnx⟩ : ∃ n, xs.length = n := ⟨_, rfl⟩
  rw [hnx] at hobj hcv hrow hl1 hl2 hxr
  obtain ⟨n, hn⟩ : ∃ n, P.length = n := ⟨_, rfl⟩
  rw [hn] at hobj hl1 hl2 hl3
  have HNX := Hd.mk hnx; have HN := Hd.mk hn; have HI := Hd.mk hI; have HROW := Hd.mk hrow; have HB := Hd.mk hB
  have HMADE := Hd.mk (fun (W : World) (hb : Below w.heap.size w W) => made_calls p _ _ _ _ _ _ W (blk_below HOBJ.out hb))
  have HLT := Hd.mk (own_lt hI.own)
  rw [hnx] at hk
  clear hI hrow hB hnx hn hAv fv fS fp fg
  have hobjc0 := blk_cell hobj 0 _ rfl; have hobjf0 := blk_frozen hobj 0; have hobjc1 := blk_cell hobj 1 _ rfl; have hobjf1 := blk_frozen hobj 1; have hobjc2 := blk_cell hobj 2 _ rfl; have hobjf2 := blk_frozen hobj 2; have hobjc3 := blk_cell hobj 3 _ rfl; have hobjf3 := blk_frozen hobj 3; have hobjl := blk_lt hobj
  clear hobj
  go_enter Tryd.func39, Tryd.ntmps39
  go_wp2_with (go_at_call 76; go_must (refine Calls.mono (HMADE.out _ (below_alloc (Below.refl _ _) _)) ?_; rintro e w1 ⟨rfl, rfl⟩))
  refine bodyPost_ret (cell_tmp_row rfl _ _ w.heap.size 28 #[.slice none 0 0, .int .i64 0] (0, 0) _ rfl (by first | exact blk_new _ _ _ rfl | exact blk_set (blk_set (blk_new _ _ _ rfl) 0 _ _ rfl) 1 _ _ rfl) Tryd.underlying28 rfl (by kernel_rfl)) rfl ?_
  exact ⟨rfl, by first | exact below_alloc (Below.refl _ _) _ | exact below_set (below_set (below_alloc (Below.refl _ _) _) (Nat.le_refl _) _ _) (Nat.le_refl _) _ _⟩
theorem get_nil (k : Int) (w : World) : Calls Tryd.prog 39 #[.pointer none, .int .i64 k] w fun e w' => e = .returned (.tuple #[.agg #[.slice none 0 0, .int .i64 0], .bool false]) ∧ Below w.heap.size w w' := by
  go_enter Tryd.func39, Tryd.ntmps39
  go_wp2_with (go_at_call 76; go_must (refine Calls.mono (made_nil _) ?_; rintro e w1 ⟨rfl, rfl⟩))
  refine bodyPost_ret (cell_tmp_row rfl _ _ w.heap.size 28 #[.slice none 0 0, .int .i64 0] (0, 0) _ rfl (by first | exact blk_new _ _ _ rfl | exact blk_set (blk_set (blk_new _ _ _ rfl) 0 _ _ rfl) 1 _ _ rfl) Tryd.underlying28 rfl (by kernel_rfl)) rfl ?_
  exact ⟨rfl, by first | exact below_alloc (Below.refl _ _) _ | exact below_set (below_set (below_alloc (Below.refl _ _) _) (Nat.le_refl _) _ _) (Nat.le_refl _) _ _⟩
end Go.Proofs.YtbmpaokicphdjaaDoor.Fn
