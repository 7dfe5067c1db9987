/- Put. -/
import Derived.Test.YtbmpaokicphdjaaDoorS6
set_option linter.unusedVariables false
set_option linter.unusedSimpArgs false
namespace Go.Proofs.YtbmpaokicphdjaaDoor.Fn
open Go Go.RowKit Go.Proofs.YtbmpaokicphdjaaDoor.Can Go.Proofs.YtbmpaokicphdjaaDoor.Base
attribute [local go_sem] clsB AB.cell nilH1 nilH2

theorem put_old (base p room k : Nat) (F : Nat → Prop) (xs : List (Nat × List Nat)) (A : Option Addr) (c gs r : Nat) (ws : List Nat) (w : World) (hB : Tbl w base p F room xs) (hK : Wok r ws) (h1 : Wd w A gs ws) (hT : TabAt 0 Lib.deBruijn64tab w) (h0 : 0 < w.heap.size) (hk : (xs.map lst)[k]? = some (elemsI ws)) :
    Calls Tryd.prog 30 #[.pointer (some ⟨p, 0, none⟩), .agg #[.slice A ws.length c, .int .i64 r]] w fun e w' => e = .returned (.tuple #[.int .i64 k, .bool false]) ∧ Below w.heap.size w w' := by
  obtain ⟨v, g, S, P, hI, hl1, hl2, hl3, fp, fg, fv, fS⟩ := hB.ex
  obtain ⟨Av, cv, rfl, hcv, hAv, hrow⟩ := hI.own.form
  have hobj := hI.obj
  unfold tabV at hobj
  have hxr := hB.xr
  have hr2 := hB.r2
  have hpl := blk_lt hobj
  have hbp := hI.bp
  have HOBJ := Hd.mk hobj
  obtain ⟨nx, hnx⟩ : ∃ n, xs.length = n := ⟨_, rfl⟩
  rw [hnx] at hobj hcv hrow hl1 hl2 hxr
  obtain ⟨n, hn⟩ : ∃ n, P.length = n := ⟨_, rfl⟩
  rw [hn] at hobj hl1 hl2 hl3
  have HNX := Hd.mk hnx; have HN := Hd.mk hn; have HI := Hd.mk hI; have HROW := Hd.mk hrow; have HB := Hd.mk hB
  have HMADE := Hd.mk (fun (W : World) (hb : Below w.heap.size w W) => made_calls p _ _ _ _ _ _ W (blk_below HOBJ.out hb))
  have HLT := Hd.mk (own_lt hI.own)
  have HPLC := Hd.mk (fun (W : World) (hb : Below w.heap.size w W) => place_calls base p g gs r room xs.length _ A c S xs P ws W (hI.below hb) (by rw [hn, hnx]; omega) hK (h1.below hb) (fun j hj => (hb.cell (p := ⟨0, j, none⟩) h0).trans (hT j hj)) (Nat.lt_of_lt_of_le h0 hb.size))
  obtain ⟨q, hq⟩ : ∃ q, ws.length = q := ⟨_, rfl⟩
  rw [hq] at HPLC ⊢
  have HKK := Hd.mk hk
  clear hI hrow hB hnx hn hAv fv fS fp fg hK h1 hT hobj hk hq
  go_enter Tryd.func30, Tryd.ntmps30
  go_wp2_with (first
    | (go_at_call 77; have hq_ := hs1; clear hq_; go_must (refine Calls.mono (HPLC.out _ (below_alloc (Below.refl _ _) _)) ?_; rintro e w2 ⟨i, b, rfl, hiP, hpl2, hb2⟩; rcases hpl2 with ⟨rfl, k2, hk2, hL, hP2⟩ | ⟨rfl, _, hab⟩; rotate_left; exact absurd HKK.out (hab k (by have := (List.getElem?_eq_some_iff.1 HKK.out).1; rwa [List.length_map] at this)); obtain rfl := nodup_get HI.out.nod hL HKK.out; have HB2 := Hd.mk (below_seq (below_alloc (Below.refl _ _) _) hb2); have hp2 := blk_below HOBJ.out HB2.out; rw [HNX.out, HN.out] at hp2; rw [HN.out] at hiP; have hc2 := Blk.icell (HI.out.below HB2.out).blk hP2; have hgl2 := (HI.out.below HB2.out).blk.lt; have hp2c0 := blk_cell hp2 0 _ rfl; have hp2f0 := blk_frozen hp2 0; have hp2c1 := blk_cell hp2 1 _ rfl; have hp2f1 := blk_frozen hp2 1; have hp2c2 := blk_cell hp2 2 _ rfl; have hp2f2 := blk_frozen hp2 2; have hp2c3 := blk_cell hp2 3 _ rfl; have hp2f3 := blk_frozen hp2 3; have hp2l := blk_lt hp2; clear hb2 hL hk2))
    | (go_at_call 76; go_must (refine Calls.mono (HMADE.out _ (below_alloc (Below.refl _ _) _)) ?_; rintro e w1 ⟨rfl, rfl⟩; have hs1 := Hd.mk trivial; have hx1 := blk_new w (.cells #[.slice A q c, .int .i64 r] 28) _ rfl; have hx1c0 := blk_cell hx1 0 _ rfl; have hx1f0 := blk_frozen hx1 0; have hx1c1 := blk_cell hx1 1 _ rfl; have hx1f1 := blk_frozen hx1 1; have hx1l := blk_lt hx1)))
  go_ret2
  exact ⟨rfl, HB2.out⟩
theorem put_full (base p room : Nat) (F : Nat → Prop) (xs : List (Nat × List Nat)) (A : Option Addr) (c gs r : Nat) (ws : List Nat) (w : World) (hB : Tbl w base p F room xs) (hK : Wok r ws) (h1 : Wd w A gs ws) (hT : TabAt 0 Lib.deBruijn64tab w) (h0 : 0 < w.heap.size) (hk : elemsI ws ∉ xs.map lst) (hf : room ≤ xs.length) :
    Calls Tryd.prog 30 #[.pointer (some ⟨p, 0, none⟩), .agg #[.slice A ws.length c, .int .i64 r]] w fun e w' => e = .returned (.tuple #[.int .i64 (-1), .bool false]) ∧ Below w.heap.size w w' := by
  have HFU := Hd.mk (fun (W : World) (hb : Below w.heap.size w W) => full_calls base p room F xs W (hB.below hb))
  rw [decide_eq_true hf] at HFU
  obtain ⟨v, g, S, P, hI, hl1, hl2, hl3, fp, fg, fv, fS⟩ := hB.ex
  obtain ⟨Av, cv, rfl, hcv, hAv, hrow⟩ := hI.own.form
  have hobj := hI.obj
  unfold tabV at hobj
  have hxr := hB.xr
  have hr2 := hB.r2
  have hpl := blk_lt hobj
  have hbp := hI.bp
  have HOBJ := Hd.mk hobj
  obtain ⟨nx, hnx⟩ : ∃ n, xs.length = n := ⟨_, rfl⟩
  rw [hnx] at hobj hcv hrow hl1 hl2 hxr
  obtain ⟨n, hn⟩ : ∃ n, P.length = n := ⟨_, rfl⟩
  rw [hn] at hobj hl1 hl2 hl3
  have HNX := Hd.mk hnx; have HN := Hd.mk hn; have HI := Hd.mk hI; have HROW := Hd.mk hrow; have HB := Hd.mk hB
  have HMADE := Hd.mk (fun (W : World) (hb : Below w.heap.size w W) => made_calls p _ _ _ _ _ _ W (blk_below HOBJ.out hb))
  have HLT := Hd.mk (own_lt hI.own)
  have HPLC := Hd.mk (fun (W : World) (hb : Below w.heap.size w W) => place_calls base p g gs r room xs.length _ A c S xs P ws W (hI.below hb) (by rw [hn, hnx]; omega) hK (h1.below hb) (fun j hj => (hb.cell (p := ⟨0, j, none⟩) h0).trans (hT j hj)) (Nat.lt_of_lt_of_le h0 hb.size))
  obtain ⟨q, hq⟩ : ∃ q, ws.length = q := ⟨_, rfl⟩
  rw [hq] at HPLC ⊢
  have HKK := Hd.mk hk
  clear hI hrow hB hnx hn hAv fv fS fp fg hK h1 hT hobj hk hq
  go_enter Tryd.func30, Tryd.ntmps30
  go_wp2_with (first
    | (go_at_call 38; have hq_ := hs2; clear hq_; go_must (refine Calls.mono (HFU.out _ HB2.out) ?_; rintro e w3 ⟨rfl, hb3⟩; have HB3 := Hd.mk (below_seq HB2.out hb3); clear hb3))
    | (go_at_call 77; have hq_ := hs1; clear hq_; go_must (refine Calls.mono (HPLC.out _ (below_alloc (Below.refl _ _) _)) ?_; rintro e w2 ⟨i, b, rfl, hiP, hpl2, hb2⟩; rcases hpl2 with ⟨rfl, k2, hk2, hL, hP2⟩ | ⟨rfl, _, hab⟩; exact absurd (List.mem_of_getElem? hL) HKK.out; have HB2 := Hd.mk (below_seq (below_alloc (Below.refl _ _) _) hb2); have hs2 := Hd.mk trivial; clear hb2 hab))
    | (go_at_call 76; go_must (refine Calls.mono (HMADE.out _ (below_alloc (Below.refl _ _) _)) ?_; rintro e w1 ⟨rfl, rfl⟩; have hs1 := Hd.mk trivial; have hx1 := blk_new w (.cells #[.slice A q c, .int .i64 r] 28) _ rfl; have hx1c0 := blk_cell hx1 0 _ rfl; have hx1f0 := blk_frozen hx1 0; have hx1c1 := blk_cell hx1 1 _ rfl; have hx1f1 := blk_frozen hx1 1; have hx1l := blk_lt hx1)))
  go_ret2
  exact ⟨rfl, HB3.out⟩
theorem infoSet : (Tryd.prog.info? 28).map (fun i => (i.zero, i.size, i.bytes)) = some (some (.agg #[.slice none 0 0, .int .i64 0]), 2, 32) := by kernel_rfl
set_option maxHeartbeats 2000000 in
theorem put_new (base p room : Nat) (F : Nat → Prop) (xs : List (Nat × List Nat)) (A : Option Addr) (c gs r : Nat) (ws : List Nat) (w : World) (hB : Tbl w base p F room xs) (hK : Wok r ws) (h1 : Wd w A gs ws) (hT : TabAt 0 Lib.deBruijn64tab w) (h0 : 0 < w.heap.size) (hk : elemsI ws ∉ xs.map lst) (hf : xs.length < room) (hb0 : 0 < base) :
    Calls Tryd.prog 30 #[.pointer (some ⟨p, 0, none⟩), .agg #[.slice A ws.length c, .int .i64 r]] w fun e w' => e = .returned (.tuple #[.int .i64 xs.length, .bool true]) ∧ ∃ F', Tbl w' base p F' room (xs ++ [(r, ws)]) ∧ Fr F w w' ∧ ∀ k, F' k → F k ∨ w.heap.size ≤ k := by
  have HFU := Hd.mk (fun (W : World) (hb : Below w.heap.size w W) => full_calls base p room F xs W (hB.below hb))
  rw [decide_eq_false (by omega)] at HFU
  obtain ⟨v, g, S, P, hI, hl1, hl2, hl3, fp, fg, fv, fS⟩ := hB.ex
  obtain ⟨Av, cv, rfl, hcv, hAv, hrow⟩ := hI.own.form
  have hobj := hI.obj
  unfold tabV at hobj
  have hxr := hB.xr
  have hr2 := hB.r2
  have hpl := blk_lt hobj
  have hbp := hI.bp
  have HOBJ := Hd.mk hobj
  obtain ⟨nx, hnx⟩ : ∃ n, xs.length = n := ⟨_, rfl⟩
  rw [hnx] at hobj hcv hrow hl1 hl2 hxr
  obtain ⟨n, hn⟩ : ∃ n, P.length = n := ⟨_, rfl⟩
  rw [hn] at hobj hl1 hl2 hl3
  have HNX := Hd.mk hnx; have HN := Hd.mk hn; have HI := Hd.mk hI; have HROW := Hd.mk hrow; have HB := Hd.mk hB
  have HMADE := Hd.mk (fun (W : World) (hb : Below w.heap.size w W) => made_calls p _ _ _ _ _ _ W (blk_below HOBJ.out hb))
  have HLT := Hd.mk (own_lt hI.own)
  have HCP := Hd.mk (fun (W : World) (hb : Below w.heap.size w W) => copy_calls A c gs r ws W hK (h1.below hb))
  have HTT : Hd (TabAt 0 Lib.deBruijn64tab w) := ⟨hT⟩
  have HK := Hd.mk hK
  have HPLC := Hd.mk (fun (W : World) (hb : Below w.heap.size w W) => place_calls base p g gs r room xs.length _ A c S xs P ws W (hI.below hb) (by rw [hn, hnx]; omega) hK (h1.below hb) (fun j hj => (hb.cell (p := ⟨0, j, none⟩) h0).trans (hT j hj)) (Nat.lt_of_lt_of_le h0 hb.size))
  obtain ⟨q, hq⟩ : ∃ q, ws.length = q := ⟨_, rfl⟩
  rw [hq] at HPLC ⊢
  have HKK := Hd.mk hk; have HQ := Hd.mk hq
  rw [hnx] at hf ⊢
  rw [hq] at HCP
  have HF4 := Hd.mk (And.intro fp (And.intro fg (And.intro fv fS)))
  clear hI hrow hB hnx hn hAv fv fS fp fg hK h1 hT hobj hk hq
  go_enter Tryd.func30, Tryd.ntmps30
  go_wp2_with (first
    | (go_at_call 38; have hq_ := hs2; clear hq_; go_must (refine Calls.mono (HFU.out _ HB2.out) ?_; rintro e w3 ⟨rfl, hb3⟩; have HB3 := Hd.mk (below_seq HB2.out hb3); have HX3 := Hd.mk (blk_below hx1 (below_seq hb2 hb3)); clear hb3))
    | (go_at_call 77; have hq_ := hs1; clear hq_; go_must (refine Calls.mono (HPLC.out _ (below_alloc (Below.refl _ _) _)) ?_; rintro e w2 ⟨i, b, rfl, hiP, hpl2, hb2⟩; rcases hpl2 with ⟨rfl, k2, hk2, hL, hP2⟩ | ⟨rfl, hpos, hab⟩; exact absurd (List.mem_of_getElem? hL) HKK.out; have HB2 := Hd.mk (below_seq (below_alloc (Below.refl _ _) _) hb2); have hs2 := Hd.mk trivial; have HPOS := Hd.mk hpos; have HIP := Hd.mk hiP; clear hab hpos hiP))
    | (go_at_call 76; go_must (refine Calls.mono (HMADE.out _ (below_alloc (Below.refl _ _) _)) ?_; rintro e w1 ⟨rfl, rfl⟩; have hs1 := Hd.mk trivial; have hx1 := blk_new w (.cells #[.slice A q c, .int .i64 r] 28) _ rfl; have hx1c0 := blk_cell hx1 0 _ rfl; have hx1f0 := blk_frozen hx1 0; have hx1c1 := blk_cell hx1 1 _ rfl; have hx1f1 := blk_frozen hx1 1; have hx1l := blk_lt hx1)))
  clear hb2
  clear hx1c0 hx1f0 hx1c1 hx1f1 hx1l
  clear hx1
  have hx3 := HX3.out
  have HI3 := Hd.mk (HI.out.below HB3.out)
  have hp3 := HI3.out.obj
  unfold tabV at hp3
  rw [HNX.out, HN.out] at hp3
  have hx3c0 := blk_cell hx3 0 _ rfl; have hx3f0 := blk_frozen hx3 0; have hx3c1 := blk_cell hx3 1 _ rfl; have hx3f1 := blk_frozen hx3 1; have hx3l := blk_lt hx3
  have hp3c0 := blk_cell hp3 0 _ rfl; have hp3f0 := blk_frozen hp3 0; have hp3c1 := blk_cell hp3 1 _ rfl; have hp3f1 := blk_frozen hp3 1; have hp3c2 := blk_cell hp3 2 _ rfl; have hp3f2 := blk_frozen hp3 2; have hp3c3 := blk_cell hp3 3 _ rfl; have hp3f3 := blk_frozen hp3 3; have hp3l := blk_lt hp3
  have hz3 := HB3.out.size
  go_wp2
  refine wp_region_can (.q [0, 1, 2, 3, 4, 5] (.e 6 true (.e 7 true (.e 8 false (.q [9, 10] (.e 11 false (.done))))))) (clsB _) (by kernel_rfl) (by kernel_rfl) (by intro _ _ d _ _ h; cases d <;> exact h) (clsB_drew _) ?_
  refine can_q (l := [⟨_,_,_,_,_,_⟩, ⟨_,_,_,_,_,_⟩, ⟨_,_,_,_,_,_⟩, ⟨_,_,_,_,_,_⟩, ⟨_,_,_,_,_,_⟩, ⟨_,_,_,_,_,_⟩]) rfl ?_
  repeat (go_big_quiet_step (fail))
  refine wpQuiet_nil ?_
  refine can_e (o := ⟨_,_,_,_,_,_⟩) rfl (fun K hK => ?_)
  go_wp2_with (go_at_call 20; go_must (refine Calls.mono (HCP.out _ (below_drew1 HB3.out)) ?_; rintro e w4 ⟨g4, rfl, hg4, hgl4, hw4, hb4⟩; replace hb4 := below_undrew hb4; have HW4 := Hd.mk hw4; have HB4 := Hd.mk hb4; clear hw4 hb4))
  refine onK_normal (hK _ _ ⟨clsB _, clsB_of (by first | exact (HB4.out) | exact below_undrew (HB4.out)), fun _ _ h => h, ?_⟩)
  clear hK K
  rw [size_drew] at hg4
  have hz4 := HB4.out.size
  refine can_e (o := ⟨_,_,_,_,_,_⟩) rfl (fun K hK => ?_)
  go_wp2_with fail
  refine onK_normal (hK _ _ ⟨clsB _, clsB_of (by first | exact ((below_alloc HB4.out _)) | exact below_undrew ((below_alloc HB4.out _))), fun _ _ h => h, ?_⟩)
  clear hK K
  have HOW0 : Hd (Base.Own setT w base 28 S (.slice Av nx cv) xs) := ⟨by have := HI.out.own; rwa [HNX.out] at this⟩
  have hown4 : ∀ k, (Value.slice Av nx cv).ownBlock = some k → k < w.heap.size := fun k hk => own_lt HOW0.out k (.inr hk)
  have HO4 := Hd.mk hown4; clear hown4
  obtain ⟨U, hU⟩ : ∃ U, w4.alloc (Obj.cells #[Value.slice (some ⟨g4, 0, none⟩) q q, Value.int .i64 r] 28 (0, 0)) = U := ⟨_, rfl⟩
  have HBU : Hd (Below w.heap.size w U) := ⟨by rw [← hU]; exact below_alloc (below_seq HB3.out HB4.out) _⟩
  have HBX : Hd (U.heap[w4.heap.size]? = some (.cells #[.slice (some ⟨g4, 0, none⟩) q q, .int .i64 r] 28 (0, 0))) := ⟨by rw [← hU]; exact blk_new _ _ _ rfl⟩
  have HWU : Hd (Wd U (some ⟨g4, 0, none⟩) g4 ws) := ⟨by rw [← hU]; exact HW4.out.below (below_alloc (Below.refl _ _) _)⟩
  have hzU : U.heap.size = w4.heap.size + 1 := by rw [← hU, size_alloc]
  rw [hU]
  clear hU
  refine can_e (o := ⟨_,_,_,_,_,_⟩) rfl (fun K hK => ?_)
  go_wp2_with (at_builtin; go_must (refine append_one setT (S' := fun k => k = g4) rfl (.tmp 33) (.tmp 36) 79 28 _ 32 rfl Tryd.underlying79 infoSet rfl (by decide) (by decide) base (.slice Av nx cv) xs (r, ws) [.slice (some ⟨g4, 0, none⟩) q q, .int .i64 r] w4.heap.size rfl rfl HBX.out ⟨some ⟨g4, 0, none⟩, q, g4, by rw [HQ.out], HK.out, HWU.out, fun _ => rfl⟩ (HOW0.out.below HBU.out) (fun k hk => by subst hk; exact ⟨by omega, fun he => by have := HO4.out _ he; omega⟩) (fun he => by have := HO4.out _ he; omega) (by omega) (by rw [HNX.out]; omega) ?_; intro v1 w5 hown hgr hat; have HOWN := Hd.mk hown; have HGR := Hd.mk hgr; have HAT := Hd.mk hat; clear hown hgr hat))
  refine onK_normal (hK _ _ ⟨fun _ => True, trivial, (fun h => by cases h), ?_⟩)
  clear hK K
  obtain ⟨A1, c1, rfl, -, -, -⟩ := HOWN.out.form
  have hlen : (xs ++ [(r, ws)]).length = nx + 1 := by rw [List.length_append, HNX.out]; rfl
  have HLEN := Hd.mk hlen
  rw [hlen] at HOWN HAT ⊢
  clear hlen
  refine can_q (l := [⟨_,_,_,_,_,_⟩, ⟨_,_,_,_,_,_⟩]) rfl ?_
  repeat (go_big_quiet_step (fail))
  refine wpQuiet_nil ?_
  have hvp : (Value.slice Av nx cv).ownBlock ≠ some p := by have := HI.out.vp; rwa [HNX.out] at this
  have hvg : (Value.slice Av nx cv).ownBlock ≠ some g := by have := HI.out.vg; rwa [HNX.out] at this
  have hgw : g < w.heap.size := HI.out.blk.lt
  have hp5 := (HGR.out.block p (by omega) (fun he => hvp he.symm)).trans (blk_below HOBJ.out HBU.out)
  rw [HNX.out, HN.out] at hp5
  have HG5 : Hd (Blk iE w5 3 g P) := ⟨(HI.out.blk.below HBU.out).move (HGR.out.block g (by omega) (fun he => hvg he.symm))⟩
  have HF5 : Hd (Fr (fun k => (Value.slice Av nx cv).ownBlock = some k) w w5) := ⟨⟨(HBU.out.mono (Nat.zero_le _)).trans (below_by (base := 0) HGR.out (Nat.zero_le _) (fun _ _ => Nat.zero_le _)), fun b hb hx => (HGR.out.block b (by omega) (fun he => hx he.symm)).trans (HBU.out.block b hb)⟩⟩
  have hz5 := HGR.out.size
  clear hx3c0 hx3f0 hx3c1 hx3f1 hx3l
  clear hp3c0 hp3f0 hp3c1 hp3f1 hp3c2 hp3f2 hp3c3 hp3f3 hp3l
  have hp5c0 := blk_cell hp5 0 _ rfl; have hp5f0 := blk_frozen hp5 0; have hp5c1 := blk_cell hp5 1 _ rfl; have hp5f1 := blk_frozen hp5 1; have hp5c2 := blk_cell hp5 2 _ rfl; have hp5f2 := blk_frozen hp5 2; have hp5c3 := blk_cell hp5 3 _ rfl; have hp5f3 := blk_frozen hp5 3; have hp5l := blk_lt hp5
  refine can_e (o := ⟨_,_,_,_,_,_⟩) rfl (fun K hK => ?_)
  go_wp2_with fail
  refine onK_normal (hK _ _ ⟨fun _ => True, trivial, (fun h => by cases h), ?_⟩)
  clear hK K
  refine can_done ?_
  generalize hV5 : World.setCell w5 _ _ = V5
  have hn1 : ∀ k, (Value.slice A1 (nx + 1) c1).ownBlock = some k → k ≠ p ∧ k ≠ g := fun k hk => by
    rcases HAT.out with h | h
    · rw [h] at hk
      exact ⟨fun e => hvp (by rw [hk, e]), fun e => hvg (by rw [hk, e])⟩
    · rw [h] at hk
      cases hk
      exact ⟨by omega, by omega⟩
  have HNV : Hd (∀ k, (Value.slice A1 (nx + 1) c1).ownBlock = some k → (Value.slice Av nx cv).ownBlock = some k ∨ w.heap.size ≤ k) := ⟨fun k hk => by
    rcases HAT.out with h | h
    · rw [h] at hk; exact .inl hk
    · rw [h] at hk; cases hk; exact .inr (by omega)⟩
  have HT5 : Hd (TbI V5 base p (.slice A1 (nx + 1) c1) g (fun k => S k ∨ k = g4 ∨ k = w4.heap.size) room (xs ++ [(r, ws)]) P nx) := ⟨by
    have hsp := HI.out.sp
    have hsg := HI.out.sg
    refine ⟨?_, ?_, ?_, HI.out.pg, fun h => (hn1 p h).1 rfl, fun h => (hn1 g h).2 rfl, ?_, ?_, HI.out.bp, HI.out.bg, ?_, ?_, ?_, ?_, HI.out.pl⟩
    · rw [← hV5, HN.out]; exact blk_set hp5 0 _ _ rfl
    · rw [← hV5]
      refine HOWN.out.set (fun k hk he => ?_) _
      subst he
      rcases hk with (h | h | h) | h
      · exact hsp h
      · omega
      · omega
      · exact (hn1 _ h).1 rfl
    · rw [← hV5]; exact HG5.out.far (by show ¬ g = p; exact fun e => HI.out.pg e.symm) _
    · rintro (h | h | h)
      · exact hsp h
      · omega
      · omega
    · rintro (h | h | h)
      · exact hsg h
      · omega
      · omega
    · rintro k (h | h | h)
      · exact HI.out.sb k h
      · omega
      · omega
    · have := HI.out.inv.grow [elemsI ws]
      rw [HNX.out] at this
      rw [List.map_append]
      exact this
    · rw [List.map_append]
      refine List.nodup_append.2 ⟨HI.out.nod, by simp, fun a ha b hb e => ?_⟩
      have hb' : b = elemsI ws := by simpa [lst] using hb
      exact HKK.out (by rw [← hb', ← e]; exact ha)
    · rw [HLEN.out]; omega⟩
  have HF5' : Hd (Fr (fun k => (Value.slice Av nx cv).ownBlock = some k ∨ k = p) w V5) := ⟨by rw [← hV5]; exact Fr.set (X := fun k => (Value.slice Av nx cv).ownBlock = some k ∨ k = p) (HF5.out.mono fun _ h => .inl h) (.inl (.inr rfl)) _ _⟩
  clear hV5 HG5 HF5 HGR HOWN HAT HWU HBX
  clear hp5c0 hp5f0 hp5c1 hp5f1 hp5c2 hp5f2 hp5c3 hp5f3 hp5l
  clear hp5 hp3 hx3
  have hpV := HT5.out.obj
  unfold tabV at hpV
  rw [HN.out] at hpV
  have hin : i < n := by rw [← HN.out]; exact HIP.out
  have HPOS' := Hd.mk HPOS.out
  obtain ⟨d, hid, hfree, hnf⟩ := HPOS.out
  have hPi : P[i]? = some (-1) := by
    rw [hid, plc_get (h := hashS) HI.out.inv.pos d, hfree]
  have hci := Blk.icell HT5.out.blk hPi
  have hfi := HT5.out.blk.frozen i
  have hgV := HT5.out.blk.lt
  have hzVV := HF5'.out.size
  have HX : Hd (((xs ++ [(r, ws)]).map lst)[nx]? = some (elemsI ws)) := ⟨by rw [List.map_append, List.getElem?_append_right (by rw [List.length_map, HNX.out]; exact Nat.le_refl _), List.length_map, HNX.out, Nat.sub_self]; rfl⟩
  have HT6 : Hd (TbI (V5.drew.setCell ⟨g, i, none⟩ (.int .i64 nx)) base p (.slice A1 (nx + 1) c1) g (fun k => S k ∨ k = g4 ∨ k = w4.heap.size) room (xs ++ [(r, ws)]) (P.set i (nx : Int)) (nx + 1)) := ⟨(HT5.out.below (below_drew1 (Below.refl _ _))).store HX.out hid hfree hnf⟩
  have hsub : ((nx : Int) + 1) - 1 = (nx : Int) := by omega
  clear hPi hid hfree hnf HPOS HIP
  have hpVc0 := blk_cell hpV 0 _ rfl; have hpVf0 := blk_frozen hpV 0; have hpVc1 := blk_cell hpV 1 _ rfl; have hpVf1 := blk_frozen hpV 1; have hpVc2 := blk_cell hpV 2 _ rfl; have hpVf2 := blk_frozen hpV 2; have hpVc3 := blk_cell hpV 3 _ rfl; have hpVf3 := blk_frozen hpV 3; have hpVl := blk_lt hpV
  go_wp2
  refine wp_region_can (.q [0, 1, 2, 3, 4, 5, 6, 7, 8, 9, 10, 11] (.e 12 false (.done))) (clsB _) (by kernel_rfl) (by kernel_rfl) (by intro _ _ d _ _ h; cases d <;> exact h) (clsB_drew _) ?_
  refine can_q (l := [⟨_,_,_,_,_,_⟩, ⟨_,_,_,_,_,_⟩, ⟨_,_,_,_,_,_⟩, ⟨_,_,_,_,_,_⟩, ⟨_,_,_,_,_,_⟩, ⟨_,_,_,_,_,_⟩, ⟨_,_,_,_,_,_⟩, ⟨_,_,_,_,_,_⟩, ⟨_,_,_,_,_,_⟩, ⟨_,_,_,_,_,_⟩, ⟨_,_,_,_,_,_⟩, ⟨_,_,_,_,_,_⟩]) rfl ?_
  repeat (go_big_quiet_step (fail))
  refine wpQuiet_nil ?_
  refine can_e (o := ⟨_,_,_,_,_,_⟩) rfl (fun K hK => ?_)
  go_wp2_with fail
  refine onK_normal (hK _ _ ⟨fun _ => True, trivial, (fun h => by cases h), ?_⟩)
  clear hK K
  refine can_done ?_
  generalize hV6 : World.drew _ = V6
  have HT6' : Hd (TbI V6 base p (.slice A1 (nx + 1) c1) g (fun k => S k ∨ k = g4 ∨ k = w4.heap.size) room (xs ++ [(r, ws)]) (P.set i (nx : Int)) (nx + 1)) := ⟨by rw [← hV6]; exact HT6.out⟩
  have HF6 : Hd (Fr F w V6) := ⟨by
    rw [← hV6]
    have h9 := HF4.out
    rw [HNX.out] at h9
    exact (Fr.set (X := F) (HF5'.out.mono fun k h => by rcases h with h | h; exact h9.2.2.1 k h; exact h ▸ h9.1) (.inl h9.2.1) _ _).drew⟩
  have hz6 : V5.heap.size = V6.heap.size := by rw [← hV6, size_drew, size_set]
  have hp6 := HT6'.out.obj
  unfold tabV at hp6
  rw [List.length_set, HN.out] at hp6
  have hgl6 := HT6'.out.blk.lt
  clear hV6 HT6
  clear hpVc0 hpVf0 hpVc1 hpVf1 hpVc2 hpVf2 hpVc3 hpVf3 hpVl
  clear hpV hci hfi
  have HFOK : Hd (∀ k, (k = p ∨ k = g ∨ S k) → F k) := ⟨fun k hk => by
    rcases hk with h | h | h
    · exact h ▸ HF4.out.1
    · exact h ▸ HF4.out.2.1
    · exact HF4.out.2.2.2 k h⟩
  have hbw : base ≤ w.heap.size := by omega
  obtain ⟨n2, hn2⟩ : ∃ m : Nat, 2 * n = m := ⟨_, rfl⟩
  have e2 : (2 : Int) * (n : Int) = (n2 : Int) := by omega
  have e3 : (3 : Int) * (((nx : Int) + 1) + 2) = ((3 * (nx + 3) : Nat) : Int) := by omega
  obtain ⟨m3, hm3⟩ : ∃ m, 3 * (nx + 3) = m := ⟨_, rfl⟩
  rw [hm3] at e3
  by_cases hbig : n2 < m3
  · have HG6 : Hd (TbG V6 base p (.slice A1 (nx + 1) c1) (.slice (some ⟨g, 0, none⟩) n n) (fun k => S k ∨ k = g4 ∨ k = w4.heap.size) room (xs ++ [(r, ws)])) := ⟨by have := HT6'.out.g; rwa [List.length_set, HN.out] at this⟩
    have HTV : Hd (TabAt 0 Lib.deBruijn64tab V6) := ⟨fun j hj => by
      refine (World.cell?_of_block (w := w) (HF6.out.same 0 h0 (fun h => ?_))).trans (HTT.out j hj)
      have := (HB.out.fb 0 h).1
      omega⟩
    have hm32 : m3 < 2 * n2 := by omega
    have hp6c0 := blk_cell hp6 0 _ rfl; have hp6f0 := blk_frozen hp6 0; have hp6c1 := blk_cell hp6 1 _ rfl; have hp6f1 := blk_frozen hp6 1; have hp6c2 := blk_cell hp6 2 _ rfl; have hp6f2 := blk_frozen hp6 2; have hp6c3 := blk_cell hp6 3 _ rfl; have hp6f3 := blk_frozen hp6 3; have hp6l := blk_lt hp6
    go_wp2
    refine wp_region_can (.q [0, 1, 2, 3, 4, 5, 6, 7, 8, 9, 10, 11, 12, 13] (.done)) (clsB _) (by kernel_rfl) (by kernel_rfl) (by intro _ _ d _ _ h; cases d <;> exact h) (clsB_drew _) ?_
    refine can_q (l := [⟨_,_,_,_,_,_⟩, ⟨_,_,_,_,_,_⟩, ⟨_,_,_,_,_,_⟩, ⟨_,_,_,_,_,_⟩, ⟨_,_,_,_,_,_⟩, ⟨_,_,_,_,_,_⟩, ⟨_,_,_,_,_,_⟩, ⟨_,_,_,_,_,_⟩, ⟨_,_,_,_,_,_⟩, ⟨_,_,_,_,_,_⟩, ⟨_,_,_,_,_,_⟩, ⟨_,_,_,_,_,_⟩, ⟨_,_,_,_,_,_⟩, ⟨_,_,_,_,_,_⟩]) rfl ?_
    repeat (go_big_quiet_step (fail))
    refine wpQuiet_nil ?_
    refine can_done ?_
    have HG6d := Hd.mk (show TbG V6.drew base p (.slice A1 (nx + 1) c1) (.slice (some ⟨g, 0, none⟩) n n) (fun k => S k ∨ k = g4 ∨ k = w4.heap.size) room (xs ++ [(r, ws)]) from ⟨HG6.out.obj, HG6.out.own.move (fun _ _ => rfl) (Nat.le_refl _), HG6.out.vp, HG6.out.sp, HG6.out.bp, HG6.out.sb, HG6.out.nod, HG6.out.xl⟩)
    go_wp2_with (go_at_call 75; go_must (refine Calls.mono (grow_calls base p room n2 (.slice A1 (nx + 1) c1) (.slice (some ⟨g, 0, none⟩) n n) (fun k => S k ∨ k = g4 ∨ k = w4.heap.size) (xs ++ [(r, ws)]) V6.drew HG6d.out (by rw [size_drew]; omega) (by rw [HLEN.out]; omega) (by omega) HTV.out (by omega)) ?_; rintro e w7 ⟨⟨u, rfl⟩, g7, P7, hI7, hP7, hg7, hgl7, hf7⟩; have HI7 := Hd.mk hI7; have HP7 := Hd.mk hP7; have HF7 := Hd.mk hf7; have hz7 := hf7.size; have hp7 := hI7.obj; unfold tabV at hp7; clear hp6c0 hp6f0 hp6c1 hp6f1 hp6c2 hp6f2 hp6c3 hp6f3 hp6l; have hp7c0 := blk_cell hp7 0 _ rfl; have hp7f0 := blk_frozen hp7 0; have hp7c1 := blk_cell hp7 1 _ rfl; have hp7f1 := blk_frozen hp7 1; have hp7c2 := blk_cell hp7 2 _ rfl; have hp7f2 := blk_frozen hp7 2; have hp7c3 := blk_cell hp7 3 _ rfl; have hp7f3 := blk_frozen hp7 3; have hp7l := blk_lt hp7; clear hI7 hP7 hf7))
    go_ret2
    refine ⟨by first | rfl | (rw [show ((nx : Int) + 1) - 1 = (nx : Int) by omega]), fun k => F k ∨ (w.heap.size ≤ k ∧ k < w7.heap.size), ⟨⟨_, g7, _, P7, HI7.out, by rw [HLEN.out, HP7.out]; omega, by rw [HLEN.out, HP7.out]; omega, by rw [HP7.out]; omega, .inl (HFOK.out p (.inl rfl)), .inr ⟨by rw [size_drew] at hg7; omega, hgl7⟩, fun k hk => ?_, fun k hk => ?_⟩, HB.out.r1, HB.out.r2, by rw [HLEN.out]; omega, fun k hk => ?_⟩, ?_, fun k hk => ?_⟩
    · have hk7 := own_lt HI7.out.own k (.inr hk)
      rcases Nat.lt_or_ge k w.heap.size with h | h
      · refine .inl ?_
        rcases HNV.out k hk with h2 | h2
        · have h9 := HF4.out.2.2.1 k
          rw [HNX.out] at h9
          exact h9 h2
        · omega
      · exact .inr ⟨h, hk7⟩
    · have hk7 := own_lt HI7.out.own k (.inl hk)
      rcases hk with h | h | h
      · exact .inl (HFOK.out k (.inr (.inr h)))
      · exact .inr ⟨by omega, hk7⟩
      · exact .inr ⟨by omega, hk7⟩
    · rcases hk with h | h
      · exact ⟨(HB.out.fb k h).1, by have := (HB.out.fb k h).2; rw [size_drew] at hz7; omega⟩
      · exact ⟨by omega, h.2⟩
    · exact (HF6.out.drew).trans (HF7.out.mono fun k h => by have h' : k = p := h; subst h'; exact HFOK.out k (.inl rfl))
    · rcases hk with h | h
      · exact .inl h
      · exact .inr h.1
  · have hp6c0 := blk_cell hp6 0 _ rfl; have hp6f0 := blk_frozen hp6 0; have hp6c1 := blk_cell hp6 1 _ rfl; have hp6f1 := blk_frozen hp6 1; have hp6c2 := blk_cell hp6 2 _ rfl; have hp6f2 := blk_frozen hp6 2; have hp6c3 := blk_cell hp6 3 _ rfl; have hp6f3 := blk_frozen hp6 3; have hp6l := blk_lt hp6
    go_wp2
    refine wp_region_can (.q [0, 1, 2, 3, 4, 5, 6, 7, 8, 9, 10, 11, 12, 13] (.done)) (clsB _) (by kernel_rfl) (by kernel_rfl) (by intro _ _ d _ _ h; cases d <;> exact h) (clsB_drew _) ?_
    refine can_q (l := [⟨_,_,_,_,_,_⟩, ⟨_,_,_,_,_,_⟩, ⟨_,_,_,_,_,_⟩, ⟨_,_,_,_,_,_⟩, ⟨_,_,_,_,_,_⟩, ⟨_,_,_,_,_,_⟩, ⟨_,_,_,_,_,_⟩, ⟨_,_,_,_,_,_⟩, ⟨_,_,_,_,_,_⟩, ⟨_,_,_,_,_,_⟩, ⟨_,_,_,_,_,_⟩, ⟨_,_,_,_,_,_⟩, ⟨_,_,_,_,_,_⟩, ⟨_,_,_,_,_,_⟩]) rfl ?_
    repeat (go_big_quiet_step (fail))
    refine wpQuiet_nil ?_
    refine can_done ?_
    go_wp2
    go_ret2
    have HTd := HT6'.out.below (below_drew1 (Below.refl _ _))
    refine ⟨by first | rfl | (rw [show ((nx : Int) + 1) - 1 = (nx : Int) by omega]), fun k => F k ∨ (w.heap.size ≤ k ∧ k < V6.heap.size), ⟨⟨_, g, _, P.set i (nx : Int), by rw [HLEN.out]; exact HTd, by rw [HLEN.out, List.length_set, HN.out]; omega, by rw [HLEN.out, List.length_set, HN.out]; omega, by rw [List.length_set, HN.out]; omega, .inl (HFOK.out p (.inl rfl)), .inl (HFOK.out g (.inr (.inl rfl))), fun k hk => ?_, fun k hk => ?_⟩, HB.out.r1, HB.out.r2, by rw [HLEN.out]; omega, fun k hk => ?_⟩, HF6.out.drew, fun k hk => ?_⟩
    · have hk7 := own_lt HT6'.out.own k (.inr hk)
      rcases Nat.lt_or_ge k w.heap.size with h | h
      · refine .inl ?_
        rcases HNV.out k hk with h2 | h2
        · have h9 := HF4.out.2.2.1 k
          rw [HNX.out] at h9
          exact h9 h2
        · omega
      · exact .inr ⟨h, hk7⟩
    · have hk7 := own_lt HT6'.out.own k (.inl hk)
      rcases hk with h | h | h
      · exact .inl (HFOK.out k (.inr (.inr h)))
      · exact .inr ⟨by omega, hk7⟩
      · exact .inr ⟨by omega, hk7⟩
    · rcases hk with h | h
      · exact ⟨(HB.out.fb k h).1, by have := (HB.out.fb k h).2; rw [size_drew]; omega⟩
      · exact ⟨by omega, by rw [size_drew]; exact h.2⟩
    · rcases hk with h | h
      · exact .inl h
      · exact .inr h.1
end Go.Proofs.YtbmpaokicphdjaaDoor.Fn
