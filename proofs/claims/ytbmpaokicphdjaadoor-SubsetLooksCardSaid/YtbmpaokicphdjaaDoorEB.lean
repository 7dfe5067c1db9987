/- Texts: E6, E7, E8. -/
import Derived.Test.YtbmpaokicphdjaaDoorEA
set_option linter.unusedVariables false
set_option linter.unusedSimpArgs false
/- A set's state, whatever set; where a state goes by a class. -/
namespace Go.Proofs.YtbmpaokicphdjaaDoor.Fn
open Go Go.RowKit Go.Proofs.YtbmpaokicphdjaaDoor.Can Go.Proofs.YtbmpaokicphdjaaDoor.Base
attribute [local go_sem] clsB AB.cell

/-- What does not change while a builder works. -/
structure Env (w : World) (z : Nat) (M : BC) (q : List St) (S : Nat → Prop) : Prop where
  nf : NF w S M.A q
  sz : ∀ k, S k → k < z
  len : q.length = M.n
  chk : checkV M.st q = 0
  most : 0 ≤ M.most ∧ M.most ≤ 1024
  tab : TabAt 0 Lib.deBruijn64tab w
  z0 : 0 < z
  zw : z ≤ w.heap.size
theorem Env.move {w w' : World} {z : Nat} {M : BC} {q : List St} {S : Nat → Prop} (h : Env w z M q S) (hb : Below z w w') : Env w' z M q S :=
  ⟨⟨h.nf.row.move (fun b hs => hb.block b (h.sz b hs)), fun k hk => by have := h.sz k hk; have := hb.size; have := h.zw; omega⟩, h.sz, h.len, h.chk, h.most, tab_below h.z0 hb h.tab, h.z0, Nat.le_trans h.zw hb.size⟩
def wrZ (Z : Nat → Nat → Prop) : Nat → Prop := fun b => Z 0 b ∨ Z 1 b ∨ Z 3 b ∨ Z 5 b
theorem Zn.below {w w' : World} {z : Nat} {Z : Nat → Nat → Prop} (h : Zn w z Z) (hw : z ≤ w.heap.size) (hf : Fr (wrZ Z) w w') : Below z w w' := hf.below hw fun b hb hx => by
  rcases hx with hx | hx | hx | hx
  · have := (h.lt 0 b hx).1; omega
  · have := (h.lt 1 b hx).1; omega
  · have := (h.lt 3 b hx).1; omega
  · have := (h.lt 5 b hx).1; omega
theorem state_calls (z B : Nat) (Z : Nat → Nat → Prop) (M : BC) (q : List St) (nv tv wv : Value) (all : List (List Bool)) (nx : List (List Int)) (g k1 : Nat) (ws : List Nat) (S : Nat → Prop) (w : World)
    (hB : Bd w z B Z M q nv tv wv all nx) (hs : SetA w z g M.n ws) (hgz : ∀ i, ¬ Z i g) (hk1 : ws.length = k1) (hE : Env w z M q S) (hall : AllOk M.n all) (hl : all.length ≤ 1024)
    (m : List Bool) (hm : marksW M.n ws = m) (x : Int) (hx : (addM all m).2 = x) (bb : Bool) (hbb : decide (x < M.most) = bb) :
    Calls Tryd.prog 88 #[.pointer (some ⟨B, 0, none⟩), .agg #[.slice (some ⟨g, 0, none⟩) k1 k1, .int .i64 M.n]] w fun e w' => e = .returned (.tuple #[.int .i64 x, .bool bb]) ∧
      ∃ Z' tv' wv', Bd w' z B Z' M q nv tv' wv' (addM all m).1 nx ∧ Z' 2 = Z 2 ∧ (∀ i b, Z' i b → Z i b ∨ b = g ∨ w.heap.size ≤ b) ∧ Fr (wrZ Z) w w' := by
  subst hm
  have h0 : 0 < w.heap.size := Nat.lt_of_lt_of_le hE.z0 hE.zw
  have hm0 := hE.most
  by_cases ht : true ∈ marksW M.n ws
  · by_cases hin : marksW M.n ws ∈ all
    · have e : addM all (marksW M.n ws) = (all, ((all.idxOf (marksW M.n ws) : Nat) : Int)) := by unfold addM; rw [if_pos ht, if_pos hin]
      rw [e] at hx ⊢
      dsimp only at hx ⊢
      subst hx
      refine Calls.mono (state_old z B Z M q nv tv wv all nx g k1 ws S w hB hs hk1 hE.tab h0 hE.z0 hall hin _ ?_ bb hbb) ?_
      · rw [List.getElem?_eq_getElem (List.idxOf_lt_length_of_mem hin), List.getElem_idxOf]
      · rintro e w' ⟨rfl, hb⟩
        exact ⟨rfl, Z, tv, wv, hB.below hb, rfl, fun i b h => .inl h, Fr.of_below hb⟩
    · have e : addM all (marksW M.n ws) = (all ++ [marksW M.n ws], ((all.length : Nat) : Int)) := by unfold addM; rw [if_pos ht, if_neg hin]
      rw [e] at hx ⊢
      dsimp only at hx ⊢
      subst hx
      exact state_new z B Z M q nv tv wv all nx g k1 ws S w hB hs hgz hk1 hE.tab h0 hE.z0 hE.zw hE.nf hE.sz hE.len hE.chk hall hin ht hl bb hbb
  · have e : addM all (marksW M.n ws) = (all, -1) := by unfold addM; rw [if_neg ht]
    rw [e] at hx ⊢
    dsimp only at hx ⊢
    subst hx
    have hbt : bb = true := by rw [← hbb]; exact decide_eq_true (by omega)
    subst hbt
    refine Calls.mono (state_none z B Z M q nv tv wv all nx g k1 ws S w hB hs hk1 hE.tab h0 hE.z0 ht) ?_
    rintro e w' ⟨rfl, hb⟩
    exact ⟨rfl, Z, tv, wv, hB.below hb, rfl, fun i b h => .inl h, Fr.of_below hb⟩
set_option maxRecDepth 20000 in
set_option maxHeartbeats 4000000 in
theorem row1_calls (z B tb ts gs : Nat) (Z : Nat → Nat → Prop) (M : BC) (q : List St) (nv tv wv : Value) (all : List (List Bool)) (nx : List (List Int)) (k1 cs : Nat) (wss : List Nat) (S : Nat → Prop) (w : World)
    (hB : Bd w z B Z M q nv tv wv all nx) (htb : w.heap[tb]? = some (.cells #[.pointer (some ⟨B, 0, none⟩)] 118 (0, 0))) (hts : w.heap[ts]? = some (.cells #[.slice (some ⟨gs, 0, none⟩) k1 cs, .int .i64 M.n] 28 (0, 0)))
    (hs : SetA w z gs M.n wss) (hk1 : (M.n + 63) / 64 = k1) (hE : Env w z M q S) (hall : AllOk M.n all) (hl : all.length ≤ 1024) (c : Nat) (hc : c < 256)
    (m : List Bool) (hm : stepM q c (marksW M.n wss) = m) (x : Int) (hx : (addM all m).2 = x) (bb : Bool) (hbb : decide (x < M.most) = bb) :
    Calls Tryd.prog 109 #[.int .i64 c, .pointer (some ⟨tb, 0, none⟩), .pointer (some ⟨ts, 0, none⟩)] w fun e w' => e = .returned (.tuple #[.int .i64 x, .bool bb]) ∧
      ∃ Z' tv' wv', Bd w' z B Z' M q nv tv' wv' (addM all m).1 nx ∧ Z' 2 = Z 2 ∧ (∀ i b, Z' i b → Z i b ∨ w.heap.size ≤ b) ∧ Fr (wrZ Z) w w' := by
  have hkl : wss.length = k1 := by rw [hs.ok.len]; exact hk1
  have HST : Hd (∀ W : World, Below w.heap.size w W → _) := ⟨fun W hb => step_ok M.st M.A M.c q S gs M.n cs c hc wss W (hE.nf.below hb) hE.chk hs.ok (hs.below hb).wd (hs.below hb).hi (tab_below hE.z0 (hb.mono hE.zw) hE.tab) (Nat.lt_of_lt_of_le (Nat.lt_of_lt_of_le hE.z0 hE.zw) hb.size)⟩
  unfold setV at HST
  rw [hE.len, hkl, hm, hk1] at HST
  have HK1 := Hd.mk hk1; have HB := Hd.mk hB; have HE := Hd.mk hE; have HALL := Hd.mk hall
  have HTB := Hd.mk htb; have HTS := Hd.mk hts; have HOB := Hd.mk hB.obj
  have HXX := Hd.mk (And.intro hx hbb)
  have hbo := hB.obj
  unfold bdO at hbo
  clear hB hk1 hs hkl hE hall hx hbb hm
  have htbc0 := blk_cell htb 0 _ rfl; have htbf0 := blk_frozen htb 0; have htbl := blk_lt htb
  have htsc0 := blk_cell hts 0 _ rfl; have htsf0 := blk_frozen hts 0; have htsc1 := blk_cell hts 1 _ rfl; have htsf1 := blk_frozen hts 1; have htsl := blk_lt hts
  have hboc0 := blk_cell hbo 0 _ rfl; have hbof0 := blk_frozen hbo 0; have hboc1 := blk_cell hbo 1 _ rfl; have hbof1 := blk_frozen hbo 1; have hboc2 := blk_cell hbo 2 _ rfl; have hbof2 := blk_frozen hbo 2; have hboc3 := blk_cell hbo 3 _ rfl; have hbof3 := blk_frozen hbo 3; have hboc4 := blk_cell hbo 4 _ rfl; have hbof4 := blk_frozen hbo 4; have hboc5 := blk_cell hbo 5 _ rfl; have hbof5 := blk_frozen hbo 5; have hboc6 := blk_cell hbo 6 _ rfl; have hbof6 := blk_frozen hbo 6; have hboc7 := blk_cell hbo 7 _ rfl; have hbof7 := blk_frozen hbo 7; have hboc8 := blk_cell hbo 8 _ rfl; have hbof8 := blk_frozen hbo 8; have hboc9 := blk_cell hbo 9 _ rfl; have hbof9 := blk_frozen hbo 9; have hbol := blk_lt hbo
  go_enter Tryd.func109, Tryd.ntmps109
  go_upto_region 1 with fail
  go_cut [6] (fun v6 wx => ∃ (p' g' : Nat) (ws' : List Nat), v6 = .pointer (some ⟨p', 0, none⟩) ∧ Hd (wx.heap[p']? = some (.cells #[.slice (some ⟨g', 0, none⟩) k1 k1, .int .i64 M.n] 28 (0, 0))) ∧ Hd (SetA wx w.heap.size g' M.n ws') ∧ Hd (marksW M.n ws' = m) ∧ Hd (Below w.heap.size w wx))
  case first =>
    refine wp_region_can (.q [0, 1, 2, 3, 4, 5, 6] (.b 7 false (.q [8, 9, 10] (.e 11 true (.e 12 false (.q [13] (.done))))) 11 true (.e 7 false (.q [8, 9, 10] (.e 12 false (.q [13] (.done))))))) (clsB _) (by kernel_rfl) (by kernel_rfl) (by intro _ _ d _ _ h; cases d <;> exact h) (clsB_drew _) ?_
    refine can_q (l := [⟨_,_,_,_,_,_⟩, ⟨_,_,_,_,_,_⟩, ⟨_,_,_,_,_,_⟩, ⟨_,_,_,_,_,_⟩, ⟨_,_,_,_,_,_⟩, ⟨_,_,_,_,_,_⟩, ⟨_,_,_,_,_,_⟩]) rfl ?_
    repeat (go_big_quiet_step (fail))
    refine wpQuiet_nil ?_
    refine can_b (o := ⟨_,_,_,_,_,_⟩) (oj := ⟨_,_,_,_,_,_⟩) rfl rfl (fun K hK => ?_) (fun K hK => ?_)
    · go_wp2_with (go_at_call 45; go_must (refine Calls.mono (HST.out (w.drew) (below_drew1 (Below.refl _ _))) ?_; rintro e wb ⟨gb, wsb, rfl, hs_, hm_, hb_⟩; have HSwb := Hd.mk hs_; have HMwb := Hd.mk hm_; have HBwb := Hd.mk hb_; clear hs_ hm_ hb_))
      have HVB := Hd.mk (below_undrew HBwb.out)
      refine onK_normal (hK _ _ ⟨clsB _, clsB_of (by first | exact (HVB.out) | exact below_undrew (HVB.out)), fun _ _ h => h, ?_⟩)
      clear hK K
      refine can_q (l := [⟨_,_,_,_,_,_⟩, ⟨_,_,_,_,_,_⟩, ⟨_,_,_,_,_,_⟩]) rfl ?_
      repeat (go_big_quiet_step (fail))
      refine wpQuiet_nil ?_
      refine can_e (o := ⟨_,_,_,_,_,_⟩) rfl (fun K hK => ?_)
      go_wp2_with fail
      refine onK_normal (hK _ _ ⟨clsB _, clsB_of (by first | exact ((below_alloc HVB.out _)) | exact below_undrew ((below_alloc HVB.out _))), fun _ _ h => h, ?_⟩)
      clear hK K
      refine can_e (o := ⟨_,_,_,_,_,_⟩) rfl (fun K hK => ?_)
      go_wp2_with fail
      refine onK_normal (hK _ _ ⟨fun _ => True, trivial, (fun h => by cases h), ?_⟩)
      clear hK K
      refine can_q (l := [⟨_,_,_,_,_,_⟩]) rfl ?_
      repeat (go_big_quiet_step (fail))
      refine wpQuiet_nil ?_
      refine can_done ?_
      go_wp2
      go_meet
      case rel => exact ⟨_, _, _, rfl, ⟨blk_new _ _ _ rfl⟩, ⟨(HSwb.out.mono (by rw [size_drew]; exact Nat.le_refl _)).below (below_alloc (Below.refl _ _) _)⟩, HMwb, ⟨below_alloc HVB.out _⟩⟩
    · go_wp2_with fail
      refine onK_normal (hK _ _ ⟨clsB _, clsB_of (by first | exact ((below_alloc (below_drew1 (Below.refl w.heap.size w)) _)) | exact below_undrew ((below_alloc (below_drew1 (Below.refl w.heap.size w)) _))), fun _ _ h => h, ?_⟩)
      clear hK K
      refine can_e (o := ⟨_,_,_,_,_,_⟩) rfl (fun K hK => ?_)
      go_wp2_with (go_at_call 45; go_must (refine Calls.mono (HST.out (w.drew.alloc (.cells #[.slice none 0 0, .int .i64 0] 28)) (below_alloc (below_drew1 (Below.refl w.heap.size w)) _)) ?_; rintro e wb ⟨gb, wsb, rfl, hs_, hm_, hb_⟩; have HSwb := Hd.mk hs_; have HMwb := Hd.mk hm_; have HBwb := Hd.mk hb_; clear hs_ hm_ hb_))
      have HVB := Hd.mk (below_seq (below_alloc (below_drew1 (Below.refl w.heap.size w)) (.cells #[.slice none 0 0, .int .i64 0] 28)) HBwb.out)
      have hq : wb.heap[w.heap.size]? = some (.cells #[.slice none 0 0, .int .i64 0] 28 (0, 0)) := blk_below (blk_new w.drew _ _ rfl) HBwb.out
      have hlo := HSwb.out.lo
      rw [size_alloc, size_drew] at hlo
      refine onK_normal (hK _ _ ⟨clsB _, clsB_of (by first | exact (HVB.out) | exact below_undrew (HVB.out)), fun _ _ h => h, ?_⟩)
      clear hK K
      refine can_q (l := [⟨_,_,_,_,_,_⟩, ⟨_,_,_,_,_,_⟩, ⟨_,_,_,_,_,_⟩]) rfl ?_
      repeat (go_big_quiet_step (fail))
      refine wpQuiet_nil ?_
      have hqc0 := blk_cell hq 0 _ rfl; have hqf0 := blk_frozen hq 0; have hqc1 := blk_cell hq 1 _ rfl; have hqf1 := blk_frozen hq 1; have hql := blk_lt hq
      refine can_e (o := ⟨_,_,_,_,_,_⟩) rfl (fun K hK => ?_)
      go_wp2_with fail
      refine onK_normal (hK _ _ ⟨fun _ => True, trivial, (fun h => by cases h), ?_⟩)
      clear hK K
      refine can_q (l := [⟨_,_,_,_,_,_⟩]) rfl ?_
      repeat (go_big_quiet_step (fail))
      refine wpQuiet_nil ?_
      refine can_done ?_
      go_wp2
      go_meet
      case rel =>
        refine ⟨_, _, _, rfl, ⟨blk_set (blk_set hq 0 _ _ rfl) 1 _ _ rfl⟩, ⟨(HSwb.out.mono (by rw [size_alloc, size_drew]; exact Nat.le_succ _)).move (by rw [size_set, size_set]; exact Nat.le_refl _) ((Below.heap_setCell _ _ _ _ (by show ¬ gb = w.heap.size; omega)).trans (Below.heap_setCell _ _ _ _ (by show ¬ gb = w.heap.size; omega)))⟩, HMwb, ⟨below_set (below_set HVB.out (Nat.le_refl _) _ _) (Nat.le_refl _) _ _⟩⟩
  case rest =>
    obtain ⟨p', g', ws', rfl, HBX, HSX, HMX, HBW⟩ := hcut
    have htb9 := blk_below HTB.out HBW.out
    have hbx := HBX.out
    have hzc := HB.out.inn.zn
    have h8 := state_calls z B Z M q nv tv wv all nx g' k1 ws' S wc (HB.out.below HBW.out) (HSX.out.mono HE.out.zw) (fun i hi => by have := (hzc.lt i g' hi).2; have := HSX.out.lo; omega) (by rw [HSX.out.ok.len]; exact HK1.out) (HE.out.move (HBW.out.mono HE.out.zw)) HALL.out hl m HMX.out x HXX.out.1 bb HXX.out.2
    have HJ := Hd.mk h8
    clear h8 hzc
    clear htbc0 htbf0 htbl
    clear htsc0 htsf0 htsc1 htsf1 htsl
    clear hboc0 hbof0 hboc1 hbof1 hboc2 hbof2 hboc3 hbof3 hboc4 hbof4 hboc5 hbof5 hboc6 hbof6 hboc7 hbof7 hboc8 hbof8 hboc9 hbof9 hbol
    clear htb hts hbo
    have htb9c0 := blk_cell htb9 0 _ rfl; have htb9f0 := blk_frozen htb9 0; have htb9l := blk_lt htb9
    have hbxc0 := blk_cell hbx 0 _ rfl; have hbxf0 := blk_frozen hbx 0; have hbxc1 := blk_cell hbx 1 _ rfl; have hbxf1 := blk_frozen hbx 1; have hbxl := blk_lt hbx
    go_wp2_with (go_at_call 88; go_must (refine Calls.mono HJ.out ?_; rintro e w3 ⟨rfl, Z', tv', wv', hb_, h2_, hz_, hf_⟩; have HB3 := Hd.mk hb_; have HZ2 := Hd.mk h2_; have HZ3 := Hd.mk hz_; have HF3 := Hd.mk hf_; clear hb_ h2_ hz_ hf_))
    go_ret2
    refine ⟨rfl, Z', tv', wv', HB3.out, HZ2.out, fun i b hb => ?_, (Fr.of_below HBW.out).trans HF3.out⟩
    rcases HZ3.out i b hb with h | h | h
    · exact .inl h
    · rw [h]; exact .inr HSX.out.lo
    · exact .inr (Nat.le_trans HBW.out.size h)
end Go.Proofs.YtbmpaokicphdjaaDoor.Fn

/- A state's row. -/
namespace Go.Proofs.YtbmpaokicphdjaaDoor.Fn
open Go Go.RowKit Go.Proofs.YtbmpaokicphdjaaDoor.Can Go.Proofs.YtbmpaokicphdjaaDoor.Base
attribute [local go_sem] clsB AB.cell clsX AX.cell

theorem ownT_lt {α : Type} {T : Ty α} {w : World} {base : Nat} {e : TypeId} {S : Nat → Prop} {v : Value} {xs : List α} (h : Base.Own T w base e S v xs) : ∀ k, (S k ∨ v.ownBlock = some k) → k < w.heap.size := fun k hk => by
  rcases hk with hk | hk
  · obtain ⟨_, _, _, hs⟩ := h; exact (hs k hk).1
  · exact (h.lt hk).1
/-- One more row. -/
theorem Bi.rows {w w' : World} {z B : Nat} {Z : Nat → Nat → Prop} {M : BC} {q : List St} {nv tv wv nv' : Value} {aX aT aW : List (List Bool)} {nx : List (List Int)} {r : List Int} (h : Bi w z B Z M q nv tv wv aX aT aW nx) (hw : z ≤ w.heap.size) {S0 S1 : Nat → Prop} (h0 : ∀ b, (S0 b ∨ nv.ownBlock = some b) → Z 2 b) (hf : Fr (fun b => nv.ownBlock = some b) w w') (hm : Base.Own Df.II w' z 24 S1 nv' (nx ++ [r])) (hS1 : ∀ b, S1 b → S0 b ∨ (z ≤ b ∧ ∀ i, ¬ Z i b) ∨ w.heap.size ≤ b) (hat : nv'.ownBlock = nv.ownBlock ∨ nv'.ownBlock = some w.heap.size) :
    Bi w' z B (upZ Z 2 (fun b => S1 b ∨ nv'.ownBlock = some b)) M q nv' tv wv aX aT aW (nx ++ [r]) := by
  obtain ⟨F, xs, h1, h2, h3⟩ := h.tbl
  obtain ⟨S', ys, h6, h7, h8⟩ := h.wai
  have hX : ∀ i b, i ≠ 2 → Z i b → ¬ nv.ownBlock = some b := fun i b hi hb hfb => h.zn.dis i 2 b hi hb (h0 b (.inr hfb))
  refine ⟨h.zn.up hw hf.size (fun b hb => ?_), by rw [upZ_ne _ (by decide)]; exact h.zB, ⟨F, xs, h1.fr hf (fun b hb => hX 1 b (by decide) (h2 b hb)), fun b hb => by rw [upZ_ne _ (by decide)]; exact h2 b hb, h3⟩, ⟨S1, hm, fun b hb => by rw [upZ_same]; exact hb⟩,
    ⟨h.tag.1.mv (fun k hk => hf.same k (h.zn.lt 3 k (h.tag.2 k hk)).2 (hX 3 k (by decide) (h.tag.2 k hk))) hf.size, fun b hb => by rw [upZ_ne _ (by decide)]; exact h.tag.2 b hb⟩, ⟨S', ys, h6.move (fun k hk => by rcases hk with hk | hk; exact hf.same k (h.zn.lt 4 k (h7.1 k hk)).2 (hX 4 k (by decide) (h7.1 k hk)); exact hf.same k (h.zn.lt 5 k (h7.2 k hk)).2 (hX 5 k (by decide) (h7.2 k hk))) hf.size, ⟨fun b hb => by rw [upZ_ne _ (by decide)]; exact h7.1 b hb, fun b hb => by rw [upZ_ne _ (by decide)]; exact h7.2 b hb⟩, h8⟩⟩
  refine ⟨?_, ownT_lt hm b hb⟩
  rcases hb with hb | hb
  · rcases hS1 b hb with h9 | h9 | h9
    · exact .inl (h0 b (.inl h9))
    · exact .inr (.inl h9)
    · exact .inr (.inr h9)
  · rcases hat with h9 | h9
    · exact .inl (h0 b (.inr (h9 ▸ hb)))
    · rw [h9] at hb
      cases hb
      exact .inr (.inr (Nat.le_refl _))
theorem add_over {all : List (List Bool)} {m : List Bool} {most : Int} (hl : (all.length : Int) ≤ most) (h0 : 0 ≤ most) (h : ¬ (addM all m).2 < most) : most < ((addM all m).1.length : Nat) := by
  unfold addM at h ⊢
  split at h
  · split at h
    · rename_i h1 h2
      exfalso
      have := List.idxOf_lt_length_of_mem h2
      dsimp only at h
      omega
    · rename_i h1 h2
      rw [if_pos h1, if_neg h2]
      dsimp only at h ⊢
      rw [List.length_append, List.length_singleton]
      omega
  · dsimp only at h
    omega
theorem add_under {all : List (List Bool)} {m : List Bool} {most : Int} (hl : (all.length : Int) ≤ most) (h : (addM all m).2 < most) : ((addM all m).1.length : Int) ≤ most := by
  unfold addM at h ⊢
  split at h
  · rename_i h1
    rw [if_pos h1]
    split at h
    · rename_i h2
      rw [if_pos h2]
      exact hl
    · rename_i h2
      rw [if_neg h2]
      dsimp only at h ⊢
      rw [List.length_append, List.length_singleton]
      omega
  · rename_i h1
    rw [if_neg h1]
    exact hl
theorem asI_get {fs : List Nat} {k : Nat} {x : Int} (h : (Al.asI fs)[k]? = some x) : ∃ c, fs[k]? = some c ∧ x = (c : Int) := by
  unfold Al.asI at h
  rw [List.getElem?_map] at h
  cases hc : fs[k]? with
  | none => rw [hc] at h; cases h
  | some c => rw [hc] at h; exact ⟨c, rfl, (Option.some.inj h).symm⟩
theorem infoRowI : (Tryd.prog.info? 24).map (fun i => (i.zero, i.size, i.bytes)) = some (some (.slice none 0 0), 1, 24) := by kernel_rfl
set_option maxRecDepth 20000 in
set_option maxHeartbeats 8000000 in
theorem row_calls (z B gs : Nat) (Z : Nat → Nat → Prop) (M : BC) (q : List St) (nv tv wv : Value) (all : List (List Bool)) (nx : List (List Int)) (k1 cs : Nat) (wss : List Nat) (S : Nat → Prop) (A1 : Option Addr) (n1 c1 : Nat) (fs : List Nat) (S1 : Nat → Prop) (w : World)
    (hB : Bd w z B Z M q nv tv wv all nx) (hs : SetA w z gs M.n wss) (hgs : ¬ wrZ Z gs) (hk1 : (M.n + 63) / 64 = k1) (hE : Env w z M q S) (hall : AllOk M.n all) (hl : (all.length : Int) ≤ M.most)
    (hF : Row I w S1 A1 n1 (Al.asI fs)) (hS1 : ∀ k, S1 k → k < w.heap.size ∧ ∀ i, ¬ Z i k) (hfs : ∀ c ∈ fs, c < 256) (hn1 : n1 ≤ 256) (hnx : nx.length ≤ 1024)
    (m : List Bool) (hm : marksW M.n wss = m) (bb : Bool) (hbb : decide (((rowM q m fs all).1.length : Int) ≤ M.most) = bb) :
    Calls Tryd.prog 89 #[.pointer (some ⟨B, 0, none⟩), .agg #[.slice (some ⟨gs, 0, none⟩) k1 cs, .int .i64 M.n], .slice A1 n1 c1] w fun e w' => e = .returned (.bool bb) ∧ Below z w w' ∧ Hd (bb = true →
      ∃ Z' nv' tv' wv', Bd w' z B Z' M q nv' tv' wv' (rowM q m fs all).1 (nx ++ [(rowM q m fs all).2]) ∧ (∀ i b, Z' i b → Z i b ∨ w.heap.size ≤ b) ∧ Fr (fun b => wrZ Z b ∨ Z 2 b) w w') := by
  have hmf : ∀ (fn : Fn) (first cap : Array Value) (w : World), (Instr.makeFunc fn first cap).run Tryd.prog w = .ok (.func fn first cap) w := fun _ _ _ _ => rfl
  obtain ⟨i0, hi, hz, hsz, hbb0⟩ := info_of infoI9
  have HI := Hd.mk (And.intro hi (And.intro hz (And.intro hsz hbb0)))
  have hmo := hE.most
  have HLF : Hd (fs.length = n1) := ⟨by have := hF.1; unfold Al.asI at this; rwa [List.length_map] at this⟩
  have HB := Hd.mk hB; have HS := Hd.mk hs; have HGS := Hd.mk hgs; have HK1 := Hd.mk hk1; have HE := Hd.mk hE; have HALL := Hd.mk hall; have HF := Hd.mk hF; have HS1 := Hd.mk hS1; have HFS := Hd.mk hfs; have HM := Hd.mk hm; have HBB := Hd.mk hbb
  have HL := Hd.mk hl; have HMO := Hd.mk hmo; have HNX := Hd.mk hnx
  have HZW := Hd.mk hE.zw
  clear hi hz hsz hbb0 hB hs hgs hk1 hE hall hF hS1 hfs hm hbb hl hmo hnx
  have HTB0 := Hd.mk (blk_alloc (blk_new w (.cells #[.pointer (some ⟨B, 0, none⟩)] 118) _ rfl) (.cells #[.slice (some ⟨gs, 0, none⟩) k1 cs, .int .i64 M.n] 28))
  have HTS0 := Hd.mk (blk_new (w.alloc (.cells #[.pointer (some ⟨B, 0, none⟩)] 118)) (.cells #[.slice (some ⟨gs, 0, none⟩) k1 cs, .int .i64 M.n] 28) (w.heap.size + 1) (by rw [size_alloc]))
  go_enter Tryd.func89, Tryd.ntmps89
  go_wp2_with (at_make; go_must (refine wpList_make_own _ rfl (.const (.int .i64 0)) (.tmp 14) 24 rfl w.heap.size 3 i0 (.int .i64 0) 1 Tryd.underlying24 HI.out.1 HI.out.2.1 HI.out.2.2.1 .i64 .i64 n1 n1 rfl rfl rfl (by rw [HI.out.2.2.2]; omega) (by simp only [maxLen]; omega) (by simp only [size_alloc]; omega) ?_; intro w1 ho1 hg1; have HO1 := Hd.mk ho1; have HG1 := Hd.mk hg1; clear ho1 hg1))
  have HB1 : Hd (Below (w.heap.size + 2) ((w.alloc (.cells #[.pointer (some ⟨B, 0, none⟩)] 118)).alloc (.cells #[.slice (some ⟨gs, 0, none⟩) k1 cs, .int .i64 M.n] 28)) w1) := ⟨(Below.refl _ _).grown HG1.out (by rw [size_alloc, size_alloc]; exact Nat.le_refl _) (fun k hk => by cases hk)⟩
  have hz1 : w.heap.size + 2 ≤ w1.heap.size := by have := HB1.out.size; rwa [size_alloc, size_alloc] at this
  have HBW1 : Hd (Below w.heap.size w w1) := ⟨(below_alloc (below_alloc (Below.refl _ _) _) _).trans (HB1.out.mono (by omega))⟩
  have HTB1 : Hd (w1.heap[w.heap.size]? = some (.cells #[.pointer (some ⟨B, 0, none⟩)] 118 (0, 0))) := ⟨(HB1.out.block _ (by omega)).trans HTB0.out⟩
  have HTS1 : Hd (w1.heap[w.heap.size + 1]? = some (.cells #[.slice (some ⟨gs, 0, none⟩) k1 cs, .int .i64 M.n] 28 (0, 0))) := ⟨(HB1.out.block _ (by omega)).trans HTS0.out⟩
  have hM1 : Mine I w1 w.heap.size 3 (.slice (some ⟨w.heap.size + 1 + 1, 0, none⟩) 0 n1) [] := ⟨[], by have h9 := HO1.out; simp only [size_alloc] at h9; exact h9, Cells.nil, fun _ h => h.elim⟩
  have HM1 := Hd.mk hM1
  obtain ⟨X, hX⟩ : ∃ X : Nat → Prop, X = fun b => wrZ Z b ∨ w.heap.size + 2 ≤ b := ⟨_, rfl⟩
  have HX := Hd.mk hX
  have HXZ : Hd (∀ b, X b → z ≤ b) := ⟨fun b hb => by
    have hzw := HZW.out
    rw [HX.out] at hb
    rcases hb with (hb | hb | hb | hb) | hb
    · exact (HB.out.inn.zn.lt 0 b hb).1
    · exact (HB.out.inn.zn.lt 1 b hb).1
    · exact (HB.out.inn.zn.lt 3 b hb).1
    · exact (HB.out.inn.zn.lt 5 b hb).1
    · omega⟩
  have HXn : Hd (∀ b, b < w.heap.size + 2 → ¬ wrZ Z b → ¬ X b) := ⟨fun b hb hn hx => by rw [HX.out] at hx; rcases hx with hx | hx; exact hn hx; omega⟩
  have HZl : Hd (∀ b, wrZ Z b → b < w.heap.size) := ⟨fun b hb => by
    rcases hb with hb | hb | hb | hb
    · exact (HB.out.inn.zn.lt 0 b hb).2
    · exact (HB.out.inn.zn.lt 1 b hb).2
    · exact (HB.out.inn.zn.lt 3 b hb).2
    · exact (HB.out.inn.zn.lt 5 b hb).2⟩
  clear hM1 hX HO1 HG1 HB1 HTB0 HTS0
  go_loopw [8, 18] (fun v i wr => ∃ (k n9 c9 : Nat) (A9 : Option Addr), k ≤ n1 ∧ i = .int .i64 k ∧ v = .slice A9 n9 c9 ∧ Hd (Mine I wr w.heap.size 3 (.slice A9 n9 c9) (rowM q m (fs.take k) all).2) ∧
    Hd (∃ Z' tv' wv', Bd wr z B Z' M q nv tv' wv' (rowM q m (fs.take k) all).1 nx ∧ Z' 2 = Z 2 ∧ (∀ i b, Z' i b → Z i b ∨ w.heap.size + 2 ≤ b) ∧ (∀ b, (Value.slice A9 n9 c9).ownBlock = some b → ∀ i, ¬ Z' i b)) ∧ Hd (∀ b, (Value.slice A9 n9 c9).ownBlock = some b → w.heap.size + 2 ≤ b) ∧ Hd (((rowM q m (fs.take k) all).1.length : Int) ≤ M.most) ∧ Hd (Fr X w1 wr)) (fun _ i _ => n1 - (intOf i).toNat)
  case atStart =>
    refine ⟨0, 0, n1, some ⟨w.heap.size + 1 + 1, 0, none⟩, Nat.zero_le _, rfl, rfl, ⟨by rw [List.take_zero]; exact HM1.out⟩, ⟨Z, tv, wv, by rw [List.take_zero]; exact HB.out.below HBW1.out, rfl, fun i b hb => .inl hb, fun b hb i hi => ?_⟩, ⟨fun b hb => ?_⟩, ⟨by rw [List.take_zero]; exact HL.out⟩, ⟨Fr.refl _ _⟩⟩
    · have := ownBlock_eq hb
      have := (HB.out.inn.zn.lt i b hi).2
      omega
    · have := ownBlock_eq hb
      omega
  case round =>
    obtain ⟨k, n9, c9, A9, hk, rfl, rfl, HM9, HBd, HOB, HLk, HFr⟩ := hrel
    obtain ⟨Z', tv', wv', hBd, hZ2, hZs, hZo⟩ := HBd.out
    have HZ2 := Hd.mk hZ2; have HZs := Hd.mk hZs; have HZo := Hd.mk hZo; have HBD := Hd.mk hBd
    clear HBd hZ2 hZs hZo hBd
    have hzr := HFr.out.size
    have HBz : Hd (Below z w wr) := ⟨(HBW1.out.mono HZW.out).trans (HFr.out.below (Nat.le_trans HZW.out HBW1.out.size) (fun b hb hx => by have := HXZ.out b hx; omega))⟩
    have hF' : Row I wr S1 A1 n1 (Al.asI fs) := (HF.out.below (fun k hk => (HS1.out k hk).1) HBW1.out).move fun b hb => HFr.out.same b (by have := (HS1.out b hb).1; omega) (HXn.out b (by have := (HS1.out b hb).1; omega) (fun hx => by
      rcases hx with hx | hx | hx | hx
      · exact (HS1.out b hb).2 0 hx
      · exact (HS1.out b hb).2 1 hx
      · exact (HS1.out b hb).2 3 hx
      · exact (HS1.out b hb).2 5 hx))
    have HFR := Hd.mk hF'
    clear hF'
    by_cases hlt : k < n1
    · obtain ⟨bc, off, y, rfl, _, hbc, hy, hcell⟩ := HFR.out.get_int k hlt
      obtain ⟨c, hc, rfl⟩ := asI_get hy
      have hc256 := HFS.out c (List.mem_of_getElem? hc)
      have HTK : Hd (fs.take (k + 1) = fs.take k ++ [c]) := ⟨Df.take_snoc hc⟩
      obtain ⟨ak, hak⟩ : ∃ a, (rowM q m (fs.take k) all).1 = a := ⟨_, rfl⟩
      obtain ⟨rk, hrk⟩ : ∃ a, (rowM q m (fs.take k) all).2 = a := ⟨_, rfl⟩
      have HAK := Hd.mk hak; have HRK := Hd.mk hrk
      rw [hak] at HBD HLk
      rw [hrk] at HM9
      have hrl : rk.length = k := by rw [← hrk, (row_codes q m (fs.take k) all).1, List.length_take, HLF.out]; omega
      have HRL := Hd.mk hrl
      obtain ⟨x, hx⟩ : ∃ x, (addM ak (stepM q c m)).2 = x := ⟨_, rfl⟩
      obtain ⟨bk, hbk⟩ : ∃ b, decide (x < M.most) = b := ⟨_, rfl⟩
      have HXK := Hd.mk (And.intro hx hbk)
      have HLN := HE.out.len
      have HJ := Hd.mk (row1_calls z B w.heap.size (w.heap.size + 1) gs Z' M q nv tv' wv' ak nx k1 cs wss S wr HBD.out (HFr.out.blk HTB1.out (HXn.out _ (by omega) (fun h => by have := HZl.out _ h; omega))) (HFr.out.blk HTS1.out (HXn.out _ (by omega) (fun h => by have := HZl.out _ h; omega)))
        ((HS.out.below HBW1.out).move hzr (HFr.out.same gs (by have := HS.out.hi; omega) (HXn.out gs (by have := HS.out.hi; omega) HGS.out))) HK1.out (HE.out.move HBz.out) (by rw [← HLN, ← hak]; exact AllOk.row (by rw [HLN]; exact HALL.out) m _) (by have := HLk.out; have := HMO.out; omega) c hc256 (stepM q c m) (by rw [HM.out]) x hx bk hbk)
      have HR1 : Hd (rowM q m (fs.take (k + 1)) all = ((addM ak (stepM q c m)).1, rk ++ [x])) := ⟨by rw [HTK.out, rowM_snoc, hak, hrk, hx]⟩
      clear hy hc hak hrk hrl hx hbk HLN
      cases bk with
      | false =>
        obtain rfl : bb = false := by
          rw [← HBB.out]
          refine decide_eq_false fun h => ?_
          have h9 := add_over (m := stepM q c m) HLk.out HMO.out.1 (by rw [HXK.out.1]; exact of_decide_eq_false HXK.out.2)
          have h10 := (row_pre2 q m (fs.take (k + 1)) (fs.drop (k + 1)) all).len
          rw [List.take_append_drop, HR1.out] at h10
          dsimp only at h10
          omega
        go_wp2_with (go_at_call 109; go_must (refine Calls.mono HJ.out ?_; rintro e w3 ⟨rfl, Z3, tv3, wv3, hb_, h2_, hz_, hf_⟩; have HF3 := Hd.mk hf_; clear hb_ h2_ hz_ hf_))
        go_ret
        exact ⟨rfl, HBz.out.trans (HBD.out.inn.zn.below (Nat.le_trans HZW.out HBz.out.size |> fun h => by have := HBz.out.size; have := HZW.out; omega) HF3.out), ⟨fun h => by cases h⟩⟩
      | true =>
        have hnw : ∀ b, (Value.slice A9 n9 c9).ownBlock = some b → ¬ wrZ Z' b := fun b hb hx => by
          have h9 := HZo.out b hb
          rcases hx with hx | hx | hx | hx
          · exact h9 0 hx
          · exact h9 1 hx
          · exact h9 3 hx
          · exact h9 5 hx
        have HNW := Hd.mk hnw
        have hrl := HRL.out
        have hnk : n9 = k := by obtain ⟨_, n, _, e9, hn9, -, -, -⟩ := HM9.out.formN; cases e9; rw [hn9, hrl]
        subst hnk
        clear hnw hrl
        go_wp2_with (first
          | (at_builtin; go_must (refine append_snoc I (Ty.int_flat _) rfl (.tmp 32) (.tmp 34) 24 3 _ 8 rfl Tryd.underlying24 infoI9 rfl (by decide) (by decide) w.heap.size (.slice A9 n9 c9) rk x [.int .i64 x] w3.heap.size rfl rfl (blk_new w3 _ _ rfl) rfl (HM3.out.below (below_alloc (Below.refl _ _) _)) (HM3.out.ne_new (Nat.le_refl _)) (by rw [size_alloc]; omega) (by rw [HRL.out]; omega) ?_; intro v2 w5 hM5 hb5 hk5 hat5; have HM5 := Hd.mk hM5; have HB5 := Hd.mk hb5; have HK5 := Hd.mk hk5; have HAT5 := Hd.mk hat5; clear hM5 hb5 hk5 hat5))
          | (go_at_call 109; go_must (refine Calls.mono HJ.out ?_; rintro e w3 ⟨rfl, Z3, tv3, wv3, hb_, h2_, hz_, hf_⟩; have HBD3 := Hd.mk hb_; have HZ23 := Hd.mk h2_; have HZs3 := Hd.mk hz_; have HF3 := Hd.mk hf_; have hz3 := hf_.size; have HM3 : Hd (Mine I w3 w.heap.size 3 (.slice A9 n9 c9) rk) := ⟨HM9.out.mv (fun b hb => hf_.same b (HM9.out.lt hb).1 (HNW.out b hb)) hf_.size⟩; clear hb_ h2_ hz_ hf_)))
        obtain ⟨A7, n7, c7, rfl, -, -, -, -⟩ := HM5.out.formN
        have hzo3 : ∀ b, (Value.slice A9 n9 c9).ownBlock = some b → ∀ i, ¬ Z3 i b := fun b hb i hi => by
          rcases HZs3.out i b hi with h | h
          · exact HZo.out b hb i h
          · have := (HM9.out.lt hb).1; omega
        have hz5 := HB5.out.size
        have hf5 : Fr (fun b => (Value.slice A9 n9 c9).ownBlock = some b) (w3.alloc (.cells #[.int .i64 x] 3)) w5 := ⟨HB5.out.mono (Nat.zero_le _), fun b hb hx => HK5.out b hb hx⟩
        have hBi5 := (HBD3.out.inn.below (below_alloc (Below.refl _ _) (.cells #[.int .i64 x] 3))).fr hf5 (fun i b _ hb hx => hzo3 b hx i hb)
        have hob5 : w5.heap[B]? = some (bdO M nv tv3 wv3) := hf5.blk (blk_alloc HBD3.out.obj _) (fun hx => hzo3 B hx 0 HBD3.out.inn.zB)
        go_roundw
        case rel =>
          refine ⟨n9 + 1, n7, c7, A7, by omega, by go_num, rfl, ⟨by rw [HR1.out]; exact HM5.out⟩, ⟨Z3, tv3, wv3, by rw [HR1.out]; exact ⟨hob5, hBi5⟩, HZ23.out.trans HZ2.out, fun i b hb => ?_, fun b hb i hi => ?_⟩, ⟨fun b hb => ?_⟩, ⟨by rw [HR1.out]; exact add_under HLk.out (by rw [HXK.out.1]; exact of_decide_eq_true HXK.out.2)⟩, ⟨?_⟩⟩
          · rcases HZs3.out i b hb with h | h
            · exact HZs.out i b h
            · exact .inr (by omega)
          · rcases HAT5.out with h | h
            · rw [h] at hb; exact hzo3 b hb i hi
            · rw [h] at hb
              cases hb
              have := (HBD3.out.inn.zn.lt i _ hi).2
              rw [size_alloc] at this
              omega
          · rcases HAT5.out with h | h
            · rw [h] at hb; exact HOB.out b hb
            · rw [h] at hb
              cases hb
              rw [size_alloc]
              omega
          · refine HFr.out.trans ?_
            have f1 : Fr X wr w3 := HF3.out.mono fun b hb => by
              rw [HX.out]
              rcases hb with hb | hb | hb | hb
              · rcases HZs.out 0 b hb with h | h
                · exact .inl (.inl h)
                · exact .inr h
              · rcases HZs.out 1 b hb with h | h
                · exact .inl (.inr (.inl h))
                · exact .inr h
              · rcases HZs.out 3 b hb with h | h
                · exact .inl (.inr (.inr (.inl h)))
                · exact .inr h
              · rcases HZs.out 5 b hb with h | h
                · exact .inl (.inr (.inr (.inr h)))
                · exact .inr h
            refine (f1.alloc _).trans (hf5.mono fun b hb => ?_)
            rw [HX.out]
            exact .inr (HOB.out b hb)
        case measure => simp [intOf]; omega
    · obtain rfl : k = n1 := by omega
      have hall : rowM q m (fs.take k) all = rowM q m fs all := by rw [Df.take_all HLF.out]
      rw [hall] at HM9 HBD HLk
      obtain rfl : bb = true := by rw [← HBB.out]; exact decide_eq_true HLk.out
      obtain ⟨ak, hak⟩ : ∃ a, (rowM q m fs all).1 = a := ⟨_, rfl⟩
      obtain ⟨rk, hrk⟩ : ∃ a, (rowM q m fs all).2 = a := ⟨_, rfl⟩
      have HAK := Hd.mk hak; have HRK := Hd.mk hrk
      rw [hak] at HBD HLk
      rw [hrk] at HM9
      have hrl : rk.length = k := by rw [← hrk, (row_codes q m fs all).1, HLF.out]
      have hnk : n9 = k := by obtain ⟨_, n, _, e9, hn9, -, -, -⟩ := HM9.out.formN; cases e9; rw [hn9, hrl]
      subst hnk
      obtain ⟨A0, c0, e9, hle, hnn, hrow⟩ := Base.Own.form HM9.out
      rw [hrl] at e9 hle
      cases e9
      have hrow' : Row I wr (fun b => (Value.slice A9 n9 c9).ownBlock = some b) A9 rk.length rk := hrow.mono fun b hb => by rcases hb with hb | hb; exact hb.elim; exact hb
      have hcm := cut_max I 24 3 Tryd.underlying24 HI.out.1 hrow' (m := n9) (by rw [hrl]; exact Nat.le_refl _) (by rw [hrl]; exact hle)
      rw [hrl] at hcm
      have hcut : ∀ W, (Instr.slice 24 (.slice A9 n9 c9) none (some (.int .i64 n9)) (some (.int .i64 n9))).run Tryd.prog W = .ok (.slice A9 n9 n9) W := fun W => hcm W .i64 .i64
      obtain ⟨SN, hon, hzn⟩ := HBD.out.inn.nxt
      obtain ⟨An, cn, en, -, -, -⟩ := hon.form
      subst en
      obtain ⟨nn, hnn2⟩ : ∃ n, nx.length = n := ⟨_, rfl⟩
      have HNL := Hd.mk hnn2
      rw [hnn2] at hon hzn HBD
      have HON := Hd.mk hon; have HZN := Hd.mk hzn
      have hob := HBD.out.obj
      have HOBJ := Hd.mk hob
      unfold bdO at hob
      have hlB := blk_lt hob
      have HNN : Hd (A9 = none → n9 = 0) := ⟨fun h => by have := hnn h; omega⟩
      have HROW : Hd (Row I wr (fun b => (Value.slice A9 n9 c9).ownBlock = some b) A9 n9 rk) := ⟨by rw [hrl] at hrow'; exact hrow'⟩
      have HRL := Hd.mk hrl
      have htb := HFr.out.blk HTB1.out (HXn.out _ (by omega) (fun h => by have := HZl.out _ h; omega))
      have HNL2 : Hd (nn ≤ 1024) := ⟨by rw [← HNL.out]; exact HNX.out⟩
      clear hak hrk hrl hle hnn hrow hrow' hcm hon hzn hnn2 hall
      have hobc0 := blk_cell hob 0 _ rfl; have hobf0 := blk_frozen hob 0; have hobc1 := blk_cell hob 1 _ rfl; have hobf1 := blk_frozen hob 1; have hobc2 := blk_cell hob 2 _ rfl; have hobf2 := blk_frozen hob 2; have hobc3 := blk_cell hob 3 _ rfl; have hobf3 := blk_frozen hob 3; have hobc4 := blk_cell hob 4 _ rfl; have hobf4 := blk_frozen hob 4; have hobc5 := blk_cell hob 5 _ rfl; have hobf5 := blk_frozen hob 5; have hobc6 := blk_cell hob 6 _ rfl; have hobf6 := blk_frozen hob 6; have hobc7 := blk_cell hob 7 _ rfl; have hobf7 := blk_frozen hob 7; have hobc8 := blk_cell hob 8 _ rfl; have hobf8 := blk_frozen hob 8; have hobc9 := blk_cell hob 9 _ rfl; have hobf9 := blk_frozen hob 9; have hobl := blk_lt hob
      have htbc0 := blk_cell htb 0 _ rfl; have htbf0 := blk_frozen htb 0; have htbl := blk_lt htb
      obtain ⟨Wn, hWn⟩ : ∃ W : Nat → Prop, W = fun b => (Value.slice An nn cn).ownBlock = some b := ⟨_, rfl⟩
      have hnt : ¬ Wn w.heap.size := fun h => by
        rw [hWn] at h
        have h9 := HZN.out _ (.inr h)
        rw [HZ2.out] at h9
        have := (HB.out.inn.zn.lt 2 _ h9).2
        omega
      have hnB : ¬ Wn B := fun h => by
        rw [hWn] at h
        exact HBD.out.inn.zn.dis 2 0 B (by decide) (HZN.out _ (.inr h)) HBD.out.inn.zB
      have HWN := Hd.mk hWn
      have HOWd : Hd (Base.Own Df.II (World.drew (wr.alloc (.cells #[.slice A9 n9 n9] 24))) z 24 SN (.slice An nn cn) nx) := ⟨(by have h9 := HON.out; exact (h9.below (below_alloc (Below.refl _ _) _)).below (below_drew1 (Below.refl _ _)))⟩
      have HNO : Hd (∀ b, (Value.slice A9 n9 c9).ownBlock = some b → b < wr.heap.size ∧ (Value.slice An nn cn).ownBlock ≠ some b) := ⟨fun b hb => ⟨(HM9.out.lt hb).1, fun h => HZo.out b hb 2 (HZN.out b (.inr h))⟩⟩
      clear hWn
      go_wp2
      refine wp_region_can (.q [0, 1, 2, 3, 4, 5, 6, 7, 8, 9, 10, 11] (.e 12 true (.e 13 true (.q [14, 15, 16] (.e 17 false (.done)))))) (clsX Wn _) (by kernel_rfl) (by kernel_rfl) (by intro _ _ d _ _ h; cases d <;> exact h) (clsX_drew _ _) ?_
      refine can_q (l := [⟨_,_,_,_,_,_⟩, ⟨_,_,_,_,_,_⟩, ⟨_,_,_,_,_,_⟩, ⟨_,_,_,_,_,_⟩, ⟨_,_,_,_,_,_⟩, ⟨_,_,_,_,_,_⟩, ⟨_,_,_,_,_,_⟩, ⟨_,_,_,_,_,_⟩, ⟨_,_,_,_,_,_⟩, ⟨_,_,_,_,_,_⟩, ⟨_,_,_,_,_,_⟩, ⟨_,_,_,_,_,_⟩]) rfl ?_
      repeat (go_big_quiet_step (fail))
      refine wpQuiet_nil ?_
      refine can_e (o := ⟨_,_,_,_,_,_⟩) rfl (fun K hK => ?_)
      go_wp2_with fail
      refine onK_normal (hK _ _ ⟨clsX _ _, clsX_drew _ _, fun _ => clsX_next (by rw [size_alloc]; exact Nat.le_succ _) (fun b hb _ => Below.heap_alloc _ _ _ hb), ?_⟩)
      clear hK K
      refine can_e (o := ⟨_,_,_,_,_,_⟩) rfl (fun K hK => ?_)
      go_wp2_with (at_builtin; go_must (refine append_one Df.II (S' := fun b => (Value.slice A9 n9 c9).ownBlock = some b) rfl (.tmp 42) (.tmp 49) 49 24 _ 24 rfl Tryd.underlying49 infoRowI rfl (by decide) (by decide) z (.slice An nn cn) nx rk [.slice A9 n9 n9] wr.heap.size rfl rfl (blk_drew (blk_new wr _ _ rfl)) ⟨A9, n9, by rw [HRL.out], by rw [HRL.out]; exact Nat.le_refl _, HNN.out, by rw [HRL.out]; exact (HROW.out.move (fun b hb => Below.heap_alloc _ _ _ (HNO.out b hb).1)).move (fun _ _ => rfl)⟩ HOWd.out (fun b hb => ⟨by rw [size_drew, size_alloc]; have := (HNO.out b hb).1; omega, (HNO.out b hb).2⟩) (fun he => by have := ownT_lt HON.out _ (.inr he); omega) (by rw [size_drew, size_alloc]; have := HZW.out; omega) (by rw [HNL.out]; have := HNL2.out; omega) ?_; intro v2 w7 hown hgr hat; have HOWN := Hd.mk hown; have HGR := Hd.mk hgr; have HAT := Hd.mk hat; clear hown hgr hat))
      have HF7 : Hd (Fr (fun b => (Value.slice An nn cn).ownBlock = some b) (World.drew (wr.alloc (.cells #[.slice A9 n9 n9] 24))) w7) := ⟨⟨⟨HGR.out.os, HGR.out.tape, HGR.out.output, HGR.out.size, fun k hk => absurd hk (Nat.not_lt_zero k)⟩, fun b hb hx => HGR.out.block b hb fun h => hx h.symm⟩⟩
      refine onK_normal (hK _ _ ⟨clsX _ _, clsX_self _ _, fun _ => clsX_next HF7.out.size (fun b hb hx => HF7.out.same b hb (by rw [HWN.out] at hx; exact hx)), ?_⟩)
      clear hK K
      refine can_q (l := [⟨_,_,_,_,_,_⟩, ⟨_,_,_,_,_,_⟩, ⟨_,_,_,_,_,_⟩]) rfl ?_
      repeat (go_big_quiet_step (fail))
      refine wpQuiet_nil ?_
      obtain ⟨A8, c8, e8, -, -, -⟩ := HOWN.out.form
      rw [List.length_append, HNL.out, List.length_singleton] at e8
      subst e8
      have hnB2 : ¬ (Value.slice An nn cn).ownBlock = some B := fun h => hnB (by rw [HWN.out]; exact h)
      have hy7 := HF7.out.blk (blk_drew (blk_alloc hob (.cells #[.slice A9 n9 n9] 24))) hnB2
      clear hobc0 hobf0 hobc1 hobf1 hobc2 hobf2 hobc3 hobf3 hobc4 hobf4 hobc5 hobf5 hobc6 hobf6 hobc7 hobf7 hobc8 hobf8 hobc9 hobf9 hobl
      clear hob
      have hy7c0 := blk_cell hy7 0 _ rfl; have hy7f0 := blk_frozen hy7 0; have hy7c1 := blk_cell hy7 1 _ rfl; have hy7f1 := blk_frozen hy7 1; have hy7c2 := blk_cell hy7 2 _ rfl; have hy7f2 := blk_frozen hy7 2; have hy7c3 := blk_cell hy7 3 _ rfl; have hy7f3 := blk_frozen hy7 3; have hy7c4 := blk_cell hy7 4 _ rfl; have hy7f4 := blk_frozen hy7 4; have hy7c5 := blk_cell hy7 5 _ rfl; have hy7f5 := blk_frozen hy7 5; have hy7c6 := blk_cell hy7 6 _ rfl; have hy7f6 := blk_frozen hy7 6; have hy7c7 := blk_cell hy7 7 _ rfl; have hy7f7 := blk_frozen hy7 7; have hy7c8 := blk_cell hy7 8 _ rfl; have hy7f8 := blk_frozen hy7 8; have hy7c9 := blk_cell hy7 9 _ rfl; have hy7f9 := blk_frozen hy7 9; have hy7l := blk_lt hy7
      refine can_e (o := ⟨_,_,_,_,_,_⟩) rfl (fun K hK => ?_)
      go_wp2_with fail
      refine onK_normal (hK _ _ ⟨fun _ => True, trivial, (fun h => by cases h), ?_⟩)
      clear hK K
      refine can_done ?_
      generalize hY : World.setCell w7 _ _ = Y
      have HYY : Hd (Y.heap[B]? = some (bdO M (.slice A8 (nn + 1) c8) tv' wv')) := ⟨by rw [← hY]; exact blk_set hy7 4 _ _ rfl⟩
      have HBiU := (HBD.out.inn.below (below_alloc (Below.refl _ _) (.cells #[.slice A9 n9 n9] 24))).below (below_drew1 (Below.refl _ _))
      have hbox : ∀ i, ¬ Z' i wr.heap.size := fun i hi => by have := (HBD.out.inn.zn.lt i _ hi).2; omega
      have hzw := HZW.out
      have HBiY := Hd.mk ((HBiU.rows (by rw [size_drew, size_alloc]; omega) HZN.out HF7.out HOWN.out (fun b hb => by
        rcases hb with hb | hb | hb
        · exact .inl hb
        · exact .inr (.inl ⟨by have := (HM9.out.lt hb).2; omega, HZo.out b hb⟩)
        · rw [hb]; exact .inr (.inl ⟨by omega, hbox⟩)) HAT.out).store 4 (.slice A8 (nn + 1) c8))
      rw [hY] at HBiY
      have HFY : Hd (Fr (fun b => wrZ Z b ∨ Z 2 b) w Y) := ⟨by
        have f1 : Fr (fun b => wrZ Z b ∨ Z 2 b) w wr := ⟨⟨HBz.out.os, HBz.out.tape, HBz.out.output, HBz.out.size, fun k hk => absurd hk (Nat.not_lt_zero k)⟩, fun b hb hx => (HFr.out.same b (by omega) (HXn.out b (by omega) (fun h => hx (.inl h)))).trans (HBW1.out.block b hb)⟩
        rw [← hY]
        refine Fr.set (((f1.alloc _).drew).trans (HF7.out.mono fun b hb => ?_)) (.inl (.inl (.inl HB.out.inn.zB))) _ _
        have h9 := HZN.out b (.inr hb)
        rw [HZ2.out] at h9
        exact .inr h9⟩
      have HZS : Hd (∀ i b, upZ Z' 2 (fun b => (SN b ∨ (Value.slice A9 n9 c9).ownBlock = some b ∨ b = wr.heap.size) ∨ (Value.slice A8 (nn + 1) c8).ownBlock = some b) i b → Z i b ∨ w.heap.size ≤ b) := ⟨fun i b hb => by
        have hzz : ∀ i b, Z' i b → Z i b ∨ w.heap.size ≤ b := fun i b h => by
          rcases HZs.out i b h with h | h
          · exact .inl h
          · exact .inr (by omega)
        by_cases hi : i = 2
        · subst hi
          rw [upZ_same] at hb
          rcases hb with (hb | hb | hb) | hb
          · exact hzz 2 b (HZN.out b (.inl hb))
          · exact .inr (by have := HOB.out b hb; omega)
          · exact .inr (by omega)
          · rcases HAT.out with h | h
            · rw [h] at hb
              exact hzz 2 b (HZN.out b (.inr hb))
            · rw [h] at hb
              cases hb
              refine .inr ?_
              rw [size_drew, size_alloc]
              omega
        · rw [upZ_ne _ hi] at hb
          exact hzz i b hb⟩
      have HZY : Hd (Below z w Y) := ⟨HFY.out.below hzw (fun b hb hx => by
        rcases hx with (hx | hx | hx | hx) | hx
        · have := (HB.out.inn.zn.lt 0 b hx).1; omega
        · have := (HB.out.inn.zn.lt 1 b hx).1; omega
        · have := (HB.out.inn.zn.lt 3 b hx).1; omega
        · have := (HB.out.inn.zn.lt 5 b hx).1; omega
        · have := (HB.out.inn.zn.lt 2 b hx).1; omega)⟩
      clear hY hy7 HBiU
      go_wp2
      go_ret
      exact ⟨rfl, HZY.out, ⟨_, ⟨_, tv', wv', by rw [HAK.out, HRK.out]; exact ⟨HYY.out, HBiY.out⟩⟩, HZS.out, HFY.out⟩⟩
end Go.Proofs.YtbmpaokicphdjaaDoor.Fn

/- Build: the beginning. -/
namespace Go.Proofs.YtbmpaokicphdjaaDoor.Fn
open Go Go.RowKit Go.Proofs.YtbmpaokicphdjaaDoor.Can Go.Proofs.YtbmpaokicphdjaaDoor.Base
attribute [local go_sem] clsB AB.cell

theorem TbI.lower {w : World} {base base' p : Nat} {v : Value} {g : Nat} {S : Nat → Prop} {room : Nat} {xs : List (Nat × List Nat)} {P : List Int} {m : Nat} (h : TbI w base p v g S room xs P m) (hb : base' ≤ base) : TbI w base' p v g S room xs P m :=
  ⟨h.obj, h.own.lower hb, h.blk, h.pg, h.vp, h.vg, h.sp, h.sg, Nat.le_trans hb h.bp, Nat.le_trans hb h.bg, fun k hk => Nat.le_trans hb (h.sb k hk), h.inv, h.nod, h.xl, h.pl⟩
theorem Tbl.lower {w : World} {base base' p : Nat} {F : Nat → Prop} {room : Nat} {xs : List (Nat × List Nat)} (h : Tbl w base p F room xs) (hb : base' ≤ base) : Tbl w base' p F room xs := by
  obtain ⟨v, g, S, P, hI, h1⟩ := h.ex
  exact ⟨⟨v, g, S, P, hI.lower hb, h1⟩, h.r1, h.r2, h.xr, fun k hk => ⟨Nat.le_trans hb (h.fb k hk).1, (h.fb k hk).2⟩⟩
instance : DecidableEq Al.Rg := fun a b => decidable_of_iff (a.lo = b.lo ∧ a.hi = b.hi) ⟨fun h => by obtain ⟨x, y⟩ := a; obtain ⟨x', y'⟩ := b; simp only at h; rw [h.1, h.2], fun h => by rw [h]; exact ⟨rfl, rfl⟩⟩
/-- The ranges, each once, as the code meets them. -/
def rgF (L : List Al.Rg) (x : St) : List Al.Rg := if 0 ≤ x.lo ∧ (⟨x.lo, x.hi⟩ : Al.Rg) ∉ L then L ++ [⟨x.lo, x.hi⟩] else L
def rgU (q : List St) : List Al.Rg := q.foldl rgF []
theorem rgU_snoc (q : List St) (x : St) : rgU (q ++ [x]) = rgF (rgU q) x := by simp [rgU]
theorem mem_rgU (q : List St) : ∀ r, r ∈ rgU q ↔ r ∈ rgs q := by
  refine list_snoc_ind (P := fun q => ∀ r, r ∈ rgU q ↔ r ∈ rgs q) (fun r => Iff.rfl) (fun l x ih r => ?_) q
  rw [rgU_snoc]
  have e : r ∈ rgs (l ++ [x]) ↔ r ∈ rgs l ∨ (0 ≤ x.lo ∧ r = ⟨x.lo, x.hi⟩) := by
    rw [mem_rgs, mem_rgs]
    constructor
    · rintro ⟨y, hy, h0, h1⟩
      rcases List.mem_append.1 hy with hy | hy
      · exact .inl ⟨y, hy, h0, h1⟩
      · rw [List.mem_singleton.1 hy] at h0 h1; exact .inr ⟨h0, h1⟩
    · rintro (⟨y, hy, h0, h1⟩ | ⟨h0, h1⟩)
      · exact ⟨y, List.mem_append_left _ hy, h0, h1⟩
      · exact ⟨x, List.mem_append_right _ (List.mem_singleton.2 rfl), h0, h1⟩
  rw [e, ← ih]
  unfold rgF
  split
  · rename_i h
    rw [List.mem_append, List.mem_singleton]
    exact or_congr Iff.rfl ⟨fun k => ⟨h.1, k⟩, fun k => k.2⟩
  · rename_i h
    constructor
    · exact fun k => .inl k
    · rintro (k | ⟨k0, k1⟩)
      · exact k
      · rw [k1]
        exact Classical.byContradiction fun hn => h ⟨k0, hn⟩
theorem rgU_len (q : List St) : (rgU q).length ≤ q.length := by
  refine list_snoc_ind (P := fun q => (rgU q).length ≤ q.length) (Nat.le_refl _) (fun l x ih => ?_) q
  rw [rgU_snoc]
  unfold rgF
  split
  · rw [List.length_append, List.length_append, List.length_singleton, List.length_singleton]; omega
  · rw [List.length_append, List.length_singleton]; omega
theorem set5 {w : World} {g : Nat} {t : TypeId} {a0 a1 a2 a3 a4 : Value} (h : w.heap[g]? = some (.cells #[a0, a1, a2, a3, a4] t (0, 0))) (v0 v1 v2 v3 v4 : Value) :
    (((((w.setCell ⟨g, 0, none⟩ v0).setCell ⟨g, 1, none⟩ v1).setCell ⟨g, 2, none⟩ v2).setCell ⟨g, 3, none⟩ v3).setCell ⟨g, 4, none⟩ v4).heap[g]? = some (.cells #[v0, v1, v2, v3, v4] t (0, 0)) := by
  have h0 := blk_set h 0 v0 #[v0, a1, a2, a3, a4] rfl
  have h1 := blk_set h0 1 v1 #[v0, v1, a2, a3, a4] rfl
  have h2 := blk_set h1 2 v2 #[v0, v1, v2, a3, a4] rfl
  have h3 := blk_set h2 3 v3 #[v0, v1, v2, v3, a4] rfl
  exact blk_set h3 4 v4 #[v0, v1, v2, v3, v4] rfl
theorem below_set5 {w W : World} (h : Below w.heap.size w W) {g : Nat} (hg : w.heap.size ≤ g) (v0 v1 v2 v3 v4 : Value) :
    Below w.heap.size w (((((W.setCell ⟨g, 0, none⟩ v0).setCell ⟨g, 1, none⟩ v1).setCell ⟨g, 2, none⟩ v2).setCell ⟨g, 3, none⟩ v3).setCell ⟨g, 4, none⟩ v4) :=
  below_set (below_set (below_set (below_set (below_set h hg _ _) hg _ _) hg _ _) hg _ _) hg _ _
/-- What Build tells. -/
def zD : Value := .agg #[.slice none 0 0, .int .i64 0, .slice none 0 0, .slice none 0 0, .int .i64 0]
def BQ (st : Int) (q : List St) (most : Int) (w : World) (e : Ending) (w' : World) : Prop :=
  (∃ (D : List (List Bool) × List (List Int)) (A1 A2 A3 : Option Addr) (n1 n2 n3 c1 c2 c3 : Nat), e = .returned (.tuple #[.agg #[.slice A1 n1 c1, .int .i64 (dfaOf q D).wid, .slice A2 n2 c2, .slice A3 n3 c3, .int .i64 0], .int .i64 0]) ∧ Good st q (fsOf q) most D ∧ Df.DF w' (fun k => w.heap.size ≤ k ∧ k < w'.heap.size) A1 A2 A3 n1 n2 n3 (dfaOf q D)) ∨
  (e = .returned (.tuple #[zD, .int .i64 6]) ∧ Bad st q (fsOf q) most)
set_option maxRecDepth 20000 in
set_option maxHeartbeats 1000000 in
theorem build_form (st : Int) (A : Option Addr) (n c : Nat) (q : List St) (S : Nat → Prop) (mo : Int) (w : World) (hn : q.length = n) (hN : NF w S A q) (hc : checkV st q ≠ 0) :
    Calls Tryd.prog 59 #[.agg #[.int .i64 st, .slice A n c], .int .i64 mo] w fun e w' => e = .returned (.tuple #[zD, .int .i64 (checkV st q)]) ∧ Below w.heap.size w w' := by
  have h8 := start_bad st A c q S ((w.alloc (.cells #[.int .i64 st, .slice A n c] 58)).alloc (.cells #[.slice none 0 0, .int .i64 0, .slice none 0 0, .slice none 0 0, .int .i64 0] 90)) (hN.below (below_alloc (below_alloc (Below.refl _ _) _) _)) hc
  rw [hn] at h8
  obtain ⟨e0, he0⟩ : ∃ e, checkV st q = e := ⟨_, rfl⟩
  rw [he0] at h8 hc ⊢
  have HJ := Hd.mk h8
  have hj : (e0 != 0) = true := by simpa using hc
  unfold zD
  clear h8 hN hn he0 hc
  go_enter Tryd.func59, Tryd.ntmps59
  go_wp2_with (go_at_call 44; go_must (refine Calls.mono HJ.out ?_; rintro e w2 ⟨rfl, hb2⟩; have HB2 := Hd.mk (below_seq (below_alloc (below_alloc (Below.refl _ _) _) _) hb2); have HX2 := Hd.mk (blk_below (blk_new (w.alloc (.cells #[.int .i64 st, .slice A n c] 58)) (.cells #[.slice none 0 0, .int .i64 0, .slice none 0 0, .slice none 0 0, .int .i64 0] 90) (w.heap.size + 1) (by rw [size_alloc])) hb2); have hx3 := blk_alloc HX2.out (.cells #[.slice none 0 0, .int .i64 0] 28); have hx3c0 := blk_cell hx3 0 _ rfl; have hx3f0 := blk_frozen hx3 0; have hx3c1 := blk_cell hx3 1 _ rfl; have hx3f1 := blk_frozen hx3 1; have hx3c2 := blk_cell hx3 2 _ rfl; have hx3f2 := blk_frozen hx3 2; have hx3c3 := blk_cell hx3 3 _ rfl; have hx3f3 := blk_frozen hx3 3; have hx3c4 := blk_cell hx3 4 _ rfl; have hx3f4 := blk_frozen hx3 4; have hx3l := blk_lt hx3; clear hb2))
  refine bodyPost_ret (cell_tmp_row2 rfl _ _ (w.heap.size + 1) 90 #[.slice none 0 0, .int .i64 0, .slice none 0 0, .slice none 0 0, .int .i64 0] (0, 0) _ rfl (set5 hx3 _ _ _ _ _) Tryd.underlying90 rfl (by kernel_rfl)) rfl ?_
  exact ⟨rfl, below_set5 (below_seq HB2.out (below_alloc (Below.refl _ _) _)) (Nat.le_succ _) _ _ _ _ _⟩
end Go.Proofs.YtbmpaokicphdjaaDoor.Fn
