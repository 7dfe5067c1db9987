/- Growing a table; a new one. -/
import Derived.Test.YtbmpaokicphdjaaDoorS3
set_option linter.unusedVariables false
set_option linter.unusedSimpArgs false
namespace Go.Proofs.YtbmpaokicphdjaaDoor.Fn
open Go Go.RowKit Go.Proofs.YtbmpaokicphdjaaDoor.Can Go.Proofs.YtbmpaokicphdjaaDoor.Base
attribute [local go_sem] clsB AB.cell

/-- A table, whatever its places are. -/
structure TbG (w : World) (base p : Nat) (v pv : Value) (S : Nat → Prop) (room : Nat) (xs : List (Nat × List Nat)) : Prop where
  obj : w.heap[p]? = some (.cells #[v, pv, .int .i64 room, .func (.func 74) #[] #[]] 82 (0, 0))
  own : Base.Own setT w base 28 S v xs
  vp : v.ownBlock ≠ some p
  sp : ¬ S p
  bp : base ≤ p
  sb : ∀ k, S k → base ≤ k
  nod : (xs.map lst).Nodup
  xl : xs.length ≤ 65536
theorem TbI.g {w : World} {base p : Nat} {v : Value} {g : Nat} {S : Nat → Prop} {room : Nat} {xs : List (Nat × List Nat)} {P : List Int} {m : Nat} (h : TbI w base p v g S room xs P m) : TbG w base p v (.slice (some ⟨g, 0, none⟩) P.length P.length) S room xs :=
  ⟨h.obj, h.own, h.vp, h.sp, h.bp, h.sb, h.nod, h.xl⟩
theorem own_lt {w : World} {base : Nat} {e : TypeId} {S : Nat → Prop} {v : Value} {xs : List (Nat × List Nat)} (h : Base.Own setT w base e S v xs) : ∀ k, (S k ∨ v.ownBlock = some k) → k < w.heap.size := fun k hk => by
  rcases hk with hk | hk
  · obtain ⟨_, _, _, hs⟩ := h; exact (hs k hk).1
  · exact (h.lt hk).1
/-- The places are stored into. -/
theorem TbI.store {w : World} {base p : Nat} {v : Value} {g : Nat} {S : Nat → Prop} {room : Nat} {xs : List (Nat × List Nat)} {P : List Int} {m : Nat} (h : TbI w base p v g S room xs P m) {x : List Int} {d i : Nat} (hx : (xs.map lst)[m]? = some x) (hi : i = (hashS x + d) % P.length) (hf : plc hashS P x d = -1) (hn : ∀ e, e < d → plc hashS P x e ≠ -1) :
    TbI (w.setCell ⟨g, i, none⟩ (.int .i64 m)) base p v g S room xs (P.set i (m : Int)) (m + 1) := by
  subst hi
  have hP := plc_get (h := hashS) (x := x) h.inv.pos d
  rw [hf] at hP
  refine ⟨?_, h.own.set (fun k hk he => ?_) _, Blk.iset h.blk hP, h.pg, h.vp, h.vg, h.sp, h.sg, h.bp, h.bg, h.sb, h.inv.put hx hf hn, h.nod, h.xl, by rw [List.length_set]; exact h.pl⟩
  · rw [List.length_set]
    exact blk_far h.obj h.pg _
  · subst he
    rcases hk with hk | hk
    · exact h.sg hk
    · exact h.vg hk
theorem nodup_get {α : Type} {l : List α} (h : l.Nodup) {i j : Nat} {x : α} (hi : l[i]? = some x) (hj : l[j]? = some x) : i = j := by
  obtain ⟨h1, e1⟩ := List.getElem?_eq_some_iff.1 hi
  obtain ⟨h2, e2⟩ := List.getElem?_eq_some_iff.1 hj
  exact (List.getElem_inj h).1 (e1.trans e2.symm)
set_option maxHeartbeats 2000000 in
theorem grow_calls (base p room n : Nat) (v pv : Value) (S : Nat → Prop) (xs : List (Nat × List Nat)) (w : World) (hG : TbG w base p v pv S room xs) (hb : base ≤ w.heap.size) (hn : xs.length < n) (hn6 : n ≤ 1000000) (hT : TabAt 0 Lib.deBruijn64tab w) (hp0 : 0 < p) :
    Calls Tryd.prog 75 #[.pointer (some ⟨p, 0, none⟩), .int .i64 n] w fun e w' => (∃ u, e = .returned u) ∧ ∃ g P, TbI w' base p v g S room xs P xs.length ∧ P.length = n ∧ w.heap.size ≤ g ∧ g < w'.heap.size ∧ Fr (fun k => k = p) w w' := by
  obtain ⟨i0, hi, hz, hs, hbb⟩ := info_of (P := Tryd.prog) (e := 3) (z := some (.int .i64 0)) (s := 1) (b := 8) (by kernel_rfl)
  obtain ⟨Av, cv, rfl, hcv, hAv, hrow⟩ := hG.own.form
  have hobj := hG.obj
  have hxl := hG.xl
  have hpl := blk_lt hobj
  obtain ⟨nx, hnx⟩ : ∃ n, xs.length = n := ⟨_, rfl⟩
  rw [hnx] at hobj hcv hrow hn hxl ⊢
  have HG := Hd.mk hG; have HI := Hd.mk (And.intro hi (And.intro hz (And.intro hs hbb))); have HT := Hd.mk hT; have HB := Hd.mk hb; have HNX := Hd.mk hnx; have HROW := Hd.mk hrow; have HCV := Hd.mk hcv
  have HLT := Hd.mk (own_lt hG.own)
  clear hG hi hz hs hbb hT hb hnx hrow hcv hAv
  have hobjc0 := blk_cell hobj 0 _ rfl; have hobjf0 := blk_frozen hobj 0; have hobjc1 := blk_cell hobj 1 _ rfl; have hobjf1 := blk_frozen hobj 1; have hobjc2 := blk_cell hobj 2 _ rfl; have hobjf2 := blk_frozen hobj 2; have hobjc3 := blk_cell hobj 3 _ rfl; have hobjf3 := blk_frozen hobj 3; have hobjl := blk_lt hobj
  go_enter Tryd.func75, Tryd.ntmps75
  go_wp2_with (at_make; go_must (refine wpList_make_full _ rfl (.tmp 10) (.tmp 10) 24 rfl w.heap.size 3 i0 (.int .i64 0) 1 Tryd.underlying24 HI.out.1 HI.out.2.1 HI.out.2.2.1 .i64 .i64 n n n rfl rfl rfl rfl (by rw [HI.out.2.2.2]; omega) (by simp only [maxLen]; omega) (Nat.le_refl _) ?_; intro w1 ho1 hg1; have hb1 : Below w.heap.size w w1 := ((Below.refl _ _).grown hg1 (Nat.le_refl _) (fun k hk => by cases hk)); have hp1 := blk_below hobj hb1; clear hobjc0 hobjf0 hobjc1 hobjf1 hobjc2 hobjf2 hobjc3 hobjf3 hobjl; have hp1c0 := blk_cell hp1 0 _ rfl; have hp1f0 := blk_frozen hp1 0; have hp1c1 := blk_cell hp1 1 _ rfl; have hp1f1 := blk_frozen hp1 1; have hp1c2 := blk_cell hp1 2 _ rfl; have hp1f2 := blk_frozen hp1 2; have hp1c3 := blk_cell hp1 3 _ rfl; have hp1f3 := blk_frozen hp1 3; have hp1l := blk_lt hp1))
  have hg0 := Blk.made (enc := iE) (x := 0) i_len (by decide) rfl ho1
  have hne : ¬ p = w.heap.size := by omega
  have HOW1 := Hd.mk (HG.out.own.below hb1)
  generalize hW : World.setCell _ _ _ = W1
  have HOB : Hd (W1.heap[p]? = some (.cells (tabV (.slice Av nx cv) w.heap.size n room) 82 (0, 0))) := ⟨by rw [← hW]; exact blk_set hp1 1 _ _ rfl⟩
  have HBK : Hd (Blk iE W1 3 w.heap.size (List.replicate n 0)) := ⟨by rw [← hW]; exact hg0.far (by show ¬ w.heap.size = p; omega) _⟩
  have HOW : Hd (Base.Own setT W1 base 28 S (.slice Av nx cv) xs) := ⟨by
    rw [← hW]
    have := HOW1.out
    have e9 := HG.out.vp
    rw [HNX.out] at this e9
    exact this.set (fun k hk he => by subst he; rcases hk with hk | hk; exact HG.out.sp hk; exact e9 hk) _⟩
  have HFR : Hd (Fr (fun k => k = p) w W1) := ⟨by rw [← hW]; exact Fr.set (X := fun k => k = p) (Fr.of_below hb1) (.inl rfl) _ _⟩
  have hzW : w.heap.size < W1.heap.size := HBK.out.lt
  have hpW : p < W1.heap.size := blk_lt HOB.out
  clear hW hg0 ho1 hg1 hb1 HOW1
  clear hp1c0 hp1f0 hp1c1 hp1f1 hp1c2 hp1f2 hp1c3 hp1f3 hp1l
  clear hobj hp1
  go_loopw [19] (fun i wr => ∃ (k : Nat) (Q : List Int), k ≤ n ∧ i = .int .i64 k ∧ Hd (Q.length = n ∧ ∀ j, j < k → Q[j]? = some (-1)) ∧ Hd (Blk iE wr 3 w.heap.size Q) ∧ Hd (Fr (fun k => k = w.heap.size) W1 wr)) (fun i _ => n - (intOf i).toNat)
  case atStart => exact ⟨0, _, Nat.zero_le _, rfl, ⟨List.length_replicate, fun j hj => absurd hj (Nat.not_lt_zero j)⟩, HBK, ⟨Fr.refl _ _⟩⟩
  case round =>
    obtain ⟨k, Q, hk, rfl, HQ, HBQ, HF⟩ := hrel
    have hpr := HF.out.blk HOB.out hne
    unfold tabV at hpr
    have hfz := HBQ.out.frozen k
    have hgl := HBQ.out.lt
    have hprc0 := blk_cell hpr 0 _ rfl; have hprf0 := blk_frozen hpr 0; have hprc1 := blk_cell hpr 1 _ rfl; have hprf1 := blk_frozen hpr 1; have hprc2 := blk_cell hpr 2 _ rfl; have hprf2 := blk_frozen hpr 2; have hprc3 := blk_cell hpr 3 _ rfl; have hprf3 := blk_frozen hpr 3; have hprl := blk_lt hpr
    by_cases hlt : k < n
    · obtain ⟨y, hy⟩ : ∃ y, Q[k]? = some y := ⟨_, List.getElem?_eq_getElem (by rw [HQ.out.1]; exact hlt)⟩
      have hcy := Blk.icell HBQ.out hy
      have HY := Hd.mk hy; clear hy
      go_wp2
      go_roundw
      case rel =>
        refine ⟨k + 1, Q.set k (-1), by omega, by go_num, ⟨by rw [List.length_set]; exact HQ.out.1, fun j hj => ?_⟩, ⟨Blk.iset HBQ.out HY.out⟩, ⟨Fr.set HF.out (.inl rfl) _ _⟩⟩
        rw [List.getElem?_set]
        split
        · rename_i h; subst h
          first
            | rfl
            | (rw [if_pos (by rw [HQ.out.1]; exact hlt)])
        · exact HQ.out.2 j (by omega)
      case measure => simp [intOf]; omega
    · obtain rfl : k = n := by omega
      have HQR : Hd (Q = List.replicate k (-1)) := ⟨by
        apply List.ext_getElem?
        intro j
        rw [List.getElem?_replicate]
        split
        · rename_i h; exact HQ.out.2 j h
        · rw [List.getElem?_eq_none (by rw [HQ.out.1]; omega)]⟩
      obtain ⟨Y, hY⟩ : ∃ Y : World, Y = wr := ⟨_, rfl⟩
      subst hY
      have HT0 : Hd (TbI Y base p (.slice Av nx cv) w.heap.size S room xs Q 0) := ⟨by
        have e9 := HG.out.vp
        rw [HNX.out] at e9
        refine ⟨by rw [HQ.out.1]; exact HF.out.blk HOB.out hne, HOW.out.move (fun q hq => HF.out.same q (own_lt HOW.out q hq) (fun h => ?_)) HF.out.size, HBQ.out, hne, e9, fun h => ?_, HG.out.sp, fun h => ?_, HG.out.bp, HB.out, HG.out.sb, by rw [HQR.out]; exact Pl.start k (by omega), HG.out.nod, HG.out.xl, by rw [HQ.out.1]; exact hn6⟩
        · have h' : q = w.heap.size := h
          have := HLT.out q (by rw [HNX.out]; exact hq)
          omega
        · have := HLT.out _ (Or.inr (by rw [HNX.out]; exact h)); omega
        · have := HLT.out _ (Or.inl h); omega⟩
      have HQL : Hd (Q.length = k) := ⟨HQ.out.1⟩
      have hzY := HF.out.size
      clear HQ HBQ HQR HBK HOB
      go_wp2
      have HFY : Hd (Fr (fun k => k = p) w Y) := ⟨⟨HFR.out.zero.trans HF.out.zero, fun b hb hx => (HF.out.same b (by omega) (fun h => by have h' : b = w.heap.size := h; omega)).trans (HFR.out.same b hb hx)⟩⟩
      clear HF HFR HOW
      go_loopw [34] (fun i wr => ∃ (m : Nat) (P : List Int), m ≤ nx ∧ i = .int .i64 m ∧ Hd (TbI wr base p (.slice Av nx cv) w.heap.size S room xs P m ∧ P.length = k) ∧ Hd (Fr (fun k => k = w.heap.size) Y wr)) (fun i _ => nx - (intOf i).toNat)
      case atStart => exact ⟨0, Q, Nat.zero_le _, rfl, ⟨HT0.out, HQL.out⟩, ⟨Fr.refl _ _⟩⟩
      case round =>
        clear HT0
        obtain ⟨m, P, hm, rfl, HTI, HFX⟩ := hrel
        have hzr := HFX.out.size
        by_cases hlm : m < nx
        · have HROWr : Hd (Row setT wr (fun q => S q ∨ (Value.slice Av nx cv).ownBlock = some q) Av nx xs) := ⟨HROW.out.move (fun q hq => by
            have hq1 := HLT.out q (by rw [HNX.out]; exact hq)
            have e9 := HG.out.vp
            rw [HNX.out] at e9
            refine (HFX.out.same q (by omega) (fun h => by have h' : q = w.heap.size := h; omega)).trans (HFY.out.same q hq1 (fun h => ?_))
            have h' : q = p := h
            subst h'
            rcases hq with hq | hq
            · exact HG.out.sp hq
            · exact e9 hq)⟩
          obtain ⟨b, off, z, A', c', g', rfl, _, hbl, hz, hc0, hc1, hok', hwd', hS'⟩ := set_get HROWr.out m hlm
          have hLk : (xs.map lst)[m]? = some (lst z) := by rw [List.getElem?_map, hz]; rfl
          have HLK := Hd.mk hLk
          have HOK' := Hd.mk hok'; have HWD' := Hd.mk hwd'
          obtain ⟨zr, zw⟩ := z
          dsimp only at *
          obtain ⟨zn, hzn⟩ : ∃ n, zw.length = n := ⟨_, rfl⟩
          rw [hzn] at hc0
          have HZN := Hd.mk hzn
          have HTR : Hd (TabAt 0 Lib.deBruijn64tab wr) := ⟨fun j hj => ((World.cell?_of_block (w := Y) (HFX.out.same 0 (by show 0 < Y.heap.size; omega) (by show ¬ (0 : Nat) = w.heap.size; omega))).trans (World.cell?_of_block (w := w) (HFY.out.same 0 (by show 0 < w.heap.size; omega) (by show ¬ (0 : Nat) = p; omega)))).trans (HT.out j hj)⟩
          clear hz hLk hok' hwd' hS' hzn
          go_wp2_with (go_at_call 77; go_must (have h9 := place_calls base p w.heap.size g' zr room m (.slice (some ⟨b, off, none⟩) nx cv) A' c' S xs P zw (World.alloc wr (.cells #[.slice A' zn c', .int .i64 zr] 28)) (HTI.out.1.below (below_alloc (Below.refl _ _) _)) (by rw [HTI.out.2]; omega) HOK'.out (HWD'.out.below (below_alloc (Below.refl _ _) _)) (fun j hj => (Below.cell (below_alloc (Below.refl _ _) _) (p := ⟨0, j, none⟩) (by show 0 < wr.heap.size; omega)).trans (HTR.out j hj)) (by rw [size_alloc]; omega); rw [HZN.out] at h9; refine Calls.mono h9 ?_; clear h9; rintro e w2 ⟨i, bb, rfl, hiP, hpl2, hb2⟩; have HB2 := Hd.mk (below_seq (below_alloc (Below.refl _ _) _) hb2); have HPL2 := Hd.mk hpl2; have HTI2 := Hd.mk (HTI.out.1.below HB2.out); have hp2 := HTI2.out.obj; unfold tabV at hp2; rw [HTI.out.2] at hp2 hiP; have hcell2 := Blk.icell HTI2.out.blk (List.getElem?_eq_getElem (by rw [HTI.out.2]; exact hiP)); have hfz2 := HTI2.out.blk.frozen i; have hgl2 := HTI2.out.blk.lt; have hp2c0 := blk_cell hp2 0 _ rfl; have hp2f0 := blk_frozen hp2 0; have hp2c1 := blk_cell hp2 1 _ rfl; have hp2f1 := blk_frozen hp2 1; have hp2c2 := blk_cell hp2 2 _ rfl; have hp2f2 := blk_frozen hp2 2; have hp2c3 := blk_cell hp2 3 _ rfl; have hp2f3 := blk_frozen hp2 3; have hp2l := blk_lt hp2; clear hpl2 hb2))
          go_roundw
          case rel =>
            rcases HPL2.out with ⟨_, k2, hk2, hL, _⟩ | ⟨_, ⟨d, hi, hf, hn2⟩, _⟩
            · have := nodup_get HG.out.nod hL HLK.out
              omega
            · exact ⟨m + 1, P.set i (m : Int), by omega, by go_num, ⟨HTI2.out.store HLK.out hi hf hn2, by rw [List.length_set]; exact HTI.out.2⟩, ⟨Fr.set (X := fun k => k = w.heap.size) (HFX.out.trans (Fr.of_below HB2.out)) (.inl rfl) _ _⟩⟩
          case measure => simp [intOf]; omega
        · obtain rfl : m = nx := by omega
          go_wp2
          go_end0
          exact ⟨⟨_, rfl⟩, w.heap.size, P, HTI.out.1, HTI.out.2, Nat.le_refl _, by omega, ⟨HFY.out.zero.trans HFX.out.zero, fun b hb hx => (HFX.out.same b (by omega) (fun h => by have h' : b = w.heap.size := h; omega)).trans (HFY.out.same b hb hx)⟩⟩
/-! ### A table, as it is between the calls -/
theorem TbI.fr {X : Nat → Prop} {w w' : World} {base p : Nat} {v : Value} {g : Nat} {S : Nat → Prop} {room : Nat} {xs : List (Nat × List Nat)} {P : List Int} {m : Nat} (h : TbI w base p v g S room xs P m) (hf : Fr X w w') (hp : ¬ X p) (hg : ¬ X g) (hv : ∀ k, v.ownBlock = some k → ¬ X k) (hS : ∀ k, S k → ¬ X k) : TbI w' base p v g S room xs P m :=
  ⟨hf.blk h.obj hp, h.own.move (fun k hk => hf.same k (own_lt h.own k hk) (by rcases hk with hk | hk; exact hS k hk; exact hv k hk)) hf.size, h.blk.fr hf hg, h.pg, h.vp, h.vg, h.sp, h.sg, h.bp, h.bg, h.sb, h.inv, h.nod, h.xl, h.pl⟩
/-- F: the blocks that it leans on. -/
structure Tbl (w : World) (base p : Nat) (F : Nat → Prop) (room : Nat) (xs : List (Nat × List Nat)) : Prop where
  ex : ∃ v g S P, TbI w base p v g S room xs P xs.length ∧ 3 * (xs.length + 1) ≤ 2 * P.length ∧ P.length ≤ 3 * xs.length + 8 ∧ 8 ≤ P.length ∧ F p ∧ F g ∧ (∀ k, v.ownBlock = some k → F k) ∧ ∀ k, S k → F k
  r1 : 1 ≤ room
  r2 : room ≤ 65536
  xr : xs.length ≤ room
  fb : ∀ k, F k → base ≤ k ∧ k < w.heap.size
theorem Tbl.fr {X : Nat → Prop} {w w' : World} {base p : Nat} {F : Nat → Prop} {room : Nat} {xs : List (Nat × List Nat)} (h : Tbl w base p F room xs) (hf : Fr X w w') (hX : ∀ k, F k → ¬ X k) : Tbl w' base p F room xs := by
  obtain ⟨v, g, S, P, hI, h1, h2, h3, h4, h5, h6, h7⟩ := h.ex
  exact ⟨⟨v, g, S, P, hI.fr hf (hX p h4) (hX g h5) (fun k hk => hX k (h6 k hk)) (fun k hk => hX k (h7 k hk)), h1, h2, h3, h4, h5, h6, h7⟩, h.r1, h.r2, h.xr, fun k hk => ⟨(h.fb k hk).1, Nat.lt_of_lt_of_le (h.fb k hk).2 hf.size⟩⟩
theorem Tbl.below {w w' : World} {base p : Nat} {F : Nat → Prop} {room : Nat} {xs : List (Nat × List Nat)} (h : Tbl w base p F room xs) (hb : Below w.heap.size w w') : Tbl w' base p F room xs := h.fr (Fr.of_below (X := fun _ => False) hb) (fun _ _ h => h)
def roomS (n : Int) : Nat := if n < 1 then 1 else if 65536 < n then 65536 else n.toNat
theorem roomS_le (n : Int) : 1 ≤ roomS n ∧ roomS n ≤ 65536 := by unfold roomS; split <;> (try split) <;> omega
theorem snew_calls (n : Int) (w : World) (hT : TabAt 0 Lib.deBruijn64tab w) (h0 : 0 < w.heap.size) : Calls Tryd.prog 29 #[.int .i64 n] w fun e w' => ∃ F, e = .returned (.pointer (some ⟨w.heap.size, 0, none⟩)) ∧ Tbl w' w.heap.size w.heap.size F (roomS n) [] ∧ Below w.heap.size w w' := by
  have hm6 := roomS_le n
  obtain ⟨m, hm⟩ : ∃ m, roomS n = m := ⟨_, rfl⟩
  rw [hm] at hm6 ⊢
  obtain ⟨m1, hm1⟩ : ∃ m1 : Int, (if n < 1 then 1 else n) = m1 := ⟨_, rfl⟩
  have hm2 : (if (65536 : Int) < m1 then 65536 else m1) = m := by
    rw [← hm1, ← hm]; unfold roomS; split <;> split <;> (try split) <;> omega
  have HM1 := Hd.mk hm1; have HM2 := Hd.mk hm2; have HT := Hd.mk hT
  have HTB : Hd (TbG (w.alloc (.cells #[.slice none 0 0, .slice none 0 0, .int .i64 m, .func (.func 74) #[] #[]] 82)) w.heap.size w.heap.size (.slice none 0 0) (.slice none 0 0) (fun _ => False) m []) :=
    ⟨⟨blk_new _ _ _ rfl, Base.Own.nil _ _ _ _, by simp [Value.ownBlock], fun h => h, Nat.le_refl _, fun _ h => h.elim, List.nodup_nil, by simp⟩⟩
  clear hm1 hm2 hm hT
  go_enter Tryd.func29, Tryd.ntmps29
  go_wp2_with (first
    | (go_at_call 75; go_must (refine Calls.mono (grow_calls w.heap.size w.heap.size m 8 (.slice none 0 0) (.slice none 0 0) (fun _ => False) [] _ HTB.out (by rw [size_alloc]; omega) (by decide) (by decide) (fun j hj => (Below.cell (below_alloc (Below.refl _ _) _) (p := ⟨0, j, none⟩) h0).trans (HT.out j hj)) h0) ?_; rintro e w2 ⟨⟨u, rfl⟩, g, P, hI, hP, hg, hgl, hfr⟩))
    | (refine max_int rfl (.tmp 4) (.const (.int .i64 1)) _ rfl .i64 n 1 m1 rfl rfl HM1.out ?_) | (refine min_int rfl (.tmp 5) (.const (.int .i64 65536)) _ rfl .i64 m1 65536 m rfl rfl HM2.out ?_))
  go_ret
  rw [size_alloc] at hg
  refine ⟨fun k => k = w.heap.size ∨ k = g, rfl, ⟨⟨_, g, _, P, hI, by rw [hP]; decide, by rw [hP]; decide, by rw [hP]; exact Nat.le_refl _, .inl rfl, .inr rfl, fun k hk => by simp [Value.ownBlock] at hk, fun k hk => hk.elim⟩, hm6.1, hm6.2, Nat.zero_le _, fun k hk => ?_⟩, ?_⟩
  · have := hfr.size
    rw [size_alloc] at this
    rcases hk with rfl | rfl <;> omega
  · exact (below_alloc (Below.refl _ _) _).trans (hfr.below (by rw [size_alloc]; omega) (fun b hb h => by have h' : b = w.heap.size := h; omega))
end Go.Proofs.YtbmpaokicphdjaaDoor.Fn
