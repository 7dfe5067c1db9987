/- An automaton that is read: its classes. -/
import Derived.Test.YtpcnekdilecakaaDoorR5
import Derived.Deep.DeepCutAuto
import Derived.Deep.CutBlock
set_option linter.unusedVariables false
set_option linter.unusedSimpArgs false
namespace Go.Proofs.YtpcnekdilecakaaDoor.Tb
open Go Go.RowKit Go.Proofs.YtpcnekdilecakaaDoor.Can Go.Proofs.YtpcnekdilecakaaDoor.Base
attribute [local go_sem] clsB AB.cell clsX AX.cell

/-- The automaton's five cells. -/
def dO (v1 : Value) (wid : Int) (v2 v3 : Value) (st : Int) : Obj := .cells #[v1, .int .i64 wid, v2, v3, .int .i64 st] 47 (0, 0)
theorem clsF_bound {c : List Int} {wid : Int} {r : Rd} : True := trivial
theorem infoRowI : (Tryd.prog.info? 44).map (fun i => (i.zero, i.size, i.bytes)) = some (some (.slice none 0 0), 1, 24) := by kernel_rfl
set_option maxRecDepth 20000 in
set_option maxHeartbeats 8000000 in
theorem rddfa_calls (w : World) (S : Nat → Prop) (p : Nat) (r : Rd) (hR : Rs w S p r) :
    Calls Tryd.prog 39 #[.pointer (some ⟨p, 0, none⟩)] w fun e w' => (∃ cs, e = .returned (.agg cs.toArray) ∧ dT.rel w' (fun k => w.heap.size ≤ k ∧ k < w'.heap.size) (dfaF r).1 cs) ∧ Rs w' S p (dfaF r).2 ∧ Fp p w w' := by
  have hpl := hR.lt
  have HR := Hd.mk hR
  have HSL : Hd (∀ k, S k → k < w.heap.size) := ⟨fun k hk => (hR.ne k hk).2⟩
  clear hR
  go_enter Tryd.func39, Tryd.ntmps39
  go_upto_block 0 with fail
  generalize hU : World.alloc _ _ = U
  have hbU : Below w.heap.size w U := by rw [← hU]; exact below_alloc (below_alloc (below_alloc (Below.refl _ _) _) _) _
  have hzU : U.heap.size = w.heap.size + 3 := by rw [← hU]; simp only [size_alloc]
  have hx1 : U.heap[w.heap.size]? = some (.cells #[.pointer (some ⟨p, 0, none⟩)] 62 (0, 0)) := by rw [← hU]; exact blk_alloc (blk_alloc (blk_new _ _ _ rfl) _) _
  have hx2 : U.heap[w.heap.size + 1]? = some (dO (.slice none 0 0) 0 (.slice none 0 0) (.slice none 0 0) 0) := by rw [← hU]; exact blk_alloc (blk_new _ _ _ (by rw [size_alloc])) _
  have hx3 : U.heap[w.heap.size + 2]? = some (dO (.slice none 0 0) 0 (.slice none 0 0) (.slice none 0 0) 0) := by rw [← hU]; exact blk_new _ _ _ (by simp only [size_alloc])
  have HRU := Hd.mk (HR.out.below hbU)
  have HBU := Hd.mk hbU
  have HZU := Hd.mk hzU
  have HX1 := Hd.mk hx1; have HX2 := Hd.mk hx2; have HX3 := Hd.mk hx3
  clear hU hbU hx1 hx2 hx3
  go_wp2
  go_loopg [] 256 (fun gk wr => ∃ (c : List Int) (wid : Int) (r' : Rd) (v1 : Value), Hd (wr.heap[w.heap.size + 2]? = some (dO v1 wid (.slice none 0 0) (.slice none 0 0) 0)) ∧ Hd (Mine I wr U.heap.size 3 v1 c) ∧ Hd (Rs wr S p r') ∧ Hd (clsF c wid r' = clsF [] 0 r) ∧ Hd (Fr (fun b => b = p ∨ b = w.heap.size + 2) U wr) ∧ Hd (c.length ≤ 512 ∧ 0 ≤ wid ∧ wid ≤ 256 ∧ gk = 256 - c.length))
  case atStart => exact ⟨[], 0, r, _, HX3, ⟨Mine.nil _ _ _ _⟩, HRU, ⟨rfl⟩, ⟨Fr.refl _ _⟩, ⟨by simp⟩⟩
  case round =>
    obtain ⟨c, wid, r', v1, HD, HM, HRR, HC, HF, HBD⟩ := hrel
    obtain ⟨A1, m1, k1, rfl, hm1, hk1, hA1, -⟩ := HM.out.formN
    obtain ⟨Ap, np, cp, hxp, -, -⟩ := HRR.out.obj
    have hq1 := HF.out.blk HX1.out (by rintro (e | e) <;> omega)
    have hq3 := HD.out
    have hwd0 := HBD.out.2.1; have hwd1 := HBD.out.2.2.1
    have hcl := HBD.out.1
    have hzr := HF.out.size
    have HM1 := Hd.mk hm1
    have hm512 : m1 ≤ 512 := by omega
    unfold dO at hq3
    by_cases hgo : m1 < 256 ∧ r'.2 = false
    · have HGO := Hd.mk hgo
      obtain ⟨hlt, hs⟩ := hgo
      rw [hs] at hxp
      generalize ho1 : oneF r' = o1
      generalize ho2 : oneF o1.2 = o2
      have hn1 : o1.1 < 256 := by rw [← ho1]; exact one_lt _
      have hn2 : o2.1 < 256 := by rw [← ho2]; exact one_lt _
      have HCN : Hd (clsF (c ++ List.replicate (o1.1 + 1) (o2.1 : Int)) (max wid (o2.1 + 1)) o2.2 = clsF [] 0 r) := ⟨by have e := cls_go (c := c) (w := wid) (r := r') ⟨by rw [← hm1]; exact hlt, hs⟩; rw [ho1, ho2] at e; rw [← e]; exact HC.out⟩
      have HO1 := Hd.mk ho1; have HO2 := Hd.mk ho2
      clear hs ho1 ho2 hm1
      obtain ⟨wid2, hwi⟩ : ∃ x, (if wid < (o2.1 : Int) + 1 then (o2.1 : Int) + 1 else wid) = x := ⟨_, rfl⟩
      have hw2 : max wid ((o2.1 : Int) + 1) = wid2 := by rw [← hwi]; split <;> omega
      have HWI := Hd.mk hwi
      clear hwi
      have hw20 : 0 ≤ wid2 ∧ wid2 ≤ 256 := by omega
      have HW2 := Hd.mk hw2
      have hxpc0 := blk_cell hxp 0 _ rfl; have hxpf0 := blk_frozen hxp 0; have hxpc1 := blk_cell hxp 1 _ rfl; have hxpf1 := blk_frozen hxp 1; have hxpl := blk_lt hxp
      have hq1c0 := blk_cell hq1 0 _ rfl; have hq1f0 := blk_frozen hq1 0; have hq1l := blk_lt hq1
      have hq3c0 := blk_cell hq3 0 _ rfl; have hq3f0 := blk_frozen hq3 0; have hq3c1 := blk_cell hq3 1 _ rfl; have hq3f1 := blk_frozen hq3 1; have hq3c2 := blk_cell hq3 2 _ rfl; have hq3f2 := blk_frozen hq3 2; have hq3c3 := blk_cell hq3 3 _ rfl; have hq3f3 := blk_frozen hq3 3; have hq3c4 := blk_cell hq3 4 _ rfl; have hq3f4 := blk_frozen hq3 4; have hq3l := blk_lt hq3
      have TOK := Hd.mk trivial
      have HNEQ : Hd (w.heap.size ≠ p ∧ w.heap.size + 2 ≠ p) := ⟨by omega⟩
      go_upto_region 6 with (first
        | (have hq_ := TOK; clear hq_ TOK; go_at_call 34; go_must (refine Calls.mono (rdone_calls wr S p r' HRR.out) ?_; rintro e wA ⟨rfl, hR1, hf⟩; rw [HO1.out] at hR1; have HRA := Hd.mk hR1; have HFA := Hd.mk hf; have hq1a := hf.blk hq1 HNEQ.out.1; have hq3a := hf.blk hq3 HNEQ.out.2; clear hxpc0 hxpf0 hxpc1 hxpf1 hxpl; clear hq1c0 hq1f0 hq1l; clear hq3c0 hq3f0 hq3c1 hq3f1 hq3c2 hq3f2 hq3c3 hq3f3 hq3c4 hq3f4 hq3l; have hq1ac0 := blk_cell hq1a 0 _ rfl; have hq1af0 := blk_frozen hq1a 0; have hq1al := blk_lt hq1a; have hq3ac0 := blk_cell hq3a 0 _ rfl; have hq3af0 := blk_frozen hq3a 0; have hq3ac1 := blk_cell hq3a 1 _ rfl; have hq3af1 := blk_frozen hq3a 1; have hq3ac2 := blk_cell hq3a 2 _ rfl; have hq3af2 := blk_frozen hq3a 2; have hq3ac3 := blk_cell hq3a 3 _ rfl; have hq3af3 := blk_frozen hq3a 3; have hq3ac4 := blk_cell hq3a 4 _ rfl; have hq3af4 := blk_frozen hq3a 4; have hq3al := blk_lt hq3a; rw [HO1.out]; clear hR1 hf hq1 hq3 hxp))
        | (have hq_ := HRA; clear hq_; go_at_call 34; go_must (refine Calls.mono (rdone_calls wA S p o1.2 HRA.out) ?_; rintro e wB ⟨rfl, hR1, hf⟩; rw [HO2.out] at hR1; have HRB := Hd.mk hR1; have HFB := Hd.mk (HFA.out.trans hf); have hq1b := hf.blk hq1a HNEQ.out.1; have hq3b := hf.blk hq3a HNEQ.out.2; clear hq1ac0 hq1af0 hq1al; clear hq3ac0 hq3af0 hq3ac1 hq3af1 hq3ac2 hq3af2 hq3ac3 hq3af3 hq3ac4 hq3af4 hq3al; have hq1bc0 := blk_cell hq1b 0 _ rfl; have hq1bf0 := blk_frozen hq1b 0; have hq1bl := blk_lt hq1b; have hq3bc0 := blk_cell hq3b 0 _ rfl; have hq3bf0 := blk_frozen hq3b 0; have hq3bc1 := blk_cell hq3b 1 _ rfl; have hq3bf1 := blk_frozen hq3b 1; have hq3bc2 := blk_cell hq3b 2 _ rfl; have hq3bf2 := blk_frozen hq3b 2; have hq3bc3 := blk_cell hq3b 3 _ rfl; have hq3bf3 := blk_frozen hq3b 3; have hq3bc4 := blk_cell hq3b 4 _ rfl; have hq3bf4 := blk_frozen hq3b 4; have hq3bl := blk_lt hq3b; rw [HO2.out]; clear hR1 hf hq1a hq3a))
        | (have hq_ := HRB; clear hq_; refine max_int rfl (.tmp 26) (.tmp 28) _ rfl .i64 wid ((o2.1 : Int) + 1) wid2 rfl rfl HWI.out ?_))
      generalize hV : World.setCell wB _ _ = V
      have hVx : V.heap[w.heap.size + 2]? = some (.cells #[.slice A1 m1 k1, .int .i64 wid2, .slice none 0 0, .slice none 0 0, .int .i64 0] 47 (0, 0)) := by rw [← hV]; exact blk_set hq3b 1 _ _ rfl
      have hzB := HFB.out.size
      have HMV : Hd (Mine I V U.heap.size 3 (.slice A1 m1 k1) c) := ⟨by
        rw [← hV]
        have h9 : Mine I wB U.heap.size 3 (.slice A1 m1 k1) c := HM.out.mv (fun q hq => HFB.out.same q (HM.out.lt hq).1 (by have := (HM.out.lt hq).2; have := HZU.out; omega)) HFB.out.size
        exact h9.set (fun q hq => by have := (HM.out.lt hq).2; have := HZU.out; omega) _⟩
      have HRV : Hd (Rs V S p o2.2) := ⟨by
        rw [← hV]
        exact HRB.out.fr (X := fun b => b = w.heap.size + 2) ((Fr.refl (fun b => b = w.heap.size + 2) _).set (.inl rfl) _ _) (fun b hb e => by rcases hb with hb | hb; have := HNEQ.out.2; omega; have := HSL.out b hb; omega)⟩
      have HFV : Hd (Fr (fun b => b = p ∨ b = w.heap.size + 2) U V) := ⟨by rw [← hV]; exact (HF.out.trans (HFB.out.mono fun b hb => .inl hb)).set (.inl (.inr rfl)) _ _⟩
      have HREP : Hd (∀ (W : World) (b : Nat), W.heap[b]? = some (.cells #[.int .i64 (o2.1 : Int)] 3 (0, 0)) → Calls Tryd.prog 62 #[.slice (some ⟨b, 0, none⟩) 1 1, .int .i64 ((o1.1 : Int) + 1)] W fun e w' => ∃ g, e = .returned (.slice (some ⟨g, 0, none⟩) (o1.1 + 1) (o1.1 + 1)) ∧ W.heap.size ≤ g ∧ g < w'.heap.size ∧ Row I w' (fun q => q = g) (some ⟨g, 0, none⟩) (o1.1 + 1) (List.replicate (o1.1 + 1) (o2.1 : Int)) ∧ Below W.heap.size W w') := ⟨fun W b hb => by
        have h9 := repeat_calls W b 0 1 (o1.1 + 1) o2.1 (by omega) (by omega) (blk_cell hb 0 _ rfl) (by omega)
        rw [show (((o1.1 + 1 : Nat)) : Int) = (o1.1 : Int) + 1 by omega] at h9
        exact h9⟩
      have hVz : wr.heap.size ≤ V.heap.size := by rw [← hV, size_set]; exact hzB
      clear hq1bc0 hq1bf0 hq1bl
      clear hq3bc0 hq3bf0 hq3bc1 hq3bf1 hq3bc2 hq3bf2 hq3bc3 hq3bf3 hq3bc4 hq3bf4 hq3bl
      clear hV hq1b hq3b
      have hVxc0 := blk_cell hVx 0 _ rfl; have hVxf0 := blk_frozen hVx 0; have hVxc1 := blk_cell hVx 1 _ rfl; have hVxf1 := blk_frozen hVx 1; have hVxc2 := blk_cell hVx 2 _ rfl; have hVxf2 := blk_frozen hVx 2; have hVxc3 := blk_cell hVx 3 _ rfl; have hVxf3 := blk_frozen hVx 3; have hVxc4 := blk_cell hVx 4 _ rfl; have hVxf4 := blk_frozen hVx 4; have hVxl := blk_lt hVx
      refine wp_region_can (.q [0, 1, 2, 4] (.e 3 true (.e 5 true (.e 6 false (.q [7] (.e 8 false (.done))))))) (clsB _) (by kernel_rfl) (by kernel_rfl) (by intro _ _ d _ _ h; cases d <;> exact h) (clsB_drew _) ?_
      refine can_q (l := [⟨_,_,_,_,_,_⟩, ⟨_,_,_,_,_,_⟩, ⟨_,_,_,_,_,_⟩, ⟨_,_,_,_,_,_⟩]) rfl ?_
      repeat (go_big_quiet_step (fail))
      refine wpQuiet_nil ?_
      refine can_e (o := ⟨_,_,_,_,_,_⟩) rfl (fun K hK => ?_)
      go_wp2_with fail
      refine onK_normal (hK _ _ ⟨clsB _, clsB_of (by first | exact ((by repeat (first | (with_reducible assumption) | (with_reducible exact Below.refl _ _) | (with_reducible apply below_drewL) | (with_reducible apply below_alloc) | (with_reducible apply below_drew1) | (with_reducible apply below_drewN) | (refine below_set ?_ (by first | omega | (simp only [size_alloc, size_drew, size_set]; omega)) _ _)))) | exact below_undrew ((by repeat (first | (with_reducible assumption) | (with_reducible exact Below.refl _ _) | (with_reducible apply below_drewL) | (with_reducible apply below_alloc) | (with_reducible apply below_drew1) | (with_reducible apply below_drewN) | (refine below_set ?_ (by first | omega | (simp only [size_alloc, size_drew, size_set]; omega)) _ _))))), fun _ _ h => h, ?_⟩)
      clear hK K
      generalize hE : World.alloc _ _ = V2
      have hbE : Below V.heap.size V V2 := by rw [← hE]; first | exact below_alloc (below_drew1 (Below.refl _ _)) _ | exact below_alloc (Below.refl _ _) _
      have hbx : V2.heap[V.heap.size]? = some (.cells #[.int .i64 (o2.1 : Int)] 3 (0, 0)) := by rw [← hE]; exact blk_new _ _ _ rfl
      have HM2 := Hd.mk (HMV.out.below hbE)
      have hx4 := blk_below hVx hbE
      have HBE := Hd.mk hbE
      clear hE hbE
      refine can_e (o := ⟨_,_,_,_,_,_⟩) rfl (fun K hK => ?_)
      go_wp2_with (go_at_call 62; go_must (refine Calls.mono (HREP.out _ _ (by first | exact hbx | exact blk_drew hbx)) ?_; rintro e wC ⟨g, rfl, hg1, hg2, hrow, hb_⟩; have HBC : Hd (Below V2.heap.size V2 wC) := ⟨by first | exact hb_ | exact below_undrew hb_⟩; have hg3 : V2.heap.size ≤ g := hg1; have HROW := Hd.mk hrow; clear hb_ hrow hg1))
      refine onK_normal (hK _ _ ⟨clsB _, clsB_of (by first | exact ((below_seq HBE.out HBC.out)) | exact below_undrew ((below_seq HBE.out HBC.out))), fun _ _ h => h, ?_⟩)
      clear hK K
      refine can_e (o := ⟨_,_,_,_,_,_⟩) rfl (fun K hK => ?_)
      go_wp2_with (at_builtin; go_must (refine append_row I (Ty.int_flat _) (S' := fun q => q = g) rfl (.tmp 32) (.tmp 36) 44 3 (.int .i64 0) 8 rfl Tryd.underlying44 infoI rfl (by decide) (by decide) U.heap.size (.slice A1 m1 k1) c (List.replicate (o1.1 + 1) (o2.1 : Int)) (some ⟨g, 0, none⟩) (o1.1 + 1) (o1.1 + 1) rfl rfl (by intro h; cases h) (HM2.out.below HBC.out) HROW.out (by rintro q rfl; exact ⟨hg2, HM2.out.ne_new hg3⟩) (by have := HBC.out.size; have := HBE.out.size; have := HFV.out.size; omega) (by rw [← HM1.out]; omega) ?_; intro v5 wD hM hb hk hat; have HM5 := Hd.mk hM; have HB5 := Hd.mk hb; have HK5 := Hd.mk hk; clear hM hb hk hat))
      refine onK_normal (hK _ _ ⟨fun _ => True, trivial, (fun h => by cases h), ?_⟩)
      clear hK K
      refine can_q (l := [⟨_,_,_,_,_,_⟩]) rfl ?_
      repeat (go_big_quiet_step (fail))
      refine wpQuiet_nil ?_
      obtain ⟨A5, m5, k5, rfl, hm5, -, -, -⟩ := HM5.out.formN
      clear hm5
      have hq5 : wD.heap[w.heap.size + 2]? = some (.cells #[.slice A1 m1 k1, .int .i64 wid2, .slice none 0 0, .slice none 0 0, .int .i64 0] 47 (0, 0)) := (HB5.out.block _ (by have := HZU.out; omega)).trans (blk_below hx4 HBC.out)
      clear hVxc0 hVxf0 hVxc1 hVxf1 hVxc2 hVxf2 hVxc3 hVxf3 hVxc4 hVxf4 hVxl
      clear hVx hx4 hbx
      have hq5c0 := blk_cell hq5 0 _ rfl; have hq5f0 := blk_frozen hq5 0; have hq5c1 := blk_cell hq5 1 _ rfl; have hq5f1 := blk_frozen hq5 1; have hq5c2 := blk_cell hq5 2 _ rfl; have hq5f2 := blk_frozen hq5 2; have hq5c3 := blk_cell hq5 3 _ rfl; have hq5f3 := blk_frozen hq5 3; have hq5c4 := blk_cell hq5 4 _ rfl; have hq5f4 := blk_frozen hq5 4; have hq5l := blk_lt hq5
      refine can_e (o := ⟨_,_,_,_,_,_⟩) rfl (fun K hK => ?_)
      go_wp2_with fail
      refine onK_normal (hK _ _ ⟨fun _ => True, trivial, (fun h => by cases h), ?_⟩)
      clear hK K
      refine can_done ?_
      go_wp2
      go_roundg (256 - (c.length + (o1.1 + 1)))
      case rel =>
        have hfU : Fr (fun b => b = p ∨ b = w.heap.size + 2) U wD := fr_base (HFV.out.trans (Fr.of_below (below_seq HBE.out HBC.out))) HB5.out
        refine ⟨c ++ List.replicate (o1.1 + 1) (o2.1 : Int), wid2, o2.2, .slice A5 m5 k5, ⟨?_⟩, ⟨?_⟩, ⟨?_⟩, ⟨by rw [← HW2.out]; exact HCN.out⟩, ⟨?_⟩, ⟨by rw [List.length_append, List.length_replicate, ← HM1.out]; omega⟩⟩
        · exact blk_set hq5 0 _ _ rfl
        · exact HM5.out.set (fun q hq => by have := (HM5.out.lt hq).2; have := HZU.out; omega) _
        · exact ((HRV.out.below (below_seq HBE.out HBC.out)).base (n := U.heap.size) (by have := HZU.out; omega) (fun k hk => by have := HSL.out k hk; have := HZU.out; omega) HB5.out).fr (X := fun b => b = w.heap.size + 2) ((Fr.refl (fun b => b = w.heap.size + 2) _).set (.inl rfl) _ _) (fun b hb e => by rcases hb with hb | hb; have := HNEQ.out.2; omega; have := HSL.out b hb; omega)
        · exact hfU.set (.inl (.inr rfl)) _ _
      case measure => have := HBD.out.2.2.2; have := HM1.out; omega
    · have HCE : Hd (clsF [] 0 r = (c, wid, r')) := ⟨by rw [← HC.out]; exact cls_stop (by rw [← HM1.out]; exact hgo)⟩
      have hcase : 256 ≤ m1 ∨ (m1 < 256 ∧ r'.2 = true) := by
        rcases Nat.lt_or_ge m1 256 with h | h
        · refine .inr ⟨h, ?_⟩
          cases hb : r'.2 with
          | true => rfl
          | false => exact absurd ⟨h, hb⟩ hgo
        · exact .inl h
      obtain ⟨wn, rfl⟩ : ∃ k : Nat, wid = k := ⟨wid.toNat, by omega⟩
      generalize hn1 : twoF r' = nn
      generalize hn2 : twoF nn.2 = ss
      have hn3 : nn.1 < 65536 := by rw [← hn1]; exact two_lt _
      have hn4 : ss.1 < 65536 := by rw [← hn2]; exact two_lt _
      have HN1 := Hd.mk hn1; have HN2 := Hd.mk hn2
      have HNEQ : Hd (w.heap.size ≠ p ∧ w.heap.size + 2 ≠ p) := ⟨by omega⟩
      have hmf : ∀ (fn : Fn) (first cap : Array Value) (w : World), (Instr.makeFunc fn first cap).run Tryd.prog w = .ok (.func fn first cap) w := fun _ _ _ _ => rfl
      have TOK := Hd.mk trivial
      clear hn1 hn2 hgo hm1
      have hxpc0 := blk_cell hxp 0 _ rfl; have hxpf0 := blk_frozen hxp 0; have hxpc1 := blk_cell hxp 1 _ rfl; have hxpf1 := blk_frozen hxp 1; have hxpl := blk_lt hxp
      have hq1c0 := blk_cell hq1 0 _ rfl; have hq1f0 := blk_frozen hq1 0; have hq1l := blk_lt hq1
      have hq3c0 := blk_cell hq3 0 _ rfl; have hq3f0 := blk_frozen hq3 0; have hq3c1 := blk_cell hq3 1 _ rfl; have hq3f1 := blk_frozen hq3 1; have hq3c2 := blk_cell hq3 2 _ rfl; have hq3f2 := blk_frozen hq3 2; have hq3c3 := blk_cell hq3 3 _ rfl; have hq3f3 := blk_frozen hq3 3; have hq3c4 := blk_cell hq3 4 _ rfl; have hq3f4 := blk_frozen hq3 4; have hq3l := blk_lt hq3
      rcases hcase with hge | ⟨hlt, hs⟩
      · have hge2 := hge
        go_upto_block 2 with (first
          | (have hq_ := TOK; clear hq_ TOK; go_at_call 63; go_must (refine Calls.mono (rdtwo_calls wr S p r' HRR.out) ?_; rintro e wA ⟨rfl, hR1, hf⟩; rw [HN1.out] at hR1; have HRA := Hd.mk hR1; have HFA := Hd.mk hf; have hq1a := hf.blk hq1 HNEQ.out.1; have hq3a := hf.blk hq3 HNEQ.out.2; clear hq1c0 hq1f0 hq1l; clear hq3c0 hq3f0 hq3c1 hq3f1 hq3c2 hq3f2 hq3c3 hq3f3 hq3c4 hq3f4 hq3l; have hq1ac0 := blk_cell hq1a 0 _ rfl; have hq1af0 := blk_frozen hq1a 0; have hq1al := blk_lt hq1a; have hq3ac0 := blk_cell hq3a 0 _ rfl; have hq3af0 := blk_frozen hq3a 0; have hq3ac1 := blk_cell hq3a 1 _ rfl; have hq3af1 := blk_frozen hq3a 1; have hq3ac2 := blk_cell hq3a 2 _ rfl; have hq3af2 := blk_frozen hq3a 2; have hq3ac3 := blk_cell hq3a 3 _ rfl; have hq3af3 := blk_frozen hq3a 3; have hq3ac4 := blk_cell hq3a 4 _ rfl; have hq3af4 := blk_frozen hq3a 4; have hq3al := blk_lt hq3a; rw [HN1.out]; clear hR1 hf hq1 hq3))
          | (have hq_ := HRA; clear hq_; go_at_call 63; go_must (refine Calls.mono (rdtwo_calls wA S p nn.2 HRA.out) ?_; rintro e wB ⟨rfl, hR1, hf⟩; rw [HN2.out] at hR1; have HRB := Hd.mk hR1; have HFB := Hd.mk (HFA.out.trans hf); have hq1b := hf.blk hq1a HNEQ.out.1; have hq3b := hf.blk hq3a HNEQ.out.2; clear hq1ac0 hq1af0 hq1al; clear hq3ac0 hq3af0 hq3ac1 hq3af1 hq3ac2 hq3af2 hq3ac3 hq3af3 hq3ac4 hq3af4 hq3al; have hq1bc0 := blk_cell hq1b 0 _ rfl; have hq1bf0 := blk_frozen hq1b 0; have hq1bl := blk_lt hq1b; have hq3bc0 := blk_cell hq3b 0 _ rfl; have hq3bf0 := blk_frozen hq3b 0; have hq3bc1 := blk_cell hq3b 1 _ rfl; have hq3bf1 := blk_frozen hq3b 1; have hq3bc2 := blk_cell hq3b 2 _ rfl; have hq3bf2 := blk_frozen hq3b 2; have hq3bc3 := blk_cell hq3b 3 _ rfl; have hq3bf3 := blk_frozen hq3b 3; have hq3bc4 := blk_cell hq3b 4 _ rfl; have hq3bf4 := blk_frozen hq3b 4; have hq3bl := blk_lt hq3b; rw [HN2.out]; clear hR1 hf hq1a hq3a)))
        generalize hV : World.setCell wB _ _ = V
        have hVx : V.heap[w.heap.size + 2]? = some (.cells #[.slice A1 m1 k1, .int .i64 wn, .slice none 0 0, .slice none 0 0, .int .i64 ((ss.1 : Int) - 1)] 47 (0, 0)) := by rw [← hV]; exact blk_set hq3b 4 _ _ rfl
        have hzB := HFB.out.size
        have HMV : Hd (Mine I V U.heap.size 3 (.slice A1 m1 k1) c) := ⟨by
          rw [← hV]
          have h9 : Mine I wB U.heap.size 3 (.slice A1 m1 k1) c := HM.out.mv (fun q hq => HFB.out.same q (HM.out.lt hq).1 (by have := (HM.out.lt hq).2; have := HZU.out; omega)) HFB.out.size
          exact h9.set (fun q hq => by have := (HM.out.lt hq).2; have := HZU.out; omega) _⟩
        have HRV : Hd (Rs V S p ss.2) := ⟨by
          rw [← hV]
          exact HRB.out.fr (X := fun b => b = w.heap.size + 2) ((Fr.refl (fun b => b = w.heap.size + 2) _).set (.inl rfl) _ _) (fun b hb e => by rcases hb with hb | hb; have := HNEQ.out.2; omega; have := HSL.out b hb; omega)⟩
        have HFV : Hd (Fr (fun b => b = p ∨ b = w.heap.size + 2) U V) := ⟨by rw [← hV]; exact (HF.out.trans (HFB.out.mono fun b hb => .inl hb)).set (.inl (.inr rfl)) _ _⟩
        have HQ1 : Hd (V.heap[w.heap.size]? = some (.cells #[.pointer (some ⟨p, 0, none⟩)] 62 (0, 0))) := ⟨HFV.out.blk HX1.out (by rintro (e | e) <;> omega)⟩
        have HQ2 : Hd (V.heap[w.heap.size + 1]? = some (dO (.slice none 0 0) 0 (.slice none 0 0) (.slice none 0 0) 0)) := ⟨HFV.out.blk HX2.out (by rintro (e | e) <;> omega)⟩
        have HQ3 := Hd.mk hVx
        have HVZ : Hd (w.heap.size + 3 ≤ V.heap.size) := ⟨by have := HFV.out.size; have := HZU.out; omega⟩
        clear hq1bc0 hq1bf0 hq1bl
        clear hq3bc0 hq3bf0 hq3bc1 hq3bf1 hq3bc2 hq3bf2 hq3bc3 hq3bf3 hq3bc4 hq3bf4 hq3bl
        clear hV hq1b hq3b hVx
        have HR1 : Hd (Row I V (fun q => U.heap.size ≤ q ∧ q < V.heap.size) A1 m1 c ∧ m1 ≤ k1 ∧ (A1 = none → k1 = 0)) := ⟨by
          obtain ⟨A9, n9, c9, e9, -, h1, h2, h3⟩ := HMV.out.formN
          cases e9
          exact ⟨h3, h1, h2⟩⟩
        go_wp2
        go_loopw [8] (fun i wr => ∃ (k : Nat) (r2 : Rd) (ys : List (Int × List Int)) (v2 v3 : Value) (S2 : Nat → Prop), k ≤ nn.1 ∧ i = .int .i64 k ∧ Hd (ys.length = k) ∧ Hd (wr.heap[w.heap.size + 2]? = some (dO (.slice A1 m1 k1) wn v2 v3 ((ss.1 : Int) - 1))) ∧ Hd (Mine I wr V.heap.size 3 v3 (ys.map Prod.fst)) ∧ Hd (Base.Own Df.II wr V.heap.size 44 S2 v2 (ys.map Prod.snd)) ∧ Hd (∀ q, v3.ownBlock = some q → v2.ownBlock ≠ some q ∧ ¬ S2 q) ∧ Hd (∀ q, S2 q → V.heap.size ≤ q ∧ q < wr.heap.size) ∧ Hd (Rs wr S p r2) ∧ Hd ((ys ++ (manyF (stateF wn) (nn.1 - k) r2).1, (manyF (stateF wn) (nn.1 - k) r2).2) = manyF (stateF wn) nn.1 ss.2) ∧ Hd (Fr (fun b => b = p ∨ b = w.heap.size + 2) V wr)) (fun i _ => nn.1 - (intOf i).toNat)
        case atStart => exact ⟨0, ss.2, [], _, _, fun _ => False, Nat.zero_le _, rfl, ⟨rfl⟩, HQ3, ⟨Mine.nil _ _ _ _⟩, ⟨Own.nil _ _ _ _⟩, ⟨fun q h => by cases h⟩, ⟨fun q h => h.elim⟩, HRV, ⟨rfl⟩, ⟨Fr.refl _ _⟩⟩
        case round =>
          obtain ⟨k, r2, ys, v2, v3, S2, hk, rfl, HYL, HD, HM3, HO2, HSEP, HS2, HRR2, HE, HF2⟩ := hrel
          have hq1 := HF2.out.blk HQ1.out (by rintro (e | e) <;> omega)
          have hq2 := HF2.out.blk HQ2.out (by rintro (e | e) <;> omega)
          have hq3 := HD.out
          have hzr := HF2.out.size
          have hvz := HVZ.out
          unfold dO at hq3 hq2
          obtain ⟨Ap2, np2, cp2, hxp2, -, -⟩ := HRR2.out.obj
          obtain ⟨A2, m2, k2, rfl, hm2, hk2, hA2, hr2⟩ : ∃ A n c, v2 = .slice A n c ∧ n = (ys.map Prod.snd).length ∧ n ≤ c ∧ (A = none → c = 0) ∧ Row Df.II wr (fun q => S2 q ∨ v2.ownBlock = some q) A n (ys.map Prod.snd) := by obtain ⟨A, c, e, h1, h2, h3⟩ := HO2.out.form; exact ⟨A, _, c, e, rfl, h1, h2, h3⟩
          obtain ⟨A3, m3, k3, rfl, hm3, hk3, hA3, hr3⟩ := HM3.out.formN
          have HM2' := Hd.mk hm2; have HM3' := Hd.mk hm3
          have HROW2 := Hd.mk hr2; have HROW3 := Hd.mk hr3
          clear hm2 hm3 hr2 hr3
          by_cases hlt2 : k < nn.1
          · cases hs2 : r2.2 with
            | true =>
              rw [hs2] at hxp2
              have HEND := Hd.mk (many_end HE.out (.inr hs2))
              clear hs2
              have hxp2c0 := blk_cell hxp2 0 _ rfl; have hxp2f0 := blk_frozen hxp2 0; have hxp2c1 := blk_cell hxp2 1 _ rfl; have hxp2f1 := blk_frozen hxp2 1; have hxp2l := blk_lt hxp2
              have hq1c0 := blk_cell hq1 0 _ rfl; have hq1f0 := blk_frozen hq1 0; have hq1l := blk_lt hq1
              have hq2c0 := blk_cell hq2 0 _ rfl; have hq2f0 := blk_frozen hq2 0; have hq2c1 := blk_cell hq2 1 _ rfl; have hq2f1 := blk_frozen hq2 1; have hq2c2 := blk_cell hq2 2 _ rfl; have hq2f2 := blk_frozen hq2 2; have hq2c3 := blk_cell hq2 3 _ rfl; have hq2f3 := blk_frozen hq2 3; have hq2c4 := blk_cell hq2 4 _ rfl; have hq2f4 := blk_frozen hq2 4; have hq2l := blk_lt hq2
              have hq3c0 := blk_cell hq3 0 _ rfl; have hq3f0 := blk_frozen hq3 0; have hq3c1 := blk_cell hq3 1 _ rfl; have hq3f1 := blk_frozen hq3 1; have hq3c2 := blk_cell hq3 2 _ rfl; have hq3f2 := blk_frozen hq3 2; have hq3c3 := blk_cell hq3 3 _ rfl; have hq3f3 := blk_frozen hq3 3; have hq3c4 := blk_cell hq3 4 _ rfl; have hq3f4 := blk_frozen hq3 4; have hq3l := blk_lt hq3
              go_wp2
              have HDF : Hd (dfaF r = (⟨c, wn, ys.map Prod.snd, ys.map Prod.fst, (ss.1 : Int) - 1⟩, r2)) := ⟨by unfold dfaF; dsimp only; rw [HCE.out]; dsimp only; rw [HN1.out, HN2.out, Int.toNat_natCast, HEND.out]⟩
              refine bodyPost_ret (results_cell_row rfl _ _ (w.heap.size + 1) 47 #[.slice A1 m1 k1, .int .i64 wn, .slice A2 m2 k2, .slice A3 m3 k3, .int .i64 ((ss.1 : Int) - 1)] (0, 0) _ rfl (blk_set (blk_set (blk_set (blk_set (blk_set hq2 0 _ _ rfl) 1 _ _ rfl) 2 _ _ rfl) 3 _ _ rfl) 4 _ _ rfl) Tryd.underlying47 rfl (by kernel_rfl)) rfl ?_
              generalize hY : World.setCell _ _ _ = Y
              have hfY : Fr (fun b => b = w.heap.size + 1) wr Y := by rw [← hY]; exact (((((Fr.refl (fun b => b = w.heap.size + 1) _).set (.inl rfl) _ _).set (.inl rfl) _ _).set (.inl rfl) _ _).set (.inl rfl) _ _).set (.inl rfl) _ _
              have hzY := hfY.size
              have hzz := HZU.out
              have hzv := HFV.out.size
              refine ⟨⟨[.slice A1 m1 k1, .int .i64 wn, .slice A2 m2 k2, .slice A3 m3 k3, .int .i64 ((ss.1 : Int) - 1)], rfl, ?_⟩, ?_, ?_⟩
              · rw [HDF.out]
                refine ⟨[.slice A1 m1 k1], _, rfl, ⟨A1, k1, by rw [HM1.out], by rw [← HM1.out]; exact HR1.out.2.1, HR1.out.2.2, ?_⟩, [.int .i64 wn], _, rfl, rfl, [.slice A2 m2 k2], _, rfl, ⟨A2, k2, by rw [HM2'.out], by rw [← HM2'.out]; exact hk2, hA2, ?_⟩, [.slice A3 m3 k3], _, rfl, ⟨A3, k3, by rw [HM3'.out], by rw [← HM3'.out]; exact hk3, hA3, ?_⟩, rfl⟩
                · have h9 := HR1.out.1
                  rw [HM1.out] at h9
                  exact ((h9.move fun q hq => (hfY.same q (by omega) (by omega)).trans (HF2.out.same q (by omega) (by rintro (e | e) <;> omega))).mono fun q hq => ⟨by omega, by omega⟩)
                · have h9 := HROW2.out
                  have hlt9 : ∀ q, (S2 q ∨ (Value.slice A2 m2 k2).ownBlock = some q) → V.heap.size ≤ q ∧ q < wr.heap.size := fun q hq => by
                    rcases hq with hq | hq
                    · exact HS2.out q hq
                    · exact ⟨(HO2.out.lt hq).2, (HO2.out.lt hq).1⟩
                  have h10 : Row Df.II Y (fun q => w.heap.size ≤ q ∧ q < Y.heap.size) A2 m2 (ys.map Prod.snd) := ((h9.move fun q hq => hfY.same q (hlt9 q hq).2 (by have := (hlt9 q hq).1; omega)).mono fun q hq => by have := hlt9 q hq; exact ⟨by omega, by omega⟩)
                  rw [HM2'.out] at h10
                  exact h10
                · have h9 := HROW3.out
                  rw [HM3'.out] at h9
                  exact ((h9.move fun q hq => hfY.same q hq.2 (by omega)).mono fun q hq => ⟨by omega, by omega⟩)
              · rw [HDF.out]
                exact HRR2.out.fr hfY (fun b hb e => by rcases hb with hb | hb; omega; have := HSL.out b hb; omega)
              · have f1 : Fr (fun b => b = p ∨ b = w.heap.size + 2) w V := (Fr.of_below HBU.out).trans HFV.out
                have f2 : Fr (fun b => b = p ∨ b = w.heap.size + 2 ∨ b = w.heap.size + 1) w Y := ((f1.trans HF2.out).mono fun b hb => by rcases hb with hb | hb; exact .inl hb; exact .inr (.inl hb)).trans (hfY.mono fun b hb => .inr (.inr hb))
                exact f2.mono_lt fun b hb e => by rcases e with e | e | e; exact e; omega; omega
            | false =>
              rw [hs2] at hxp2
              have HST := Hd.mk (many_step HE.out hlt2 hs2)
              generalize ho1 : oneF r2 = o1
              generalize hmm : manyF lessF wn o1.2 = mm
              have HSF : Hd (stateF wn r2 = (((o1.1 : Int) - 1, mm.1), mm.2)) := ⟨by unfold stateF; rw [ho1, hmm]⟩
              have hn1 : o1.1 < 256 := by rw [← ho1]; exact one_lt _
              have HMML : Hd (mm.1.length ≤ wn) := ⟨by rw [← hmm]; exact many_len _ _ _⟩
              have HO1 := Hd.mk ho1; have HMM := Hd.mk hmm
              clear hs2 ho1 hmm
              have HZ := Hd.mk hvz
              have hnp0 : ¬ (w.heap.size = p) := by omega
              have hnp2 : ¬ (w.heap.size + 1 + 1 = p) := by omega
              have hnp3 : ¬ (w.heap.size + 2 = p) := by omega
              have hxp2c0 := blk_cell hxp2 0 _ rfl; have hxp2f0 := blk_frozen hxp2 0; have hxp2c1 := blk_cell hxp2 1 _ rfl; have hxp2f1 := blk_frozen hxp2 1; have hxp2l := blk_lt hxp2
              have hq1c0 := blk_cell hq1 0 _ rfl; have hq1f0 := blk_frozen hq1 0; have hq1l := blk_lt hq1
              have hq3c0 := blk_cell hq3 0 _ rfl; have hq3f0 := blk_frozen hq3 0; have hq3c1 := blk_cell hq3 1 _ rfl; have hq3f1 := blk_frozen hq3 1; have hq3c2 := blk_cell hq3 2 _ rfl; have hq3f2 := blk_frozen hq3 2; have hq3c3 := blk_cell hq3 3 _ rfl; have hq3f3 := blk_frozen hq3 3; have hq3c4 := blk_cell hq3 4 _ rfl; have hq3f4 := blk_frozen hq3 4; have hq3l := blk_lt hq3
              go_wp2
              refine wp_region_can (.q [0, 1, 2] (.e 3 true (.q [4] (.e 5 true (.e 6 false (.q [7] (.e 8 false (.done)))))))) (clsX (fun b => b = p) _) (by kernel_rfl) (by kernel_rfl) (by intro _ _ d _ _ h; cases d <;> exact h) (clsX_drew _ _) ?_
              refine can_q (l := [⟨_,_,_,_,_,_⟩, ⟨_,_,_,_,_,_⟩, ⟨_,_,_,_,_,_⟩]) rfl ?_
              repeat (go_big_quiet_step (fail))
              refine wpQuiet_nil ?_
              refine can_e (o := ⟨_,_,_,_,_,_⟩) rfl (fun K hK => ?_)
              go_wp2_with (go_at_call 34; go_must (refine Calls.mono (rdone_calls wr.drew S p r2 (HRR2.out.below (below_drew1 (Below.refl _ _)))) ?_; rintro e wC ⟨rfl, hR1, hf⟩; rw [HO1.out] at hR1; have HRC := Hd.mk hR1; have HFC : Hd (Fp p wr wC) := ⟨((Fr.refl _ wr).drew).trans hf⟩; rw [HO1.out]; clear hR1 hf))
              refine onK_normal (hK _ _ ⟨clsX _ _, clsX_self _ _, fun _ => clsX_next HFC.out.size (fun b hb hx => HFC.out.same b hb hx), ?_⟩)
              clear hK K
              refine can_q (l := [⟨_,_,_,_,_,_⟩]) rfl ?_
              repeat (go_big_quiet_step (fail))
              refine wpQuiet_nil ?_
              refine can_e (o := ⟨_,_,_,_,_,_⟩) rfl (fun K hK => ?_)
              go_wp2_with fail
              refine onK_normal (hK _ _ ⟨clsX _ _, clsX_self _ _, fun _ => clsX_next (by rw [size_alloc]; exact Nat.le_succ _) (fun b hb _ => Below.heap_alloc _ _ _ hb), ?_⟩)
              clear hK K
              generalize hE : World.alloc wC _ = V2
              have hbE : Below wC.heap.size wC V2 := by rw [← hE]; exact below_alloc (Below.refl _ _) _
              have hbx : V2.heap[wC.heap.size]? = some (.cells #[.int .i64 ((o1.1 : Int) - 1)] 3 (0, 0)) := by rw [← hE]; exact blk_new _ _ _ rfl
              have HBE := Hd.mk hbE
              have hzC := HFC.out.size
              have hzE := hbE.size
              have HM3C : Hd (Mine I wC V.heap.size 3 (.slice A3 m3 k3) (ys.map Prod.fst)) := ⟨HM3.out.mv (fun q hq => HFC.out.same q (HM3.out.lt hq).1 (by have := (HM3.out.lt hq).2; omega)) hzC⟩
              clear hE hbE
              refine can_e (o := ⟨_,_,_,_,_,_⟩) rfl (fun K hK => ?_)
              go_wp2_with (at_builtin; go_must (refine append_snoc I (Ty.int_flat _) rfl (.tmp 59) (.tmp 63) 44 3 (.int .i64 0) 8 rfl Tryd.underlying44 infoI rfl (by decide) (by decide) V.heap.size (.slice A3 m3 k3) (ys.map Prod.fst) ((o1.1 : Int) - 1) [.int .i64 ((o1.1 : Int) - 1)] wC.heap.size rfl rfl hbx rfl (HM3C.out.below HBE.out) (HM3C.out.ne_new (Nat.le_refl _)) (by omega) (by rw [List.length_map, HYL.out]; omega) ?_; intro v5 w5 hM hb hk5 hat; have HM5 := Hd.mk hM; have HB5 := Hd.mk hb; have HK5 := Hd.mk hk5; have HAT5 := Hd.mk hat; clear hM hb hk5 hat))
              refine onK_normal (hK _ _ ⟨fun _ => True, trivial, (fun h => by cases h), ?_⟩)
              clear hK K
              refine can_q (l := [⟨_,_,_,_,_,_⟩]) rfl ?_
              repeat (go_big_quiet_step (fail))
              refine wpQuiet_nil ?_
              obtain ⟨A5, m5, k5, rfl, hm5, -, -, -⟩ := HM5.out.formN
              clear hm5
              have hq5 : w5.heap[w.heap.size + 2]? = some (.cells #[.slice A1 m1 k1, .int .i64 wn, .slice A2 m2 k2, .slice A3 m3 k3, .int .i64 ((ss.1 : Int) - 1)] 47 (0, 0)) := (HB5.out.block _ (by omega)).trans (blk_below (HFC.out.blk hq3 HNEQ.out.2) HBE.out)
              have hq15 : w5.heap[w.heap.size]? = some (.cells #[.pointer (some ⟨p, 0, none⟩)] 62 (0, 0)) := (HB5.out.block _ (by omega)).trans (blk_below (HFC.out.blk hq1 HNEQ.out.1) HBE.out)
              clear hxp2c0 hxp2f0 hxp2c1 hxp2f1 hxp2l
              clear hq1c0 hq1f0 hq1l
              clear hq3c0 hq3f0 hq3c1 hq3f1 hq3c2 hq3f2 hq3c3 hq3f3 hq3c4 hq3f4 hq3l
              clear hq1 hq3 hbx
              have hq5c0 := blk_cell hq5 0 _ rfl; have hq5f0 := blk_frozen hq5 0; have hq5c1 := blk_cell hq5 1 _ rfl; have hq5f1 := blk_frozen hq5 1; have hq5c2 := blk_cell hq5 2 _ rfl; have hq5f2 := blk_frozen hq5 2; have hq5c3 := blk_cell hq5 3 _ rfl; have hq5f3 := blk_frozen hq5 3; have hq5c4 := blk_cell hq5 4 _ rfl; have hq5f4 := blk_frozen hq5 4; have hq5l := blk_lt hq5
              refine can_e (o := ⟨_,_,_,_,_,_⟩) rfl (fun K hK => ?_)
              go_wp2_with fail
              refine onK_normal (hK _ _ ⟨fun _ => True, trivial, (fun h => by cases h), ?_⟩)
              clear hK K
              refine can_done ?_
              go_wp2
              generalize hY : World.setCell w5 _ _ = Y
              have hz5 := HB5.out.size
              have hYx : Y.heap[w.heap.size + 2]? = some (.cells #[.slice A1 m1 k1, .int .i64 wn, .slice A2 m2 k2, .slice A5 m5 k5, .int .i64 ((ss.1 : Int) - 1)] 47 (0, 0)) := by rw [← hY]; exact blk_set hq5 3 _ _ rfl
              have hY1 : Y.heap[w.heap.size]? = some (.cells #[.pointer (some ⟨p, 0, none⟩)] 62 (0, 0)) := by rw [← hY]; exact blk_far hq15 (by show w.heap.size ≠ w.heap.size + 2; omega) _
              have HYZ : Hd (Y.heap.size = w5.heap.size) := ⟨by rw [← hY, size_set]⟩
              have hYf : Fr (fun b => b = w.heap.size + 2) w5 Y := by rw [← hY]; exact (Fr.refl (fun b => b = w.heap.size + 2) _).set (.inl rfl) _ _
              have HYM : Hd (Mine I Y V.heap.size 3 (.slice A5 m5 k5) (ys.map Prod.fst ++ [(o1.1 : Int) - 1])) := ⟨HM5.out.mv (fun q hq => hYf.same q (HM5.out.lt hq).1 (by have := (HM5.out.lt hq).2; omega)) hYf.size⟩
              have hlt2o : ∀ q, (S2 q ∨ (Value.slice A2 m2 k2).ownBlock = some q) → V.heap.size ≤ q ∧ q < wr.heap.size := fun q hq => by
                rcases hq with hq | hq
                · exact HS2.out q hq
                · exact ⟨(HO2.out.lt hq).2, (HO2.out.lt hq).1⟩
              have HYO : Hd (Base.Own Df.II Y V.heap.size 44 S2 (.slice A2 m2 k2) (ys.map Prod.snd)) := ⟨HO2.out.move (fun q hq => by
                have hb9 := hlt2o q hq
                have hne3 : (Value.slice A3 m3 k3).ownBlock ≠ some q := fun e => by
                  have h9 := HSEP.out q e
                  rcases hq with hq | hq
                  · exact h9.2 hq
                  · exact h9.1 hq
                exact (hYf.same q (by omega) (by omega)).trans ((HK5.out q (by omega) hne3).trans ((HBE.out.block q (by omega)).trans (HFC.out.same q hb9.2 (by omega))))) (by have := HYZ.out; omega)⟩
              have HSEP5 : Hd (∀ q, (Value.slice A5 m5 k5).ownBlock = some q → q < Y.heap.size ∧ (Value.slice A2 m2 k2).ownBlock ≠ some q ∧ ¬ S2 q) := ⟨fun q hq => by
                refine ⟨(HYM.out.lt hq).1, ?_⟩
                rcases HAT5.out with h9 | h9
                · exact HSEP.out q (h9 ▸ hq)
                · rw [h9] at hq
                  cases hq
                  exact ⟨fun e => by have := hlt2o _ (.inr e); omega, fun e => by have := hlt2o _ (.inl e); omega⟩⟩
              have HRY : Hd (Rs Y S p o1.2) := ⟨((HRC.out.below HBE.out).base (n := V.heap.size) (by omega) (fun k hk => by have := HSL.out k hk; omega) HB5.out).fr hYf (fun b hb e => by rcases hb with hb | hb; omega; have := HSL.out b hb; omega)⟩
              have HFY : Hd (Fr (fun b => b = p ∨ b = w.heap.size + 2) V Y) := ⟨(fr_base (HF2.out.trans ((HFC.out.mono fun b hb => .inl hb).trans (Fr.of_below HBE.out))) HB5.out).trans (hYf.mono fun b hb => .inr hb)⟩
              have hlt2y := Hd.mk hlt2o
              clear hq5c0 hq5f0 hq5c1 hq5f1 hq5c2 hq5f2 hq5c3 hq5f3 hq5c4 hq5f4 hq5l
              clear hY hq5 hq15 hlt2o hYf
              have hYxc0 := blk_cell hYx 0 _ rfl; have hYxf0 := blk_frozen hYx 0; have hYxc1 := blk_cell hYx 1 _ rfl; have hYxf1 := blk_frozen hYx 1; have hYxc2 := blk_cell hYx 2 _ rfl; have hYxf2 := blk_frozen hYx 2; have hYxc3 := blk_cell hYx 3 _ rfl; have hYxf3 := blk_frozen hYx 3; have hYxc4 := blk_cell hYx 4 _ rfl; have hYxf4 := blk_frozen hYx 4; have hYxl := blk_lt hYx
              have hY1c0 := blk_cell hY1 0 _ rfl; have hY1f0 := blk_frozen hY1 0; have hY1l := blk_lt hY1
              refine wp_region_can (.q [0, 1, 2, 3, 4, 5] (.e 6 true (.e 7 true (.e 8 false (.q [9] (.e 10 false (.done))))))) (clsX (fun b => b = p) _) (by kernel_rfl) (by kernel_rfl) (by intro _ _ d _ _ h; cases d <;> exact h) (clsX_drew _ _) ?_
              refine can_q (l := [⟨_,_,_,_,_,_⟩, ⟨_,_,_,_,_,_⟩, ⟨_,_,_,_,_,_⟩, ⟨_,_,_,_,_,_⟩, ⟨_,_,_,_,_,_⟩, ⟨_,_,_,_,_,_⟩]) rfl ?_
              repeat (go_big_quiet_step (fail))
              refine wpQuiet_nil ?_
              refine can_e (o := ⟨_,_,_,_,_,_⟩) rfl (fun K hK => ?_)
              go_wp2_with (go_at_call 65; go_must (refine Calls.mono (manyI_calls Y.drew S p w.heap.size wn o1.2 (HRY.out.below (below_drew1 (Below.refl _ _))) (by omega) ⟨hY1, HNEQ.out.1⟩) ?_; rintro e wE ⟨v6, rfl, hM6, hR6, hf⟩; rw [HMM.out] at hM6 hR6; have HM6 := Hd.mk hM6; have HR6 := Hd.mk hR6; have HFE : Hd (Fp p Y wE) := ⟨((Fr.refl _ Y).drew).trans hf⟩; clear hM6 hR6 hf))
              refine onK_normal (hK _ _ ⟨clsX _ _, clsX_self _ _, fun _ => clsX_next HFE.out.size (fun b hb hx => HFE.out.same b hb hx), ?_⟩)
              clear hK K
              obtain ⟨A6, m6, k6, rfl, hm6, hk6, hA6, -⟩ := HM6.out.formN
              have HM66 := Hd.mk hm6
              clear hm6
              have hzE2 := HFE.out.size
              refine can_e (o := ⟨_,_,_,_,_,_⟩) rfl (fun K hK => ?_)
              go_wp2_with fail
              refine onK_normal (hK _ _ ⟨clsX _ _, clsX_self _ _, fun _ => clsX_next (by rw [size_alloc]; exact Nat.le_succ _) (fun b hb _ => Below.heap_alloc _ _ _ hb), ?_⟩)
              clear hK K
              generalize hE : World.alloc wE _ = V3
              have hbE : Below wE.heap.size wE V3 := by rw [← hE]; exact below_alloc (Below.refl _ _) _
              have hbx : V3.heap[wE.heap.size]? = some (.cells #[.slice A6 m6 k6] 44 (0, 0)) := by rw [← hE]; exact blk_new _ _ _ rfl
              have HZ3 : Hd (V3.heap.size = wE.heap.size + 1) := ⟨by rw [← hE, size_alloc]⟩
              have HBE3 := Hd.mk hbE
              clear hE hbE
              have HOE : Hd (Base.Own Df.II wE V.heap.size 44 S2 (.slice A2 m2 k2) (ys.map Prod.snd)) := ⟨HYO.out.move (fun q hq => HFE.out.same q (by have := hlt2y.out q hq; have := HYZ.out; omega) (by have := hlt2y.out q hq; omega)) hzE2⟩
              have HROW6 : Hd (Row I V3 (fun b => (Value.slice A6 m6 k6).ownBlock = some b) A6 m6 mm.1) := ⟨by
                obtain ⟨A9, c9, e9, h91, h92, h93⟩ := Own.form HM6.out
                simp only [Value.slice.injEq] at e9
                obtain ⟨rfl, e9b, rfl⟩ := e9
                rw [← e9b] at h93
                exact (h93.move (fun q hq => HBE3.out.block q (by rcases hq with hq | hq; exact hq.elim; exact (HM6.out.lt hq).1))).mono fun q hq => by rcases hq with hq | hq; exact hq.elim; exact hq⟩
              refine can_e (o := ⟨_,_,_,_,_,_⟩) rfl (fun K hK => ?_)
              go_wp2_with (at_builtin; go_must (refine append_one Df.II (S' := fun b => (Value.slice A6 m6 k6).ownBlock = some b) rfl (.tmp 67) (.tmp 73) 45 44 (.slice none 0 0) 24 rfl Tryd.underlying45 infoRowI rfl (by decide) (by decide) V.heap.size (.slice A2 m2 k2) (ys.map Prod.snd) mm.1 [.slice A6 m6 k6] wE.heap.size rfl rfl hbx ⟨A6, k6, by rw [HM66.out], by rw [← HM66.out]; exact hk6, hA6, by rw [← HM66.out]; exact HROW6.out⟩ (HOE.out.below HBE3.out) (fun b hb => ⟨by have := (HM6.out.lt hb).1; have := HZ3.out; omega, fun e => by have := hlt2y.out b (.inr e); have h9 := (HM6.out.lt hb).2; rw [size_drew] at h9; have := HYZ.out; omega⟩) (fun e => by have := hlt2y.out _ (.inr e); have := HYZ.out; omega) (by have := HZ3.out; have := HYZ.out; omega) (by rw [List.length_map, HYL.out]; omega) ?_; intro v7 w7 hown hgr hat; have HOW := Hd.mk hown; have HGR := Hd.mk hgr; have HAT7 := Hd.mk hat; clear hown hgr hat))
              refine onK_normal (hK _ _ ⟨fun _ => True, trivial, (fun h => by cases h), ?_⟩)
              clear hK K
              refine can_q (l := [⟨_,_,_,_,_,_⟩]) rfl ?_
              repeat (go_big_quiet_step (fail))
              refine wpQuiet_nil ?_
              obtain ⟨A7, m7, k7, rfl⟩ : ∃ A n c, v7 = .slice A n c := by obtain ⟨A, c, e, _⟩ := HOW.out.form; exact ⟨_, _, _, e⟩
              have HF7 : Hd (Fr (fun b => (Value.slice A2 m2 k2).ownBlock = some b) V3 w7) := ⟨⟨⟨HGR.out.os, HGR.out.tape, HGR.out.output, HGR.out.size, fun k hk => absurd hk (Nat.not_lt_zero k)⟩, fun b hb hx => HGR.out.block b hb fun h => hx h.symm⟩⟩
              have hq7 : w7.heap[w.heap.size + 2]? = some (.cells #[.slice A1 m1 k1, .int .i64 wn, .slice A2 m2 k2, .slice A5 m5 k5, .int .i64 ((ss.1 : Int) - 1)] 47 (0, 0)) := HF7.out.blk (blk_below (HFE.out.blk hYx HNEQ.out.2) HBE3.out) (fun e => by have := hlt2y.out _ (.inr e); omega)
              clear hYxc0 hYxf0 hYxc1 hYxf1 hYxc2 hYxf2 hYxc3 hYxf3 hYxc4 hYxf4 hYxl
              clear hY1c0 hY1f0 hY1l
              clear hYx hY1 hbx
              have hq7c0 := blk_cell hq7 0 _ rfl; have hq7f0 := blk_frozen hq7 0; have hq7c1 := blk_cell hq7 1 _ rfl; have hq7f1 := blk_frozen hq7 1; have hq7c2 := blk_cell hq7 2 _ rfl; have hq7f2 := blk_frozen hq7 2; have hq7c3 := blk_cell hq7 3 _ rfl; have hq7f3 := blk_frozen hq7 3; have hq7c4 := blk_cell hq7 4 _ rfl; have hq7f4 := blk_frozen hq7 4; have hq7l := blk_lt hq7
              refine can_e (o := ⟨_,_,_,_,_,_⟩) rfl (fun K hK => ?_)
              go_wp2_with fail
              refine onK_normal (hK _ _ ⟨fun _ => True, trivial, (fun h => by cases h), ?_⟩)
              clear hK K
              refine can_done ?_
              go_wp2
              go_roundw
              case rel =>
                have hz7 := HF7.out.size
                have hz3 := HZ3.out
                have hyy := HYZ.out
                have hl6 : ∀ q, (Value.slice A6 m6 k6).ownBlock = some q → Y.heap.size ≤ q ∧ q < wE.heap.size := fun q hq => by have h9 := HM6.out.lt hq; rw [size_drew] at h9; exact ⟨h9.2, h9.1⟩
                have f7 : Fr (fun b => b = p ∨ b = w.heap.size + 2) V w7 := fr_base (HFY.out.trans ((HFE.out.mono fun b hb => .inl hb).trans (Fr.of_below HBE3.out))) (HF7.out.below (by omega) (fun b hb e => by have := hlt2y.out b (.inr e); omega))
                have fset : ∀ v : Value, Fr (fun b => b = w.heap.size + 2) w7 (w7.setCell ⟨w.heap.size + 2, 2, none⟩ v) := fun v => (Fr.refl (fun b => b = w.heap.size + 2) _).set (.inl rfl) _ _
                refine ⟨k + 1, mm.2, ys ++ [((o1.1 : Int) - 1, mm.1)], .slice A7 m7 k7, .slice A5 m5 k5, fun b => S2 b ∨ (Value.slice A6 m6 k6).ownBlock = some b ∨ b = wE.heap.size, by omega, by go_num, ⟨by rw [List.length_append, HYL.out]; rfl⟩, ⟨blk_set hq7 2 _ _ rfl⟩, ⟨?_⟩, ⟨?_⟩, ⟨fun q hq => ?_⟩, ⟨fun q hq => ?_⟩, ⟨?_⟩, ⟨?_⟩, ⟨f7.trans ((fset _).mono fun b hb => .inr hb)⟩⟩
                · rw [List.map_append]
                  have h9 : Mine I wE V.heap.size 3 (.slice A5 m5 k5) (ys.map Prod.fst ++ [(o1.1 : Int) - 1]) := HYM.out.mv (fun q hq => HFE.out.same q (HYM.out.lt hq).1 (by have := (HYM.out.lt hq).2; omega)) hzE2
                  have h10 := (h9.below HBE3.out).mv (fun q hq => HF7.out.same q (by have := (HYM.out.lt hq).1; omega) (HSEP5.out q hq).2.1) hz7
                  exact h10.mv (fun q hq => (fset _).same q (by have := (HYM.out.lt hq).1; omega) (by have := (HYM.out.lt hq).2; omega)) (fset _).size
                · rw [List.map_append]
                  exact HOW.out.set (fun q hq => by
                    rcases hq with (hq | hq | hq) | hq
                    · have := HS2.out q hq; omega
                    · have := hl6 q hq; omega
                    · omega
                    · have := (HOW.out.lt hq).2; omega) _
                · have h9 := HSEP5.out q hq
                  refine ⟨fun e => ?_, fun e => ?_⟩
                  · rcases HAT7.out with h8 | h8
                    · exact h9.2.1 (h8 ▸ e)
                    · rw [h8] at e; cases e; omega
                  · rcases e with e | e | e
                    · exact h9.2.2 e
                    · have := hl6 q e; omega
                    · omega
                · rw [size_set]
                  rcases hq with hq | hq | hq
                  · have := HS2.out q hq; exact ⟨by omega, by omega⟩
                  · have := hl6 q hq; exact ⟨by omega, by omega⟩
                  · exact ⟨by omega, by omega⟩
                · exact ((HR6.out.below HBE3.out).base (n := V.heap.size) (by omega) (fun k hk => by have := HSL.out k hk; omega) (HF7.out.below (by omega) (fun b hb e => by have := hlt2y.out b (.inr e); omega))).fr (fset _) (fun b hb e => by rcases hb with hb | hb; omega; have := HSL.out b hb; omega)
                · have h9 := HST.out
                  rw [HSF.out] at h9
                  exact h9
              case measure => simp [intOf]; omega
          · obtain rfl : k = nn.1 := by omega
            have HEND := Hd.mk (many_end HE.out (.inl rfl))
            have hq1c0 := blk_cell hq1 0 _ rfl; have hq1f0 := blk_frozen hq1 0; have hq1l := blk_lt hq1
            have hq2c0 := blk_cell hq2 0 _ rfl; have hq2f0 := blk_frozen hq2 0; have hq2c1 := blk_cell hq2 1 _ rfl; have hq2f1 := blk_frozen hq2 1; have hq2c2 := blk_cell hq2 2 _ rfl; have hq2f2 := blk_frozen hq2 2; have hq2c3 := blk_cell hq2 3 _ rfl; have hq2f3 := blk_frozen hq2 3; have hq2c4 := blk_cell hq2 4 _ rfl; have hq2f4 := blk_frozen hq2 4; have hq2l := blk_lt hq2
            have hq3c0 := blk_cell hq3 0 _ rfl; have hq3f0 := blk_frozen hq3 0; have hq3c1 := blk_cell hq3 1 _ rfl; have hq3f1 := blk_frozen hq3 1; have hq3c2 := blk_cell hq3 2 _ rfl; have hq3f2 := blk_frozen hq3 2; have hq3c3 := blk_cell hq3 3 _ rfl; have hq3f3 := blk_frozen hq3 3; have hq3c4 := blk_cell hq3 4 _ rfl; have hq3f4 := blk_frozen hq3 4; have hq3l := blk_lt hq3
            go_wp2
            have HDF : Hd (dfaF r = (⟨c, wn, ys.map Prod.snd, ys.map Prod.fst, (ss.1 : Int) - 1⟩, r2)) := ⟨by unfold dfaF; dsimp only; rw [HCE.out]; dsimp only; rw [HN1.out, HN2.out, Int.toNat_natCast, HEND.out]⟩
            refine bodyPost_ret (results_cell_row rfl _ _ (w.heap.size + 1) 47 #[.slice A1 m1 k1, .int .i64 wn, .slice A2 m2 k2, .slice A3 m3 k3, .int .i64 ((ss.1 : Int) - 1)] (0, 0) _ rfl (blk_set (blk_set (blk_set (blk_set (blk_set hq2 0 _ _ rfl) 1 _ _ rfl) 2 _ _ rfl) 3 _ _ rfl) 4 _ _ rfl) Tryd.underlying47 rfl (by kernel_rfl)) rfl ?_
            generalize hY : World.setCell _ _ _ = Y
            have hfY : Fr (fun b => b = w.heap.size + 1) wr Y := by rw [← hY]; exact (((((Fr.refl (fun b => b = w.heap.size + 1) _).set (.inl rfl) _ _).set (.inl rfl) _ _).set (.inl rfl) _ _).set (.inl rfl) _ _).set (.inl rfl) _ _
            have hzY := hfY.size
            have hzz := HZU.out
            have hzv := HFV.out.size
            refine ⟨⟨[.slice A1 m1 k1, .int .i64 wn, .slice A2 m2 k2, .slice A3 m3 k3, .int .i64 ((ss.1 : Int) - 1)], rfl, ?_⟩, ?_, ?_⟩
            · rw [HDF.out]
              refine ⟨[.slice A1 m1 k1], _, rfl, ⟨A1, k1, by rw [HM1.out], by rw [← HM1.out]; exact HR1.out.2.1, HR1.out.2.2, ?_⟩, [.int .i64 wn], _, rfl, rfl, [.slice A2 m2 k2], _, rfl, ⟨A2, k2, by rw [HM2'.out], by rw [← HM2'.out]; exact hk2, hA2, ?_⟩, [.slice A3 m3 k3], _, rfl, ⟨A3, k3, by rw [HM3'.out], by rw [← HM3'.out]; exact hk3, hA3, ?_⟩, rfl⟩
              · have h9 := HR1.out.1
                rw [HM1.out] at h9
                exact ((h9.move fun q hq => (hfY.same q (by omega) (by omega)).trans (HF2.out.same q (by omega) (by rintro (e | e) <;> omega))).mono fun q hq => ⟨by omega, by omega⟩)
              · have h9 := HROW2.out
                have hlt9 : ∀ q, (S2 q ∨ (Value.slice A2 m2 k2).ownBlock = some q) → V.heap.size ≤ q ∧ q < wr.heap.size := fun q hq => by
                  rcases hq with hq | hq
                  · exact HS2.out q hq
                  · exact ⟨(HO2.out.lt hq).2, (HO2.out.lt hq).1⟩
                have h10 : Row Df.II Y (fun q => w.heap.size ≤ q ∧ q < Y.heap.size) A2 m2 (ys.map Prod.snd) := ((h9.move fun q hq => hfY.same q (hlt9 q hq).2 (by have := (hlt9 q hq).1; omega)).mono fun q hq => by have := hlt9 q hq; exact ⟨by omega, by omega⟩)
                rw [HM2'.out] at h10
                exact h10
              · have h9 := HROW3.out
                rw [HM3'.out] at h9
                exact ((h9.move fun q hq => hfY.same q hq.2 (by omega)).mono fun q hq => ⟨by omega, by omega⟩)
            · rw [HDF.out]
              exact HRR2.out.fr hfY (fun b hb e => by rcases hb with hb | hb; omega; have := HSL.out b hb; omega)
            · have f1 : Fr (fun b => b = p ∨ b = w.heap.size + 2) w V := (Fr.of_below HBU.out).trans HFV.out
              have f2 : Fr (fun b => b = p ∨ b = w.heap.size + 2 ∨ b = w.heap.size + 1) w Y := ((f1.trans HF2.out).mono fun b hb => by rcases hb with hb | hb; exact .inl hb; exact .inr (.inl hb)).trans (hfY.mono fun b hb => .inr (.inr hb))
              exact f2.mono_lt fun b hb e => by rcases e with e | e | e; exact e; omega; omega
      · rw [hs] at hxpc1
        go_upto_block 2 with (first
          | (have hq_ := TOK; clear hq_ TOK; go_at_call 63; go_must (refine Calls.mono (rdtwo_calls wr S p r' HRR.out) ?_; rintro e wA ⟨rfl, hR1, hf⟩; rw [HN1.out] at hR1; have HRA := Hd.mk hR1; have HFA := Hd.mk hf; have hq1a := hf.blk hq1 HNEQ.out.1; have hq3a := hf.blk hq3 HNEQ.out.2; clear hq1c0 hq1f0 hq1l; clear hq3c0 hq3f0 hq3c1 hq3f1 hq3c2 hq3f2 hq3c3 hq3f3 hq3c4 hq3f4 hq3l; have hq1ac0 := blk_cell hq1a 0 _ rfl; have hq1af0 := blk_frozen hq1a 0; have hq1al := blk_lt hq1a; have hq3ac0 := blk_cell hq3a 0 _ rfl; have hq3af0 := blk_frozen hq3a 0; have hq3ac1 := blk_cell hq3a 1 _ rfl; have hq3af1 := blk_frozen hq3a 1; have hq3ac2 := blk_cell hq3a 2 _ rfl; have hq3af2 := blk_frozen hq3a 2; have hq3ac3 := blk_cell hq3a 3 _ rfl; have hq3af3 := blk_frozen hq3a 3; have hq3ac4 := blk_cell hq3a 4 _ rfl; have hq3af4 := blk_frozen hq3a 4; have hq3al := blk_lt hq3a; rw [HN1.out]; clear hR1 hf hq1 hq3))
          | (have hq_ := HRA; clear hq_; go_at_call 63; go_must (refine Calls.mono (rdtwo_calls wA S p nn.2 HRA.out) ?_; rintro e wB ⟨rfl, hR1, hf⟩; rw [HN2.out] at hR1; have HRB := Hd.mk hR1; have HFB := Hd.mk (HFA.out.trans hf); have hq1b := hf.blk hq1a HNEQ.out.1; have hq3b := hf.blk hq3a HNEQ.out.2; clear hq1ac0 hq1af0 hq1al; clear hq3ac0 hq3af0 hq3ac1 hq3af1 hq3ac2 hq3af2 hq3ac3 hq3af3 hq3ac4 hq3af4 hq3al; have hq1bc0 := blk_cell hq1b 0 _ rfl; have hq1bf0 := blk_frozen hq1b 0; have hq1bl := blk_lt hq1b; have hq3bc0 := blk_cell hq3b 0 _ rfl; have hq3bf0 := blk_frozen hq3b 0; have hq3bc1 := blk_cell hq3b 1 _ rfl; have hq3bf1 := blk_frozen hq3b 1; have hq3bc2 := blk_cell hq3b 2 _ rfl; have hq3bf2 := blk_frozen hq3b 2; have hq3bc3 := blk_cell hq3b 3 _ rfl; have hq3bf3 := blk_frozen hq3b 3; have hq3bc4 := blk_cell hq3b 4 _ rfl; have hq3bf4 := blk_frozen hq3b 4; have hq3bl := blk_lt hq3b; rw [HN2.out]; clear hR1 hf hq1a hq3a)))
        generalize hV : World.setCell wB _ _ = V
        have hVx : V.heap[w.heap.size + 2]? = some (.cells #[.slice A1 m1 k1, .int .i64 wn, .slice none 0 0, .slice none 0 0, .int .i64 ((ss.1 : Int) - 1)] 47 (0, 0)) := by rw [← hV]; exact blk_set hq3b 4 _ _ rfl
        have hzB := HFB.out.size
        have HMV : Hd (Mine I V U.heap.size 3 (.slice A1 m1 k1) c) := ⟨by
          rw [← hV]
          have h9 : Mine I wB U.heap.size 3 (.slice A1 m1 k1) c := HM.out.mv (fun q hq => HFB.out.same q (HM.out.lt hq).1 (by have := (HM.out.lt hq).2; have := HZU.out; omega)) HFB.out.size
          exact h9.set (fun q hq => by have := (HM.out.lt hq).2; have := HZU.out; omega) _⟩
        have HRV : Hd (Rs V S p ss.2) := ⟨by
          rw [← hV]
          exact HRB.out.fr (X := fun b => b = w.heap.size + 2) ((Fr.refl (fun b => b = w.heap.size + 2) _).set (.inl rfl) _ _) (fun b hb e => by rcases hb with hb | hb; have := HNEQ.out.2; omega; have := HSL.out b hb; omega)⟩
        have HFV : Hd (Fr (fun b => b = p ∨ b = w.heap.size + 2) U V) := ⟨by rw [← hV]; exact (HF.out.trans (HFB.out.mono fun b hb => .inl hb)).set (.inl (.inr rfl)) _ _⟩
        have HQ1 : Hd (V.heap[w.heap.size]? = some (.cells #[.pointer (some ⟨p, 0, none⟩)] 62 (0, 0))) := ⟨HFV.out.blk HX1.out (by rintro (e | e) <;> omega)⟩
        have HQ2 : Hd (V.heap[w.heap.size + 1]? = some (dO (.slice none 0 0) 0 (.slice none 0 0) (.slice none 0 0) 0)) := ⟨HFV.out.blk HX2.out (by rintro (e | e) <;> omega)⟩
        have HQ3 := Hd.mk hVx
        have HVZ : Hd (w.heap.size + 3 ≤ V.heap.size) := ⟨by have := HFV.out.size; have := HZU.out; omega⟩
        clear hq1bc0 hq1bf0 hq1bl
        clear hq3bc0 hq3bf0 hq3bc1 hq3bf1 hq3bc2 hq3bf2 hq3bc3 hq3bf3 hq3bc4 hq3bf4 hq3bl
        clear hV hq1b hq3b hVx
        have HR1 : Hd (Row I V (fun q => U.heap.size ≤ q ∧ q < V.heap.size) A1 m1 c ∧ m1 ≤ k1 ∧ (A1 = none → k1 = 0)) := ⟨by
          obtain ⟨A9, n9, c9, e9, -, h1, h2, h3⟩ := HMV.out.formN
          cases e9
          exact ⟨h3, h1, h2⟩⟩
        go_wp2
        go_loopw [8] (fun i wr => ∃ (k : Nat) (r2 : Rd) (ys : List (Int × List Int)) (v2 v3 : Value) (S2 : Nat → Prop), k ≤ nn.1 ∧ i = .int .i64 k ∧ Hd (ys.length = k) ∧ Hd (wr.heap[w.heap.size + 2]? = some (dO (.slice A1 m1 k1) wn v2 v3 ((ss.1 : Int) - 1))) ∧ Hd (Mine I wr V.heap.size 3 v3 (ys.map Prod.fst)) ∧ Hd (Base.Own Df.II wr V.heap.size 44 S2 v2 (ys.map Prod.snd)) ∧ Hd (∀ q, v3.ownBlock = some q → v2.ownBlock ≠ some q ∧ ¬ S2 q) ∧ Hd (∀ q, S2 q → V.heap.size ≤ q ∧ q < wr.heap.size) ∧ Hd (Rs wr S p r2) ∧ Hd ((ys ++ (manyF (stateF wn) (nn.1 - k) r2).1, (manyF (stateF wn) (nn.1 - k) r2).2) = manyF (stateF wn) nn.1 ss.2) ∧ Hd (Fr (fun b => b = p ∨ b = w.heap.size + 2) V wr)) (fun i _ => nn.1 - (intOf i).toNat)
        case atStart => exact ⟨0, ss.2, [], _, _, fun _ => False, Nat.zero_le _, rfl, ⟨rfl⟩, HQ3, ⟨Mine.nil _ _ _ _⟩, ⟨Own.nil _ _ _ _⟩, ⟨fun q h => by cases h⟩, ⟨fun q h => h.elim⟩, HRV, ⟨rfl⟩, ⟨Fr.refl _ _⟩⟩
        case round =>
          obtain ⟨k, r2, ys, v2, v3, S2, hk, rfl, HYL, HD, HM3, HO2, HSEP, HS2, HRR2, HE, HF2⟩ := hrel
          have hq1 := HF2.out.blk HQ1.out (by rintro (e | e) <;> omega)
          have hq2 := HF2.out.blk HQ2.out (by rintro (e | e) <;> omega)
          have hq3 := HD.out
          have hzr := HF2.out.size
          have hvz := HVZ.out
          unfold dO at hq3 hq2
          obtain ⟨Ap2, np2, cp2, hxp2, -, -⟩ := HRR2.out.obj
          obtain ⟨A2, m2, k2, rfl, hm2, hk2, hA2, hr2⟩ : ∃ A n c, v2 = .slice A n c ∧ n = (ys.map Prod.snd).length ∧ n ≤ c ∧ (A = none → c = 0) ∧ Row Df.II wr (fun q => S2 q ∨ v2.ownBlock = some q) A n (ys.map Prod.snd) := by obtain ⟨A, c, e, h1, h2, h3⟩ := HO2.out.form; exact ⟨A, _, c, e, rfl, h1, h2, h3⟩
          obtain ⟨A3, m3, k3, rfl, hm3, hk3, hA3, hr3⟩ := HM3.out.formN
          have HM2' := Hd.mk hm2; have HM3' := Hd.mk hm3
          have HROW2 := Hd.mk hr2; have HROW3 := Hd.mk hr3
          clear hm2 hm3 hr2 hr3
          by_cases hlt2 : k < nn.1
          · cases hs2 : r2.2 with
            | true =>
              rw [hs2] at hxp2
              have HEND := Hd.mk (many_end HE.out (.inr hs2))
              clear hs2
              have hxp2c0 := blk_cell hxp2 0 _ rfl; have hxp2f0 := blk_frozen hxp2 0; have hxp2c1 := blk_cell hxp2 1 _ rfl; have hxp2f1 := blk_frozen hxp2 1; have hxp2l := blk_lt hxp2
              have hq1c0 := blk_cell hq1 0 _ rfl; have hq1f0 := blk_frozen hq1 0; have hq1l := blk_lt hq1
              have hq2c0 := blk_cell hq2 0 _ rfl; have hq2f0 := blk_frozen hq2 0; have hq2c1 := blk_cell hq2 1 _ rfl; have hq2f1 := blk_frozen hq2 1; have hq2c2 := blk_cell hq2 2 _ rfl; have hq2f2 := blk_frozen hq2 2; have hq2c3 := blk_cell hq2 3 _ rfl; have hq2f3 := blk_frozen hq2 3; have hq2c4 := blk_cell hq2 4 _ rfl; have hq2f4 := blk_frozen hq2 4; have hq2l := blk_lt hq2
              have hq3c0 := blk_cell hq3 0 _ rfl; have hq3f0 := blk_frozen hq3 0; have hq3c1 := blk_cell hq3 1 _ rfl; have hq3f1 := blk_frozen hq3 1; have hq3c2 := blk_cell hq3 2 _ rfl; have hq3f2 := blk_frozen hq3 2; have hq3c3 := blk_cell hq3 3 _ rfl; have hq3f3 := blk_frozen hq3 3; have hq3c4 := blk_cell hq3 4 _ rfl; have hq3f4 := blk_frozen hq3 4; have hq3l := blk_lt hq3
              go_wp2
              have HDF : Hd (dfaF r = (⟨c, wn, ys.map Prod.snd, ys.map Prod.fst, (ss.1 : Int) - 1⟩, r2)) := ⟨by unfold dfaF; dsimp only; rw [HCE.out]; dsimp only; rw [HN1.out, HN2.out, Int.toNat_natCast, HEND.out]⟩
              refine bodyPost_ret (results_cell_row rfl _ _ (w.heap.size + 1) 47 #[.slice A1 m1 k1, .int .i64 wn, .slice A2 m2 k2, .slice A3 m3 k3, .int .i64 ((ss.1 : Int) - 1)] (0, 0) _ rfl (blk_set (blk_set (blk_set (blk_set (blk_set hq2 0 _ _ rfl) 1 _ _ rfl) 2 _ _ rfl) 3 _ _ rfl) 4 _ _ rfl) Tryd.underlying47 rfl (by kernel_rfl)) rfl ?_
              generalize hY : World.setCell _ _ _ = Y
              have hfY : Fr (fun b => b = w.heap.size + 1) wr Y := by rw [← hY]; exact (((((Fr.refl (fun b => b = w.heap.size + 1) _).set (.inl rfl) _ _).set (.inl rfl) _ _).set (.inl rfl) _ _).set (.inl rfl) _ _).set (.inl rfl) _ _
              have hzY := hfY.size
              have hzz := HZU.out
              have hzv := HFV.out.size
              refine ⟨⟨[.slice A1 m1 k1, .int .i64 wn, .slice A2 m2 k2, .slice A3 m3 k3, .int .i64 ((ss.1 : Int) - 1)], rfl, ?_⟩, ?_, ?_⟩
              · rw [HDF.out]
                refine ⟨[.slice A1 m1 k1], _, rfl, ⟨A1, k1, by rw [HM1.out], by rw [← HM1.out]; exact HR1.out.2.1, HR1.out.2.2, ?_⟩, [.int .i64 wn], _, rfl, rfl, [.slice A2 m2 k2], _, rfl, ⟨A2, k2, by rw [HM2'.out], by rw [← HM2'.out]; exact hk2, hA2, ?_⟩, [.slice A3 m3 k3], _, rfl, ⟨A3, k3, by rw [HM3'.out], by rw [← HM3'.out]; exact hk3, hA3, ?_⟩, rfl⟩
                · have h9 := HR1.out.1
                  rw [HM1.out] at h9
                  exact ((h9.move fun q hq => (hfY.same q (by omega) (by omega)).trans (HF2.out.same q (by omega) (by rintro (e | e) <;> omega))).mono fun q hq => ⟨by omega, by omega⟩)
                · have h9 := HROW2.out
                  have hlt9 : ∀ q, (S2 q ∨ (Value.slice A2 m2 k2).ownBlock = some q) → V.heap.size ≤ q ∧ q < wr.heap.size := fun q hq => by
                    rcases hq with hq | hq
                    · exact HS2.out q hq
                    · exact ⟨(HO2.out.lt hq).2, (HO2.out.lt hq).1⟩
                  have h10 : Row Df.II Y (fun q => w.heap.size ≤ q ∧ q < Y.heap.size) A2 m2 (ys.map Prod.snd) := ((h9.move fun q hq => hfY.same q (hlt9 q hq).2 (by have := (hlt9 q hq).1; omega)).mono fun q hq => by have := hlt9 q hq; exact ⟨by omega, by omega⟩)
                  rw [HM2'.out] at h10
                  exact h10
                · have h9 := HROW3.out
                  rw [HM3'.out] at h9
                  exact ((h9.move fun q hq => hfY.same q hq.2 (by omega)).mono fun q hq => ⟨by omega, by omega⟩)
              · rw [HDF.out]
                exact HRR2.out.fr hfY (fun b hb e => by rcases hb with hb | hb; omega; have := HSL.out b hb; omega)
              · have f1 : Fr (fun b => b = p ∨ b = w.heap.size + 2) w V := (Fr.of_below HBU.out).trans HFV.out
                have f2 : Fr (fun b => b = p ∨ b = w.heap.size + 2 ∨ b = w.heap.size + 1) w Y := ((f1.trans HF2.out).mono fun b hb => by rcases hb with hb | hb; exact .inl hb; exact .inr (.inl hb)).trans (hfY.mono fun b hb => .inr (.inr hb))
                exact f2.mono_lt fun b hb e => by rcases e with e | e | e; exact e; omega; omega
            | false =>
              rw [hs2] at hxp2
              have HST := Hd.mk (many_step HE.out hlt2 hs2)
              generalize ho1 : oneF r2 = o1
              generalize hmm : manyF lessF wn o1.2 = mm
              have HSF : Hd (stateF wn r2 = (((o1.1 : Int) - 1, mm.1), mm.2)) := ⟨by unfold stateF; rw [ho1, hmm]⟩
              have hn1 : o1.1 < 256 := by rw [← ho1]; exact one_lt _
              have HMML : Hd (mm.1.length ≤ wn) := ⟨by rw [← hmm]; exact many_len _ _ _⟩
              have HO1 := Hd.mk ho1; have HMM := Hd.mk hmm
              clear hs2 ho1 hmm
              have HZ := Hd.mk hvz
              have hnp0 : ¬ (w.heap.size = p) := by omega
              have hnp2 : ¬ (w.heap.size + 1 + 1 = p) := by omega
              have hnp3 : ¬ (w.heap.size + 2 = p) := by omega
              have hxp2c0 := blk_cell hxp2 0 _ rfl; have hxp2f0 := blk_frozen hxp2 0; have hxp2c1 := blk_cell hxp2 1 _ rfl; have hxp2f1 := blk_frozen hxp2 1; have hxp2l := blk_lt hxp2
              have hq1c0 := blk_cell hq1 0 _ rfl; have hq1f0 := blk_frozen hq1 0; have hq1l := blk_lt hq1
              have hq3c0 := blk_cell hq3 0 _ rfl; have hq3f0 := blk_frozen hq3 0; have hq3c1 := blk_cell hq3 1 _ rfl; have hq3f1 := blk_frozen hq3 1; have hq3c2 := blk_cell hq3 2 _ rfl; have hq3f2 := blk_frozen hq3 2; have hq3c3 := blk_cell hq3 3 _ rfl; have hq3f3 := blk_frozen hq3 3; have hq3c4 := blk_cell hq3 4 _ rfl; have hq3f4 := blk_frozen hq3 4; have hq3l := blk_lt hq3
              go_wp2
              refine wp_region_can (.q [0, 1, 2] (.e 3 true (.q [4] (.e 5 true (.e 6 false (.q [7] (.e 8 false (.done)))))))) (clsX (fun b => b = p) _) (by kernel_rfl) (by kernel_rfl) (by intro _ _ d _ _ h; cases d <;> exact h) (clsX_drew _ _) ?_
              refine can_q (l := [⟨_,_,_,_,_,_⟩, ⟨_,_,_,_,_,_⟩, ⟨_,_,_,_,_,_⟩]) rfl ?_
              repeat (go_big_quiet_step (fail))
              refine wpQuiet_nil ?_
              refine can_e (o := ⟨_,_,_,_,_,_⟩) rfl (fun K hK => ?_)
              go_wp2_with (go_at_call 34; go_must (refine Calls.mono (rdone_calls wr.drew S p r2 (HRR2.out.below (below_drew1 (Below.refl _ _)))) ?_; rintro e wC ⟨rfl, hR1, hf⟩; rw [HO1.out] at hR1; have HRC := Hd.mk hR1; have HFC : Hd (Fp p wr wC) := ⟨((Fr.refl _ wr).drew).trans hf⟩; rw [HO1.out]; clear hR1 hf))
              refine onK_normal (hK _ _ ⟨clsX _ _, clsX_self _ _, fun _ => clsX_next HFC.out.size (fun b hb hx => HFC.out.same b hb hx), ?_⟩)
              clear hK K
              refine can_q (l := [⟨_,_,_,_,_,_⟩]) rfl ?_
              repeat (go_big_quiet_step (fail))
              refine wpQuiet_nil ?_
              refine can_e (o := ⟨_,_,_,_,_,_⟩) rfl (fun K hK => ?_)
              go_wp2_with fail
              refine onK_normal (hK _ _ ⟨clsX _ _, clsX_self _ _, fun _ => clsX_next (by rw [size_alloc]; exact Nat.le_succ _) (fun b hb _ => Below.heap_alloc _ _ _ hb), ?_⟩)
              clear hK K
              generalize hE : World.alloc wC _ = V2
              have hbE : Below wC.heap.size wC V2 := by rw [← hE]; exact below_alloc (Below.refl _ _) _
              have hbx : V2.heap[wC.heap.size]? = some (.cells #[.int .i64 ((o1.1 : Int) - 1)] 3 (0, 0)) := by rw [← hE]; exact blk_new _ _ _ rfl
              have HBE := Hd.mk hbE
              have hzC := HFC.out.size
              have hzE := hbE.size
              have HM3C : Hd (Mine I wC V.heap.size 3 (.slice A3 m3 k3) (ys.map Prod.fst)) := ⟨HM3.out.mv (fun q hq => HFC.out.same q (HM3.out.lt hq).1 (by have := (HM3.out.lt hq).2; omega)) hzC⟩
              clear hE hbE
              refine can_e (o := ⟨_,_,_,_,_,_⟩) rfl (fun K hK => ?_)
              go_wp2_with (at_builtin; go_must (refine append_snoc I (Ty.int_flat _) rfl (.tmp 59) (.tmp 63) 44 3 (.int .i64 0) 8 rfl Tryd.underlying44 infoI rfl (by decide) (by decide) V.heap.size (.slice A3 m3 k3) (ys.map Prod.fst) ((o1.1 : Int) - 1) [.int .i64 ((o1.1 : Int) - 1)] wC.heap.size rfl rfl hbx rfl (HM3C.out.below HBE.out) (HM3C.out.ne_new (Nat.le_refl _)) (by omega) (by rw [List.length_map, HYL.out]; omega) ?_; intro v5 w5 hM hb hk5 hat; have HM5 := Hd.mk hM; have HB5 := Hd.mk hb; have HK5 := Hd.mk hk5; have HAT5 := Hd.mk hat; clear hM hb hk5 hat))
              refine onK_normal (hK _ _ ⟨fun _ => True, trivial, (fun h => by cases h), ?_⟩)
              clear hK K
              refine can_q (l := [⟨_,_,_,_,_,_⟩]) rfl ?_
              repeat (go_big_quiet_step (fail))
              refine wpQuiet_nil ?_
              obtain ⟨A5, m5, k5, rfl, hm5, -, -, -⟩ := HM5.out.formN
              clear hm5
              have hq5 : w5.heap[w.heap.size + 2]? = some (.cells #[.slice A1 m1 k1, .int .i64 wn, .slice A2 m2 k2, .slice A3 m3 k3, .int .i64 ((ss.1 : Int) - 1)] 47 (0, 0)) := (HB5.out.block _ (by omega)).trans (blk_below (HFC.out.blk hq3 HNEQ.out.2) HBE.out)
              have hq15 : w5.heap[w.heap.size]? = some (.cells #[.pointer (some ⟨p, 0, none⟩)] 62 (0, 0)) := (HB5.out.block _ (by omega)).trans (blk_below (HFC.out.blk hq1 HNEQ.out.1) HBE.out)
              clear hxp2c0 hxp2f0 hxp2c1 hxp2f1 hxp2l
              clear hq1c0 hq1f0 hq1l
              clear hq3c0 hq3f0 hq3c1 hq3f1 hq3c2 hq3f2 hq3c3 hq3f3 hq3c4 hq3f4 hq3l
              clear hq1 hq3 hbx
              have hq5c0 := blk_cell hq5 0 _ rfl; have hq5f0 := blk_frozen hq5 0; have hq5c1 := blk_cell hq5 1 _ rfl; have hq5f1 := blk_frozen hq5 1; have hq5c2 := blk_cell hq5 2 _ rfl; have hq5f2 := blk_frozen hq5 2; have hq5c3 := blk_cell hq5 3 _ rfl; have hq5f3 := blk_frozen hq5 3; have hq5c4 := blk_cell hq5 4 _ rfl; have hq5f4 := blk_frozen hq5 4; have hq5l := blk_lt hq5
              refine can_e (o := ⟨_,_,_,_,_,_⟩) rfl (fun K hK => ?_)
              go_wp2_with fail
              refine onK_normal (hK _ _ ⟨fun _ => True, trivial, (fun h => by cases h), ?_⟩)
              clear hK K
              refine can_done ?_
              go_wp2
              generalize hY : World.setCell w5 _ _ = Y
              have hz5 := HB5.out.size
              have hYx : Y.heap[w.heap.size + 2]? = some (.cells #[.slice A1 m1 k1, .int .i64 wn, .slice A2 m2 k2, .slice A5 m5 k5, .int .i64 ((ss.1 : Int) - 1)] 47 (0, 0)) := by rw [← hY]; exact blk_set hq5 3 _ _ rfl
              have hY1 : Y.heap[w.heap.size]? = some (.cells #[.pointer (some ⟨p, 0, none⟩)] 62 (0, 0)) := by rw [← hY]; exact blk_far hq15 (by show w.heap.size ≠ w.heap.size + 2; omega) _
              have HYZ : Hd (Y.heap.size = w5.heap.size) := ⟨by rw [← hY, size_set]⟩
              have hYf : Fr (fun b => b = w.heap.size + 2) w5 Y := by rw [← hY]; exact (Fr.refl (fun b => b = w.heap.size + 2) _).set (.inl rfl) _ _
              have HYM : Hd (Mine I Y V.heap.size 3 (.slice A5 m5 k5) (ys.map Prod.fst ++ [(o1.1 : Int) - 1])) := ⟨HM5.out.mv (fun q hq => hYf.same q (HM5.out.lt hq).1 (by have := (HM5.out.lt hq).2; omega)) hYf.size⟩
              have hlt2o : ∀ q, (S2 q ∨ (Value.slice A2 m2 k2).ownBlock = some q) → V.heap.size ≤ q ∧ q < wr.heap.size := fun q hq => by
                rcases hq with hq | hq
                · exact HS2.out q hq
                · exact ⟨(HO2.out.lt hq).2, (HO2.out.lt hq).1⟩
              have HYO : Hd (Base.Own Df.II Y V.heap.size 44 S2 (.slice A2 m2 k2) (ys.map Prod.snd)) := ⟨HO2.out.move (fun q hq => by
                have hb9 := hlt2o q hq
                have hne3 : (Value.slice A3 m3 k3).ownBlock ≠ some q := fun e => by
                  have h9 := HSEP.out q e
                  rcases hq with hq | hq
                  · exact h9.2 hq
                  · exact h9.1 hq
                exact (hYf.same q (by omega) (by omega)).trans ((HK5.out q (by omega) hne3).trans ((HBE.out.block q (by omega)).trans (HFC.out.same q hb9.2 (by omega))))) (by have := HYZ.out; omega)⟩
              have HSEP5 : Hd (∀ q, (Value.slice A5 m5 k5).ownBlock = some q → q < Y.heap.size ∧ (Value.slice A2 m2 k2).ownBlock ≠ some q ∧ ¬ S2 q) := ⟨fun q hq => by
                refine ⟨(HYM.out.lt hq).1, ?_⟩
                rcases HAT5.out with h9 | h9
                · exact HSEP.out q (h9 ▸ hq)
                · rw [h9] at hq
                  cases hq
                  exact ⟨fun e => by have := hlt2o _ (.inr e); omega, fun e => by have := hlt2o _ (.inl e); omega⟩⟩
              have HRY : Hd (Rs Y S p o1.2) := ⟨((HRC.out.below HBE.out).base (n := V.heap.size) (by omega) (fun k hk => by have := HSL.out k hk; omega) HB5.out).fr hYf (fun b hb e => by rcases hb with hb | hb; omega; have := HSL.out b hb; omega)⟩
              have HFY : Hd (Fr (fun b => b = p ∨ b = w.heap.size + 2) V Y) := ⟨(fr_base (HF2.out.trans ((HFC.out.mono fun b hb => .inl hb).trans (Fr.of_below HBE.out))) HB5.out).trans (hYf.mono fun b hb => .inr hb)⟩
              have hlt2y := Hd.mk hlt2o
              clear hq5c0 hq5f0 hq5c1 hq5f1 hq5c2 hq5f2 hq5c3 hq5f3 hq5c4 hq5f4 hq5l
              clear hY hq5 hq15 hlt2o hYf
              have hYxc0 := blk_cell hYx 0 _ rfl; have hYxf0 := blk_frozen hYx 0; have hYxc1 := blk_cell hYx 1 _ rfl; have hYxf1 := blk_frozen hYx 1; have hYxc2 := blk_cell hYx 2 _ rfl; have hYxf2 := blk_frozen hYx 2; have hYxc3 := blk_cell hYx 3 _ rfl; have hYxf3 := blk_frozen hYx 3; have hYxc4 := blk_cell hYx 4 _ rfl; have hYxf4 := blk_frozen hYx 4; have hYxl := blk_lt hYx
              have hY1c0 := blk_cell hY1 0 _ rfl; have hY1f0 := blk_frozen hY1 0; have hY1l := blk_lt hY1
              refine wp_region_can (.q [0, 1, 2, 3, 4, 5] (.e 6 true (.e 7 true (.e 8 false (.q [9] (.e 10 false (.done))))))) (clsX (fun b => b = p) _) (by kernel_rfl) (by kernel_rfl) (by intro _ _ d _ _ h; cases d <;> exact h) (clsX_drew _ _) ?_
              refine can_q (l := [⟨_,_,_,_,_,_⟩, ⟨_,_,_,_,_,_⟩, ⟨_,_,_,_,_,_⟩, ⟨_,_,_,_,_,_⟩, ⟨_,_,_,_,_,_⟩, ⟨_,_,_,_,_,_⟩]) rfl ?_
              repeat (go_big_quiet_step (fail))
              refine wpQuiet_nil ?_
              refine can_e (o := ⟨_,_,_,_,_,_⟩) rfl (fun K hK => ?_)
              go_wp2_with (go_at_call 65; go_must (refine Calls.mono (manyI_calls Y.drew S p w.heap.size wn o1.2 (HRY.out.below (below_drew1 (Below.refl _ _))) (by omega) ⟨hY1, HNEQ.out.1⟩) ?_; rintro e wE ⟨v6, rfl, hM6, hR6, hf⟩; rw [HMM.out] at hM6 hR6; have HM6 := Hd.mk hM6; have HR6 := Hd.mk hR6; have HFE : Hd (Fp p Y wE) := ⟨((Fr.refl _ Y).drew).trans hf⟩; clear hM6 hR6 hf))
              refine onK_normal (hK _ _ ⟨clsX _ _, clsX_self _ _, fun _ => clsX_next HFE.out.size (fun b hb hx => HFE.out.same b hb hx), ?_⟩)
              clear hK K
              obtain ⟨A6, m6, k6, rfl, hm6, hk6, hA6, -⟩ := HM6.out.formN
              have HM66 := Hd.mk hm6
              clear hm6
              have hzE2 := HFE.out.size
              refine can_e (o := ⟨_,_,_,_,_,_⟩) rfl (fun K hK => ?_)
              go_wp2_with fail
              refine onK_normal (hK _ _ ⟨clsX _ _, clsX_self _ _, fun _ => clsX_next (by rw [size_alloc]; exact Nat.le_succ _) (fun b hb _ => Below.heap_alloc _ _ _ hb), ?_⟩)
              clear hK K
              generalize hE : World.alloc wE _ = V3
              have hbE : Below wE.heap.size wE V3 := by rw [← hE]; exact below_alloc (Below.refl _ _) _
              have hbx : V3.heap[wE.heap.size]? = some (.cells #[.slice A6 m6 k6] 44 (0, 0)) := by rw [← hE]; exact blk_new _ _ _ rfl
              have HZ3 : Hd (V3.heap.size = wE.heap.size + 1) := ⟨by rw [← hE, size_alloc]⟩
              have HBE3 := Hd.mk hbE
              clear hE hbE
              have HOE : Hd (Base.Own Df.II wE V.heap.size 44 S2 (.slice A2 m2 k2) (ys.map Prod.snd)) := ⟨HYO.out.move (fun q hq => HFE.out.same q (by have := hlt2y.out q hq; have := HYZ.out; omega) (by have := hlt2y.out q hq; omega)) hzE2⟩
              have HROW6 : Hd (Row I V3 (fun b => (Value.slice A6 m6 k6).ownBlock = some b) A6 m6 mm.1) := ⟨by
                obtain ⟨A9, c9, e9, h91, h92, h93⟩ := Own.form HM6.out
                simp only [Value.slice.injEq] at e9
                obtain ⟨rfl, e9b, rfl⟩ := e9
                rw [← e9b] at h93
                exact (h93.move (fun q hq => HBE3.out.block q (by rcases hq with hq | hq; exact hq.elim; exact (HM6.out.lt hq).1))).mono fun q hq => by rcases hq with hq | hq; exact hq.elim; exact hq⟩
              refine can_e (o := ⟨_,_,_,_,_,_⟩) rfl (fun K hK => ?_)
              go_wp2_with (at_builtin; go_must (refine append_one Df.II (S' := fun b => (Value.slice A6 m6 k6).ownBlock = some b) rfl (.tmp 67) (.tmp 73) 45 44 (.slice none 0 0) 24 rfl Tryd.underlying45 infoRowI rfl (by decide) (by decide) V.heap.size (.slice A2 m2 k2) (ys.map Prod.snd) mm.1 [.slice A6 m6 k6] wE.heap.size rfl rfl hbx ⟨A6, k6, by rw [HM66.out], by rw [← HM66.out]; exact hk6, hA6, by rw [← HM66.out]; exact HROW6.out⟩ (HOE.out.below HBE3.out) (fun b hb => ⟨by have := (HM6.out.lt hb).1; have := HZ3.out; omega, fun e => by have := hlt2y.out b (.inr e); have h9 := (HM6.out.lt hb).2; rw [size_drew] at h9; have := HYZ.out; omega⟩) (fun e => by have := hlt2y.out _ (.inr e); have := HYZ.out; omega) (by have := HZ3.out; have := HYZ.out; omega) (by rw [List.length_map, HYL.out]; omega) ?_; intro v7 w7 hown hgr hat; have HOW := Hd.mk hown; have HGR := Hd.mk hgr; have HAT7 := Hd.mk hat; clear hown hgr hat))
              refine onK_normal (hK _ _ ⟨fun _ => True, trivial, (fun h => by cases h), ?_⟩)
              clear hK K
              refine can_q (l := [⟨_,_,_,_,_,_⟩]) rfl ?_
              repeat (go_big_quiet_step (fail))
              refine wpQuiet_nil ?_
              obtain ⟨A7, m7, k7, rfl⟩ : ∃ A n c, v7 = .slice A n c := by obtain ⟨A, c, e, _⟩ := HOW.out.form; exact ⟨_, _, _, e⟩
              have HF7 : Hd (Fr (fun b => (Value.slice A2 m2 k2).ownBlock = some b) V3 w7) := ⟨⟨⟨HGR.out.os, HGR.out.tape, HGR.out.output, HGR.out.size, fun k hk => absurd hk (Nat.not_lt_zero k)⟩, fun b hb hx => HGR.out.block b hb fun h => hx h.symm⟩⟩
              have hq7 : w7.heap[w.heap.size + 2]? = some (.cells #[.slice A1 m1 k1, .int .i64 wn, .slice A2 m2 k2, .slice A5 m5 k5, .int .i64 ((ss.1 : Int) - 1)] 47 (0, 0)) := HF7.out.blk (blk_below (HFE.out.blk hYx HNEQ.out.2) HBE3.out) (fun e => by have := hlt2y.out _ (.inr e); omega)
              clear hYxc0 hYxf0 hYxc1 hYxf1 hYxc2 hYxf2 hYxc3 hYxf3 hYxc4 hYxf4 hYxl
              clear hY1c0 hY1f0 hY1l
              clear hYx hY1 hbx
              have hq7c0 := blk_cell hq7 0 _ rfl; have hq7f0 := blk_frozen hq7 0; have hq7c1 := blk_cell hq7 1 _ rfl; have hq7f1 := blk_frozen hq7 1; have hq7c2 := blk_cell hq7 2 _ rfl; have hq7f2 := blk_frozen hq7 2; have hq7c3 := blk_cell hq7 3 _ rfl; have hq7f3 := blk_frozen hq7 3; have hq7c4 := blk_cell hq7 4 _ rfl; have hq7f4 := blk_frozen hq7 4; have hq7l := blk_lt hq7
              refine can_e (o := ⟨_,_,_,_,_,_⟩) rfl (fun K hK => ?_)
              go_wp2_with fail
              refine onK_normal (hK _ _ ⟨fun _ => True, trivial, (fun h => by cases h), ?_⟩)
              clear hK K
              refine can_done ?_
              go_wp2
              go_roundw
              case rel =>
                have hz7 := HF7.out.size
                have hz3 := HZ3.out
                have hyy := HYZ.out
                have hl6 : ∀ q, (Value.slice A6 m6 k6).ownBlock = some q → Y.heap.size ≤ q ∧ q < wE.heap.size := fun q hq => by have h9 := HM6.out.lt hq; rw [size_drew] at h9; exact ⟨h9.2, h9.1⟩
                have f7 : Fr (fun b => b = p ∨ b = w.heap.size + 2) V w7 := fr_base (HFY.out.trans ((HFE.out.mono fun b hb => .inl hb).trans (Fr.of_below HBE3.out))) (HF7.out.below (by omega) (fun b hb e => by have := hlt2y.out b (.inr e); omega))
                have fset : ∀ v : Value, Fr (fun b => b = w.heap.size + 2) w7 (w7.setCell ⟨w.heap.size + 2, 2, none⟩ v) := fun v => (Fr.refl (fun b => b = w.heap.size + 2) _).set (.inl rfl) _ _
                refine ⟨k + 1, mm.2, ys ++ [((o1.1 : Int) - 1, mm.1)], .slice A7 m7 k7, .slice A5 m5 k5, fun b => S2 b ∨ (Value.slice A6 m6 k6).ownBlock = some b ∨ b = wE.heap.size, by omega, by go_num, ⟨by rw [List.length_append, HYL.out]; rfl⟩, ⟨blk_set hq7 2 _ _ rfl⟩, ⟨?_⟩, ⟨?_⟩, ⟨fun q hq => ?_⟩, ⟨fun q hq => ?_⟩, ⟨?_⟩, ⟨?_⟩, ⟨f7.trans ((fset _).mono fun b hb => .inr hb)⟩⟩
                · rw [List.map_append]
                  have h9 : Mine I wE V.heap.size 3 (.slice A5 m5 k5) (ys.map Prod.fst ++ [(o1.1 : Int) - 1]) := HYM.out.mv (fun q hq => HFE.out.same q (HYM.out.lt hq).1 (by have := (HYM.out.lt hq).2; omega)) hzE2
                  have h10 := (h9.below HBE3.out).mv (fun q hq => HF7.out.same q (by have := (HYM.out.lt hq).1; omega) (HSEP5.out q hq).2.1) hz7
                  exact h10.mv (fun q hq => (fset _).same q (by have := (HYM.out.lt hq).1; omega) (by have := (HYM.out.lt hq).2; omega)) (fset _).size
                · rw [List.map_append]
                  exact HOW.out.set (fun q hq => by
                    rcases hq with (hq | hq | hq) | hq
                    · have := HS2.out q hq; omega
                    · have := hl6 q hq; omega
                    · omega
                    · have := (HOW.out.lt hq).2; omega) _
                · have h9 := HSEP5.out q hq
                  refine ⟨fun e => ?_, fun e => ?_⟩
                  · rcases HAT7.out with h8 | h8
                    · exact h9.2.1 (h8 ▸ e)
                    · rw [h8] at e; cases e; omega
                  · rcases e with e | e | e
                    · exact h9.2.2 e
                    · have := hl6 q e; omega
                    · omega
                · rw [size_set]
                  rcases hq with hq | hq | hq
                  · have := HS2.out q hq; exact ⟨by omega, by omega⟩
                  · have := hl6 q hq; exact ⟨by omega, by omega⟩
                  · exact ⟨by omega, by omega⟩
                · exact ((HR6.out.below HBE3.out).base (n := V.heap.size) (by omega) (fun k hk => by have := HSL.out k hk; omega) (HF7.out.below (by omega) (fun b hb e => by have := hlt2y.out b (.inr e); omega))).fr (fset _) (fun b hb e => by rcases hb with hb | hb; omega; have := HSL.out b hb; omega)
                · have h9 := HST.out
                  rw [HSF.out] at h9
                  exact h9
              case measure => simp [intOf]; omega
          · obtain rfl : k = nn.1 := by omega
            have HEND := Hd.mk (many_end HE.out (.inl rfl))
            have hq1c0 := blk_cell hq1 0 _ rfl; have hq1f0 := blk_frozen hq1 0; have hq1l := blk_lt hq1
            have hq2c0 := blk_cell hq2 0 _ rfl; have hq2f0 := blk_frozen hq2 0; have hq2c1 := blk_cell hq2 1 _ rfl; have hq2f1 := blk_frozen hq2 1; have hq2c2 := blk_cell hq2 2 _ rfl; have hq2f2 := blk_frozen hq2 2; have hq2c3 := blk_cell hq2 3 _ rfl; have hq2f3 := blk_frozen hq2 3; have hq2c4 := blk_cell hq2 4 _ rfl; have hq2f4 := blk_frozen hq2 4; have hq2l := blk_lt hq2
            have hq3c0 := blk_cell hq3 0 _ rfl; have hq3f0 := blk_frozen hq3 0; have hq3c1 := blk_cell hq3 1 _ rfl; have hq3f1 := blk_frozen hq3 1; have hq3c2 := blk_cell hq3 2 _ rfl; have hq3f2 := blk_frozen hq3 2; have hq3c3 := blk_cell hq3 3 _ rfl; have hq3f3 := blk_frozen hq3 3; have hq3c4 := blk_cell hq3 4 _ rfl; have hq3f4 := blk_frozen hq3 4; have hq3l := blk_lt hq3
            go_wp2
            have HDF : Hd (dfaF r = (⟨c, wn, ys.map Prod.snd, ys.map Prod.fst, (ss.1 : Int) - 1⟩, r2)) := ⟨by unfold dfaF; dsimp only; rw [HCE.out]; dsimp only; rw [HN1.out, HN2.out, Int.toNat_natCast, HEND.out]⟩
            refine bodyPost_ret (results_cell_row rfl _ _ (w.heap.size + 1) 47 #[.slice A1 m1 k1, .int .i64 wn, .slice A2 m2 k2, .slice A3 m3 k3, .int .i64 ((ss.1 : Int) - 1)] (0, 0) _ rfl (blk_set (blk_set (blk_set (blk_set (blk_set hq2 0 _ _ rfl) 1 _ _ rfl) 2 _ _ rfl) 3 _ _ rfl) 4 _ _ rfl) Tryd.underlying47 rfl (by kernel_rfl)) rfl ?_
            generalize hY : World.setCell _ _ _ = Y
            have hfY : Fr (fun b => b = w.heap.size + 1) wr Y := by rw [← hY]; exact (((((Fr.refl (fun b => b = w.heap.size + 1) _).set (.inl rfl) _ _).set (.inl rfl) _ _).set (.inl rfl) _ _).set (.inl rfl) _ _).set (.inl rfl) _ _
            have hzY := hfY.size
            have hzz := HZU.out
            have hzv := HFV.out.size
            refine ⟨⟨[.slice A1 m1 k1, .int .i64 wn, .slice A2 m2 k2, .slice A3 m3 k3, .int .i64 ((ss.1 : Int) - 1)], rfl, ?_⟩, ?_, ?_⟩
            · rw [HDF.out]
              refine ⟨[.slice A1 m1 k1], _, rfl, ⟨A1, k1, by rw [HM1.out], by rw [← HM1.out]; exact HR1.out.2.1, HR1.out.2.2, ?_⟩, [.int .i64 wn], _, rfl, rfl, [.slice A2 m2 k2], _, rfl, ⟨A2, k2, by rw [HM2'.out], by rw [← HM2'.out]; exact hk2, hA2, ?_⟩, [.slice A3 m3 k3], _, rfl, ⟨A3, k3, by rw [HM3'.out], by rw [← HM3'.out]; exact hk3, hA3, ?_⟩, rfl⟩
              · have h9 := HR1.out.1
                rw [HM1.out] at h9
                exact ((h9.move fun q hq => (hfY.same q (by omega) (by omega)).trans (HF2.out.same q (by omega) (by rintro (e | e) <;> omega))).mono fun q hq => ⟨by omega, by omega⟩)
              · have h9 := HROW2.out
                have hlt9 : ∀ q, (S2 q ∨ (Value.slice A2 m2 k2).ownBlock = some q) → V.heap.size ≤ q ∧ q < wr.heap.size := fun q hq => by
                  rcases hq with hq | hq
                  · exact HS2.out q hq
                  · exact ⟨(HO2.out.lt hq).2, (HO2.out.lt hq).1⟩
                have h10 : Row Df.II Y (fun q => w.heap.size ≤ q ∧ q < Y.heap.size) A2 m2 (ys.map Prod.snd) := ((h9.move fun q hq => hfY.same q (hlt9 q hq).2 (by have := (hlt9 q hq).1; omega)).mono fun q hq => by have := hlt9 q hq; exact ⟨by omega, by omega⟩)
                rw [HM2'.out] at h10
                exact h10
              · have h9 := HROW3.out
                rw [HM3'.out] at h9
                exact ((h9.move fun q hq => hfY.same q hq.2 (by omega)).mono fun q hq => ⟨by omega, by omega⟩)
            · rw [HDF.out]
              exact HRR2.out.fr hfY (fun b hb e => by rcases hb with hb | hb; omega; have := HSL.out b hb; omega)
            · have f1 : Fr (fun b => b = p ∨ b = w.heap.size + 2) w V := (Fr.of_below HBU.out).trans HFV.out
              have f2 : Fr (fun b => b = p ∨ b = w.heap.size + 2 ∨ b = w.heap.size + 1) w Y := ((f1.trans HF2.out).mono fun b hb => by rcases hb with hb | hb; exact .inl hb; exact .inr (.inl hb)).trans (hfY.mono fun b hb => .inr (.inr hb))
              exact f2.mono_lt fun b hb e => by rcases e with e | e | e; exact e; omega; omega
end Go.Proofs.YtpcnekdilecakaaDoor.Tb
