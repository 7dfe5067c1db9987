/- A lexer that is read. -/
import Derived.Test.YtpcnekdilecakaaDoorR7
set_option linter.unusedVariables false
set_option linter.unusedSimpArgs false
namespace Go.Proofs.YtpcnekdilecakaaDoor.Tb
open Go Go.RowKit Go.Proofs.YtpcnekdilecakaaDoor.Can Go.Proofs.YtpcnekdilecakaaDoor.Base
attribute [local go_sem] clsB AB.cell

theorem cell_tmp_row {P : Program} {fn : Func} {p u : Tmp} {ty : TypeId} (h : fn.results = #[.cell p ty, .tmp u]) (tmps : Array Value) (w : World) (g : Nat) (t : TypeId) (cs : Array Value) (fr : Nat × Nat) (d : TypeDesc)
    (hp : tmps.getD p undef = .pointer (some ⟨g, 0, none⟩)) (hg : w.heap[g]? = some (.cells cs t fr))
    (hu : P.underlying ty = some d) (hd : (match d with | .struct _ | .array _ _ => true | _ => false) = true) (hi : (P.info? ty).map (·.size) = some cs.size) :
    (results fn tmps).run P w = .ok (.tuple #[.agg cs, tmps.getD u undef]) w := by
  have hp' : tmps[p]?.getD undef = .pointer (some ⟨g, 0, none⟩) := by simpa using hp
  rw [results_cell_tmp h]
  simp [hp', asAddr, run_loadVar_row w g t ty cs fr d hg hu hd hi, Result.andThen]
theorem many_all {α : Type} {f : Rd → α × Rd} {P : α → Prop} (h : ∀ r, P (f r).1) : ∀ (n : Nat) (r : Rd), ∀ x ∈ (manyF f n r).1, P x
  | 0, r => fun x hx => by simp [manyF] at hx
  | n + 1, r => fun x hx => by
    cases hs : r.2 with
    | true => rw [many_stop f _ hs] at hx; simp at hx
    | false =>
      rw [many_go f n hs] at hx
      rcases List.mem_cons.1 hx with rfl | hx
      · exact h r
      · exact many_all h n _ x hx
theorem text_size (r : Rd) : (textF r).1.size ≤ 256 := by
  show (⟨(takeF (oneF r).1 (oneF r).2).1.toArray⟩ : ByteArray).size ≤ 256
  have h1 := one_lt r
  have h2 := take_len (n := (oneF r).1) (oneF r).2 (by omega)
  show (takeF (oneF r).1 (oneF r).2).1.toArray.size ≤ 256
  rw [List.size_toArray, h2]
  omega
/-- What Get tells. -/
def gotV (w w' : World) (b : List UInt8) (e : Ending) : Prop := (∃ l A1 A2 A3 n1 n2 n3 c1 c2 c3, getF b = some l ∧ e = .returned (.tuple #[.agg #[.slice A1 n1 c1, .slice A2 n2 c2, .slice A3 n3 c3], .int .i64 0]) ∧ LX w' (fun k => w.heap.size ≤ k ∧ k < w'.heap.size) A1 A2 A3 n1 n2 n3 l) ∨ (getF b = none ∧ e = .returned (.tuple #[.agg #[.slice none 0 0, .slice none 0 0, .slice none 0 0], .int .i64 3]))
set_option maxRecDepth 20000 in
set_option maxHeartbeats 16000000 in
theorem get_calls (A0 : Option Addr) (n0 c0 : Nat) (b : List UInt8) (S : Nat → Prop) (w : World) (hS : ∀ k, S k → k < w.heap.size) (hrow : Row bT w S A0 n0 b) (hc0 : n0 ≤ c0) (hB : Bg w) :
    Calls Tryd.prog 11 #[.slice A0 n0 c0] w fun e w' => gotV w w' b e ∧ Below w.heap.size w w' := by
  have hle := hrow.le
  have HROW := Hd.mk hrow
  have HS := Hd.mk hS
  have HBG := Hd.mk hB
  clear hrow hS hB
  obtain ⟨r0, hr0⟩ : ∃ x, (takeF 3 (b, false)).2 = x := ⟨_, rfl⟩
  obtain ⟨n, hn⟩ : ∃ x, oneF r0 = x := ⟨_, rfl⟩
  obtain ⟨ms, hms⟩ : ∃ x, manyF textF n.1 n.2 = x := ⟨_, rfl⟩
  obtain ⟨k, hk⟩ : ∃ x, oneF ms.2 = x := ⟨_, rfl⟩
  obtain ⟨ac, hac⟩ : ∃ x, manyF actF k.1 k.2 = x := ⟨_, rfl⟩
  obtain ⟨ds, hds⟩ : ∃ x, manyF dfaF ms.1.length ac.2 = x := ⟨_, rfl⟩
  have HRD : Hd (readF b = (⟨ms.1, ds.1, ac.1⟩, ds.2)) := ⟨by unfold readF; dsimp only; rw [hr0, hn, hms, hk, hac, hds]⟩
  have hnl : n.1 < 256 := by rw [← hn]; exact one_lt _
  have hkl : k.1 < 256 := by rw [← hk]; exact one_lt _
  have HMS : Hd (∀ s ∈ ms.1, s.size ≤ 256) := ⟨by rw [← hms]; exact many_all text_size _ _⟩
  have HAC : Hd (∀ a ∈ ac.1, a.1.size ≤ 256) := ⟨by rw [← hac]; exact many_all (P := fun a : ByteArray × Int => a.1.size ≤ 256) (fun r => text_size r) _ _⟩
  have HML : Hd (ms.1.length ≤ 255) := ⟨by rw [← hms]; have := many_len textF n.1 n.2; omega⟩
  have HR0 := Hd.mk hr0; have HN := Hd.mk hn; have HM := Hd.mk hms; have HK := Hd.mk hk; have HA := Hd.mk hac; have HD := Hd.mk hds
  have hmf : ∀ (fn : Fn) (first cap : Array Value) (w : World), (Instr.makeFunc fn first cap).run Tryd.prog w = .ok (.func fn first cap) w := fun _ _ _ _ => rfl
  clear hr0 hn hms hk hac hds
  go_enter Tryd.func11, Tryd.ntmps11
  go_upto_region 2 with fail
  generalize hU : World.alloc _ _ = U
  have hbU : Below w.heap.size w U := by rw [← hU]; exact below_alloc (below_alloc (Below.refl _ _) _) _
  have hzU : U.heap.size = w.heap.size + 2 := by rw [← hU]; simp only [size_alloc]
  have hx2 : U.heap[w.heap.size]? = some (.cells #[.slice none 0 0, .slice none 0 0, .slice none 0 0] 26 (0, 0)) := by rw [← hU]; exact blk_alloc (blk_new _ _ _ rfl) _
  have hxp : U.heap[w.heap.size + 1]? = some (.cells #[.slice A0 n0 c0, .bool false] 64 (0, 0)) := by rw [← hU]; exact blk_new _ _ _ (by simp only [size_alloc])
  have HRU : Hd (Rs U S (w.heap.size + 1) (b, false)) := ⟨⟨⟨A0, n0, c0, hxp, HROW.out.below HS.out hbU, hc0⟩, fun k hk => by have := HS.out k hk; exact ⟨by omega, by omega⟩⟩⟩
  have HBU := Hd.mk hbU
  have HZU := Hd.mk hzU
  have HX2 := Hd.mk hx2
  clear hU hbU hzU hx2 hxp
  obtain ⟨p, hp⟩ : ∃ p, w.heap.size + 1 = p := ⟨_, rfl⟩
  rw [hp] at HRU ⊢
  have HP := Hd.mk hp
  clear hp
  go_upto_region 3 with (go_at_call 32; go_must (refine Calls.mono (take_calls U S p 3 (b, false) HRU.out (by omega)) ?_; rintro e wA ⟨At, ct, rfl, -, -, hR1, hf⟩; rw [HR0.out] at hR1; have HRA := Hd.mk hR1; have HFA := Hd.mk hf; clear hR1 hf))
  go_upto_region 4 with (first
    | (go_at_call 34; go_must (refine Calls.mono (rdone_calls wA S p r0 HRA.out) ?_; rintro e wB ⟨rfl, hR1, hf⟩; rw [HN.out] at hR1; have HRB := Hd.mk hR1; have HFB := Hd.mk (HFA.out.trans hf); rw [HN.out]; clear hR1 hf))
    | (go_at_call 33; go_must (refine Calls.mono (manyS_calls wB S p 0 n.1 n.2 HRB.out (by omega) rfl) ?_; rintro e wC ⟨v1, rfl, hM, hR1, hf⟩; rw [HM.out] at hM hR1; have HRC := Hd.mk hR1; have HFC := Hd.mk (HFB.out.trans hf); have HFC2 := Hd.mk hf; have HM1 := Hd.mk hM; obtain ⟨A1, n1, c1, rfl, hn1, -, -, hrow1⟩ := hM.formN; have HN1 := Hd.mk hn1; have HROW1 := Hd.mk hrow1; clear hR1 hf hM hn1 hrow1)))
  generalize hV : World.alloc wC _ = V
  have hbV : Below wC.heap.size wC V := by rw [← hV]; exact below_alloc (Below.refl _ _) _
  obtain ⟨q, hq⟩ : ∃ q, wC.heap.size = q := ⟨_, rfl⟩
  have hx5 : V.heap[q]? = some (.cells #[.slice A1 n1 c1, .slice none 0 0, .slice none 0 0] 26 (0, 0)) := by rw [← hV]; exact blk_new _ _ _ hq.symm
  have HVQ : Hd (V.heap.size = q + 1) := ⟨by rw [← hV, size_alloc, hq]⟩
  have HRV := Hd.mk (HRC.out.below hbV)
  have HFV : Hd (Fp p U V) := ⟨HFC.out.trans (Fr.of_below hbV)⟩
  have HQP : Hd (p < U.heap.size ∧ U.heap.size ≤ q ∧ p = w.heap.size + 1 ∧ U.heap.size = w.heap.size + 2) := ⟨by have := HFC.out.size; have := HP.out; have := HZU.out; omega⟩
  have hR1V : Row Ty.str V (fun k => U.heap.size ≤ k ∧ k < q) A1 n1 ms.1 := ((HROW1.out.below (fun k hk => hk.2) hbV).mono fun k hk => ⟨Nat.le_trans HFB.out.size hk.1, by rw [← hq]; exact hk.2⟩)
  have HR1V := Hd.mk hR1V
  have hqp : q ≠ p := by have := HQP.out; omega
  rw [hq]
  clear hV hbV hR1V hq
  have hx5c0 := blk_cell hx5 0 _ rfl; have hx5f0 := blk_frozen hx5 0; have hx5c1 := blk_cell hx5 1 _ rfl; have hx5f1 := blk_frozen hx5 1; have hx5c2 := blk_cell hx5 2 _ rfl; have hx5f2 := blk_frozen hx5 2; have hx5l := blk_lt hx5
  go_upto_region 5 with (first
    | (go_at_call 34; go_must (refine Calls.mono (rdone_calls V S p ms.2 HRV.out) ?_; rintro e wD ⟨rfl, hR1, hf⟩; rw [HK.out] at hR1; have HRD2 := Hd.mk hR1; have HFD := Hd.mk hf; rw [HK.out]; clear hR1 hf))
    | (go_at_call 36; go_must (refine Calls.mono (manyA_calls wD S p 0 k.1 k.2 HRD2.out (by omega) rfl) ?_; rintro e wE ⟨v3, rfl, hM, hR1, hf⟩; rw [HA.out] at hM hR1; have HRE := Hd.mk hR1; have HFE := Hd.mk (HFD.out.trans hf); obtain ⟨A3, n3, c3, rfl, hn3, -, -, hrow3⟩ := hM.formN; have HN3 := Hd.mk hn3; have HROW3 := Hd.mk hrow3; have hx5e := HFE.out.blk hx5 hqp; clear hx5c0 hx5f0 hx5c1 hx5f1 hx5c2 hx5f2 hx5l; have hx5ec0 := blk_cell hx5e 0 _ rfl; have hx5ef0 := blk_frozen hx5e 0; have hx5ec1 := blk_cell hx5e 1 _ rfl; have hx5ef1 := blk_frozen hx5e 1; have hx5ec2 := blk_cell hx5e 2 _ rfl; have hx5ef2 := blk_frozen hx5e 2; have hx5el := blk_lt hx5e; clear hR1 hf hM hn3 hrow3 hx5)))
  generalize hV2 : World.setCell wE _ _ = V2
  have hx52 : V2.heap[q]? = some (.cells #[.slice A1 n1 c1, .slice none 0 0, .slice A3 n3 c3] 26 (0, 0)) := by rw [← hV2]; exact blk_set hx5e 2 _ _ rfl
  have hf2 : Fr (fun b => b = q) wE V2 := by rw [← hV2]; exact (Fr.refl (fun b => b = q) _).set (.inl rfl) _ _
  have HRV2 : Hd (Rs V2 S p ac.2) := ⟨HRE.out.fr hf2 (fun b hb e => by rcases hb with hb | hb; exact hqp (e.symm.trans hb); have := HS.out b hb; have := HQP.out; omega)⟩
  have HFV2 : Hd (Fr (fun b => b = p ∨ b = q) V V2) := ⟨(HFE.out.mono fun b hb => .inl hb).trans (hf2.mono fun b hb => .inr hb)⟩
  have HR1V2 : Hd (Row Ty.str V2 (fun k => U.heap.size ≤ k ∧ k < q) A1 n1 ms.1) := ⟨HFV2.out.row HR1V.out fun b hb => ⟨by have := HVQ.out; omega, by have := HQP.out; rintro (e | e) <;> omega⟩⟩
  have HR3V2 : Hd (Row aT V2 (fun k => q < k ∧ k < V2.heap.size) A3 n3 ac.1) := ⟨(hf2.row HROW3.out fun b hb => ⟨hb.2, by have := HFD.out.size; have := HVQ.out; omega⟩).mono fun b hb => ⟨by have := HFD.out.size; have := HVQ.out; omega, Nat.lt_of_lt_of_le hb.2 hf2.size⟩⟩
  clear hx5ec0 hx5ef0 hx5ec1 hx5ef1 hx5ec2 hx5ef2 hx5el
  clear hV2 hf2 hx5e
  have hn1s : n1 ≤ 255 := by have := HN1.out; have := HML.out; omega
  have HDD : Hd (manyF dfaF n1 ac.2 = ds) := ⟨by rw [HN1.out]; exact HD.out⟩
  have hx52c0 := blk_cell hx52 0 _ rfl; have hx52f0 := blk_frozen hx52 0; have hx52c1 := blk_cell hx52 1 _ rfl; have hx52f1 := blk_frozen hx52 1; have hx52c2 := blk_cell hx52 2 _ rfl; have hx52f2 := blk_frozen hx52 2; have hx52l := blk_lt hx52
  go_upto_region 6 with (go_at_call 38; go_must (refine Calls.mono (manyD_calls V2 S p n1 ac.2 HRV2.out (by omega)) ?_; rintro e wF ⟨⟨A2, m2, c2, rfl, hmc, hrow2⟩, hR1, hf⟩; rw [HDD.out] at hrow2 hR1; have HRF := Hd.mk hR1; have HFF := Hd.mk hf; have HROW2 := Hd.mk hrow2; have hx5f := hf.blk hx52 hqp; clear hx52c0 hx52f0 hx52c1 hx52f1 hx52c2 hx52f2 hx52l; have hx5fc0 := blk_cell hx5f 0 _ rfl; have hx5ff0 := blk_frozen hx5f 0; have hx5fc1 := blk_cell hx5f 1 _ rfl; have hx5ff1 := blk_frozen hx5f 1; have hx5fc2 := blk_cell hx5f 2 _ rfl; have hx5ff2 := blk_frozen hx5f 2; have hx5fl := blk_lt hx5f; clear hR1 hf hrow2 hx52))
  generalize hV3 : World.setCell wF _ _ = V3
  have hx53 : V3.heap[q]? = some (.cells #[.slice A1 n1 c1, .slice A2 m2 c2, .slice A3 n3 c3] 26 (0, 0)) := by rw [← hV3]; exact blk_set hx5f 1 _ _ rfl
  have hf3 : Fr (fun b => b = q) wF V3 := by rw [← hV3]; exact (Fr.refl (fun b => b = q) _).set (.inl rfl) _ _
  have HRV3 : Hd (Rs V3 S p ds.2) := ⟨HRF.out.fr hf3 (fun b hb e => by rcases hb with hb | hb; exact hqp (e.symm.trans hb); have := HS.out b hb; have := HQP.out; omega)⟩
  have HFV3 : Hd (Fr (fun b => b = p ∨ b = q) V2 V3) := ⟨(HFF.out.mono fun b hb => .inl hb).trans (hf3.mono fun b hb => .inr hb)⟩
  have HV2Q : Hd (q < V2.heap.size) := ⟨by have := HFV2.out.size; have := HVQ.out; omega⟩
  have HLX : Hd (LX V3 (fun k => U.heap.size ≤ k ∧ k ≠ q ∧ k < V3.heap.size) A1 A2 A3 n1 m2 n3 ⟨ms.1, ds.1, ac.1⟩) := ⟨by
    have hqq := HQP.out
    have hv2 := HV2Q.out
    have hz3 := HFV3.out.size
    refine ⟨(HFV3.out.row HR1V2.out fun b hb => ⟨by omega, by rintro (e | e) <;> omega⟩).mono fun b hb => ⟨hb.1, by omega, by omega⟩, (hf3.row HROW2.out fun b hb => ⟨hb.2, by omega⟩).mono fun b hb => ⟨by omega, by omega, Nat.lt_of_lt_of_le hb.2 hf3.size⟩, (HFV3.out.row HR3V2.out fun b hb => ⟨hb.2, by rintro (e | e) <;> omega⟩).mono fun b hb => ⟨by omega, by omega, by omega⟩, fun k hk => hk.2.2, fun s hs => by have := HMS.out s hs; omega, fun a ha => by have := HAC.out a ha; omega⟩⟩
  have HFU : Hd (Fr (fun b => b = p) U V3) := ⟨((HFV.out.mono fun b hb => Or.inl (b := b = q) hb).trans (HFV2.out.trans HFV3.out)).mono_lt fun b hb e => by rcases e with e | e; exact e; have := HQP.out; omega⟩
  have hq2 : V3.heap[w.heap.size]? = some (.cells #[.slice none 0 0, .slice none 0 0, .slice none 0 0] 26 (0, 0)) := HFU.out.blk HX2.out (by have := HQP.out; omega)
  have HBY : Hd (Below w.heap.size w V3) := ⟨HBU.out.trans (HFU.out.below (by have := HQP.out; omega) (fun b hb e => by have := HQP.out; omega))⟩
  clear hx5fc0 hx5ff0 hx5fc1 hx5ff1 hx5fc2 hx5ff2 hx5fl
  clear hV3 hf3 hx5f
  obtain ⟨Ap, np, cp, hxp, -, -⟩ := HRV3.out.obj
  have hx53c0 := blk_cell hx53 0 _ rfl; have hx53f0 := blk_frozen hx53 0; have hx53c1 := blk_cell hx53 1 _ rfl; have hx53f1 := blk_frozen hx53 1; have hx53c2 := blk_cell hx53 2 _ rfl; have hx53f2 := blk_frozen hx53 2; have hx53l := blk_lt hx53
  cases hs : ds.2.2 with
  | true =>
    rw [hs] at hxp
    have HGN : Hd (getF b = none) := ⟨by unfold getF; rw [HRD.out]; exact if_pos hs⟩
    clear hs
    have hxpc0 := blk_cell hxp 0 _ rfl; have hxpf0 := blk_frozen hxp 0; have hxpc1 := blk_cell hxp 1 _ rfl; have hxpf1 := blk_frozen hxp 1; have hxpl := blk_lt hxp
    have hq2c0 := blk_cell hq2 0 _ rfl; have hq2f0 := blk_frozen hq2 0; have hq2c1 := blk_cell hq2 1 _ rfl; have hq2f1 := blk_frozen hq2 1; have hq2c2 := blk_cell hq2 2 _ rfl; have hq2f2 := blk_frozen hq2 2; have hq2l := blk_lt hq2
    go_wp2
    refine bodyPost_ret (cell_tmp_row rfl _ _ w.heap.size 26 #[.slice none 0 0, .slice none 0 0, .slice none 0 0] (0, 0) _ rfl (blk_set (blk_set (blk_set hq2 0 _ _ rfl) 1 _ _ rfl) 2 _ _ rfl) Tryd.underlying26 rfl (by kernel_rfl)) rfl ?_
    exact ⟨.inr ⟨HGN.out, rfl⟩, below_set (below_set (below_set HBY.out (Nat.le_refl _) _ _) (Nat.le_refl _) _ _) (Nat.le_refl _) _ _⟩
  | false =>
    rw [hs] at hxp
    have HGF : Hd (getF b = if rightB ⟨ms.1, ds.1, ac.1⟩ = true ∧ putL ⟨ms.1, ds.1, ac.1⟩ = b then some ⟨ms.1, ds.1, ac.1⟩ else none) := ⟨by unfold getF; rw [HRD.out]; exact if_neg (by rw [hs]; decide)⟩
    clear hs
    obtain ⟨l, hl⟩ : ∃ l, (⟨ms.1, ds.1, ac.1⟩ : Lx) = l := ⟨_, rfl⟩
    rw [hl] at HLX HGF
    clear hl
    have hl1 := HLX.out.modes.le; have hl2 := HLX.out.dfas.le; have hl3 := HLX.out.acts.le
    have hxpc0 := blk_cell hxp 0 _ rfl; have hxpf0 := blk_frozen hxp 0; have hxpc1 := blk_cell hxp 1 _ rfl; have hxpf1 := blk_frozen hxp 1; have hxpl := blk_lt hxp
    have hq2c0 := blk_cell hq2 0 _ rfl; have hq2f0 := blk_frozen hq2 0; have hq2c1 := blk_cell hq2 1 _ rfl; have hq2f1 := blk_frozen hq2 1; have hq2c2 := blk_cell hq2 2 _ rfl; have hq2f2 := blk_frozen hq2 2; have hq2l := blk_lt hq2
    cases hrb : rightB l with
    | false =>
      have HGN : Hd (getF b = none) := ⟨by rw [HGF.out, hrb]; exact if_neg (fun h => by cases h.1)⟩
      have HJ := Hd.mk (put_bad A1 A2 A3 n1 m2 n3 c1 c2 c3 l hrb _ V3 HLX.out)
      clear hrb
      go_wp2_with (go_at_call 8; go_must (refine Calls.mono HJ.out ?_; rintro e wG ⟨rfl, hb_⟩; have HBG := Hd.mk hb_; have hq3 := blk_below hq2 hb_; clear hq2c0 hq2f0 hq2c1 hq2f1 hq2c2 hq2f2 hq2l; have hq3c0 := blk_cell hq3 0 _ rfl; have hq3f0 := blk_frozen hq3 0; have hq3c1 := blk_cell hq3 1 _ rfl; have hq3f1 := blk_frozen hq3 1; have hq3c2 := blk_cell hq3 2 _ rfl; have hq3f2 := blk_frozen hq3 2; have hq3l := blk_lt hq3; clear hb_))
      refine bodyPost_ret (cell_tmp_row rfl _ _ w.heap.size 26 #[.slice none 0 0, .slice none 0 0, .slice none 0 0] (0, 0) _ rfl (blk_set (blk_set (blk_set hq3 0 _ _ rfl) 1 _ _ rfl) 2 _ _ rfl) Tryd.underlying26 rfl (by kernel_rfl)) rfl ?_
      exact ⟨.inr ⟨HGN.out, rfl⟩, below_set (below_set (below_set (below_seq HBY.out HBG.out) (Nat.le_refl _) _ _) (Nat.le_refl _) _ _) (Nat.le_refl _) _ _⟩
    | true =>
      have HBGV : Hd (Bg V3) := ⟨HBG.out.below HBY.out⟩
      have HJ := Hd.mk (put_ok A1 A2 A3 n1 m2 n3 c1 c2 c3 l hrb _ V3 HLX.out HBGV.out)
      by_cases hpb : putL l = b
      · have HGN : Hd (getF b = some l) := ⟨by rw [HGF.out, if_pos ⟨hrb, hpb⟩]⟩
        have HPB := Hd.mk hpb
        clear hrb hpb
        have TOK := Hd.mk trivial
        go_wp2_with (first
          | (go_at_call 8; go_must (refine Calls.mono HJ.out ?_; rintro e wG ⟨v9, rfl, hM, hb_⟩; have HBG := Hd.mk hb_; have hq3 := blk_below hq2 hb_; have hx54 := blk_below hx53 hb_; obtain ⟨A9, n9, c9, rfl, -, -, -, hrow9⟩ := hM.formN; have HROW9 := Hd.mk hrow9; clear hq2c0 hq2f0 hq2c1 hq2f1 hq2c2 hq2f2 hq2l; have hq3c0 := blk_cell hq3 0 _ rfl; have hq3f0 := blk_frozen hq3 0; have hq3c1 := blk_cell hq3 1 _ rfl; have hq3f1 := blk_frozen hq3 1; have hq3c2 := blk_cell hq3 2 _ rfl; have hq3f2 := blk_frozen hq3 2; have hq3l := blk_lt hq3; clear hx53c0 hx53f0 hx53c1 hx53f1 hx53c2 hx53f2 hx53l; clear hb_ hM hrow9))
          | (go_at_call 40; go_must (refine Calls.mono (EqB_calls A9 A0 n9 n0 c9 c0 (putL l) b true _ S wG (fun k hk => hk.2) (fun k hk => Nat.lt_of_lt_of_le (HS.out k hk) (below_seq HBY.out HBG.out).size) HROW9.out (HROW.out.below HS.out (below_seq HBY.out HBG.out)) (decide_eq_true HPB.out)) ?_; rintro e wH ⟨rfl, hb_⟩; have HBH := Hd.mk (below_seq HBG.out hb_); have hq4 := blk_below hq3 hb_; have hx55 := blk_below hx54 hb_; clear hq3c0 hq3f0 hq3c1 hq3f1 hq3c2 hq3f2 hq3l; have hq4c0 := blk_cell hq4 0 _ rfl; have hq4f0 := blk_frozen hq4 0; have hq4c1 := blk_cell hq4 1 _ rfl; have hq4f1 := blk_frozen hq4 1; have hq4c2 := blk_cell hq4 2 _ rfl; have hq4f2 := blk_frozen hq4 2; have hq4l := blk_lt hq4; have hx55c0 := blk_cell hx55 0 _ rfl; have hx55f0 := blk_frozen hx55 0; have hx55c1 := blk_cell hx55 1 _ rfl; have hx55f1 := blk_frozen hx55 1; have hx55c2 := blk_cell hx55 2 _ rfl; have hx55f2 := blk_frozen hx55 2; have hx55l := blk_lt hx55; clear hb_)))
        refine bodyPost_ret (cell_tmp_row rfl _ _ w.heap.size 26 #[.slice A1 n1 c1, .slice A2 m2 c2, .slice A3 n3 c3] (0, 0) _ rfl (blk_set (blk_set (blk_set hq4 0 _ _ rfl) 1 _ _ rfl) 2 _ _ rfl) Tryd.underlying26 rfl (by kernel_rfl)) rfl ?_
        generalize hY : World.setCell _ _ _ = Y
        have hfY : Fr (fun b => b = w.heap.size) wH Y := by rw [← hY]; exact (((Fr.refl (fun b => b = w.heap.size) _).set (.inl rfl) _ _).set (.inl rfl) _ _).set (.inl rfl) _ _
        have hbY : Below w.heap.size w Y := by rw [← hY]; exact below_set (below_set (below_set (below_seq HBY.out HBH.out) (Nat.le_refl _) _ _) (Nat.le_refl _) _ _) (Nat.le_refl _) _ _
        refine ⟨.inl ⟨l, A1, A2, A3, n1, m2, n3, c1, c2, c3, HGN.out, rfl, ?_⟩, hbY⟩
        have h9 := lx_fr (HLX.out.below HBH.out) hfY (fun b hb e => by have := HQP.out; omega)
        have hz1 := HBH.out.size; have hz2 := hfY.size
        exact ⟨h9.modes.mono fun b hb => ⟨by have := HQP.out; omega, by omega⟩, h9.dfas.mono fun b hb => ⟨by have := HQP.out; omega, by omega⟩, h9.acts.mono fun b hb => ⟨by have := HQP.out; omega, by omega⟩, fun k hk => hk.2, h9.szm, h9.sza⟩
      · have HGN : Hd (getF b = none) := ⟨by rw [HGF.out]; exact if_neg (fun h => hpb h.2)⟩
        have HPB := Hd.mk hpb
        clear hrb hpb
        go_wp2_with (first
          | (go_at_call 8; go_must (refine Calls.mono HJ.out ?_; rintro e wG ⟨v9, rfl, hM, hb_⟩; have HBG2 := Hd.mk hb_; have hq5 := blk_below hq2 hb_; obtain ⟨A9, n9, c9, rfl, -, -, -, hrow9⟩ := hM.formN; have HROW9 := Hd.mk hrow9; clear hq2c0 hq2f0 hq2c1 hq2f1 hq2c2 hq2f2 hq2l; have hq5c0 := blk_cell hq5 0 _ rfl; have hq5f0 := blk_frozen hq5 0; have hq5c1 := blk_cell hq5 1 _ rfl; have hq5f1 := blk_frozen hq5 1; have hq5c2 := blk_cell hq5 2 _ rfl; have hq5f2 := blk_frozen hq5 2; have hq5l := blk_lt hq5; clear hb_ hM hrow9))
          | (go_at_call 40; go_must (refine Calls.mono (EqB_calls A9 A0 n9 n0 c9 c0 (putL l) b false _ S wG (fun k hk => hk.2) (fun k hk => Nat.lt_of_lt_of_le (HS.out k hk) (below_seq HBY.out HBG2.out).size) HROW9.out (HROW.out.below HS.out (below_seq HBY.out HBG2.out)) (decide_eq_false HPB.out)) ?_; rintro e wH ⟨rfl, hb_⟩; have HBG := Hd.mk (below_seq HBG2.out hb_); have hq3 := blk_below hq5 hb_; clear hq5c0 hq5f0 hq5c1 hq5f1 hq5c2 hq5f2 hq5l; have hq3c0 := blk_cell hq3 0 _ rfl; have hq3f0 := blk_frozen hq3 0; have hq3c1 := blk_cell hq3 1 _ rfl; have hq3f1 := blk_frozen hq3 1; have hq3c2 := blk_cell hq3 2 _ rfl; have hq3f2 := blk_frozen hq3 2; have hq3l := blk_lt hq3; clear hb_)))
        refine bodyPost_ret (cell_tmp_row rfl _ _ w.heap.size 26 #[.slice none 0 0, .slice none 0 0, .slice none 0 0] (0, 0) _ rfl (blk_set (blk_set (blk_set hq3 0 _ _ rfl) 1 _ _ rfl) 2 _ _ rfl) Tryd.underlying26 rfl (by kernel_rfl)) rfl ?_
        exact ⟨.inr ⟨HGN.out, rfl⟩, below_set (below_set (below_set (below_seq HBY.out HBG.out) (Nat.le_refl _) _ _) (Nat.le_refl _) _ _) (Nat.le_refl _) _ _⟩
end Go.Proofs.YtpcnekdilecakaaDoor.Tb
