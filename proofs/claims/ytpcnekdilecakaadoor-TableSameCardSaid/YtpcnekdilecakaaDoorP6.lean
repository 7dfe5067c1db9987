/- A lexer's bytes, written by the program. -/
import Derived.Test.YtpcnekdilecakaaDoorP5
set_option linter.unusedVariables false
set_option linter.unusedSimpArgs false
namespace Go.Proofs.YtpcnekdilecakaaDoor.Tb
open Go Go.RowKit Go.Proofs.YtpcnekdilecakaaDoor.Can Go.Proofs.YtpcnekdilecakaaDoor.Base
attribute [local go_sem] clsB AB.cell

theorem nil_own (p : Nat) : (Value.slice none 0 0).ownBlock ≠ some p := fun h => by cases h
section
variable {P : Program} {ops : Array Oper} {rest : List Oper} {o : Oper} {a : Act} {Q : Exit → Act → World → Prop}
/-- An operation 'x[i]' whose answer is known. -/
theorem step_index {U : World} (hgd : o.guard = none) (t : TypeId) (x i : Operand) (ho : o.op = .index t x i) (v k r : Value) (hx : a.eval x = v) (hi : a.eval i = k) (hrun : (Instr.index t v k).run P U = .ok r U) (h : wpList P ops Q rest (a.put o.dst r) U) : wpList P ops Q (o :: rest) a U := by
  refine wpList_plain hgd fun K hK => ?_
  unfold Oper.wp execOp
  simp only [ho, Sem.run_bind, Sem.run_pure, Result.andThen_ok, hx, hi, hrun]
  exact hK _ _ h
end
set_option maxRecDepth 20000 in
set_option maxHeartbeats 4000000 in
theorem put_bad (A1 A2 A3 : Option Addr) (n1 n2 n3 c1 c2 c3 : Nat) (l : Lx) (hb : rightB l = false) (S : Nat → Prop) (w : World) (hL : LX w S A1 A2 A3 n1 n2 n3 l) :
    Calls Tryd.prog 8 #[.agg #[.slice A1 n1 c1, .slice A2 n2 c2, .slice A3 n3 c3]] w fun e w' => e = .returned (.tuple #[.slice none 0 0, .int .i64 3]) ∧ Below w.heap.size w w' := by
  obtain ⟨W0, hW0⟩ : ∃ W0, w.alloc (.cells #[.slice A1 n1 c1, .slice A2 n2 c2, .slice A3 n3 c3] 26) = W0 := ⟨_, rfl⟩
  have hBW : Below w.heap.size w W0 := by rw [← hW0]; exact below_alloc (Below.refl _ _) _
  have hx : W0.heap[w.heap.size]? = some (.cells #[.slice A1 n1 c1, .slice A2 n2 c2, .slice A3 n3 c3] 26 (0, 0)) := by rw [← hW0]; exact blk_new _ _ _ rfl
  have HBW := Hd.mk hBW
  have HJ := Hd.mk (tright_calls A1 A2 A3 n1 n2 n3 c1 c2 c3 l false hb S W0 (hL.below hBW))
  clear hL hb hBW
  go_enter Tryd.func8, Tryd.ntmps8
  go_upto_region 1 with fail
  clear hW0
  have hxc0 := blk_cell hx 0 _ rfl; have hxf0 := blk_frozen hx 0; have hxc1 := blk_cell hx 1 _ rfl; have hxf1 := blk_frozen hx 1; have hxc2 := blk_cell hx 2 _ rfl; have hxf2 := blk_frozen hx 2; have hxl := blk_lt hx
  go_wp2_with (go_at_call 10; go_must (refine Calls.mono HJ.out ?_; rintro e w1 ⟨rfl, hb_⟩; have HB1 := Hd.mk (below_seq HBW.out hb_); clear hb_))
  go_ret2
  exact ⟨rfl, HB1.out⟩
set_option maxRecDepth 20000 in
set_option maxHeartbeats 8000000 in
theorem put_ok (A1 A2 A3 : Option Addr) (n1 n2 n3 c1 c2 c3 : Nat) (l : Lx) (hb : rightB l = true) (S : Nat → Prop) (w : World) (hL : LX w S A1 A2 A3 n1 n2 n3 l) (hB : Bg w) :
    Calls Tryd.prog 8 #[.agg #[.slice A1 n1 c1, .slice A2 n2 c2, .slice A3 n3 c3]] w fun e w' => ∃ v, e = .returned (.tuple #[v, .int .i64 0]) ∧ Mine bT w' w.heap.size 5 v (putL l) ∧ Below w.heap.size w w' := by
  have hm1 := hL.modes.le; have hm2 := hL.dfas.le; have hm3 := hL.acts.le
  have HRB := Hd.mk (RB.of hb)
  have hn1 : n1 ≤ 16 := by rw [← hL.modes.1]; exact HRB.out.ml
  have hn3 : n3 ≤ 128 := by rw [← hL.acts.1]; exact HRB.out.al
  have hn2 : n2 ≤ 16 := by rw [← hL.dfas.1, HRB.out.dl]; exact HRB.out.ml
  obtain ⟨W0, hW0⟩ : ∃ W0, w.alloc (.cells #[.slice A1 n1 c1, .slice A2 n2 c2, .slice A3 n3 c3] 26) = W0 := ⟨_, rfl⟩
  have hBW : Below w.heap.size w W0 := by rw [← hW0]; exact below_alloc (Below.refl _ _) _
  have hx : W0.heap[w.heap.size]? = some (.cells #[.slice A1 n1 c1, .slice A2 n2 c2, .slice A3 n3 c3] 26 (0, 0)) := by rw [← hW0]; exact blk_new _ _ _ rfl
  have HX0 := Hd.mk hx
  have HBW := Hd.mk hBW
  have HLW := Hd.mk hL
  have HBG := Hd.mk hB
  have HJ := Hd.mk (tright_calls A1 A2 A3 n1 n2 n3 c1 c2 c3 l true hb S W0 (hL.below hBW))
  have HN1 := Hd.mk hL.modes.1; have HN2 := Hd.mk hL.dfas.1; have HN3 := Hd.mk hL.acts.1
  clear hL hb hBW hB
  go_enter Tryd.func8, Tryd.ntmps8
  go_upto_region 1 with fail
  clear hW0
  have hxc0 := blk_cell hx 0 _ rfl; have hxf0 := blk_frozen hx 0; have hxc1 := blk_cell hx 1 _ rfl; have hxf1 := blk_frozen hx 1; have hxc2 := blk_cell hx 2 _ rfl; have hxf2 := blk_frozen hx 2; have hxl := blk_lt hx
  go_upto_region 3 with (go_at_call 10; go_must (refine Calls.mono HJ.out ?_; rintro e wA ⟨rfl, hb_⟩; have HB1 := Hd.mk (below_seq HBW.out hb_); have hx1 := blk_below hx hb_; clear hxc0 hxf0 hxc1 hxf1 hxc2 hxf2 hxl; clear hb_))
  clear hx
  go_upto_region 4 with fail
  generalize hW1 : World.alloc wA _ = W1
  have hB2 : Below w.heap.size w W1 := by rw [← hW1]; exact below_alloc HB1.out _
  have hxw : W1.heap[wA.heap.size]? = some (.cells #[.slice none 0 0] 51 (0, 0)) := by rw [← hW1]; exact blk_new _ _ _ rfl
  have hx2 : W1.heap[w.heap.size]? = some (.cells #[.slice A1 n1 c1, .slice A2 n2 c2, .slice A3 n3 c3] 26 (0, 0)) := by rw [← hW1]; exact blk_alloc hx1 _
  have HP : Hd (w.heap.size < wA.heap.size) := ⟨blk_lt hx1⟩
  obtain ⟨p, hp⟩ : ∃ p, wA.heap.size = p := ⟨_, rfl⟩
  rw [hp] at hxw HP ⊢
  have HB2 := Hd.mk hB2
  have HW : Hd (Wr W1 w.heap.size p (.slice none 0 0) []) := ⟨hxw, Mine.nil _ _ _ _, nil_own p, Nat.le_of_lt HP.out⟩
  have HX : Hd (∀ v' w', Gs p (.slice none 0 0) W1 v' w' → w'.heap[w.heap.size]? = some (.cells #[.slice A1 n1 c1, .slice A2 n2 c2, .slice A3 n3 c3] 26 (0, 0))) := ⟨fun v' w' h => h.blk hx2 (by have := HP.out; omega) (nil_own _)⟩
  have HLX : Hd (∀ v' w', Gs p (.slice none 0 0) W1 v' w' → LX w' S A1 A2 A3 n1 n2 n3 l) := ⟨fun v' w' h => lx_fr (HLW.out.below HB2.out) h.fr fun b hb e => by rcases e with e | e; (have := HLW.out.lt b hb; have := HP.out; omega); cases e⟩
  have HSS : Hd (∀ k, S k → k ≠ p) := ⟨fun k hk => by have := HLW.out.lt k hk; have := HP.out; omega⟩
  have HBG2 : Hd (∀ v' w', Gs p (.slice none 0 0) W1 v' w' → Bg w') := ⟨fun v' w' h => (HBG.out.below HB2.out).same (h.fr.same 0 (by have := HBG.out.lt; have := HB2.out.size; omega) (fun e => by rcases e with e | e; (have := HBG.out.lt; have := HP.out; omega); cases e)) h.fr.size⟩
  clear hW1 hx1 hxw hp hB2 HX0 hx2
  have hbg := HBG2.out _ _ (Gs.refl _ _ _)
  have hg0 := hbg.c0; have hg1 := hbg.c1; have hg2 := hbg.c2; have hgl := hbg.lt
  clear hbg
  go_wp2
  go_loopw [19] (fun i wr => ∃ (k : Nat) (v' : Value), k ≤ 3 ∧ i = .int .i64 k ∧ Hd (Wr wr w.heap.size p v' ([by8 83, by8 80, by8 1].take k)) ∧ Hd (Gs p (.slice none 0 0) W1 v' wr)) (fun i _ => 3 - (intOf i).toNat)
  case atStart => exact ⟨0, _, by omega, rfl, HW, ⟨Gs.refl _ _ _⟩⟩
  case round =>
    obtain ⟨k, va, hk, rfl, HV, HG⟩ := hrel
    have hk4 : k = 0 ∨ k = 1 ∨ k = 2 ∨ k = 3 := by omega
    have hix0 : ∀ W, (Instr.index 52 (.agg #[.int .u8 83, .int .u8 80, .int .u8 1]) (.int .i64 ((0 : Nat) : Int))).run Tryd.prog W = .ok (.int .u8 83) W := fun W => by kernel_rfl
    have hix1 : ∀ W, (Instr.index 52 (.agg #[.int .u8 83, .int .u8 80, .int .u8 1]) (.int .i64 ((1 : Nat) : Int))).run Tryd.prog W = .ok (.int .u8 80) W := fun W => by kernel_rfl
    have hix2 : ∀ W, (Instr.index 52 (.agg #[.int .u8 83, .int .u8 80, .int .u8 1]) (.int .i64 ((2 : Nat) : Int))).run Tryd.prog W = .ok (.int .u8 1) W := fun W => by kernel_rfl
    rcases hk4 with rfl | rfl | rfl | rfl
    iterate 3
      · go_wp2_with (first | (refine step_index rfl 52 (.tmp 18) (.tmp 19) rfl (.agg #[.int .u8 83, .int .u8 80, .int .u8 1]) _ _ rfl rfl (by first | exact hix0 _ | exact hix1 _ | exact hix2 _) ?_) | (go_at_call 18; go_must (refine Calls.mono (one_calls wr w.heap.size p va _ _ HV.out (by simp)) ?_; rintro e wB ⟨⟨u, rfl⟩, v1, hw1, hg1⟩; have HV1 := Hd.mk hw1; have HG1 := Hd.mk (HG.out.trans hg1); clear hw1 hg1)))
        go_roundw
        case rel => exact ⟨_, v1, by decide, rfl, HV1, HG1⟩
        case measure => simp [intOf]
    have HVL : Hd (∀ q, S q → va.ownBlock ≠ some q) := ⟨fun q hq => HG.out.ne (by have := HLW.out.lt q hq; have := HB2.out.size; omega) (nil_own q)⟩
    clear hix0 hix1 hix2 hg0 hg1 hg2 hgl
    have hxa := HX.out _ _ HG.out
    have hxac0 := blk_cell hxa 0 _ rfl; have hxaf0 := blk_frozen hxa 0; have hxac1 := blk_cell hxa 1 _ rfl; have hxaf1 := blk_frozen hxa 1; have hxac2 := blk_cell hxa 2 _ rfl; have hxaf2 := blk_frozen hxa 2; have hxal := blk_lt hxa
    go_wp2_with (go_at_call 18; go_must (refine Calls.mono (one_calls wr w.heap.size p va _ n1 HV.out (by simp)) ?_; rintro e wB ⟨⟨u, rfl⟩, v1, hw1, hg1⟩; have HV1 := Hd.mk hw1; have HG1 := Hd.mk (HG.out.trans hg1); have hxb := HX.out _ _ HG1.out; clear hxac0 hxaf0 hxac1 hxaf1 hxac2 hxaf2 hxal; have hxbc0 := blk_cell hxb 0 _ rfl; have hxbf0 := blk_frozen hxb 0; have hxbc1 := blk_cell hxb 1 _ rfl; have hxbf1 := blk_frozen hxb 1; have hxbc2 := blk_cell hxb 2 _ rfl; have hxbf2 := blk_frozen hxb 2; have hxbl := blk_lt hxb; clear hw1 hg1))
    clear HV HG HVL
    obtain ⟨h1, hh1⟩ : ∃ h, [by8 83, by8 80, by8 1] ++ w1 n1 = h := ⟨_, rfl⟩
    have HH1 := Hd.mk hh1
    have HL1 : Hd (h1.length = 4) := ⟨by rw [← hh1]; rfl⟩
    have HV : Hd (Wr wB w.heap.size p v1 h1) := ⟨by rw [← hh1]; exact HV1.out⟩
    clear hh1 HV1
    obtain ⟨wp, rfl⟩ : ∃ x, x = wr := ⟨_, rfl⟩
    go_loopw [35] (fun i wr => ∃ (k : Nat) (v' : Value), k ≤ n1 ∧ i = .int .i64 k ∧ Hd (Wr wr w.heap.size p v' (h1 ++ (l.modes.take k).flatMap wtext)) ∧ Hd (Gs p (.slice none 0 0) W1 v' wr)) (fun i _ => n1 - (intOf i).toNat)
    case atStart => exact ⟨0, v1, Nat.zero_le _, rfl, ⟨by rw [List.take_zero, List.flatMap_nil, List.append_nil]; exact HV.out⟩, HG1⟩
    case round =>
      obtain ⟨k, vb, hk, rfl, HV, HG⟩ := hrel
      have hxc := HX.out _ _ HG.out
      clear hxbc0 hxbf0 hxbc1 hxbf1 hxbc2 hxbf2 hxbl
      have hxcc0 := blk_cell hxc 0 _ rfl; have hxcf0 := blk_frozen hxc 0; have hxcc1 := blk_cell hxc 1 _ rfl; have hxcf1 := blk_frozen hxc 1; have hxcc2 := blk_cell hxc 2 _ rfl; have hxcf2 := blk_frozen hxc 2; have hxcl := blk_lt hxc
      by_cases hlt : k < n1
      · obtain ⟨b1, o1, s, rfl, hb1, -, hs, hcs⟩ := str_get (HLX.out _ _ HG.out).modes k hlt
        have hsz := HRB.out.ms s (List.mem_of_getElem? hs)
        have HZ := Hd.mk (flat_snoc wtext hs)
        have HKL := Hd.mk (HRB.out.modes_len k)
        clear hs
        go_wp2_with (go_at_call 19; go_must (refine Calls.mono (text_calls wr w.heap.size p vb _ s HV.out (by rw [List.length_append]; have := HL1.out; have := HKL.out; omega)) ?_; rintro e wC ⟨⟨u, rfl⟩, v2, hw2, hg2⟩; have HV2 := Hd.mk hw2; have HG2 := Hd.mk (HG.out.trans hg2); clear hw2 hg2))
        go_roundw
        case rel => exact ⟨k + 1, v2, by omega, by go_num, ⟨by rw [HZ.out, ← List.append_assoc]; exact HV2.out⟩, HG2⟩
        case measure => simp [intOf]; omega
      · obtain rfl : k = n1 := by omega
        have HL2 := Hd.mk (HRB.out.modes_len k)
        go_wp2_with (go_at_call 18; go_must (refine Calls.mono (one_calls wr w.heap.size p vb _ n3 HV.out (by rw [List.length_append]; have := HL1.out; have := HL2.out; omega)) ?_; rintro e wC ⟨⟨u, rfl⟩, v2, hw2, hg2⟩; have HV2 := Hd.mk hw2; have HG2 := Hd.mk (HG.out.trans hg2); have hxd := HX.out _ _ HG2.out; clear hxcc0 hxcf0 hxcc1 hxcf1 hxcc2 hxcf2 hxcl; have hxdc0 := blk_cell hxd 0 _ rfl; have hxdf0 := blk_frozen hxd 0; have hxdc1 := blk_cell hxd 1 _ rfl; have hxdf1 := blk_frozen hxd 1; have hxdc2 := blk_cell hxd 2 _ rfl; have hxdf2 := blk_frozen hxd 2; have hxdl := blk_lt hxd; clear hw2 hg2))
        obtain ⟨h2, hh2⟩ : ∃ h, h1 ++ l.modes.flatMap wtext ++ w1 n3 = h := ⟨_, rfl⟩
        have HH2 := Hd.mk hh2
        have HT1 : Hd (l.modes.take k = l.modes) := ⟨Df.take_all HN1.out⟩
        have HL3 : Hd (h2.length ≤ 2000) := ⟨by rw [← hh2]; simp only [List.length_append, w1_len]; have := HL1.out; have h9 := HL2.out; rw [HT1.out] at h9; omega⟩
        have HV3 : Hd (Wr wC w.heap.size p v2 h2) := ⟨by have h9 := HV2.out; rw [HT1.out, hh2] at h9; exact h9⟩
        clear hh2 HV2 HV HG HL2
        obtain ⟨wo, rfl⟩ : ∃ x, x = wr := ⟨_, rfl⟩
        go_loopw [51] (fun i wr => ∃ (j : Nat) (v' : Value), j ≤ n3 ∧ i = .int .i64 j ∧ Hd (Wr wr w.heap.size p v' (h2 ++ (l.acts.take j).flatMap wact)) ∧ Hd (Gs p (.slice none 0 0) W1 v' wr)) (fun i _ => n3 - (intOf i).toNat)
        case atStart => exact ⟨0, v2, Nat.zero_le _, rfl, ⟨by rw [List.take_zero, List.flatMap_nil, List.append_nil]; exact HV3.out⟩, HG2⟩
        case round =>
          obtain ⟨j, vd, hj, rfl, HV, HG⟩ := hrel
          have hxe := HX.out _ _ HG.out
          clear hxdc0 hxdf0 hxdc1 hxdf1 hxdc2 hxdf2 hxdl
          have hxec0 := blk_cell hxe 0 _ rfl; have hxef0 := blk_frozen hxe 0; have hxec1 := blk_cell hxe 1 _ rfl; have hxef1 := blk_frozen hxe 1; have hxec2 := blk_cell hxe 2 _ rfl; have hxef2 := blk_frozen hxe 2; have hxel := blk_lt hxe
          by_cases hlt : j < n3
          · obtain ⟨b1, o1, s, g, rfl, hb1, -, ha, hcs, hcg⟩ := act_get (HLX.out _ _ HG.out).acts j hlt
            have hac := HRB.out.ac (s, g) (List.mem_of_getElem? ha)
            have hsz : s.size ≤ 32 := hac.1
            have hg0 : -1 ≤ g := hac.2.1
            have hg1 : g < 16 := hac.2.2
            have HZ := Hd.mk (flat_snoc wact ha)
            have HKL := Hd.mk (HRB.out.acts_len j)
            clear ha hac
            go_upto_region 19 with fail
            generalize hU : World.alloc wr _ = U
            have hBU : Below wr.heap.size wr U := by rw [← hU]; exact below_alloc (Below.refl _ _) _
            have hq : U.heap[wr.heap.size]? = some (.cells #[.string s, .int .i64 g] 42 (0, 0)) := by rw [← hU]; exact blk_new _ _ _ rfl
            have HVU := Hd.mk (HV.out.below hBU)
            have HGU : Hd (Gs p (.slice none 0 0) W1 vd U) := ⟨HG.out.trans (HV.out.gs hBU)⟩
            have HNE : Hd (wr.heap.size ≠ p ∧ vd.ownBlock ≠ some wr.heap.size) := ⟨by have := blk_lt HV.out.obj; omega, HV.out.own.ne_new (Nat.le_refl _)⟩
            clear hxec0 hxef0 hxec1 hxef1 hxec2 hxef2 hxel
            clear hU hcs hcg hxe hBU
            have hqc0 := blk_cell hq 0 _ rfl; have hqf0 := blk_frozen hq 0; have hqc1 := blk_cell hq 1 _ rfl; have hqf1 := blk_frozen hq 1; have hql := blk_lt hq
            go_wp2_with (first
              | (have hq_ := HV4; clear hq_; go_at_call 18; go_must (refine Calls.mono (one_calls wD w.heap.size p v4 _ (g + 1) HV4.out (by simp only [List.length_append, wtext_len]; have := HL3.out; have := HKL.out; omega)) ?_; rintro e wE ⟨⟨u, rfl⟩, v5, hw5, hg5⟩; have HV5 := Hd.mk hw5; have HG5 := Hd.mk (HG4.out.trans hg5); clear hw5 hg5))
              | (go_at_call 19; go_must (refine Calls.mono (text_calls U w.heap.size p vd _ s HVU.out (by rw [List.length_append]; have := HL3.out; have := HKL.out; omega)) ?_; rintro e wD ⟨⟨u, rfl⟩, v4, hw4, hg4⟩; have HV4 := Hd.mk hw4; have HG4 := Hd.mk (HGU.out.trans hg4); have hq4 := hg4.blk hq HNE.out.1 HNE.out.2; clear hqc0 hqf0 hqc1 hqf1 hql; have hq4c0 := blk_cell hq4 0 _ rfl; have hq4f0 := blk_frozen hq4 0; have hq4c1 := blk_cell hq4 1 _ rfl; have hq4f1 := blk_frozen hq4 1; have hq4l := blk_lt hq4; clear hw4 hg4)))
            go_roundw
            case rel => exact ⟨j + 1, v5, by omega, by go_num, ⟨by rw [HZ.out, ← List.append_assoc]; unfold wact; rw [← List.append_assoc]; exact HV5.out⟩, HG5⟩
            case measure => simp [intOf]; omega
          · obtain rfl : j = n3 := by omega
            have HT2 : Hd (l.acts.take j = l.acts) := ⟨Df.take_all HN3.out⟩
            obtain ⟨h3, hh3⟩ : ∃ h, h2 ++ l.acts.flatMap wact = h := ⟨_, rfl⟩
            have HH3 := Hd.mk hh3
            have HL4 : Hd (h3.length ≤ 20000) := ⟨by rw [← hh3, List.length_append]; have := HL3.out; have h9 := HRB.out.acts_len j; rw [HT2.out] at h9; omega⟩
            have HV6 : Hd (Wr wr w.heap.size p vd h3) := ⟨by have h9 := HV.out; rw [HT2.out, hh3] at h9; exact h9⟩
            go_wp2
            clear hxec0 hxef0 hxec1 hxef1 hxec2 hxef2 hxel
            clear hh3 HV hxe
            have HG6 := HG
            clear HG
            obtain ⟨wn, rfl⟩ : ∃ x, x = wr := ⟨_, rfl⟩
            go_loopw [68] (fun i wr => ∃ (q : Nat) (v' : Value), q ≤ n2 ∧ i = .int .i64 q ∧ Hd (Wr wr w.heap.size p v' (h3 ++ (l.dfas.take q).flatMap wdfa)) ∧ Hd (Gs p (.slice none 0 0) W1 v' wr)) (fun i _ => n2 - (intOf i).toNat)
            case atStart => exact ⟨0, vd, Nat.zero_le _, rfl, ⟨by rw [List.take_zero, List.flatMap_nil, List.append_nil]; exact HV6.out⟩, HG6⟩
            case round =>
              obtain ⟨q, ve, hq, rfl, HV, HG⟩ := hrel
              have hxf := HX.out _ _ HG.out
              have hxfc0 := blk_cell hxf 0 _ rfl; have hxff0 := blk_frozen hxf 0; have hxfc1 := blk_cell hxf 1 _ rfl; have hxff1 := blk_frozen hxf 1; have hxfc2 := blk_cell hxf 2 _ rfl; have hxff2 := blk_frozen hxf 2; have hxfl := blk_lt hxf
              by_cases hlt : q < n2
              · obtain ⟨b9, off, d, B1, B2, B3, e1, e2, e3, rfl, hb9, ht, hc0, hc1, hc2, hc3, hc4, hd⟩ := d_get (HLX.out _ _ HG.out).lt (HLX.out _ _ HG.out).dfas q hlt
                have HDB := Hd.mk (HRB.out.ds d (List.mem_of_getElem? ht))
                have HZ := Hd.mk (flat_snoc wdfa ht)
                have HKL := Hd.mk (HRB.out.dfas_len q)
                have HVL : Hd (∀ q, S q → q ≠ p ∧ ve.ownBlock ≠ some q) := ⟨fun q hq => ⟨HSS.out q hq, HG.out.ne (by have := HLW.out.lt q hq; have := HB2.out.size; omega) (nil_own q)⟩⟩
                have HJ : Hd (∀ U, Below wr.heap.size wr U → Calls Tryd.prog 20 _ U _) := ⟨fun U hb => wdfa_calls U w.heap.size p ve _ B1 B2 B3 _ _ _ e1 e2 e3 l.acts.length d S (HV.out.below hb) (hd.below hb) HVL.out HDB.out HRB.out.al (by rw [List.length_append]; have := HL4.out; have := HKL.out; omega)⟩
                have hle1 := hd.cls.le; have hle2 := hd.nxt.le; have hle3 := hd.tag.le
                clear hd ht
                obtain ⟨m1, hm1'⟩ : ∃ x, d.cls.length = x := ⟨_, rfl⟩
                obtain ⟨m2, hm2'⟩ : ∃ x, d.nxt.length = x := ⟨_, rfl⟩
                obtain ⟨m3, hm3'⟩ : ∃ x, d.tag.length = x := ⟨_, rfl⟩
                obtain ⟨wd, hwd⟩ : ∃ x, d.wid = x := ⟨_, rfl⟩
                obtain ⟨st, hst⟩ : ∃ x, d.st = x := ⟨_, rfl⟩
                rw [hm1', hm2', hm3', hwd, hst] at HJ
                rw [hm1'] at hc0 hle1
                rw [hwd] at hc1
                rw [hm2'] at hc2 hle2
                rw [hm3'] at hc3 hle3
                rw [hst] at hc4
                clear hm1' hm2' hm3' hwd hst
                go_upto_region 25 with fail
                generalize hU : World.alloc wr _ = U
                have hBU : Below wr.heap.size wr U := by rw [← hU]; exact below_alloc (Below.refl _ _) _
                have hy : U.heap[wr.heap.size]? = some (.cells #[.slice B1 m1 e1, .int .i64 wd, .slice B2 m2 e2, .slice B3 m3 e3, .int .i64 st] 47 (0, 0)) := by rw [← hU]; exact blk_new _ _ _ rfl
                have HGU : Hd (Gs p (.slice none 0 0) W1 ve U) := ⟨HG.out.trans (HV.out.gs hBU)⟩
                have HJ2 := Hd.mk (HJ.out U hBU)
                clear hxfc0 hxff0 hxfc1 hxff1 hxfc2 hxff2 hxfl
                clear hU hc0 hc1 hc2 hc3 hc4 hxf hBU HJ
                have hyc0 := blk_cell hy 0 _ rfl; have hyf0 := blk_frozen hy 0; have hyc1 := blk_cell hy 1 _ rfl; have hyf1 := blk_frozen hy 1; have hyc2 := blk_cell hy 2 _ rfl; have hyf2 := blk_frozen hy 2; have hyc3 := blk_cell hy 3 _ rfl; have hyf3 := blk_frozen hy 3; have hyc4 := blk_cell hy 4 _ rfl; have hyf4 := blk_frozen hy 4; have hyl := blk_lt hy
                go_wp2_with (go_at_call 20; go_must (refine Calls.mono HJ2.out ?_; rintro e wF ⟨⟨u, rfl⟩, v7, hw7, hg7⟩; have HV7 := Hd.mk hw7; have HG7 := Hd.mk (HGU.out.trans hg7); clear hw7 hg7))
                go_roundw
                case rel => exact ⟨q + 1, v7, by omega, by go_num, ⟨by rw [HZ.out, ← List.append_assoc]; exact HV7.out⟩, HG7⟩
                case measure => simp [intOf]; omega
              · obtain rfl : q = n2 := by omega
                have HT3 : Hd (l.dfas.take q = l.dfas) := ⟨Df.take_all HN2.out⟩
                have HEND : Hd (h3 ++ (l.dfas.take q).flatMap wdfa = putL l) := ⟨by rw [HT3.out, ← HH3.out, ← HH2.out, ← HH1.out]; unfold putL; rw [HN1.out, HN3.out]; rfl⟩
                have hob := HV.out.obj
                obtain ⟨A9, m9, c9, rfl, -, -, -, -⟩ := HV.out.own.formN
                have hobc0 := blk_cell hob 0 _ rfl; have hobf0 := blk_frozen hob 0; have hobl := blk_lt hob
                go_wp2
                go_ret2
                exact ⟨_, rfl, by rw [← HEND.out]; exact HV.out.own, HB2.out.trans (HG.out.below HW.out)⟩
end Go.Proofs.YtpcnekdilecakaaDoor.Tb
