/- The same lexer, by the document. -/
import Derived.Test.YtpcnekdilecakaaDoorW12
set_option linter.unusedVariables false
set_option linter.unusedSimpArgs false
namespace Go.Proofs.YtpcnekdilecakaaDoor.Tb
open Go Go.RowKit Go.Proofs.YtpcnekdilecakaaDoor.Can Go.Proofs.YtpcnekdilecakaaDoor.Base
attribute [local go_sem] clsB AB.cell
attribute [local go_sem high] eqA

set_option maxRecDepth 20000 in
set_option maxHeartbeats 8000000 in
theorem rsame_calls (A1 A2 A3 B1 B2 B3 : Option Addr) (n1 n2 n3 m1 m2 m3 c1 c2 c3 e1 e2 e3 : Nat) (a x : Lx) (b : Bool) (hb : b = true ↔ a = x) (S T : Nat → Prop) (w : World) (hL : LX w S A1 A2 A3 n1 n2 n3 a) (hX : LX w T B1 B2 B3 m1 m2 m3 x) :
    Calls Tryd.prog 13 #[.agg #[.slice A1 n1 c1, .slice A2 n2 c2, .slice A3 n3 c3], .agg #[.slice B1 m1 e1, .slice B2 m2 e2, .slice B3 m3 e3]] w fun e w' => e = .returned (.bool b) ∧ Below w.heap.size w w' := by
  have hm1 := hL.modes.le; have hm2 := hL.dfas.le; have hm3 := hL.acts.le
  have hm4 := hX.modes.le; have hm5 := hX.dfas.le; have hm6 := hX.acts.le
  have HF : Hd (∀ P : Prop, (a = x → P) → ¬ P → b = false) := ⟨fun P h hp => by rw [Bool.eq_false_iff]; exact fun h9 => hp (h (hb.1 h9))⟩
  have HBb := Hd.mk hb
  by_cases g1 : n1 = m1
  case neg =>
    obtain rfl := HF.out _ (fun h => by rw [← hL.modes.1, ← hX.modes.1, h]) g1
    have hz : ((n1 : Int) != (m1 : Int)) = true := by simp; omega
    clear hL hX hb
    go_enter Tryd.func13, Tryd.ntmps13
    go_wp2
    go_ret
    exact ⟨rfl, below_alloc (below_alloc (Below.refl _ _) _) _⟩
  subst g1
  have hz1 : ((n1 : Int) != (n1 : Int)) = false := by simp
  by_cases g3 : n3 = m3
  case neg =>
    obtain rfl := HF.out _ (fun h => by rw [← hL.acts.1, ← hX.acts.1, h]) g3
    have hz : ((n3 : Int) != (m3 : Int)) = true := by simp; omega
    clear hL hX hb
    go_enter Tryd.func13, Tryd.ntmps13
    go_wp2
    go_ret
    exact ⟨rfl, below_alloc (below_alloc (Below.refl _ _) _) _⟩
  subst g3
  have hz3 : ((n3 : Int) != (n3 : Int)) = false := by simp
  by_cases g2 : n2 = m2
  case neg =>
    obtain rfl := HF.out _ (fun h => by rw [← hL.dfas.1, ← hX.dfas.1, h]) g2
    have hz : ((n2 : Int) != (m2 : Int)) = true := by simp; omega
    clear hL hX hb
    go_enter Tryd.func13, Tryd.ntmps13
    go_wp2
    go_ret
    exact ⟨rfl, below_alloc (below_alloc (Below.refl _ _) _) _⟩
  subst g2
  have hz2 : ((n2 : Int) != (n2 : Int)) = false := by simp
  obtain ⟨W0, hW0⟩ : ∃ W0, w.alloc (.cells #[.slice A1 n1 c1, .slice A2 n2 c2, .slice A3 n3 c3] 26) = W0 := ⟨_, rfl⟩
  have hBW : Below w.heap.size w W0 := by rw [← hW0]; exact below_alloc (Below.refl _ _) _
  have hx : W0.heap[w.heap.size]? = some (.cells #[.slice A1 n1 c1, .slice A2 n2 c2, .slice A3 n3 c3] 26 (0, 0)) := by rw [← hW0]; exact blk_new _ _ _ rfl
  have hs0 : W0.heap.size = w.heap.size + 1 := by rw [← hW0, size_alloc]
  obtain ⟨W1, hW1⟩ : ∃ W1, W0.alloc (.cells #[.slice B1 n1 e1, .slice B2 n2 e2, .slice B3 n3 e3] 26) = W1 := ⟨_, rfl⟩
  have hB1 : Below w.heap.size w W1 := by rw [← hW1]; exact below_alloc hBW _
  replace hx : W1.heap[w.heap.size]? = some (.cells #[.slice A1 n1 c1, .slice A2 n2 c2, .slice A3 n3 c3] 26 (0, 0)) := by rw [← hW1]; exact blk_alloc hx _
  have hy : W1.heap[w.heap.size + 1]? = some (.cells #[.slice B1 n1 e1, .slice B2 n2 e2, .slice B3 n3 e3] 26 (0, 0)) := by rw [← hW1]; exact blk_new _ _ _ (by rw [hs0])
  have HBW := Hd.mk hB1
  have HLW := Hd.mk (hL.below hB1)
  have HXW := Hd.mk (hX.below hB1)
  have HX := Hd.mk hx; have HY := Hd.mk hy
  clear hL hX hb hBW hB1
  go_enter Tryd.func13, Tryd.ntmps13
  go_upto_region 1 with fail
  clear hW1 hW0 hs0 W0
  have hxc0 := blk_cell hx 0 _ rfl; have hxf0 := blk_frozen hx 0; have hxc1 := blk_cell hx 1 _ rfl; have hxf1 := blk_frozen hx 1; have hxc2 := blk_cell hx 2 _ rfl; have hxf2 := blk_frozen hx 2; have hxl := blk_lt hx
  have hyc0 := blk_cell hy 0 _ rfl; have hyf0 := blk_frozen hy 0; have hyc1 := blk_cell hy 1 _ rfl; have hyf1 := blk_frozen hy 1; have hyc2 := blk_cell hy 2 _ rfl; have hyf2 := blk_frozen hy 2; have hyl := blk_lt hy
  go_wp2
  clear hxc0 hxf0 hxc1 hxf1 hxc2 hxf2 hxl
  clear hyc0 hyf0 hyc1 hyf1 hyc2 hyf2 hyl
  clear hx hy
  go_loopw [5] (fun i wr => ∃ k : Nat, k ≤ n1 ∧ i = .int .i64 k ∧ Hd (a.modes.take k = x.modes.take k) ∧ Hd (Below W1.heap.size W1 wr)) (fun i _ => n1 - (intOf i).toNat)
  case atStart => exact ⟨0, Nat.zero_le _, rfl, ⟨rfl⟩, ⟨Below.refl _ _⟩⟩
  case round =>
    obtain ⟨k, hk, rfl, HE, HB⟩ := hrel
    have hx2 := blk_below HX.out HB.out
    have hy2 := blk_below HY.out HB.out
    have hx2c0 := blk_cell hx2 0 _ rfl; have hx2f0 := blk_frozen hx2 0; have hx2c1 := blk_cell hx2 1 _ rfl; have hx2f1 := blk_frozen hx2 1; have hx2c2 := blk_cell hx2 2 _ rfl; have hx2f2 := blk_frozen hx2 2; have hx2l := blk_lt hx2
    have hy2c0 := blk_cell hy2 0 _ rfl; have hy2f0 := blk_frozen hy2 0; have hy2c1 := blk_cell hy2 1 _ rfl; have hy2f1 := blk_frozen hy2 1; have hy2c2 := blk_cell hy2 2 _ rfl; have hy2f2 := blk_frozen hy2 2; have hy2l := blk_lt hy2
    by_cases hlt : k < n1
    · obtain ⟨b1, o1, s, rfl, hb1, -, hs, hcs⟩ := str_get (HLW.out.below HB.out).modes k hlt
      obtain ⟨b2, o2, t, rfl, hb2, -, ht, hct⟩ := str_get (HXW.out.below HB.out).modes k hlt
      have HS := Hd.mk hs; have HT := Hd.mk ht
      clear hs ht
      by_cases hst : s = t
      · have HE2 : Hd (a.modes.take (k + 1) = x.modes.take (k + 1)) := ⟨by rw [Df.take_snoc HS.out, Df.take_snoc HT.out, HE.out, hst]⟩
        subst hst
        have h1 : (s.toList == s.toList) = true := by rw [str_beq]; exact decide_eq_true rfl
        go_wp2
        refine wp_region_can (.q [0, 1, 2, 3, 4, 5, 6, 7, 8, 9, 10] (.done)) (clsB _) (by kernel_rfl) (by kernel_rfl) (by intro _ _ d _ _ h; cases d <;> exact h) (clsB_drew _) ?_
        refine can_q (l := [⟨_,_,_,_,_,_⟩, ⟨_,_,_,_,_,_⟩, ⟨_,_,_,_,_,_⟩, ⟨_,_,_,_,_,_⟩, ⟨_,_,_,_,_,_⟩, ⟨_,_,_,_,_,_⟩, ⟨_,_,_,_,_,_⟩, ⟨_,_,_,_,_,_⟩, ⟨_,_,_,_,_,_⟩, ⟨_,_,_,_,_,_⟩, ⟨_,_,_,_,_,_⟩]) rfl ?_
        repeat (go_big_quiet_step (fail))
        refine wpQuiet_nil ?_
        refine can_done ?_
        go_wp2
        go_roundw
        case rel => exact ⟨k + 1, by omega, by go_num, HE2, ⟨below_drew1 HB.out⟩⟩
        case measure => simp [intOf]; omega
      · have h1 : (s.toList == t.toList) = false := by rw [str_beq]; exact decide_eq_false hst
        obtain rfl := HF.out _ (fun h => by have a9 := HS.out; rw [h, HT.out] at a9; exact (Option.some.inj a9).symm) hst
        clear hst
        go_wp2
        refine wp_region_can (.q [0, 1, 2, 3, 4, 5, 6, 7, 8, 9, 10] (.done)) (clsB _) (by kernel_rfl) (by kernel_rfl) (by intro _ _ d _ _ h; cases d <;> exact h) (clsB_drew _) ?_
        refine can_q (l := [⟨_,_,_,_,_,_⟩, ⟨_,_,_,_,_,_⟩, ⟨_,_,_,_,_,_⟩, ⟨_,_,_,_,_,_⟩, ⟨_,_,_,_,_,_⟩, ⟨_,_,_,_,_,_⟩, ⟨_,_,_,_,_,_⟩, ⟨_,_,_,_,_,_⟩, ⟨_,_,_,_,_,_⟩, ⟨_,_,_,_,_,_⟩, ⟨_,_,_,_,_,_⟩]) rfl ?_
        repeat (go_big_quiet_step (fail))
        refine wpQuiet_nil ?_
        refine can_done ?_
        go_wp2
        go_ret
        exact ⟨rfl, below_drew1 (below_seq HBW.out HB.out)⟩
    · obtain rfl : k = n1 := by omega
      have HE1 : Hd (a.modes = x.modes) := ⟨by have h9 := HE.out; rwa [Df.take_all HLW.out.modes.1, Df.take_all HXW.out.modes.1] at h9⟩
      clear HE
      go_wp2
      clear hx2c0 hx2f0 hx2c1 hx2f1 hx2c2 hx2f2 hx2l
      clear hy2c0 hy2f0 hy2c1 hy2f1 hy2c2 hy2f2 hy2l
      clear hx2 hy2
      have HBr := HB
      clear HB
      obtain ⟨wq, rfl⟩ : ∃ x, x = wr := ⟨_, rfl⟩
      go_loopw [6] (fun i wr => ∃ j : Nat, j ≤ n3 ∧ i = .int .i64 j ∧ Hd (a.acts.take j = x.acts.take j) ∧ Hd (Below W1.heap.size W1 wr)) (fun i _ => n3 - (intOf i).toNat)
      case atStart => exact ⟨0, Nat.zero_le _, rfl, ⟨rfl⟩, HBr⟩
      case round =>
        obtain ⟨j, hj, rfl, HE, HB⟩ := hrel
        have hx2 := blk_below HX.out HB.out
        have hy2 := blk_below HY.out HB.out
        have hx2c0 := blk_cell hx2 0 _ rfl; have hx2f0 := blk_frozen hx2 0; have hx2c1 := blk_cell hx2 1 _ rfl; have hx2f1 := blk_frozen hx2 1; have hx2c2 := blk_cell hx2 2 _ rfl; have hx2f2 := blk_frozen hx2 2; have hx2l := blk_lt hx2
        have hy2c0 := blk_cell hy2 0 _ rfl; have hy2f0 := blk_frozen hy2 0; have hy2c1 := blk_cell hy2 1 _ rfl; have hy2f1 := blk_frozen hy2 1; have hy2c2 := blk_cell hy2 2 _ rfl; have hy2f2 := blk_frozen hy2 2; have hy2l := blk_lt hy2
        by_cases hlt : j < n3
        · obtain ⟨b1, o1, s1, g1, rfl, hb1, -, hx1, hy1, hz1⟩ := act_get (HLW.out.below HB.out).acts j hlt
          obtain ⟨b2, o2, s2, g2, rfl, hb2, -, hx3, hy3, hz3⟩ := act_get (HXW.out.below HB.out).acts j hlt
          have HS := Hd.mk hx1; have HT := Hd.mk hx3
          clear hx1 hx3
          by_cases hst : s1 = s2 ∧ g1 = g2
          · obtain ⟨rfl, rfl⟩ := hst
            have HE2 : Hd (a.acts.take (j + 1) = x.acts.take (j + 1)) := ⟨by rw [Df.take_snoc HS.out, Df.take_snoc HT.out, HE.out]⟩
            have h1 : (s1.toList == s1.toList) = true := by rw [str_beq]; exact decide_eq_true rfl
            go_wp2
            refine wp_region_can (.q [0, 1, 2, 3, 4, 5, 6, 7, 8, 9, 10] (.done)) (clsB _) (by kernel_rfl) (by kernel_rfl) (by intro _ _ d _ _ h; cases d <;> exact h) (clsB_drew _) ?_
            refine can_q (l := [⟨_,_,_,_,_,_⟩, ⟨_,_,_,_,_,_⟩, ⟨_,_,_,_,_,_⟩, ⟨_,_,_,_,_,_⟩, ⟨_,_,_,_,_,_⟩, ⟨_,_,_,_,_,_⟩, ⟨_,_,_,_,_,_⟩, ⟨_,_,_,_,_,_⟩, ⟨_,_,_,_,_,_⟩, ⟨_,_,_,_,_,_⟩, ⟨_,_,_,_,_,_⟩]) rfl ?_
            repeat (go_big_quiet_step (fail))
            refine wpQuiet_nil ?_
            refine can_done ?_
            go_wp2
            go_roundw
            case rel => exact ⟨j + 1, by omega, by go_num, HE2, ⟨below_drew1 HB.out⟩⟩
            case measure => simp [intOf]; omega
          · have h1 : (s1.toList == s2.toList && g1 == g2) = false := by rw [str_beq, Bool.eq_false_iff]; intro h; rw [Bool.and_eq_true, decide_eq_true_eq, beq_iff_eq] at h; exact hst h
            obtain rfl := HF.out _ (fun h => by have a9 := HS.out; rw [h, HT.out] at a9; have := Option.some.inj a9; simp only [Prod.mk.injEq] at this; exact ⟨this.1.symm, this.2.symm⟩) hst
            clear hst
            go_wp2
            refine wp_region_can (.q [0, 1, 2, 3, 4, 5, 6, 7, 8, 9, 10] (.done)) (clsB _) (by kernel_rfl) (by kernel_rfl) (by intro _ _ d _ _ h; cases d <;> exact h) (clsB_drew _) ?_
            refine can_q (l := [⟨_,_,_,_,_,_⟩, ⟨_,_,_,_,_,_⟩, ⟨_,_,_,_,_,_⟩, ⟨_,_,_,_,_,_⟩, ⟨_,_,_,_,_,_⟩, ⟨_,_,_,_,_,_⟩, ⟨_,_,_,_,_,_⟩, ⟨_,_,_,_,_,_⟩, ⟨_,_,_,_,_,_⟩, ⟨_,_,_,_,_,_⟩, ⟨_,_,_,_,_,_⟩]) rfl ?_
            repeat (go_big_quiet_step (fail))
            refine wpQuiet_nil ?_
            refine can_done ?_
            go_wp2
            go_ret
            exact ⟨rfl, below_drew1 (below_seq HBW.out HB.out)⟩
        · obtain rfl : j = n3 := by omega
          have HE3 : Hd (a.acts = x.acts) := ⟨by have h9 := HE.out; rwa [Df.take_all HLW.out.acts.1, Df.take_all HXW.out.acts.1] at h9⟩
          clear HE
          go_wp2
          clear hx2c0 hx2f0 hx2c1 hx2f1 hx2c2 hx2f2 hx2l
          clear hy2c0 hy2f0 hy2c1 hy2f1 hy2c2 hy2f2 hy2l
          clear hx2 hy2
          have HBr := HB
          clear HB
          obtain ⟨wp, rfl⟩ : ∃ x, x = wr := ⟨_, rfl⟩
          go_loopw [7] (fun i wr => ∃ q : Nat, q ≤ n2 ∧ i = .int .i64 q ∧ Hd (a.dfas.take q = x.dfas.take q) ∧ Hd (Below W1.heap.size W1 wr)) (fun i _ => n2 - (intOf i).toNat)
          case atStart => exact ⟨0, Nat.zero_le _, rfl, ⟨rfl⟩, HBr⟩
          case round =>
            obtain ⟨q, hq, rfl, HE, HB⟩ := hrel
            have hx2 := blk_below HX.out HB.out
            have hy2 := blk_below HY.out HB.out
            have hx2c0 := blk_cell hx2 0 _ rfl; have hx2f0 := blk_frozen hx2 0; have hx2c1 := blk_cell hx2 1 _ rfl; have hx2f1 := blk_frozen hx2 1; have hx2c2 := blk_cell hx2 2 _ rfl; have hx2f2 := blk_frozen hx2 2; have hx2l := blk_lt hx2
            have hy2c0 := blk_cell hy2 0 _ rfl; have hy2f0 := blk_frozen hy2 0; have hy2c1 := blk_cell hy2 1 _ rfl; have hy2f1 := blk_frozen hy2 1; have hy2c2 := blk_cell hy2 2 _ rfl; have hy2f2 := blk_frozen hy2 2; have hy2l := blk_lt hy2
            by_cases hlt : q < n2
            · obtain ⟨b1, o1, d, D1, D2, D3, f1, f2, f3, rfl, hb1, ht1, hc0, hc1, hc2, hc3, hc4, hd⟩ := d_get (HLW.out.below HB.out).lt (HLW.out.below HB.out).dfas q hlt
              obtain ⟨b2, o2, y, C1, C2, C3, k1, k2, k3, rfl, hb2, ht2, hg0, hg1, hg2, hg3, hg4, hy⟩ := d_get (HXW.out.below HB.out).lt (HXW.out.below HB.out).dfas q hlt
              have HX1 := Hd.mk ht1; have HX2 := Hd.mk ht2
              have HJ : Hd (∀ W, Below wr.heap.size wr W → _) := ⟨fun W hb => Df.rdsame_calls D1 D2 D3 C1 C2 C3 _ _ _ f1 f2 f3 _ _ _ k1 k2 k3 d y S T W (hd.below hb) (hy.below hb)⟩
              have hle1 := hd.cls.le; have hle2 := hd.nxt.le; have hle3 := hd.tag.le
              have hle4 := hy.cls.le; have hle5 := hy.nxt.le; have hle6 := hy.tag.le
              have HEQ := Hd.mk (sameD_iff d y)
              generalize hdd : decide (Df.sameD d y) = r at HJ
              have HR : Hd (r = true ↔ d = y) := ⟨by rw [← hdd, decide_eq_true_eq]; exact HEQ.out⟩
              clear hd hy ht1 ht2 hdd HEQ
              have HDX : Hd (r = true → a.dfas.take (q + 1) = x.dfas.take (q + 1)) := ⟨fun h => by rw [Df.take_snoc HX1.out, Df.take_snoc HX2.out, HE.out, HR.out.1 h]⟩
              have HNX : Hd (r = false → b = false) := ⟨fun h => HF.out (r = true) (fun h2 => by have a9 := HX1.out; rw [h2, HX2.out] at a9; exact HR.out.2 (Option.some.inj a9).symm) (by rw [h]; decide)⟩
              clear HX1 HX2 HR
              obtain ⟨m1, hm1'⟩ : ∃ z_, List.length (Df.Df.cls d) = z_ := ⟨_, rfl⟩
              obtain ⟨m2, hm2'⟩ : ∃ z_, List.length (Df.Df.nxt d) = z_ := ⟨_, rfl⟩
              obtain ⟨m3, hm3'⟩ : ∃ z_, List.length (Df.Df.tag d) = z_ := ⟨_, rfl⟩
              obtain ⟨wd, hwd⟩ : ∃ z_, Df.Df.wid d = z_ := ⟨_, rfl⟩
              obtain ⟨st, hst⟩ : ∃ z_, Df.Df.st d = z_ := ⟨_, rfl⟩
              rw [hm1', hm2', hm3', hwd, hst] at HJ
              rw [hm1'] at hc0
              rw [hwd] at hc1
              rw [hm2'] at hc2
              rw [hm3'] at hc3
              rw [hst] at hc4
              rw [hm1'] at hle1
              rw [hm2'] at hle2
              rw [hm3'] at hle3
              clear hm1' hm2' hm3' hwd hst
              obtain ⟨p1, hm1'⟩ : ∃ z_, List.length (Df.Df.cls y) = z_ := ⟨_, rfl⟩
              obtain ⟨p2, hm2'⟩ : ∃ z_, List.length (Df.Df.nxt y) = z_ := ⟨_, rfl⟩
              obtain ⟨p3, hm3'⟩ : ∃ z_, List.length (Df.Df.tag y) = z_ := ⟨_, rfl⟩
              obtain ⟨xd, hwd⟩ : ∃ z_, Df.Df.wid y = z_ := ⟨_, rfl⟩
              obtain ⟨xt, hst⟩ : ∃ z_, Df.Df.st y = z_ := ⟨_, rfl⟩
              rw [hm1', hm2', hm3', hwd, hst] at HJ
              rw [hm1'] at hg0
              rw [hwd] at hg1
              rw [hm2'] at hg2
              rw [hm3'] at hg3
              rw [hst] at hg4
              rw [hm1'] at hle4
              rw [hm2'] at hle5
              rw [hm3'] at hle6
              clear hm1' hm2' hm3' hwd hst
              clear d y
              cases r with
              | true =>
                have HE2 := Hd.mk (HDX.out rfl)
                clear HDX HNX
                go_wp2
                refine wp_region_can (.q [0, 1, 2, 3, 4, 5, 6, 7, 8, 9] (.e 10 false (.q [11] (.done)))) (clsB _) (by kernel_rfl) (by kernel_rfl) (by intro _ _ d _ _ h; cases d <;> exact h) (clsB_drew _) ?_
                refine can_q (l := [⟨_,_,_,_,_,_⟩, ⟨_,_,_,_,_,_⟩, ⟨_,_,_,_,_,_⟩, ⟨_,_,_,_,_,_⟩, ⟨_,_,_,_,_,_⟩, ⟨_,_,_,_,_,_⟩, ⟨_,_,_,_,_,_⟩, ⟨_,_,_,_,_,_⟩, ⟨_,_,_,_,_,_⟩, ⟨_,_,_,_,_,_⟩]) rfl ?_
                repeat (go_big_quiet_step (fail))
                refine wpQuiet_nil ?_
                refine can_e (o := ⟨_,_,_,_,_,_⟩) rfl (fun K hK => ?_)
                go_wp2_with (go_at_call 44; go_must (refine Calls.mono (HJ.out _ (below_drew1 (Below.refl _ _))) ?_; rintro e w1 ⟨rfl, hb_⟩; have HB1 := Hd.mk (below_seq HB.out (below_undrew hb_)); clear hb_))
                refine onK_normal (hK _ _ ⟨fun _ => True, trivial, (fun h => by cases h), ?_⟩)
                clear hK K
                refine can_q (l := [⟨_,_,_,_,_,_⟩]) rfl ?_
                repeat (go_big_quiet_step (fail))
                refine wpQuiet_nil ?_
                refine can_done ?_
                go_wp2
                go_roundw
                case rel => exact ⟨q + 1, by omega, by go_num, HE2, HB1⟩
                case measure => simp [intOf]; omega
              | false =>
                obtain rfl := HNX.out rfl
                clear HDX HNX
                go_wp2
                refine wp_region_can (.q [0, 1, 2, 3, 4, 5, 6, 7, 8, 9] (.e 10 false (.q [11] (.done)))) (clsB _) (by kernel_rfl) (by kernel_rfl) (by intro _ _ d _ _ h; cases d <;> exact h) (clsB_drew _) ?_
                refine can_q (l := [⟨_,_,_,_,_,_⟩, ⟨_,_,_,_,_,_⟩, ⟨_,_,_,_,_,_⟩, ⟨_,_,_,_,_,_⟩, ⟨_,_,_,_,_,_⟩, ⟨_,_,_,_,_,_⟩, ⟨_,_,_,_,_,_⟩, ⟨_,_,_,_,_,_⟩, ⟨_,_,_,_,_,_⟩, ⟨_,_,_,_,_,_⟩]) rfl ?_
                repeat (go_big_quiet_step (fail))
                refine wpQuiet_nil ?_
                refine can_e (o := ⟨_,_,_,_,_,_⟩) rfl (fun K hK => ?_)
                go_wp2_with (go_at_call 44; go_must (refine Calls.mono (HJ.out _ (below_drew1 (Below.refl _ _))) ?_; rintro e w1 ⟨rfl, hb_⟩; have HB1 := Hd.mk (below_seq HB.out (below_undrew hb_)); clear hb_))
                refine onK_normal (hK _ _ ⟨fun _ => True, trivial, (fun h => by cases h), ?_⟩)
                clear hK K
                refine can_q (l := [⟨_,_,_,_,_,_⟩]) rfl ?_
                repeat (go_big_quiet_step (fail))
                refine wpQuiet_nil ?_
                refine can_done ?_
                go_wp2
                go_ret
                exact ⟨rfl, below_seq HBW.out HB1.out⟩
            · obtain rfl : q = n2 := by omega
              obtain rfl : b = true := HBb.out.2 (lx_eq.2 ⟨HE1.out, HE3.out, by have h9 := HE.out; rwa [Df.take_all HLW.out.dfas.1, Df.take_all HXW.out.dfas.1] at h9⟩)
              go_wp2
              go_ret
              exact ⟨rfl, below_seq HBW.out HB.out⟩
end Go.Proofs.YtpcnekdilecakaaDoor.Tb
