/- Equal automata; the same lexer, by the program. -/
import Derived.Test.YtpcnekdilecakaaDoorW11
set_option linter.unusedVariables false
set_option linter.unusedSimpArgs false
namespace Go.Proofs.YtpcnekdilecakaaDoor.Tb
open Go Go.RowKit Go.Proofs.YtpcnekdilecakaaDoor.Can Go.Proofs.YtpcnekdilecakaaDoor.Base
attribute [local go_sem] clsB AB.cell

theorem sameD_iff (d x : Df.Df) : Df.sameD d x ↔ d = x := by
  constructor
  · rintro ⟨h1, h2, h3, h4, h5⟩
    cases d; cases x
    simp only [Df.Df.mk.injEq] at *
    exact ⟨h3, h1, h5, h4, h2⟩
  · rintro rfl; exact ⟨rfl, rfl, rfl, rfl, rfl⟩
set_option maxRecDepth 20000 in
set_option maxHeartbeats 4000000 in
theorem eqD_calls (A1 A2 : Option Addr) (n1 n2 c1 c2 : Nat) (L1 L2 : List Df.Df) (b : Bool) (S1 S2 : Nat → Prop) (w : World) (hS1 : ∀ k, S1 k → k < w.heap.size) (hS2 : ∀ k, S2 k → k < w.heap.size) (h1 : Row dT w S1 A1 n1 L1) (h2 : Row dT w S2 A2 n2 L2) (hb : b = true ↔ L1 = L2) :
    Calls Tryd.prog 47 #[.slice A1 n1 c1, .slice A2 n2 c2, .func (.func 48) #[] #[]] w fun e w' => e = .returned (.bool b) ∧ Below w.heap.size w w' := by
  have hm1 := h1.le
  have hm2 := h2.le
  have H1 := Hd.mk h1; have H2 := Hd.mk h2; have HBb := Hd.mk hb; clear h1 h2 hb
  have HS1 := Hd.mk hS1; have HS2 := Hd.mk hS2; clear hS1 hS2
  by_cases hne : n1 = n2
  · subst hne
    go_enter Tryd.func47, Tryd.ntmps47
    go_wp2
    go_loopw [17] (fun i wr => ∃ k : Nat, k ≤ n1 ∧ i = .int .i64 k ∧ Hd (L1.take k = L2.take k) ∧ Hd (Below w.heap.size w wr)) (fun i _ => n1 - (intOf i).toNat)
    case atStart => exact ⟨0, Nat.zero_le _, rfl, ⟨rfl⟩, ⟨Below.refl _ _⟩⟩
    case round =>
      obtain ⟨k, hk, rfl, HE, HB⟩ := hrel
      by_cases hlt : k < n1
      · obtain ⟨b1, o1, d, B1, B2, B3, e1, e2, e3, rfl, hb1, ht1, hc0, hc1, hc2, hc3, hc4, hd⟩ := d_get (fun k hk => Nat.lt_of_lt_of_le (HS1.out k hk) HB.out.size) (H1.out.below HS1.out HB.out) k hlt
        obtain ⟨b2, o2, x, C1, C2, C3, f1, f2, f3, rfl, hb2, ht2, hg0, hg1, hg2, hg3, hg4, hx⟩ := d_get (fun k hk => Nat.lt_of_lt_of_le (HS2.out k hk) HB.out.size) (H2.out.below HS2.out HB.out) k hlt
        have HX1 := Hd.mk ht1; have HX2 := Hd.mk ht2
        have HJ : Hd (∀ W, Below wr.heap.size wr W → _) := ⟨fun W hb => Df.dsame_calls B1 B2 B3 C1 C2 C3 _ _ _ e1 e2 e3 _ _ _ f1 f2 f3 d x S1 S2 W (hd.below hb) (hx.below hb)⟩
        have hle1 := hd.cls.le; have hle2 := hd.nxt.le; have hle3 := hd.tag.le
        have hle4 := hx.cls.le; have hle5 := hx.nxt.le; have hle6 := hx.tag.le
        have HEQ := Hd.mk (sameD_iff d x)
        generalize hdd : decide (Df.sameD d x) = r at HJ
        have HR : Hd (r = true ↔ d = x) := ⟨by rw [← hdd, decide_eq_true_eq]; exact HEQ.out⟩
        clear hd hx ht1 ht2 hdd HEQ
        have HDX : Hd (r = true → L1.take (k + 1) = L2.take (k + 1)) := ⟨fun h => by rw [Df.take_snoc HX1.out, Df.take_snoc HX2.out, HE.out, HR.out.1 h]⟩
        have HNX : Hd (r = false → b = false) := ⟨fun h => by
          rw [Bool.eq_false_iff]
          intro hb
          have e := HBb.out.1 hb
          have a := HX1.out
          rw [e, HX2.out] at a
          rw [HR.out.2 (Option.some.inj a).symm] at h
          cases h⟩
        clear HX1 HX2 HR
        obtain ⟨m1, hm1'⟩ : ∃ z_, List.length (Df.Df.cls d) = z_ := ⟨_, rfl⟩
        obtain ⟨m2, hm2'⟩ : ∃ z_, List.length (Df.Df.nxt d) = z_ := ⟨_, rfl⟩
        obtain ⟨m3, hm3'⟩ : ∃ z_, List.length (Df.Df.tag d) = z_ := ⟨_, rfl⟩
        obtain ⟨wd, hwd⟩ : ∃ z_, Df.Df.wid d = z_ := ⟨_, rfl⟩
        obtain ⟨st, hst⟩ : ∃ z_, Df.Df.st d = z_ := ⟨_, rfl⟩
        rw [hm1', hm2', hm3', hwd, hst] at HJ
        rw [hm1'] at hc0
        rw [hwd] at hc1
        rw [hm2'] at hc2
        rw [hm3'] at hc3
        rw [hst] at hc4
        rw [hm1'] at hle1
        rw [hm2'] at hle2
        rw [hm3'] at hle3
        clear hm1' hm2' hm3' hwd hst
        obtain ⟨p1, hm1'⟩ : ∃ z_, List.length (Df.Df.cls x) = z_ := ⟨_, rfl⟩
        obtain ⟨p2, hm2'⟩ : ∃ z_, List.length (Df.Df.nxt x) = z_ := ⟨_, rfl⟩
        obtain ⟨p3, hm3'⟩ : ∃ z_, List.length (Df.Df.tag x) = z_ := ⟨_, rfl⟩
        obtain ⟨xd, hwd⟩ : ∃ z_, Df.Df.wid x = z_ := ⟨_, rfl⟩
        obtain ⟨xt, hst⟩ : ∃ z_, Df.Df.st x = z_ := ⟨_, rfl⟩
        rw [hm1', hm2', hm3', hwd, hst] at HJ
        rw [hm1'] at hg0
        rw [hwd] at hg1
        rw [hm2'] at hg2
        rw [hm3'] at hg3
        rw [hst] at hg4
        rw [hm1'] at hle4
        rw [hm2'] at hle5
        rw [hm3'] at hle6
        clear hm1' hm2' hm3' hwd hst
        clear d x
        cases r with
        | true =>
          have HE2 := Hd.mk (HDX.out rfl)
          clear HDX HNX
          go_wp2_with (go_at_call 48; go_must (refine Calls.mono (HJ.out _ (below_alloc (below_alloc (Below.refl _ _) _) _)) ?_; rintro e w1 ⟨rfl, hb_⟩; have HB1 := Hd.mk (below_seq HB.out (below_seq (below_alloc (below_alloc (Below.refl _ _) _) _) hb_)); clear hb_))
          go_roundw
          case rel => exact ⟨k + 1, by omega, by go_num, HE2, HB1⟩
          case measure => simp [intOf]; omega
        | false =>
          obtain rfl := HNX.out rfl
          clear HDX HNX
          go_wp2_with (go_at_call 48; go_must (refine Calls.mono (HJ.out _ (below_alloc (below_alloc (Below.refl _ _) _) _)) ?_; rintro e w1 ⟨rfl, hb_⟩; have HB1 := Hd.mk (below_seq HB.out (below_seq (below_alloc (below_alloc (Below.refl _ _) _) _) hb_)); clear hb_))
          go_ret
          exact ⟨rfl, HB1.out⟩
      · obtain rfl : k = n1 := by omega
        obtain rfl : b = true := HBb.out.2 (by have a := HE.out; rwa [Df.take_all H1.out.1, Df.take_all H2.out.1] at a)
        go_wp2
        go_ret
        exact ⟨rfl, HB.out⟩
  · obtain rfl : b = false := by rw [Bool.eq_false_iff]; exact fun h => hne (by rw [← H1.out.1, ← H2.out.1, HBb.out.1 h])
    have hz : ((n1 : Int) != (n2 : Int)) = true := by simp; omega
    go_enter Tryd.func47, Tryd.ntmps47
    go_wp2
    go_ret
    exact ⟨rfl, Below.refl _ _⟩
theorem lx_eq {a x : Lx} : a = x ↔ a.modes = x.modes ∧ a.acts = x.acts ∧ a.dfas = x.dfas := by
  cases a; cases x
  simp only [Lx.mk.injEq]
  exact ⟨fun h => ⟨h.1, h.2.2, h.2.1⟩, fun h => ⟨h.1, h.2.2, h.2.1⟩⟩
set_option maxRecDepth 20000 in
set_option maxHeartbeats 4000000 in
theorem tsame_calls (A1 A2 A3 B1 B2 B3 : Option Addr) (n1 n2 n3 m1 m2 m3 c1 c2 c3 e1 e2 e3 : Nat) (a x : Lx) (b : Bool) (hb : b = true ↔ a = x) (S T : Nat → Prop) (w : World) (hL : LX w S A1 A2 A3 n1 n2 n3 a) (hX : LX w T B1 B2 B3 m1 m2 m3 x) :
    Calls Tryd.prog 14 #[.agg #[.slice A1 n1 c1, .slice A2 n2 c2, .slice A3 n3 c3], .agg #[.slice B1 m1 e1, .slice B2 m2 e2, .slice B3 m3 e3]] w fun e w' => e = .returned (.bool b) ∧ Below w.heap.size w w' := by
  obtain ⟨W0, hW0⟩ : ∃ W0, w.alloc (.cells #[.slice A1 n1 c1, .slice A2 n2 c2, .slice A3 n3 c3] 26) = W0 := ⟨_, rfl⟩
  have hBW : Below w.heap.size w W0 := by rw [← hW0]; exact below_alloc (Below.refl _ _) _
  have hx : W0.heap[w.heap.size]? = some (.cells #[.slice A1 n1 c1, .slice A2 n2 c2, .slice A3 n3 c3] 26 (0, 0)) := by rw [← hW0]; exact blk_new _ _ _ rfl
  have hs0 : W0.heap.size = w.heap.size + 1 := by rw [← hW0, size_alloc]
  obtain ⟨W1, hW1⟩ : ∃ W1, W0.alloc (.cells #[.slice B1 m1 e1, .slice B2 m2 e2, .slice B3 m3 e3] 26) = W1 := ⟨_, rfl⟩
  have hB1 : Below w.heap.size w W1 := by rw [← hW1]; exact below_alloc hBW _
  replace hx : W1.heap[w.heap.size]? = some (.cells #[.slice A1 n1 c1, .slice A2 n2 c2, .slice A3 n3 c3] 26 (0, 0)) := by rw [← hW1]; exact blk_alloc hx _
  have hy : W1.heap[w.heap.size + 1]? = some (.cells #[.slice B1 m1 e1, .slice B2 m2 e2, .slice B3 m3 e3] 26 (0, 0)) := by rw [← hW1]; exact blk_new _ _ _ (by rw [hs0])
  have HBW := Hd.mk hB1
  obtain ⟨b1, hb1⟩ : ∃ b, decide (a.modes = x.modes) = b := ⟨_, rfl⟩
  obtain ⟨b2, hb2⟩ : ∃ b, decide (a.acts = x.acts) = b := ⟨_, rfl⟩
  obtain ⟨b3, hb3⟩ : ∃ b : Bool, (b = true ↔ a.dfas = x.dfas) := by
    rcases Classical.em (a.dfas = x.dfas) with h | h
    · exact ⟨true, by simp [h]⟩
    · exact ⟨false, by simp [h]⟩
  have hbb : (b1 && b2 && b3) = b := by
    rw [Bool.eq_iff_iff, hb, lx_eq, Bool.and_eq_true, Bool.and_eq_true, hb3, ← hb1, ← hb2, decide_eq_true_eq, decide_eq_true_eq, and_assoc]
  have HJ1 := Hd.mk (EqS_calls A1 B1 n1 m1 c1 e1 a.modes x.modes b1 S T W1 (hL.below hB1).lt (hX.below hB1).lt (hL.below hB1).modes (hX.below hB1).modes hb1)
  have HJ2 : Hd (∀ W, Below w.heap.size w W → _) := ⟨fun W hb => EqA_calls A3 B3 n3 m3 c3 e3 a.acts x.acts b2 S T W (hL.below hb).lt (hX.below hb).lt (hL.below hb).acts (hX.below hb).acts hb2⟩
  have HJ3 : Hd (∀ W, Below w.heap.size w W → _) := ⟨fun W hb => eqD_calls A2 B2 n2 m2 c2 e2 a.dfas x.dfas b3 S T W (hL.below hb).lt (hX.below hb).lt (hL.below hb).dfas (hX.below hb).dfas hb3⟩
  clear hL hX hb hb1 hb2 hb3 hB1 hBW
  subst hbb
  cases b1 <;> cases b2 <;> cases b3 <;> (go_enter Tryd.func14, Tryd.ntmps14; go_upto_region 1 with fail; clear hW1 hW0 hs0; have hxc0 := blk_cell hx 0 _ rfl; have hxf0 := blk_frozen hx 0; have hxc1 := blk_cell hx 1 _ rfl; have hxf1 := blk_frozen hx 1; have hxc2 := blk_cell hx 2 _ rfl; have hxf2 := blk_frozen hx 2; have hxl := blk_lt hx; have hyc0 := blk_cell hy 0 _ rfl; have hyf0 := blk_frozen hy 0; have hyc1 := blk_cell hy 1 _ rfl; have hyf1 := blk_frozen hy 1; have hyc2 := blk_cell hy 2 _ rfl; have hyf2 := blk_frozen hy 2; have hyl := blk_lt hy; go_wp2_with (first
    | (go_at_call 45; go_must (refine Calls.mono HJ1.out ?_; rintro e w1 ⟨rfl, hb_⟩; have HB1 := Hd.mk (below_seq HBW.out hb_); have hx1 := blk_below hx hb_; have hy1 := blk_below hy hb_; clear hxc0 hxf0 hxc1 hxf1 hxc2 hxf2 hxl; clear hyc0 hyf0 hyc1 hyf1 hyc2 hyf2 hyl; have hx1c0 := blk_cell hx1 0 _ rfl; have hx1f0 := blk_frozen hx1 0; have hx1c1 := blk_cell hx1 1 _ rfl; have hx1f1 := blk_frozen hx1 1; have hx1c2 := blk_cell hx1 2 _ rfl; have hx1f2 := blk_frozen hx1 2; have hx1l := blk_lt hx1; have hy1c0 := blk_cell hy1 0 _ rfl; have hy1f0 := blk_frozen hy1 0; have hy1c1 := blk_cell hy1 1 _ rfl; have hy1f1 := blk_frozen hy1 1; have hy1c2 := blk_cell hy1 2 _ rfl; have hy1f2 := blk_frozen hy1 2; have hy1l := blk_lt hy1; clear hb_))
    | (go_at_call 46; go_must (refine Calls.mono (HJ2.out _ HB1.out) ?_; rintro e w2 ⟨rfl, hb_⟩; have HB2 := Hd.mk (below_seq HB1.out hb_); have hx2 := blk_below hx1 hb_; have hy2 := blk_below hy1 hb_; clear hx1c0 hx1f0 hx1c1 hx1f1 hx1c2 hx1f2 hx1l; clear hy1c0 hy1f0 hy1c1 hy1f1 hy1c2 hy1f2 hy1l; have hx2c0 := blk_cell hx2 0 _ rfl; have hx2f0 := blk_frozen hx2 0; have hx2c1 := blk_cell hx2 1 _ rfl; have hx2f1 := blk_frozen hx2 1; have hx2c2 := blk_cell hx2 2 _ rfl; have hx2f2 := blk_frozen hx2 2; have hx2l := blk_lt hx2; have hy2c0 := blk_cell hy2 0 _ rfl; have hy2f0 := blk_frozen hy2 0; have hy2c1 := blk_cell hy2 1 _ rfl; have hy2f1 := blk_frozen hy2 1; have hy2c2 := blk_cell hy2 2 _ rfl; have hy2f2 := blk_frozen hy2 2; have hy2l := blk_lt hy2; clear hb_))
    | (go_at_call 47; go_must (refine Calls.mono (HJ3.out _ HB2.out) ?_; rintro e w3 ⟨rfl, hb_⟩; have HB3 := Hd.mk (below_seq HB2.out hb_); clear hb_))); go_ret; first | exact ⟨rfl, HB3.out⟩ | exact ⟨rfl, HB2.out⟩ | exact ⟨rfl, HB1.out⟩)
end Go.Proofs.YtpcnekdilecakaaDoor.Tb
