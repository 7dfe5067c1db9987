/- Lexers that may be, by the program: whole. -/
import Derived.Test.YtpcnekdilecakaaDoorW7
set_option linter.unusedVariables false
set_option linter.unusedSimpArgs false
namespace Go.Proofs.YtpcnekdilecakaaDoor.Tb
open Go Go.RowKit Go.Proofs.YtpcnekdilecakaaDoor.Can Go.Proofs.YtpcnekdilecakaaDoor.Base
attribute [local go_sem] clsB AB.cell

theorem any_all {α : Type} (p : α → Bool) (l : List α) : (l.any fun x => !p x) = !l.all p := by
  rw [List.all_eq_not_any_not, Bool.not_not]
set_option maxRecDepth 20000 in
set_option maxHeartbeats 4000000 in
theorem tright_calls (A1 A2 A3 : Option Addr) (n1 n2 n3 c1 c2 c3 : Nat) (l : Lx) (b : Bool) (hb : rightB l = b) (S : Nat → Prop) (w : World) (hL : LX w S A1 A2 A3 n1 n2 n3 l) :
    Calls Tryd.prog 10 #[.agg #[.slice A1 n1 c1, .slice A2 n2 c2, .slice A3 n3 c3]] w fun e w' => e = .returned (.bool b) ∧ Below w.heap.size w w' := by
  have hm1 := hL.modes.le; have hm2 := hL.dfas.le; have hm3 := hL.acts.le
  obtain ⟨W0, hW0⟩ : ∃ W0, w.alloc (.cells #[.slice A1 n1 c1, .slice A2 n2 c2, .slice A3 n3 c3] 26) = W0 := ⟨_, rfl⟩
  have hBW : Below w.heap.size w W0 := by rw [← hW0]; exact below_alloc (Below.refl _ _) _
  have hx : W0.heap[w.heap.size]? = some (.cells #[.slice A1 n1 c1, .slice A2 n2 c2, .slice A3 n3 c3] 26 (0, 0)) := by rw [← hW0]; exact blk_new _ _ _ rfl
  have HBW := Hd.mk hBW
  have hmf : ∀ (fn : Fn) (first cap : Array Value) (w : World), (Instr.makeFunc fn first cap).run Tryd.prog w = .ok (.func fn first cap) w := fun _ _ _ _ => rfl
  obtain ⟨bm, hbm⟩ : ∃ bm, (decide (1 ≤ l.modes.length) && decide (l.modes.length ≤ 16) && modesB l.modes) = bm := ⟨_, rfl⟩
  obtain ⟨ba, hba⟩ : ∃ ba, (l.acts.all (actB n1)) = ba := ⟨_, rfl⟩
  obtain ⟨bd, hbd⟩ : ∃ bd, (l.dfas.all (dfaB n3)) = bd := ⟨_, rfl⟩
  have hb2 : (bm && decide (n3 ≤ 128) && decide (n2 = n1) && ba && bd) = b := by
    rw [← hb, ← hbm, ← hba, ← hbd]; unfold rightB; rw [hL.acts.1, hL.dfas.1, hL.modes.1]
  have HJ := Hd.mk (modes_calls A1 n1 c1 l.modes bm S W0 (hL.below hBW).lt hL.szm (hL.below hBW).modes hbm)
  have HA : Hd (∀ W, Below w.heap.size w W → W.heap[w.heap.size]? = some (lxO A1 A2 A3 n1 n2 n3 c1 c2 c3) → Calls Tryd.prog 30 _ W fun e w' => e = .returned (.bool (!ba)) ∧ Below W.heap.size W w') := ⟨fun W hb hg => coa_calls A1 A2 A3 n1 n2 n3 c1 c2 c3 w.heap.size A3 n3 c3 l.acts (!ba) (by rw [any_all, hba]) hL.sza S W hm1 (hL.below hb).lt (hL.below hb).acts hg⟩
  have HDf : Hd (∀ W, Below w.heap.size w W → W.heap[w.heap.size]? = some (lxO A1 A2 A3 n1 n2 n3 c1 c2 c3) → Calls Tryd.prog 31 _ W fun e w' => e = .returned (.bool (!bd)) ∧ Below W.heap.size W w') := ⟨fun W hb hg => cod_calls A1 A2 A3 n1 n2 n3 c1 c2 c3 w.heap.size A2 n2 c2 l.dfas (!bd) (by rw [any_all, hbd]) S W hm3 (hL.below hb).lt (hL.below hb).dfas hg⟩
  clear hb hbm hba hbd hL hBW
  cases bm with
  | false =>
    obtain rfl : b = false := by rw [← hb2]; rfl
    clear hb2
    go_enter Tryd.func10, Tryd.ntmps10
    go_upto_region 1 with fail
    clear hW0
    have hxc0 := blk_cell hx 0 _ rfl; have hxf0 := blk_frozen hx 0; have hxc1 := blk_cell hx 1 _ rfl; have hxf1 := blk_frozen hx 1; have hxc2 := blk_cell hx 2 _ rfl; have hxf2 := blk_frozen hx 2; have hxl := blk_lt hx
    go_wp2_with (go_at_call 25; go_must (refine Calls.mono HJ.out ?_; rintro e w1 ⟨rfl, hb_⟩; have HB1 := Hd.mk (below_seq HBW.out hb_); have hx1 := blk_below hx hb_; have HX1 := Hd.mk hx1; clear hxc0 hxf0 hxc1 hxf1 hxc2 hxf2 hxl; have hx1c0 := blk_cell hx1 0 _ rfl; have hx1f0 := blk_frozen hx1 0; have hx1c1 := blk_cell hx1 1 _ rfl; have hx1f1 := blk_frozen hx1 1; have hx1c2 := blk_cell hx1 2 _ rfl; have hx1f2 := blk_frozen hx1 2; have hx1l := blk_lt hx1; clear hb_))
    go_ret
    exact ⟨rfl, HB1.out⟩
  | true =>
    by_cases h1 : n3 ≤ 128
    case neg =>
      obtain rfl : b = false := by rw [← hb2, decide_eq_false h1]; rfl
      clear hb2
      go_enter Tryd.func10, Tryd.ntmps10
      go_upto_region 1 with fail
      clear hW0
      have hxc0 := blk_cell hx 0 _ rfl; have hxf0 := blk_frozen hx 0; have hxc1 := blk_cell hx 1 _ rfl; have hxf1 := blk_frozen hx 1; have hxc2 := blk_cell hx 2 _ rfl; have hxf2 := blk_frozen hx 2; have hxl := blk_lt hx
      go_wp2_with (go_at_call 25; go_must (refine Calls.mono HJ.out ?_; rintro e w1 ⟨rfl, hb_⟩; have HB1 := Hd.mk (below_seq HBW.out hb_); have hx1 := blk_below hx hb_; have HX1 := Hd.mk hx1; clear hxc0 hxf0 hxc1 hxf1 hxc2 hxf2 hxl; have hx1c0 := blk_cell hx1 0 _ rfl; have hx1f0 := blk_frozen hx1 0; have hx1c1 := blk_cell hx1 1 _ rfl; have hx1f1 := blk_frozen hx1 1; have hx1c2 := blk_cell hx1 2 _ rfl; have hx1f2 := blk_frozen hx1 2; have hx1l := blk_lt hx1; clear hb_))
      go_ret
      exact ⟨rfl, HB1.out⟩
    by_cases h2 : n2 = n1
    case neg =>
      obtain rfl : b = false := by rw [← hb2, decide_eq_false h2]; simp
      have h3 : ((n2 : Int) != (n1 : Int)) = true := by simp; omega
      clear hb2
      go_enter Tryd.func10, Tryd.ntmps10
      go_upto_region 1 with fail
      clear hW0
      have hxc0 := blk_cell hx 0 _ rfl; have hxf0 := blk_frozen hx 0; have hxc1 := blk_cell hx 1 _ rfl; have hxf1 := blk_frozen hx 1; have hxc2 := blk_cell hx 2 _ rfl; have hxf2 := blk_frozen hx 2; have hxl := blk_lt hx
      go_wp2_with (go_at_call 25; go_must (refine Calls.mono HJ.out ?_; rintro e w1 ⟨rfl, hb_⟩; have HB1 := Hd.mk (below_seq HBW.out hb_); have hx1 := blk_below hx hb_; have HX1 := Hd.mk hx1; clear hxc0 hxf0 hxc1 hxf1 hxc2 hxf2 hxl; have hx1c0 := blk_cell hx1 0 _ rfl; have hx1f0 := blk_frozen hx1 0; have hx1c1 := blk_cell hx1 1 _ rfl; have hx1f1 := blk_frozen hx1 1; have hx1c2 := blk_cell hx1 2 _ rfl; have hx1f2 := blk_frozen hx1 2; have hx1l := blk_lt hx1; clear hb_))
      go_ret
      exact ⟨rfl, HB1.out⟩
    have h4 : (ba && bd) = b := by rw [← hb2, decide_eq_true h1, decide_eq_true h2]; simp
    clear hb2
    subst h2
    have h3 : ((n2 : Int) != (n2 : Int)) = false := by simp
    cases ba with
    | false =>
      obtain rfl : b = false := by rw [← h4]; rfl
      clear h4
      go_enter Tryd.func10, Tryd.ntmps10
      go_upto_region 1 with fail
      clear hW0
      have hxc0 := blk_cell hx 0 _ rfl; have hxf0 := blk_frozen hx 0; have hxc1 := blk_cell hx 1 _ rfl; have hxf1 := blk_frozen hx 1; have hxc2 := blk_cell hx 2 _ rfl; have hxf2 := blk_frozen hx 2; have hxl := blk_lt hx
      go_wp2_with (first
        | (go_at_call 25; go_must (refine Calls.mono HJ.out ?_; rintro e w1 ⟨rfl, hb_⟩; have HB1 := Hd.mk (below_seq HBW.out hb_); have hx1 := blk_below hx hb_; have HX1 := Hd.mk hx1; clear hxc0 hxf0 hxc1 hxf1 hxc2 hxf2 hxl; have hx1c0 := blk_cell hx1 0 _ rfl; have hx1f0 := blk_frozen hx1 0; have hx1c1 := blk_cell hx1 1 _ rfl; have hx1f1 := blk_frozen hx1 1; have hx1c2 := blk_cell hx1 2 _ rfl; have hx1f2 := blk_frozen hx1 2; have hx1l := blk_lt hx1; clear hb_))
        | (go_at_call 30; go_must (refine Calls.mono (HA.out _ HB1.out HX1.out) ?_; rintro e w2 ⟨rfl, hb_⟩; have HB2 := Hd.mk (below_seq HB1.out hb_); have hx2 := blk_below hx1 hb_; have HX2 := Hd.mk hx2; clear hx1c0 hx1f0 hx1c1 hx1f1 hx1c2 hx1f2 hx1l; have hx2c0 := blk_cell hx2 0 _ rfl; have hx2f0 := blk_frozen hx2 0; have hx2c1 := blk_cell hx2 1 _ rfl; have hx2f1 := blk_frozen hx2 1; have hx2c2 := blk_cell hx2 2 _ rfl; have hx2f2 := blk_frozen hx2 2; have hx2l := blk_lt hx2; clear hb_)))
      go_ret
      exact ⟨rfl, HB2.out⟩
    | true =>
      obtain rfl : bd = b := by rw [← h4]; rfl
      clear h4
      cases bd <;> (go_enter Tryd.func10, Tryd.ntmps10; go_upto_region 1 with fail; clear hW0; have hxc0 := blk_cell hx 0 _ rfl; have hxf0 := blk_frozen hx 0; have hxc1 := blk_cell hx 1 _ rfl; have hxf1 := blk_frozen hx 1; have hxc2 := blk_cell hx 2 _ rfl; have hxf2 := blk_frozen hx 2; have hxl := blk_lt hx; go_wp2_with (first
        | (go_at_call 25; go_must (refine Calls.mono HJ.out ?_; rintro e w1 ⟨rfl, hb_⟩; have HB1 := Hd.mk (below_seq HBW.out hb_); have hx1 := blk_below hx hb_; have HX1 := Hd.mk hx1; clear hxc0 hxf0 hxc1 hxf1 hxc2 hxf2 hxl; have hx1c0 := blk_cell hx1 0 _ rfl; have hx1f0 := blk_frozen hx1 0; have hx1c1 := blk_cell hx1 1 _ rfl; have hx1f1 := blk_frozen hx1 1; have hx1c2 := blk_cell hx1 2 _ rfl; have hx1f2 := blk_frozen hx1 2; have hx1l := blk_lt hx1; clear hb_))
        | (go_at_call 30; go_must (refine Calls.mono (HA.out _ HB1.out HX1.out) ?_; rintro e w2 ⟨rfl, hb_⟩; have HB2 := Hd.mk (below_seq HB1.out hb_); have hx2 := blk_below hx1 hb_; have HX2 := Hd.mk hx2; clear hx1c0 hx1f0 hx1c1 hx1f1 hx1c2 hx1f2 hx1l; have hx2c0 := blk_cell hx2 0 _ rfl; have hx2f0 := blk_frozen hx2 0; have hx2c1 := blk_cell hx2 1 _ rfl; have hx2f1 := blk_frozen hx2 1; have hx2c2 := blk_cell hx2 2 _ rfl; have hx2f2 := blk_frozen hx2 2; have hx2l := blk_lt hx2; clear hb_))
        | (go_at_call 31; go_must (refine Calls.mono (HDf.out _ HB2.out HX2.out) ?_; rintro e w3 ⟨rfl, hb_⟩; have HB3 := Hd.mk (below_seq HB2.out hb_); clear hb_))); go_ret; exact ⟨rfl, HB3.out⟩)
end Go.Proofs.YtpcnekdilecakaaDoor.Tb
