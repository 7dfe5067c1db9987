/- Automata that may be, by the program; lexers that may be. -/
import Derived.Test.YtpcnekdilecakaaDoorW5
set_option linter.unusedVariables false
set_option linter.unusedSimpArgs false
namespace Go.Proofs.YtpcnekdilecakaaDoor.Tb
open Go Go.RowKit Go.Proofs.YtpcnekdilecakaaDoor.Can Go.Proofs.YtpcnekdilecakaaDoor.Base
attribute [local go_sem] clsB AB.cell

theorem not_lt_any (l : List Int) (n : Nat) : (l.any fun x => decide ((n : Int) ≤ x)) = !(l.all fun t => decide (t < n)) := by
  rw [Bool.eq_iff_iff]
  simp [List.any_eq_true]
set_option maxRecDepth 20000 in
set_option maxHeartbeats 4000000 in
theorem tdfa_calls (A1 A2 A3 : Option Addr) (n1 n2 n3 c1 c2 c3 : Nat) (d : Df.Df) (n : Nat) (b : Bool) (hb : dfaB n d = b) (hn : n ≤ 9223372036854775807) (S : Nat → Prop) (w : World) (hD : Df.DF w S A1 A2 A3 n1 n2 n3 d) :
    Calls Tryd.prog 29 #[.agg #[.slice A1 n1 c1, .int .i64 d.wid, .slice A2 n2 c2, .slice A3 n3 c3, .int .i64 d.st], .int .i64 n] w fun e w' => e = .returned (.bool b) ∧ Below w.heap.size w w' := by
  have hm1 := hD.cls.le; have hm2 := hD.nxt.le; have hm3 := hD.tag.le
  have HN3 := Hd.mk hD.tag.1; have HN2 := Hd.mk hD.nxt.1
  obtain ⟨W0, hW0⟩ : ∃ W0, w.alloc (.cells #[.slice A1 n1 c1, .int .i64 d.wid, .slice A2 n2 c2, .slice A3 n3 c3, .int .i64 d.st] 47) = W0 := ⟨_, rfl⟩
  have hBW : Below w.heap.size w W0 := by rw [← hW0]; exact below_alloc (Below.refl _ _) _
  have hx : W0.heap[w.heap.size]? = some (.cells #[.slice A1 n1 c1, .int .i64 d.wid, .slice A2 n2 c2, .slice A3 n3 c3, .int .i64 d.st] 47 (0, 0)) := by rw [← hW0]; exact blk_new _ _ _ rfl
  obtain ⟨W1, hW1⟩ : ∃ W1, W0.alloc (.cells #[.int .i64 n] 3) = W1 := ⟨_, rfl⟩
  have hs0 : W0.heap.size = w.heap.size + 1 := by rw [← hW0, size_alloc]
  have hB1 : Below w.heap.size w W1 := by rw [← hW1]; exact below_alloc hBW _
  replace hx : W1.heap[w.heap.size]? = some (.cells #[.slice A1 n1 c1, .int .i64 d.wid, .slice A2 n2 c2, .slice A3 n3 c3, .int .i64 d.st] 47 (0, 0)) := by rw [← hW1]; exact blk_alloc hx _
  have hy : W1.heap[w.heap.size + 1]? = some (.cells #[.int .i64 n] 3 (0, 0)) := by rw [← hW1]; exact blk_new _ _ _ (by rw [hs0])
  have HDW := Hd.mk (hD.below hB1)
  have HBW := Hd.mk hB1
  have HR : Hd (∀ W : World, Below w.heap.size w W → _) := ⟨fun W hb => Df.dright_calls A1 A2 A3 n1 n2 n3 c1 c2 c3 d S W (hD.below hb)⟩
  have HCO : Hd (∀ (W : World) (bb : Bool), Below w.heap.size w W → W.heap[w.heap.size + 1]? = some (.cells #[.int .i64 n] 3 (0, 0)) → (d.tag.any fun x => decide ((n : Int) ≤ x)) = bb → _) := ⟨fun W bb hb hg he => coi_calls A3 n3 c3 (w.heap.size + 1) n d.tag bb he S W (fun k hk => Nat.lt_of_lt_of_le (hD.lt k hk) hb.size) (hD.below hb).tag hg⟩
  have hmf : ∀ (fn : Fn) (first cap : Array Value) (w : World), (Instr.makeFunc fn first cap).run Tryd.prog w = .ok (.func fn first cap) w := fun _ _ _ _ => rfl
  obtain ⟨wd, hwd⟩ : ∃ x, d.wid = x := ⟨_, rfl⟩
  obtain ⟨st, hst⟩ : ∃ x, d.st = x := ⟨_, rfl⟩
  have HWD := Hd.mk hwd; have HST := Hd.mk hst
  rw [hwd, hst] at hW0 hx HR ⊢
  have HBb := Hd.mk hb
  clear hD hwd hst hBW hB1 hb
  go_enter Tryd.func29, Tryd.ntmps29
  go_upto_region 1 with fail
  clear hW1 hW0 hs0 W0
  have hxc0 := blk_cell hx 0 _ rfl; have hxf0 := blk_frozen hx 0; have hxc1 := blk_cell hx 1 _ rfl; have hxf1 := blk_frozen hx 1; have hxc2 := blk_cell hx 2 _ rfl; have hxf2 := blk_frozen hx 2; have hxc3 := blk_cell hx 3 _ rfl; have hxf3 := blk_frozen hx 3; have hxc4 := blk_cell hx 4 _ rfl; have hxf4 := blk_frozen hx 4; have hxl := blk_lt hx
  have hyc0 := blk_cell hy 0 _ rfl; have hyf0 := blk_frozen hy 0; have hyl := blk_lt hy
  by_cases hok : Df.okD d
  · have HJ := Hd.mk (HR.out W1 HBW.out)
    rw [decide_eq_true hok] at HJ
    have hlt : st < n3 := by have := hok.1.2.2.2.1; have := hok.1.2.1; have := HN2.out; have := HN3.out; have := HST.out; omega
    by_cases h0 : st < 0
    · have HTG : Hd (Df.tagD d d.st < 0) := ⟨by rw [HST.out, Df.tagD_out (.inl h0)]; decide⟩
      have HBC : Hd (∃ bb, (d.tag.any fun x => decide ((n : Int) ≤ x)) = bb ∧ b = !bb) := ⟨_, rfl, by rw [← HBb.out, not_lt_any, Bool.not_not]; unfold dfaB; rw [decide_eq_true hok, decide_eq_true HTG.out]; rfl⟩
      obtain ⟨bb, hbb, rfl⟩ := HBC.out
      have HBB := Hd.mk hbb
      clear hbb hok HBC
      cases bb <;> (go_wp2_with (first
        | (go_at_call 57; go_must (refine Calls.mono HJ.out ?_; rintro e w1 ⟨rfl, hb_⟩; have HB1 := Hd.mk (below_seq HBW.out hb_); have hx1 := blk_below hx hb_; have hy1 := blk_below hy hb_; have HY1 := Hd.mk hy1; clear hxc0 hxf0 hxc1 hxf1 hxc2 hxf2 hxc3 hxf3 hxc4 hxf4 hxl; clear hyc0 hyf0 hyl; have hx1c0 := blk_cell hx1 0 _ rfl; have hx1f0 := blk_frozen hx1 0; have hx1c1 := blk_cell hx1 1 _ rfl; have hx1f1 := blk_frozen hx1 1; have hx1c2 := blk_cell hx1 2 _ rfl; have hx1f2 := blk_frozen hx1 2; have hx1c3 := blk_cell hx1 3 _ rfl; have hx1f3 := blk_frozen hx1 3; have hx1c4 := blk_cell hx1 4 _ rfl; have hx1f4 := blk_frozen hx1 4; have hx1l := blk_lt hx1; have hy1c0 := blk_cell hy1 0 _ rfl; have hy1f0 := blk_frozen hy1 0; have hy1l := blk_lt hy1; clear hb_))
        | (go_at_call 58; go_must (refine Calls.mono (HCO.out _ _ HB1.out HY1.out HBB.out) ?_; rintro e w2 ⟨rfl, hb_⟩; have HB2 := Hd.mk (below_seq HB1.out hb_); clear hb_))); go_ret; exact ⟨rfl, HB2.out⟩)
    · obtain ⟨s, rfl⟩ : ∃ k : Nat, st = k := ⟨st.toNat, by omega⟩
      obtain ⟨b2, o2, t, rfl, -, hb2, ht, hy2⟩ := HDW.out.tag.get_int s (by omega)
      have HTT : Hd (Df.tagD d d.st = t) := ⟨by rw [HST.out]; exact Df.tagD_at ht⟩
      clear ht
      by_cases ht : t < 0
      · have HTG : Hd (Df.tagD d d.st < 0) := ⟨by rw [HTT.out]; exact ht⟩
        have HBC : Hd (∃ bb, (d.tag.any fun x => decide ((n : Int) ≤ x)) = bb ∧ b = !bb) := ⟨_, rfl, by rw [← HBb.out, not_lt_any, Bool.not_not]; unfold dfaB; rw [decide_eq_true hok, decide_eq_true HTG.out]; rfl⟩
        obtain ⟨bb, hbb, rfl⟩ := HBC.out
        have HBB := Hd.mk hbb
        clear hbb hok HBC
        cases bb <;> (go_wp2_with (first
          | (go_at_call 57; go_must (refine Calls.mono HJ.out ?_; rintro e w1 ⟨rfl, hb_⟩; have HB1 := Hd.mk (below_seq HBW.out hb_); have hx1 := blk_below hx hb_; have hy1 := blk_below hy hb_; have HY1 := Hd.mk hy1; have hy3 := cell_keep hy2 hb_ hb2; have hb3 := Nat.lt_of_lt_of_le hb2 hb_.size; clear hxc0 hxf0 hxc1 hxf1 hxc2 hxf2 hxc3 hxf3 hxc4 hxf4 hxl; clear hyc0 hyf0 hyl; have hx1c0 := blk_cell hx1 0 _ rfl; have hx1f0 := blk_frozen hx1 0; have hx1c1 := blk_cell hx1 1 _ rfl; have hx1f1 := blk_frozen hx1 1; have hx1c2 := blk_cell hx1 2 _ rfl; have hx1f2 := blk_frozen hx1 2; have hx1c3 := blk_cell hx1 3 _ rfl; have hx1f3 := blk_frozen hx1 3; have hx1c4 := blk_cell hx1 4 _ rfl; have hx1f4 := blk_frozen hx1 4; have hx1l := blk_lt hx1; have hy1c0 := blk_cell hy1 0 _ rfl; have hy1f0 := blk_frozen hy1 0; have hy1l := blk_lt hy1; clear hb_ hy2))
          | (go_at_call 58; go_must (refine Calls.mono (HCO.out _ _ HB1.out HY1.out HBB.out) ?_; rintro e w2 ⟨rfl, hb_⟩; have HB2 := Hd.mk (below_seq HB1.out hb_); clear hb_))); go_ret; exact ⟨rfl, HB2.out⟩)
      · obtain rfl : b = false := by rw [← HBb.out]; unfold dfaB; have e9 : decide (Df.tagD d d.st < 0) = false := decide_eq_false (by rw [HTT.out]; exact ht); rw [e9, Bool.and_false, Bool.false_and]
        clear hok
        go_wp2_with (go_at_call 57; go_must (refine Calls.mono HJ.out ?_; rintro e w1 ⟨rfl, hb_⟩; have HB1 := Hd.mk (below_seq HBW.out hb_); have hx1 := blk_below hx hb_; have hy1 := blk_below hy hb_; have HY1 := Hd.mk hy1; have hy3 := cell_keep hy2 hb_ hb2; have hb3 := Nat.lt_of_lt_of_le hb2 hb_.size; clear hxc0 hxf0 hxc1 hxf1 hxc2 hxf2 hxc3 hxf3 hxc4 hxf4 hxl; clear hyc0 hyf0 hyl; have hx1c0 := blk_cell hx1 0 _ rfl; have hx1f0 := blk_frozen hx1 0; have hx1c1 := blk_cell hx1 1 _ rfl; have hx1f1 := blk_frozen hx1 1; have hx1c2 := blk_cell hx1 2 _ rfl; have hx1f2 := blk_frozen hx1 2; have hx1c3 := blk_cell hx1 3 _ rfl; have hx1f3 := blk_frozen hx1 3; have hx1c4 := blk_cell hx1 4 _ rfl; have hx1f4 := blk_frozen hx1 4; have hx1l := blk_lt hx1; have hy1c0 := blk_cell hy1 0 _ rfl; have hy1f0 := blk_frozen hy1 0; have hy1l := blk_lt hy1; clear hb_ hy2))
        go_ret
        exact ⟨rfl, HB1.out⟩
  · have HJ := Hd.mk (HR.out W1 HBW.out)
    rw [decide_eq_false hok] at HJ
    obtain rfl : b = false := by rw [← HBb.out]; unfold dfaB; rw [decide_eq_false hok]; rfl
    clear hok
    go_wp2_with (go_at_call 57; go_must (refine Calls.mono HJ.out ?_; rintro e w1 ⟨rfl, hb_⟩; have HB1 := Hd.mk (below_seq HBW.out hb_); clear hb_))
    go_ret
    exact ⟨rfl, HB1.out⟩
end Go.Proofs.YtpcnekdilecakaaDoor.Tb
