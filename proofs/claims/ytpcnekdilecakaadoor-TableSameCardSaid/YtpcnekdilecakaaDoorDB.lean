/- Texts: D4, D5, D6. -/
import Derived.Test.YtpcnekdilecakaaDoorDA
/- Where an automaton comes. -/
set_option linter.unusedVariables false
set_option linter.unusedSimpArgs false
namespace Go.Proofs.YtpcnekdilecakaaDoor.Df
open Go Go.RowKit Go.Proofs.YtpcnekdilecakaaDoor.Can Go.Proofs.YtpcnekdilecakaaDoor.Base Go.Proofs.YtpcnekdilecakaaDoor.Al
attribute [local go_sem] clsB AB.cell

def nextD (d : Df) (s : Int) (c : Nat) : Int := if s < 0 then -1 else (d.nxt.getD s.toNat []).getD (d.cls.getD c 0).toNat (-1)
def toV (d : Df) (s : Int) (c : Nat) : Int := if okD d then nextD d s c else -1
def runS (d : Df) (t : List UInt8) : Int := t.foldl (fun s c => nextD d s c.toNat) d.st
def tagD (d : Df) (s : Int) : Int := if s < 0 then -1 else d.tag.getD s.toNat (-1)
def runV (d : Df) (t : List UInt8) : Int := if okD d then tagD d (runS d t) else -1
theorem runS_snoc (d : Df) (l : List UInt8) (b : UInt8) : runS d (l ++ [b]) = nextD d (runS d l) b.toNat := by simp [runS]
theorem getD_of {α : Type} {l : List α} {k : Nat} {x y : α} (h : l[k]? = some x) : l.getD k y = x := by rw [List.getD_eq_getElem?_getD, h]; rfl
theorem okD_cls {d : Df} (h : okD d) {c : Nat} (hc : c < 256) : ∃ k : Nat, d.cls[c]? = some (k : Int) ∧ (k : Int) < d.wid := by
  have hr := h.1.2.2.2.2.1
  have he := rightB_iff.1 hr
  refine ⟨cls (oneF d.cls) c, ?_, ?_⟩
  · have := clsL_get (f := oneF d.cls) hc
    rwa [← he] at this
  · have h1 := cls_lt (f := oneF d.cls) hc
    have h2 := (max_first hr).1
    have hf : (firstL d.cls).length = (met (oneF d.cls) 256).length := by
      unfold firstL; rw [if_pos hr, asI_len, fstU_len]
    rw [h.1.2.2.2.2.2, hf]
    omega
theorem okD_next {d : Df} (h : okD d) {s c : Nat} (hs : s < d.nxt.length) (hc : c < 256) :
    ∃ r k x, d.nxt[s]? = some r ∧ d.cls[c]? = some ((k : Nat) : Int) ∧ k < r.length ∧ r[k]? = some x ∧ nextD d s c = x ∧ -1 ≤ x ∧ x < (d.nxt.length : Int) := by
  obtain ⟨k, hk, hkw⟩ := okD_cls h hc
  have hrs : d.nxt[s]? = some d.nxt[s] := List.getElem?_eq_getElem hs
  obtain ⟨hl, hx⟩ := h.2.1 _ (List.getElem_mem hs)
  have hkl : k < (d.nxt[s]).length := by omega
  have hrk : (d.nxt[s])[k]? = some (d.nxt[s])[k] := List.getElem?_eq_getElem hkl
  refine ⟨_, k, _, hrs, hk, hkl, hrk, ?_, hx _ (List.getElem_mem hkl)⟩
  unfold nextD
  rw [if_neg (by omega), Int.toNat_natCast, getD_of hrs, getD_of hk, Int.toNat_natCast, getD_of hrk]
theorem nextD_out {d : Df} {s : Int} {c : Nat} (h : s < 0 ∨ (d.nxt.length : Int) ≤ s) : nextD d s c = -1 := by
  unfold nextD
  split
  · rfl
  · rw [List.getD_eq_getElem?_getD (l := d.nxt), List.getElem?_eq_none (by omega)]
    rfl
theorem nextD_in {d : Df} (h : okD d) (s : Int) {c : Nat} (hc : c < 256) : -1 ≤ nextD d s c ∧ nextD d s c < (d.nxt.length : Int) := by
  by_cases h1 : s < 0 ∨ (d.nxt.length : Int) ≤ s
  · rw [nextD_out h1]; omega
  · obtain ⟨k, rfl⟩ : ∃ k : Nat, s = k := ⟨s.toNat, by omega⟩
    obtain ⟨r, k, x, _, _, _, _, e, h2⟩ := okD_next h (s := k) (c := c) (by omega) hc
    rw [e]; exact h2
theorem runS_in {d : Df} (h : okD d) (t : List UInt8) : -1 ≤ runS d t ∧ runS d t < (d.nxt.length : Int) := by
  rcases List.eq_nil_or_concat t with rfl | ⟨l, b, rfl⟩
  · exact ⟨h.1.2.2.1, h.1.2.2.2.1⟩
  · rw [List.concat_eq_append, runS_snoc]
    exact nextD_in h _ b.toNat_lt
end Go.Proofs.YtpcnekdilecakaaDoor.Df

/- A text's tag. -/
set_option linter.unusedVariables false
set_option linter.unusedSimpArgs false
namespace Go.Proofs.YtpcnekdilecakaaDoor.Df
open Go Go.RowKit Go.Proofs.YtpcnekdilecakaaDoor.Can Go.Proofs.YtpcnekdilecakaaDoor.Base Go.Proofs.YtpcnekdilecakaaDoor.Al
attribute [local go_sem] clsB AB.cell

def bl (s : ByteArray) : List UInt8 := s.data.toList
theorem bl_len (s : ByteArray) : (bl s).length = s.size := rfl
theorem index_at (X : ByteArray) (q : Nat) (b : UInt8) (h : (bl X)[q]? = some b) (W : World) : (Instr.index 9 (.string X) (.int .i64 q)).run Tryd.prog W = .ok (.int .u8 (b.toNat : Int)) W := by
  obtain ⟨h1, h2⟩ := List.getElem?_eq_some_iff.1 h
  rw [bl_len] at h1
  rw [run_index_string W 9 X .i64 q Tryd.underlying9, dif_pos ⟨by omega, by omega⟩]
  have h3 : X[(q : Int).toNat]'(by rw [Int.toNat_natCast]; exact h1) = b := by
    rw [← h2]
    simp [bl, ByteArray.getElem_eq_getElem_data]
  rw [h3]
theorem tagD_out {d : Df} {s : Int} (h : s < 0 ∨ (d.tag.length : Int) ≤ s) : tagD d s = -1 := by
  unfold tagD
  split
  · rfl
  · rw [List.getD_eq_getElem?_getD, List.getElem?_eq_none (by omega)]
    rfl
theorem tagD_at {d : Df} {k : Nat} {x : Int} (h : d.tag[k]? = some x) : tagD d k = x := by
  unfold tagD
  rw [if_neg (by omega), Int.toNat_natCast, getD_of h]
set_option maxRecDepth 20000 in
set_option maxHeartbeats 2000000 in
theorem rtag_calls (A1 A2 A3 : Option Addr) (n1 n2 n3 c1 c2 c3 : Nat) (d : Df) (S : Nat → Prop) (s : Int) (w : World) (hD : DF w S A1 A2 A3 n1 n2 n3 d) :
    Calls Tryd.prog 24 #[.agg #[.slice A1 n1 c1, .int .i64 d.wid, .slice A2 n2 c2, .slice A3 n3 c3, .int .i64 d.st], .int .i64 s] w fun e w' => e = .returned (.int .i64 (tagD d s)) ∧ Below w.heap.size w w' := by
  obtain ⟨v, hv⟩ : ∃ v, tagD d s = v := ⟨_, rfl⟩
  rw [hv]
  have HV := Hd.mk hv
  clear hv
  have hm1 := hD.cls.le; have hm2 := hD.nxt.le; have hm3 := hD.tag.le
  have HN1 := Hd.mk hD.cls.1; have HN2 := Hd.mk hD.nxt.1; have HN3 := Hd.mk hD.tag.1
  obtain ⟨W0, hW0⟩ : ∃ W0, w.alloc (.cells #[.slice A1 n1 c1, .int .i64 d.wid, .slice A2 n2 c2, .slice A3 n3 c3, .int .i64 d.st] 47) = W0 := ⟨_, rfl⟩
  have hBW : Below w.heap.size w W0 := by rw [← hW0]; exact below_alloc (Below.refl _ _) _
  have HDW := Hd.mk (hD.below hBW)
  have hx : W0.heap[w.heap.size]? = some (.cells #[.slice A1 n1 c1, .int .i64 d.wid, .slice A2 n2 c2, .slice A3 n3 c3, .int .i64 d.st] 47 (0, 0)) := by rw [← hW0]; exact blk_new _ _ _ rfl
  have HBW := Hd.mk hBW
  obtain ⟨wd, hwd⟩ : ∃ x, d.wid = x := ⟨_, rfl⟩
  obtain ⟨st, hst⟩ : ∃ x, d.st = x := ⟨_, rfl⟩
  have HWD := Hd.mk hwd; have HST := Hd.mk hst
  rw [hwd, hst] at hW0 hx ⊢
  clear hD hwd hst hBW
  go_enter Tryd.func24, Tryd.ntmps24
  go_upto_region 1 with fail
  clear hW0
  have hxc0 := blk_cell hx 0 _ rfl; have hxf0 := blk_frozen hx 0; have hxc1 := blk_cell hx 1 _ rfl; have hxf1 := blk_frozen hx 1; have hxc2 := blk_cell hx 2 _ rfl; have hxf2 := blk_frozen hx 2; have hxc3 := blk_cell hx 3 _ rfl; have hxf3 := blk_frozen hx 3; have hxc4 := blk_cell hx 4 _ rfl; have hxf4 := blk_frozen hx 4; have hxl := blk_lt hx
  by_cases h0 : s < 0
  · obtain rfl : v = -1 := by rw [← HV.out, tagD_out (.inl h0)]
    go_wp2
    go_ret
    exact ⟨rfl, HBW.out⟩
  by_cases h1 : (n3 : Int) ≤ s
  · obtain rfl : v = -1 := by rw [← HV.out, tagD_out (.inr (by rw [HN3.out]; exact h1))]
    go_wp2
    go_ret
    exact ⟨rfl, HBW.out⟩
  obtain ⟨s, rfl⟩ : ∃ k : Nat, s = k := ⟨s.toNat, by omega⟩
  obtain ⟨b2, o2, t, rfl, -, hb2, ht, hy2⟩ := HDW.out.tag.get_int s (by omega)
  obtain rfl : v = t := by rw [← HV.out, tagD_at ht]
  clear ht
  go_wp2
  go_ret
  exact ⟨rfl, HBW.out⟩
end Go.Proofs.YtpcnekdilecakaaDoor.Df

/- Whether two automata are the same; whether one is too great. -/
set_option linter.unusedVariables false
set_option linter.unusedSimpArgs false
namespace Go.Proofs.YtpcnekdilecakaaDoor.Df
open Go Go.RowKit Go.Proofs.YtpcnekdilecakaaDoor.Can Go.Proofs.YtpcnekdilecakaaDoor.Base Go.Proofs.YtpcnekdilecakaaDoor.Al
attribute [local go_sem] clsB AB.cell

def sameD (d x : Df) : Prop := d.wid = x.wid ∧ d.st = x.st ∧ d.cls = x.cls ∧ d.tag = x.tag ∧ d.nxt = x.nxt
instance (d x : Df) : Decidable (sameD d x) := by unfold sameD; infer_instance
set_option maxRecDepth 20000 in
set_option maxHeartbeats 4000000 in
theorem dsame_calls (A1 A2 A3 B1 B2 B3 : Option Addr) (n1 n2 n3 c1 c2 c3 m1 m2 m3 e1 e2 e3 : Nat) (d x : Df) (S T : Nat → Prop) (w : World) (hD : DF w S A1 A2 A3 n1 n2 n3 d) (hX : DF w T B1 B2 B3 m1 m2 m3 x) :
    Calls Tryd.prog 48 #[.agg #[.slice A1 n1 c1, .int .i64 d.wid, .slice A2 n2 c2, .slice A3 n3 c3, .int .i64 d.st], .agg #[.slice B1 m1 e1, .int .i64 x.wid, .slice B2 m2 e2, .slice B3 m3 e3, .int .i64 x.st]] w fun e w' => e = .returned (.bool (decide (sameD d x))) ∧ Below w.heap.size w w' := by
  have HM : Hd (n1 ≤ 9223372036854775807 ∧ n2 ≤ 9223372036854775807 ∧ n3 ≤ 9223372036854775807 ∧ m1 ≤ 9223372036854775807 ∧ m2 ≤ 9223372036854775807 ∧ m3 ≤ 9223372036854775807) := ⟨hD.cls.le, hD.nxt.le, hD.tag.le, hX.cls.le, hX.nxt.le, hX.tag.le⟩
  obtain ⟨v, hv⟩ : ∃ v, decide (sameD d x) = v := ⟨_, rfl⟩
  rw [hv]
  have HF : Hd (∀ P : Prop, (sameD d x → P) → ¬ P → v = false) := ⟨fun P h hp => by rw [← hv]; exact decide_eq_false (fun h' => hp (h h'))⟩
  have HV := Hd.mk hv
  obtain ⟨W0, hW0⟩ : ∃ W0, (w.alloc (.cells #[.slice A1 n1 c1, .int .i64 d.wid, .slice A2 n2 c2, .slice A3 n3 c3, .int .i64 d.st] 47)).alloc (.cells #[.slice B1 m1 e1, .int .i64 x.wid, .slice B2 m2 e2, .slice B3 m3 e3, .int .i64 x.st] 47) = W0 := ⟨_, rfl⟩
  have hBW : Below w.heap.size w W0 := by rw [← hW0]; exact below_alloc (below_alloc (Below.refl _ _) _) _
  have HDW := Hd.mk (hD.below hBW); have HXW := Hd.mk (hX.below hBW)
  have hx : W0.heap[w.heap.size]? = some (.cells #[.slice A1 n1 c1, .int .i64 d.wid, .slice A2 n2 c2, .slice A3 n3 c3, .int .i64 d.st] 47 (0, 0)) := by rw [← hW0]; exact blk_alloc (blk_new _ _ _ rfl) _
  have hy : W0.heap[w.heap.size + 1]? = some (.cells #[.slice B1 m1 e1, .int .i64 x.wid, .slice B2 m2 e2, .slice B3 m3 e3, .int .i64 x.st] 47 (0, 0)) := by rw [← hW0]; exact blk_new _ _ _ (by rw [size_alloc])
  have HBW := Hd.mk hBW
  obtain ⟨wd, hwd⟩ : ∃ x, d.wid = x := ⟨_, rfl⟩
  obtain ⟨st, hst⟩ : ∃ x, d.st = x := ⟨_, rfl⟩
  obtain ⟨wx, hwx⟩ : ∃ y, x.wid = y := ⟨_, rfl⟩
  obtain ⟨sx, hsx⟩ : ∃ y, x.st = y := ⟨_, rfl⟩
  have HWD := Hd.mk hwd; have HST := Hd.mk hst; have HWX := Hd.mk hwx; have HSX := Hd.mk hsx
  rw [hwd, hst, hwx, hsx] at hW0
  rw [hwd, hst] at hx
  rw [hwx, hsx] at hy
  rw [hwd, hst, hwx, hsx]
  clear hD hX hwd hst hwx hsx hBW hv
  go_enter Tryd.func48, Tryd.ntmps48
  go_upto_region 1 with fail
  clear hW0
  have HC := Hd.mk (fun (W : World) (hb : Below W0.heap.size W0 W) (b : Bool) (h : decide (d.cls = x.cls) = b) => eqI_calls A1 B1 n1 m1 c1 e1 d.cls x.cls b S T W (HDW.out.below hb).lt (HXW.out.below hb).lt (HDW.out.below hb).cls (HXW.out.below hb).cls h)
  have HT := Hd.mk (fun (W : World) (hb : Below W0.heap.size W0 W) (b : Bool) (h : decide (d.tag = x.tag) = b) => eqI_calls A3 B3 n3 m3 c3 e3 d.tag x.tag b S T W (HDW.out.below hb).lt (HXW.out.below hb).lt (HDW.out.below hb).tag (HXW.out.below hb).tag h)
  have HN := Hd.mk (fun (W : World) (hb : Below W0.heap.size W0 W) (b : Bool) (h : decide (d.nxt = x.nxt) = b) => eqF_calls A2 B2 n2 m2 c2 e2 d.nxt x.nxt b S T W (HDW.out.below hb).lt (HXW.out.below hb).lt (HDW.out.below hb).nxt (HXW.out.below hb).nxt h)
  have hxc0 := blk_cell hx 0 _ rfl; have hxf0 := blk_frozen hx 0; have hxc1 := blk_cell hx 1 _ rfl; have hxf1 := blk_frozen hx 1; have hxc2 := blk_cell hx 2 _ rfl; have hxf2 := blk_frozen hx 2; have hxc3 := blk_cell hx 3 _ rfl; have hxf3 := blk_frozen hx 3; have hxc4 := blk_cell hx 4 _ rfl; have hxf4 := blk_frozen hx 4; have hxl := blk_lt hx
  have hyc0 := blk_cell hy 0 _ rfl; have hyf0 := blk_frozen hy 0; have hyc1 := blk_cell hy 1 _ rfl; have hyf1 := blk_frozen hy 1; have hyc2 := blk_cell hy 2 _ rfl; have hyf2 := blk_frozen hy 2; have hyc3 := blk_cell hy 3 _ rfl; have hyf3 := blk_frozen hy 3; have hyc4 := blk_cell hy 4 _ rfl; have hyf4 := blk_frozen hy 4; have hyl := blk_lt hy
  by_cases g1 : wd = wx
  case neg =>
    obtain rfl := HF.out _ (fun h => by rw [← HWD.out, ← HWX.out]; exact h.1) g1
    have hj : (wd == wx) = false := by simpa using g1
    go_wp2
    go_ret
    exact ⟨rfl, HBW.out⟩
  have j1 : (wd == wx) = true := by simpa using g1
  by_cases g2 : st = sx
  case neg =>
    obtain rfl := HF.out _ (fun h => by rw [← HST.out, ← HSX.out]; exact h.2.1) g2
    have hj : (st == sx) = false := by simpa using g2
    have HG1 := Hd.mk g1
    clear g1
    go_wp2
    go_ret
    exact ⟨rfl, HBW.out⟩
  have j2 : (st == sx) = true := by simpa using g2
  have HG1 := Hd.mk g1; have HG2 := Hd.mk g2
  clear g1 g2
  by_cases g3 : d.cls = x.cls
  case neg =>
    obtain rfl := HF.out _ (fun h => h.2.2.1) g3
    have HJ := Hd.mk (decide_eq_false g3)
    clear g3
    go_wp2_with
      (go_at_call 67; go_must (refine Calls.mono (HC.out W0 (Below.refl _ _) false HJ.out) ?_; rintro e w1 ⟨rfl, hb_⟩; have HB1 := Hd.mk hb_; have hx1 := blk_below hx hb_; have hy1 := blk_below hy hb_; clear hxc0 hxf0 hxc1 hxf1 hxc2 hxf2 hxc3 hxf3 hxc4 hxf4 hxl; clear hyc0 hyf0 hyc1 hyf1 hyc2 hyf2 hyc3 hyf3 hyc4 hyf4 hyl; have hx1c0 := blk_cell hx1 0 _ rfl; have hx1f0 := blk_frozen hx1 0; have hx1c1 := blk_cell hx1 1 _ rfl; have hx1f1 := blk_frozen hx1 1; have hx1c2 := blk_cell hx1 2 _ rfl; have hx1f2 := blk_frozen hx1 2; have hx1c3 := blk_cell hx1 3 _ rfl; have hx1f3 := blk_frozen hx1 3; have hx1c4 := blk_cell hx1 4 _ rfl; have hx1f4 := blk_frozen hx1 4; have hx1l := blk_lt hx1; have hy1c0 := blk_cell hy1 0 _ rfl; have hy1f0 := blk_frozen hy1 0; have hy1c1 := blk_cell hy1 1 _ rfl; have hy1f1 := blk_frozen hy1 1; have hy1c2 := blk_cell hy1 2 _ rfl; have hy1f2 := blk_frozen hy1 2; have hy1c3 := blk_cell hy1 3 _ rfl; have hy1f3 := blk_frozen hy1 3; have hy1c4 := blk_cell hy1 4 _ rfl; have hy1f4 := blk_frozen hy1 4; have hy1l := blk_lt hy1; clear hb_))
    go_ret
    exact ⟨rfl, below_seq HBW.out HB1.out⟩
  have HG3 := Hd.mk g3; have HJ3 := Hd.mk (decide_eq_true g3)
  clear g3
  have TOK := Hd.mk trivial
  by_cases g4 : d.tag = x.tag
  case neg =>
    obtain rfl := HF.out _ (fun h => h.2.2.2.1) g4
    have HJ := Hd.mk (decide_eq_false g4)
    clear g4
    go_wp2_with (first
      | (have hq_ := HB1; clear hq_; go_at_call 67; go_must (refine Calls.mono (HT.out w1 HB1.out false HJ.out) ?_; rintro e w2 ⟨rfl, hb_⟩; have HB2 := Hd.mk (below_seq HB1.out hb_); clear hb_))
      | (have hq_ := TOK; clear hq_ TOK; go_at_call 67; go_must (refine Calls.mono (HC.out W0 (Below.refl _ _) true HJ3.out) ?_; rintro e w1 ⟨rfl, hb_⟩; have HB1 := Hd.mk hb_; have hx1 := blk_below hx hb_; have hy1 := blk_below hy hb_; clear hxc0 hxf0 hxc1 hxf1 hxc2 hxf2 hxc3 hxf3 hxc4 hxf4 hxl; clear hyc0 hyf0 hyc1 hyf1 hyc2 hyf2 hyc3 hyf3 hyc4 hyf4 hyl; have hx1c0 := blk_cell hx1 0 _ rfl; have hx1f0 := blk_frozen hx1 0; have hx1c1 := blk_cell hx1 1 _ rfl; have hx1f1 := blk_frozen hx1 1; have hx1c2 := blk_cell hx1 2 _ rfl; have hx1f2 := blk_frozen hx1 2; have hx1c3 := blk_cell hx1 3 _ rfl; have hx1f3 := blk_frozen hx1 3; have hx1c4 := blk_cell hx1 4 _ rfl; have hx1f4 := blk_frozen hx1 4; have hx1l := blk_lt hx1; have hy1c0 := blk_cell hy1 0 _ rfl; have hy1f0 := blk_frozen hy1 0; have hy1c1 := blk_cell hy1 1 _ rfl; have hy1f1 := blk_frozen hy1 1; have hy1c2 := blk_cell hy1 2 _ rfl; have hy1f2 := blk_frozen hy1 2; have hy1c3 := blk_cell hy1 3 _ rfl; have hy1f3 := blk_frozen hy1 3; have hy1c4 := blk_cell hy1 4 _ rfl; have hy1f4 := blk_frozen hy1 4; have hy1l := blk_lt hy1; clear hb_)))
    go_ret
    exact ⟨rfl, below_seq HBW.out HB2.out⟩
  have HG4 := Hd.mk g4; have HJ4 := Hd.mk (decide_eq_true g4)
  clear g4
  have HEV : Hd (decide (d.nxt = x.nxt) = v) := ⟨by
    rw [← HV.out]
    by_cases h : d.nxt = x.nxt
    · rw [decide_eq_true h, decide_eq_true (show sameD d x from ⟨by rw [HWD.out, HWX.out]; exact HG1.out, by rw [HST.out, HSX.out]; exact HG2.out, HG3.out, HG4.out, h⟩)]
    · rw [decide_eq_false h, decide_eq_false (fun h' => h h'.2.2.2.2)]⟩
  have TOK2 := Hd.mk trivial
  go_wp2_with (first
    | (go_at_call 68; go_must (refine Calls.mono (HN.out w2 HB2.out v HEV.out) ?_; rintro e w3 ⟨rfl, hb_⟩; have HB3 := Hd.mk (below_seq HB2.out hb_); clear hb_))
    | (have hq_ := HB1; have hp_ := TOK2; clear hp_ hq_ TOK2; go_at_call 67; go_must (refine Calls.mono (HT.out w1 HB1.out true HJ4.out) ?_; rintro e w2 ⟨rfl, hb_⟩; have HB2 := Hd.mk (below_seq HB1.out hb_); have hx2 := blk_below hx1 hb_; have hy2 := blk_below hy1 hb_; clear hx1c0 hx1f0 hx1c1 hx1f1 hx1c2 hx1f2 hx1c3 hx1f3 hx1c4 hx1f4 hx1l; clear hy1c0 hy1f0 hy1c1 hy1f1 hy1c2 hy1f2 hy1c3 hy1f3 hy1c4 hy1f4 hy1l; have hx2c0 := blk_cell hx2 0 _ rfl; have hx2f0 := blk_frozen hx2 0; have hx2c1 := blk_cell hx2 1 _ rfl; have hx2f1 := blk_frozen hx2 1; have hx2c2 := blk_cell hx2 2 _ rfl; have hx2f2 := blk_frozen hx2 2; have hx2c3 := blk_cell hx2 3 _ rfl; have hx2f3 := blk_frozen hx2 3; have hx2c4 := blk_cell hx2 4 _ rfl; have hx2f4 := blk_frozen hx2 4; have hx2l := blk_lt hx2; have hy2c0 := blk_cell hy2 0 _ rfl; have hy2f0 := blk_frozen hy2 0; have hy2c1 := blk_cell hy2 1 _ rfl; have hy2f1 := blk_frozen hy2 1; have hy2c2 := blk_cell hy2 2 _ rfl; have hy2f2 := blk_frozen hy2 2; have hy2c3 := blk_cell hy2 3 _ rfl; have hy2f3 := blk_frozen hy2 3; have hy2c4 := blk_cell hy2 4 _ rfl; have hy2f4 := blk_frozen hy2 4; have hy2l := blk_lt hy2; clear hb_))
    | (have hq_ := TOK; clear hq_ TOK; go_at_call 67; go_must (refine Calls.mono (HC.out W0 (Below.refl _ _) true HJ3.out) ?_; rintro e w1 ⟨rfl, hb_⟩; have HB1 := Hd.mk hb_; have hx1 := blk_below hx hb_; have hy1 := blk_below hy hb_; clear hxc0 hxf0 hxc1 hxf1 hxc2 hxf2 hxc3 hxf3 hxc4 hxf4 hxl; clear hyc0 hyf0 hyc1 hyf1 hyc2 hyf2 hyc3 hyf3 hyc4 hyf4 hyl; have hx1c0 := blk_cell hx1 0 _ rfl; have hx1f0 := blk_frozen hx1 0; have hx1c1 := blk_cell hx1 1 _ rfl; have hx1f1 := blk_frozen hx1 1; have hx1c2 := blk_cell hx1 2 _ rfl; have hx1f2 := blk_frozen hx1 2; have hx1c3 := blk_cell hx1 3 _ rfl; have hx1f3 := blk_frozen hx1 3; have hx1c4 := blk_cell hx1 4 _ rfl; have hx1f4 := blk_frozen hx1 4; have hx1l := blk_lt hx1; have hy1c0 := blk_cell hy1 0 _ rfl; have hy1f0 := blk_frozen hy1 0; have hy1c1 := blk_cell hy1 1 _ rfl; have hy1f1 := blk_frozen hy1 1; have hy1c2 := blk_cell hy1 2 _ rfl; have hy1f2 := blk_frozen hy1 2; have hy1c3 := blk_cell hy1 3 _ rfl; have hy1f3 := blk_frozen hy1 3; have hy1c4 := blk_cell hy1 4 _ rfl; have hy1f4 := blk_frozen hy1 4; have hy1l := blk_lt hy1; clear hb_)))
  go_ret
  exact ⟨rfl, below_seq HBW.out HB3.out⟩
set_option maxRecDepth 20000 in
set_option maxHeartbeats 4000000 in
theorem rdsame_calls (A1 A2 A3 B1 B2 B3 : Option Addr) (n1 n2 n3 c1 c2 c3 m1 m2 m3 e1 e2 e3 : Nat) (d x : Df) (S T : Nat → Prop) (w : World) (hD : DF w S A1 A2 A3 n1 n2 n3 d) (hX : DF w T B1 B2 B3 m1 m2 m3 x) :
    Calls Tryd.prog 44 #[.agg #[.slice A1 n1 c1, .int .i64 d.wid, .slice A2 n2 c2, .slice A3 n3 c3, .int .i64 d.st], .agg #[.slice B1 m1 e1, .int .i64 x.wid, .slice B2 m2 e2, .slice B3 m3 e3, .int .i64 x.st]] w fun e w' => e = .returned (.bool (decide (sameD d x))) ∧ Below w.heap.size w w' := by
  have HL1 := Hd.mk hD.nxt.1; have HL2 := Hd.mk hX.nxt.1
  have hmm1 := hD.nxt.le; have hmm2 := hX.nxt.le
  have HM : Hd (n1 ≤ 9223372036854775807 ∧ n2 ≤ 9223372036854775807 ∧ n3 ≤ 9223372036854775807 ∧ m1 ≤ 9223372036854775807 ∧ m2 ≤ 9223372036854775807 ∧ m3 ≤ 9223372036854775807) := ⟨hD.cls.le, hD.nxt.le, hD.tag.le, hX.cls.le, hX.nxt.le, hX.tag.le⟩
  obtain ⟨v, hv⟩ : ∃ v, decide (sameD d x) = v := ⟨_, rfl⟩
  rw [hv]
  have HF : Hd (∀ P : Prop, (sameD d x → P) → ¬ P → v = false) := ⟨fun P h hp => by rw [← hv]; exact decide_eq_false (fun h' => hp (h h'))⟩
  have HV := Hd.mk hv
  obtain ⟨W0, hW0⟩ : ∃ W0, (w.alloc (.cells #[.slice A1 n1 c1, .int .i64 d.wid, .slice A2 n2 c2, .slice A3 n3 c3, .int .i64 d.st] 47)).alloc (.cells #[.slice B1 m1 e1, .int .i64 x.wid, .slice B2 m2 e2, .slice B3 m3 e3, .int .i64 x.st] 47) = W0 := ⟨_, rfl⟩
  have hBW : Below w.heap.size w W0 := by rw [← hW0]; exact below_alloc (below_alloc (Below.refl _ _) _) _
  have HDW := Hd.mk (hD.below hBW); have HXW := Hd.mk (hX.below hBW)
  have hx : W0.heap[w.heap.size]? = some (.cells #[.slice A1 n1 c1, .int .i64 d.wid, .slice A2 n2 c2, .slice A3 n3 c3, .int .i64 d.st] 47 (0, 0)) := by rw [← hW0]; exact blk_alloc (blk_new _ _ _ rfl) _
  have hy : W0.heap[w.heap.size + 1]? = some (.cells #[.slice B1 m1 e1, .int .i64 x.wid, .slice B2 m2 e2, .slice B3 m3 e3, .int .i64 x.st] 47 (0, 0)) := by rw [← hW0]; exact blk_new _ _ _ (by rw [size_alloc])
  have HBW := Hd.mk hBW
  obtain ⟨wd, hwd⟩ : ∃ x, d.wid = x := ⟨_, rfl⟩
  obtain ⟨st, hst⟩ : ∃ x, d.st = x := ⟨_, rfl⟩
  obtain ⟨wx, hwx⟩ : ∃ y, x.wid = y := ⟨_, rfl⟩
  obtain ⟨sx, hsx⟩ : ∃ y, x.st = y := ⟨_, rfl⟩
  have HWD := Hd.mk hwd; have HST := Hd.mk hst; have HWX := Hd.mk hwx; have HSX := Hd.mk hsx
  rw [hwd, hst, hwx, hsx] at hW0
  rw [hwd, hst] at hx
  rw [hwx, hsx] at hy
  rw [hwd, hst, hwx, hsx]
  clear hD hX hwd hst hwx hsx hBW hv
  go_enter Tryd.func44, Tryd.ntmps44
  go_upto_region 1 with fail
  clear hW0
  have HC := Hd.mk (fun (W : World) (hb : Below W0.heap.size W0 W) (b : Bool) (h : decide (d.cls = x.cls) = b) => usame_calls A1 B1 n1 m1 c1 e1 d.cls x.cls b S T W (HDW.out.below hb).lt (HXW.out.below hb).lt (HDW.out.below hb).cls (HXW.out.below hb).cls h)
  have HT := Hd.mk (fun (W : World) (hb : Below W0.heap.size W0 W) (b : Bool) (h : decide (d.tag = x.tag) = b) => usame_calls A3 B3 n3 m3 c3 e3 d.tag x.tag b S T W (HDW.out.below hb).lt (HXW.out.below hb).lt (HDW.out.below hb).tag (HXW.out.below hb).tag h)
  have hxc0 := blk_cell hx 0 _ rfl; have hxf0 := blk_frozen hx 0; have hxc1 := blk_cell hx 1 _ rfl; have hxf1 := blk_frozen hx 1; have hxc2 := blk_cell hx 2 _ rfl; have hxf2 := blk_frozen hx 2; have hxc3 := blk_cell hx 3 _ rfl; have hxf3 := blk_frozen hx 3; have hxc4 := blk_cell hx 4 _ rfl; have hxf4 := blk_frozen hx 4; have hxl := blk_lt hx
  have hyc0 := blk_cell hy 0 _ rfl; have hyf0 := blk_frozen hy 0; have hyc1 := blk_cell hy 1 _ rfl; have hyf1 := blk_frozen hy 1; have hyc2 := blk_cell hy 2 _ rfl; have hyf2 := blk_frozen hy 2; have hyc3 := blk_cell hy 3 _ rfl; have hyf3 := blk_frozen hy 3; have hyc4 := blk_cell hy 4 _ rfl; have hyf4 := blk_frozen hy 4; have hyl := blk_lt hy
  by_cases g1 : wd = wx
  case neg =>
    obtain rfl := HF.out _ (fun h => by rw [← HWD.out, ← HWX.out]; exact h.1) g1
    have hj : (wd != wx) = true := by simpa using g1
    go_wp2
    go_ret
    exact ⟨rfl, HBW.out⟩
  have j1 : (wd != wx) = false := by simpa using g1
  by_cases g2 : st = sx
  case neg =>
    obtain rfl := HF.out _ (fun h => by rw [← HST.out, ← HSX.out]; exact h.2.1) g2
    have hj : (st != sx) = true := by simpa using g2
    have HG1 := Hd.mk g1
    clear g1
    go_wp2
    go_ret
    exact ⟨rfl, HBW.out⟩
  have j2 : (st != sx) = false := by simpa using g2
  have HG1 := Hd.mk g1; have HG2 := Hd.mk g2
  clear g1 g2
  by_cases g3 : d.cls = x.cls
  case neg =>
    obtain rfl := HF.out _ (fun h => h.2.2.1) g3
    have HJ := Hd.mk (decide_eq_false g3)
    clear g3
    go_wp2_with (go_at_call 66; go_must (refine Calls.mono (HC.out W0 (Below.refl _ _) false HJ.out) ?_; rintro e w1 ⟨rfl, hb_⟩; have HB1 := Hd.mk hb_; clear hb_))
    go_ret
    exact ⟨rfl, below_seq HBW.out HB1.out⟩
  have HG3 := Hd.mk g3; have HJ3 := Hd.mk (decide_eq_true g3)
  clear g3
  have TOK := Hd.mk trivial
  by_cases g4 : d.tag = x.tag
  case neg =>
    obtain rfl := HF.out _ (fun h => h.2.2.2.1) g4
    have HJ := Hd.mk (decide_eq_false g4)
    clear g4
    go_wp2_with (first
      | (have hq_ := HB1; clear hq_; go_at_call 66; go_must (refine Calls.mono (HT.out w1 HB1.out false HJ.out) ?_; rintro e w2 ⟨rfl, hb_⟩; have HB2 := Hd.mk (below_seq HB1.out hb_); clear hb_))
      | (have hq_ := TOK; clear hq_ TOK; go_at_call 66; go_must (refine Calls.mono (HC.out W0 (Below.refl _ _) true HJ3.out) ?_; rintro e w1 ⟨rfl, hb_⟩; have HB1 := Hd.mk hb_; have hx1 := blk_below hx hb_; have hy1 := blk_below hy hb_; clear hxc0 hxf0 hxc1 hxf1 hxc2 hxf2 hxc3 hxf3 hxc4 hxf4 hxl; clear hyc0 hyf0 hyc1 hyf1 hyc2 hyf2 hyc3 hyf3 hyc4 hyf4 hyl; have hx1c0 := blk_cell hx1 0 _ rfl; have hx1f0 := blk_frozen hx1 0; have hx1c1 := blk_cell hx1 1 _ rfl; have hx1f1 := blk_frozen hx1 1; have hx1c2 := blk_cell hx1 2 _ rfl; have hx1f2 := blk_frozen hx1 2; have hx1c3 := blk_cell hx1 3 _ rfl; have hx1f3 := blk_frozen hx1 3; have hx1c4 := blk_cell hx1 4 _ rfl; have hx1f4 := blk_frozen hx1 4; have hx1l := blk_lt hx1; have hy1c0 := blk_cell hy1 0 _ rfl; have hy1f0 := blk_frozen hy1 0; have hy1c1 := blk_cell hy1 1 _ rfl; have hy1f1 := blk_frozen hy1 1; have hy1c2 := blk_cell hy1 2 _ rfl; have hy1f2 := blk_frozen hy1 2; have hy1c3 := blk_cell hy1 3 _ rfl; have hy1f3 := blk_frozen hy1 3; have hy1c4 := blk_cell hy1 4 _ rfl; have hy1f4 := blk_frozen hy1 4; have hy1l := blk_lt hy1; clear hb_)))
    go_ret
    exact ⟨rfl, below_seq HBW.out HB2.out⟩
  have HG4 := Hd.mk g4; have HJ4 := Hd.mk (decide_eq_true g4)
  clear g4
  have HEV : Hd (decide (d.nxt = x.nxt) = v) := ⟨by
    rw [← HV.out]
    by_cases h : d.nxt = x.nxt
    · rw [decide_eq_true h, decide_eq_true (show sameD d x from ⟨by rw [HWD.out, HWX.out]; exact HG1.out, by rw [HST.out, HSX.out]; exact HG2.out, HG3.out, HG4.out, h⟩)]
    · rw [decide_eq_false h, decide_eq_false (fun h' => h h'.2.2.2.2)]⟩
  have TOK2 := Hd.mk trivial
  by_cases g5 : (n2 : Int) = m2
  case neg =>
    obtain rfl : v = false := by rw [← HEV.out]; exact decide_eq_false (fun h => g5 (by have := HL1.out; have := HL2.out; rw [h] at *; omega))
    have hj : ((n2 : Int) != (m2 : Int)) = true := by simpa using g5
    go_wp2_with (first
      | (have hq_ := HB1; have hp_ := TOK2; clear hp_ hq_ TOK2; go_at_call 66; go_must (refine Calls.mono (HT.out w1 HB1.out true HJ4.out) ?_; rintro e w2 ⟨rfl, hb_⟩; have HB2 := Hd.mk (below_seq HB1.out hb_); have HX2 := Hd.mk (blk_below hx1 hb_); have HY2 := Hd.mk (blk_below hy1 hb_); have hx2 := HX2.out; have hy2 := HY2.out; clear hx1c0 hx1f0 hx1c1 hx1f1 hx1c2 hx1f2 hx1c3 hx1f3 hx1c4 hx1f4 hx1l; clear hy1c0 hy1f0 hy1c1 hy1f1 hy1c2 hy1f2 hy1c3 hy1f3 hy1c4 hy1f4 hy1l; have hx2c0 := blk_cell hx2 0 _ rfl; have hx2f0 := blk_frozen hx2 0; have hx2c1 := blk_cell hx2 1 _ rfl; have hx2f1 := blk_frozen hx2 1; have hx2c2 := blk_cell hx2 2 _ rfl; have hx2f2 := blk_frozen hx2 2; have hx2c3 := blk_cell hx2 3 _ rfl; have hx2f3 := blk_frozen hx2 3; have hx2c4 := blk_cell hx2 4 _ rfl; have hx2f4 := blk_frozen hx2 4; have hx2l := blk_lt hx2; have hy2c0 := blk_cell hy2 0 _ rfl; have hy2f0 := blk_frozen hy2 0; have hy2c1 := blk_cell hy2 1 _ rfl; have hy2f1 := blk_frozen hy2 1; have hy2c2 := blk_cell hy2 2 _ rfl; have hy2f2 := blk_frozen hy2 2; have hy2c3 := blk_cell hy2 3 _ rfl; have hy2f3 := blk_frozen hy2 3; have hy2c4 := blk_cell hy2 4 _ rfl; have hy2f4 := blk_frozen hy2 4; have hy2l := blk_lt hy2; clear hb_))
      | (have hq_ := TOK; clear hq_ TOK; go_at_call 66; go_must (refine Calls.mono (HC.out W0 (Below.refl _ _) true HJ3.out) ?_; rintro e w1 ⟨rfl, hb_⟩; have HB1 := Hd.mk hb_; have hx1 := blk_below hx hb_; have hy1 := blk_below hy hb_; clear hxc0 hxf0 hxc1 hxf1 hxc2 hxf2 hxc3 hxf3 hxc4 hxf4 hxl; clear hyc0 hyf0 hyc1 hyf1 hyc2 hyf2 hyc3 hyf3 hyc4 hyf4 hyl; have hx1c0 := blk_cell hx1 0 _ rfl; have hx1f0 := blk_frozen hx1 0; have hx1c1 := blk_cell hx1 1 _ rfl; have hx1f1 := blk_frozen hx1 1; have hx1c2 := blk_cell hx1 2 _ rfl; have hx1f2 := blk_frozen hx1 2; have hx1c3 := blk_cell hx1 3 _ rfl; have hx1f3 := blk_frozen hx1 3; have hx1c4 := blk_cell hx1 4 _ rfl; have hx1f4 := blk_frozen hx1 4; have hx1l := blk_lt hx1; have hy1c0 := blk_cell hy1 0 _ rfl; have hy1f0 := blk_frozen hy1 0; have hy1c1 := blk_cell hy1 1 _ rfl; have hy1f1 := blk_frozen hy1 1; have hy1c2 := blk_cell hy1 2 _ rfl; have hy1f2 := blk_frozen hy1 2; have hy1c3 := blk_cell hy1 3 _ rfl; have hy1f3 := blk_frozen hy1 3; have hy1c4 := blk_cell hy1 4 _ rfl; have hy1f4 := blk_frozen hy1 4; have hy1l := blk_lt hy1; clear hb_)))
    go_ret
    exact ⟨rfl, below_seq HBW.out HB2.out⟩
  obtain rfl : n2 = m2 := by omega
  have hj5 : ((n2 : Int) != (n2 : Int)) = false := by simp
  clear g5
  go_wp2_with (first
    | (have hq_ := HB1; have hp_ := TOK2; clear hp_ hq_ TOK2; go_at_call 66; go_must (refine Calls.mono (HT.out w1 HB1.out true HJ4.out) ?_; rintro e w2 ⟨rfl, hb_⟩; have HB2 := Hd.mk (below_seq HB1.out hb_); have HX2 := Hd.mk (blk_below hx1 hb_); have HY2 := Hd.mk (blk_below hy1 hb_); have hx2 := HX2.out; have hy2 := HY2.out; clear hx1c0 hx1f0 hx1c1 hx1f1 hx1c2 hx1f2 hx1c3 hx1f3 hx1c4 hx1f4 hx1l; clear hy1c0 hy1f0 hy1c1 hy1f1 hy1c2 hy1f2 hy1c3 hy1f3 hy1c4 hy1f4 hy1l; have hx2c0 := blk_cell hx2 0 _ rfl; have hx2f0 := blk_frozen hx2 0; have hx2c1 := blk_cell hx2 1 _ rfl; have hx2f1 := blk_frozen hx2 1; have hx2c2 := blk_cell hx2 2 _ rfl; have hx2f2 := blk_frozen hx2 2; have hx2c3 := blk_cell hx2 3 _ rfl; have hx2f3 := blk_frozen hx2 3; have hx2c4 := blk_cell hx2 4 _ rfl; have hx2f4 := blk_frozen hx2 4; have hx2l := blk_lt hx2; have hy2c0 := blk_cell hy2 0 _ rfl; have hy2f0 := blk_frozen hy2 0; have hy2c1 := blk_cell hy2 1 _ rfl; have hy2f1 := blk_frozen hy2 1; have hy2c2 := blk_cell hy2 2 _ rfl; have hy2f2 := blk_frozen hy2 2; have hy2c3 := blk_cell hy2 3 _ rfl; have hy2f3 := blk_frozen hy2 3; have hy2c4 := blk_cell hy2 4 _ rfl; have hy2f4 := blk_frozen hy2 4; have hy2l := blk_lt hy2; clear hb_))
    | (have hq_ := TOK; clear hq_ TOK; go_at_call 66; go_must (refine Calls.mono (HC.out W0 (Below.refl _ _) true HJ3.out) ?_; rintro e w1 ⟨rfl, hb_⟩; have HB1 := Hd.mk hb_; have hx1 := blk_below hx hb_; have hy1 := blk_below hy hb_; clear hxc0 hxf0 hxc1 hxf1 hxc2 hxf2 hxc3 hxf3 hxc4 hxf4 hxl; clear hyc0 hyf0 hyc1 hyf1 hyc2 hyf2 hyc3 hyf3 hyc4 hyf4 hyl; have hx1c0 := blk_cell hx1 0 _ rfl; have hx1f0 := blk_frozen hx1 0; have hx1c1 := blk_cell hx1 1 _ rfl; have hx1f1 := blk_frozen hx1 1; have hx1c2 := blk_cell hx1 2 _ rfl; have hx1f2 := blk_frozen hx1 2; have hx1c3 := blk_cell hx1 3 _ rfl; have hx1f3 := blk_frozen hx1 3; have hx1c4 := blk_cell hx1 4 _ rfl; have hx1f4 := blk_frozen hx1 4; have hx1l := blk_lt hx1; have hy1c0 := blk_cell hy1 0 _ rfl; have hy1f0 := blk_frozen hy1 0; have hy1c1 := blk_cell hy1 1 _ rfl; have hy1f1 := blk_frozen hy1 1; have hy1c2 := blk_cell hy1 2 _ rfl; have hy1f2 := blk_frozen hy1 2; have hy1c3 := blk_cell hy1 3 _ rfl; have hy1f3 := blk_frozen hy1 3; have hy1c4 := blk_cell hy1 4 _ rfl; have hy1f4 := blk_frozen hy1 4; have hy1l := blk_lt hy1; clear hb_)))
  clear hx2c0 hx2f0 hx2c1 hx2f1 hx2c2 hx2f2 hx2c3 hx2f3 hx2c4 hx2f4 hx2l
  clear hy2c0 hy2f0 hy2c1 hy2f1 hy2c2 hy2f2 hy2c3 hy2f3 hy2c4 hy2f4 hy2l
  clear hx hy hx1 hy1 hx2 hy2
  go_loopw [5] (fun i wr => ∃ k : Nat, k ≤ n2 ∧ i = .int .i64 k ∧ Hd (d.nxt.take k = x.nxt.take k) ∧ Hd (Below w2.heap.size w2 wr)) (fun i _ => n2 - (intOf i).toNat)
  case atStart => exact ⟨0, Nat.zero_le _, rfl, ⟨rfl⟩, ⟨Below.refl _ _⟩⟩
  case round =>
    obtain ⟨k, hk, rfl, HE, HB⟩ := hrel
    have hx := blk_below HX2.out HB.out
    have hy := blk_below HY2.out HB.out
    have hxc0 := blk_cell hx 0 _ rfl; have hxf0 := blk_frozen hx 0; have hxc1 := blk_cell hx 1 _ rfl; have hxf1 := blk_frozen hx 1; have hxc2 := blk_cell hx 2 _ rfl; have hxf2 := blk_frozen hx 2; have hxc3 := blk_cell hx 3 _ rfl; have hxf3 := blk_frozen hx 3; have hxc4 := blk_cell hx 4 _ rfl; have hxf4 := blk_frozen hx 4; have hxl := blk_lt hx
    have hyc0 := blk_cell hy 0 _ rfl; have hyf0 := blk_frozen hy 0; have hyc1 := blk_cell hy 1 _ rfl; have hyf1 := blk_frozen hy 1; have hyc2 := blk_cell hy 2 _ rfl; have hyf2 := blk_frozen hy 2; have hyc3 := blk_cell hy 3 _ rfl; have hyf3 := blk_frozen hy 3; have hyc4 := blk_cell hy 4 _ rfl; have hyf4 := blk_frozen hy 4; have hyl := blk_lt hy
    by_cases hlt : k < n2
    · obtain ⟨b1, o1, A4, c4, r, rfl, hb1, hx1, hy1, -, -, hr1⟩ := rows_get ((HDW.out.below HB2.out).below HB.out).nxt k hlt
      obtain ⟨b2, o2, A5, c5, q, rfl, hb2, hx2, hy2, -, -, hr2⟩ := rows_get ((HXW.out.below HB2.out).below HB.out).nxt k hlt
      have HX1 := Hd.mk hx1; have HX2 := Hd.mk hx2
      obtain ⟨nr, hnr⟩ : ∃ n, r.length = n := ⟨_, rfl⟩
      obtain ⟨nq, hnq⟩ : ∃ n, q.length = n := ⟨_, rfl⟩
      rw [hnr] at hr1 hy1
      rw [hnq] at hr2 hy2
      have HLS := Hd.mk ((HDW.out.below HB2.out).below (below_drew1 HB.out)).lt
      have HLT := Hd.mk ((HXW.out.below HB2.out).below (below_drew1 HB.out)).lt
      by_cases hxy : r = q
      · have HE2 : Hd (d.nxt.take (k + 1) = x.nxt.take (k + 1)) := ⟨by rw [take_snoc HX1.out, take_snoc HX2.out, HE.out, hxy]⟩
        have HJ := Hd.mk (usame_calls A4 A5 nr nq c4 c5 r q true S T wr.drew HLS.out HLT.out (hr1.move (fun _ _ => rfl)) (hr2.move (fun _ _ => rfl)) (decide_eq_true hxy))
        clear hxy hr1 hr2 hnr hnq hx1 hx2
        go_wp2
        refine wp_region_can (.q [0, 1, 2, 3, 4, 5, 6, 7, 8, 9] (.e 10 false (.q [11] (.done)))) (clsB _) (by kernel_rfl) (by kernel_rfl) (by intro _ _ d _ _ h; cases d <;> exact h) (clsB_drew _) ?_
        refine can_q (l := [⟨_,_,_,_,_,_⟩, ⟨_,_,_,_,_,_⟩, ⟨_,_,_,_,_,_⟩, ⟨_,_,_,_,_,_⟩, ⟨_,_,_,_,_,_⟩, ⟨_,_,_,_,_,_⟩, ⟨_,_,_,_,_,_⟩, ⟨_,_,_,_,_,_⟩, ⟨_,_,_,_,_,_⟩, ⟨_,_,_,_,_,_⟩]) rfl ?_
        repeat (go_big_quiet_step (fail))
        refine wpQuiet_nil ?_
        refine can_e (o := ⟨_,_,_,_,_,_⟩) rfl (fun K hK => ?_)
        go_wp2_with (go_at_call 66; go_must (refine Calls.mono HJ.out ?_; rintro e w3 ⟨rfl, hb_⟩; have HB3 := Hd.mk (below_undrew hb_); clear hb_))
        refine onK_normal (hK _ _ ⟨fun _ => True, trivial, (fun h => by cases h), ?_⟩)
        clear hK K
        refine can_q (l := [⟨_,_,_,_,_,_⟩]) rfl ?_
        repeat (go_big_quiet_step (fail))
        refine wpQuiet_nil ?_
        refine can_done ?_
        go_wp2
        go_roundw
        case rel => exact ⟨k + 1, by omega, by go_num, HE2, ⟨below_seq HB.out HB3.out⟩⟩
        case measure => simp [intOf]; omega
      · obtain rfl : v = false := by rw [← HEV.out]; exact decide_eq_false fun h => hxy (by have a := HX1.out; rw [h, HX2.out] at a; exact (Option.some.inj a).symm)
        have HJ := Hd.mk (usame_calls A4 A5 nr nq c4 c5 r q false S T wr.drew HLS.out HLT.out (hr1.move (fun _ _ => rfl)) (hr2.move (fun _ _ => rfl)) (decide_eq_false hxy))
        clear hxy hr1 hr2 hnr hnq hx1 hx2
        go_wp2
        refine wp_region_can (.q [0, 1, 2, 3, 4, 5, 6, 7, 8, 9] (.e 10 false (.q [11] (.done)))) (clsB _) (by kernel_rfl) (by kernel_rfl) (by intro _ _ d _ _ h; cases d <;> exact h) (clsB_drew _) ?_
        refine can_q (l := [⟨_,_,_,_,_,_⟩, ⟨_,_,_,_,_,_⟩, ⟨_,_,_,_,_,_⟩, ⟨_,_,_,_,_,_⟩, ⟨_,_,_,_,_,_⟩, ⟨_,_,_,_,_,_⟩, ⟨_,_,_,_,_,_⟩, ⟨_,_,_,_,_,_⟩, ⟨_,_,_,_,_,_⟩, ⟨_,_,_,_,_,_⟩]) rfl ?_
        repeat (go_big_quiet_step (fail))
        refine wpQuiet_nil ?_
        refine can_e (o := ⟨_,_,_,_,_,_⟩) rfl (fun K hK => ?_)
        go_wp2_with (go_at_call 66; go_must (refine Calls.mono HJ.out ?_; rintro e w3 ⟨rfl, hb_⟩; have HB3 := Hd.mk (below_undrew hb_); clear hb_))
        refine onK_normal (hK _ _ ⟨fun _ => True, trivial, (fun h => by cases h), ?_⟩)
        clear hK K
        refine can_q (l := [⟨_,_,_,_,_,_⟩]) rfl ?_
        repeat (go_big_quiet_step (fail))
        refine wpQuiet_nil ?_
        refine can_done ?_
        go_wp2
        go_ret
        exact ⟨rfl, below_seq (below_seq HBW.out HB2.out) (below_seq HB.out HB3.out)⟩
    · obtain rfl : k = n2 := by omega
      obtain rfl : v = true := by rw [← HEV.out]; exact decide_eq_true (by have a := HE.out; rwa [take_all HL1.out, take_all HL2.out] at a)
      go_wp2
      go_ret
      exact ⟨rfl, below_seq (below_seq HBW.out HB2.out) HB.out⟩
/-- A yes or a no. -/
def farE (e : Ending) : Prop := ∃ b : Bool, e = .returned (.bool b)
set_option maxRecDepth 20000 in
set_option maxHeartbeats 2000000 in
theorem rdfar_calls (A1 A2 A3 : Option Addr) (n1 n2 n3 c1 c2 c3 : Nat) (d : Df) (S : Nat → Prop) (w : World) (hD : DF w S A1 A2 A3 n1 n2 n3 d) :
    Calls Tryd.prog 16 #[.agg #[.slice A1 n1 c1, .int .i64 d.wid, .slice A2 n2 c2, .slice A3 n3 c3, .int .i64 d.st]] w fun e w' => farE e ∧ Below w.heap.size w w' := by
  have hm1 := hD.cls.le; have hm2 := hD.nxt.le; have hm3 := hD.tag.le
  obtain ⟨W0, hW0⟩ : ∃ W0, w.alloc (.cells #[.slice A1 n1 c1, .int .i64 d.wid, .slice A2 n2 c2, .slice A3 n3 c3, .int .i64 d.st] 47) = W0 := ⟨_, rfl⟩
  have hBW : Below w.heap.size w W0 := by rw [← hW0]; exact below_alloc (Below.refl _ _) _
  have HDW := Hd.mk (hD.below hBW)
  have hx : W0.heap[w.heap.size]? = some (.cells #[.slice A1 n1 c1, .int .i64 d.wid, .slice A2 n2 c2, .slice A3 n3 c3, .int .i64 d.st] 47 (0, 0)) := by rw [← hW0]; exact blk_new _ _ _ rfl
  have HBW := Hd.mk hBW
  obtain ⟨wd, hwd⟩ : ∃ x, d.wid = x := ⟨_, rfl⟩
  obtain ⟨st, hst⟩ : ∃ x, d.st = x := ⟨_, rfl⟩
  rw [hwd, hst] at hW0 hx ⊢
  clear hD hwd hst hBW
  go_enter Tryd.func16, Tryd.ntmps16
  go_upto_region 1 with fail
  clear hW0
  have hxc0 := blk_cell hx 0 _ rfl; have hxf0 := blk_frozen hx 0; have hxc1 := blk_cell hx 1 _ rfl; have hxf1 := blk_frozen hx 1; have hxc2 := blk_cell hx 2 _ rfl; have hxf2 := blk_frozen hx 2; have hxc3 := blk_cell hx 3 _ rfl; have hxf3 := blk_frozen hx 3; have hxc4 := blk_cell hx 4 _ rfl; have hxf4 := blk_frozen hx 4; have hxl := blk_lt hx
  by_cases g1 : (60 : Int) < n2
  · skip
    go_wp2
    go_ret
    exact ⟨⟨_, rfl⟩, HBW.out⟩
  by_cases g2 : (300 : Int) < n1
  · skip
    go_wp2
    go_ret
    exact ⟨⟨_, rfl⟩, HBW.out⟩
  by_cases g3 : (100 : Int) < n3
  · skip
    go_wp2
    go_ret
    exact ⟨⟨_, rfl⟩, HBW.out⟩
  go_wp2
  go_loopw [3] (fun i wr => ∃ k : Nat, k ≤ n2 ∧ i = .int .i64 k ∧ wr = W0) (fun i _ => n2 - (intOf i).toNat)
  case atStart => exact ⟨0, Nat.zero_le _, rfl, rfl⟩
  case round =>
    obtain ⟨k, hk, rfl, rfl⟩ := hrel
    by_cases hlt : k < n2
    · obtain ⟨b1, o1, A', c', r, rfl, hb1, hr, hr1, -, -, hrr⟩ := rows_get HDW.out.nxt k hlt
      obtain ⟨m, hm⟩ : ∃ m, r.length = m := ⟨_, rfl⟩
      rw [hm] at hr1
      clear hr hm hrr
      by_cases g4 : (260 : Int) < m
      · skip
        go_wp2
        go_ret
        exact ⟨⟨_, rfl⟩, HBW.out⟩
      go_wp2
      go_roundw
      case rel => exact ⟨k + 1, by omega, by go_num, trivial⟩
      case measure => simp [intOf]; omega
    · obtain rfl : k = n2 := by omega
      go_wp2
      go_ret
      exact ⟨⟨_, rfl⟩, HBW.out⟩
end Go.Proofs.YtpcnekdilecakaaDoor.Df
