/- Texts: D4, D5, D6. -/
import Derived.Test.YtoambcpjdcehhaaGreatDA
/- Where an automaton comes. -/
set_option linter.unusedVariables false
set_option linter.unusedSimpArgs false
namespace Go.Proofs.YtoambcpjdcehhaaGreat.Df
open Go Go.RowKit Go.Proofs.YtoambcpjdcehhaaGreat.Can Go.Proofs.YtoambcpjdcehhaaGreat.Base Go.Proofs.YtoambcpjdcehhaaGreat.Al
attribute [local go_sem] clsB AB.cell

def nextD (d : Df) (s : Int) (c : Nat) : Int := if s < 0 then -1 else (d.nxt.getD s.toNat []).getD (d.cls.getD c 0).toNat (-1)
def toV (d : Df) (s : Int) (c : Nat) : Int := if okD d then nextD d s c else -1
def runS (d : Df) (t : List UInt8) : Int := t.foldl (fun s c => nextD d s c.toNat) d.st
def tagD (d : Df) (s : Int) : Int := if s < 0 then -1 else d.tag.getD s.toNat (-1)
def runV (d : Df) (t : List UInt8) : Int := if okD d then tagD d (runS d t) else -1
theorem runS_snoc (d : Df) (l : List UInt8) (b : UInt8) : runS d (l ++ [b]) = nextD d (runS d l) b.toNat := by simp [runS]
theorem getD_of {α : Type} {l : List α} {k : Nat} {x y : α} (h : l[k]? = some x) : l.getD k y = x := by rw [List.getD_eq_getElem?_getD, h]; rfl
theorem okD_cls {d : Df} (h : okD d) {c : Nat} (hc : c < 256) : ∃ k : Nat, d.cls[c]? = some (k : Int) ∧ (k : Int) < d.wid := by
  have hr := h.1.2.2.2.2.1
  have he := rightB_iff.1 hr
  refine ⟨cls (oneF d.cls) c, ?_, ?_⟩
  · have := clsL_get (f := oneF d.cls) hc
    rwa [← he] at this
  · have h1 := cls_lt (f := oneF d.cls) hc
    have h2 := (max_first hr).1
    have hf : (firstL d.cls).length = (met (oneF d.cls) 256).length := by
      unfold firstL; rw [if_pos hr, asI_len, fstU_len]
    rw [h.1.2.2.2.2.2, hf]
    omega
theorem okD_next {d : Df} (h : okD d) {s c : Nat} (hs : s < d.nxt.length) (hc : c < 256) :
    ∃ r k x, d.nxt[s]? = some r ∧ d.cls[c]? = some ((k : Nat) : Int) ∧ k < r.length ∧ r[k]? = some x ∧ nextD d s c = x ∧ -1 ≤ x ∧ x < (d.nxt.length : Int) := by
  obtain ⟨k, hk, hkw⟩ := okD_cls h hc
  have hrs : d.nxt[s]? = some d.nxt[s] := List.getElem?_eq_getElem hs
  obtain ⟨hl, hx⟩ := h.2.1 _ (List.getElem_mem hs)
  have hkl : k < (d.nxt[s]).length := by omega
  have hrk : (d.nxt[s])[k]? = some (d.nxt[s])[k] := List.getElem?_eq_getElem hkl
  refine ⟨_, k, _, hrs, hk, hkl, hrk, ?_, hx _ (List.getElem_mem hkl)⟩
  unfold nextD
  rw [if_neg (by omega), Int.toNat_natCast, getD_of hrs, getD_of hk, Int.toNat_natCast, getD_of hrk]
theorem nextD_out {d : Df} {s : Int} {c : Nat} (h : s < 0 ∨ (d.nxt.length : Int) ≤ s) : nextD d s c = -1 := by
  unfold nextD
  split
  · rfl
  · rw [List.getD_eq_getElem?_getD (l := d.nxt), List.getElem?_eq_none (by omega)]
    rfl
theorem nextD_in {d : Df} (h : okD d) (s : Int) {c : Nat} (hc : c < 256) : -1 ≤ nextD d s c ∧ nextD d s c < (d.nxt.length : Int) := by
  by_cases h1 : s < 0 ∨ (d.nxt.length : Int) ≤ s
  · rw [nextD_out h1]; omega
  · obtain ⟨k, rfl⟩ : ∃ k : Nat, s = k := ⟨s.toNat, by omega⟩
    obtain ⟨r, k, x, _, _, _, _, e, h2⟩ := okD_next h (s := k) (c := c) (by omega) hc
    rw [e]; exact h2
theorem runS_in {d : Df} (h : okD d) (t : List UInt8) : -1 ≤ runS d t ∧ runS d t < (d.nxt.length : Int) := by
  rcases List.eq_nil_or_concat t with rfl | ⟨l, b, rfl⟩
  · exact ⟨h.1.2.2.1, h.1.2.2.2.1⟩
  · rw [List.concat_eq_append, runS_snoc]
    exact nextD_in h _ b.toNat_lt
end Go.Proofs.YtoambcpjdcehhaaGreat.Df

/- A text's tag. -/
set_option linter.unusedVariables false
set_option linter.unusedSimpArgs false
namespace Go.Proofs.YtoambcpjdcehhaaGreat.Df
open Go Go.RowKit Go.Proofs.YtoambcpjdcehhaaGreat.Can Go.Proofs.YtoambcpjdcehhaaGreat.Base Go.Proofs.YtoambcpjdcehhaaGreat.Al
attribute [local go_sem] clsB AB.cell

def bl (s : ByteArray) : List UInt8 := s.data.toList
theorem bl_len (s : ByteArray) : (bl s).length = s.size := rfl
theorem index_at (X : ByteArray) (q : Nat) (b : UInt8) (h : (bl X)[q]? = some b) (W : World) : (Instr.index 9 (.string X) (.int .i64 q)).run Tryz.prog W = .ok (.int .u8 (b.toNat : Int)) W := by
  obtain ⟨h1, h2⟩ := List.getElem?_eq_some_iff.1 h
  rw [bl_len] at h1
  rw [run_index_string W 9 X .i64 q Tryz.underlying9, dif_pos ⟨by omega, by omega⟩]
  have h3 : X[(q : Int).toNat]'(by rw [Int.toNat_natCast]; exact h1) = b := by
    rw [← h2]
    simp [bl, ByteArray.getElem_eq_getElem_data]
  rw [h3]
theorem tagD_out {d : Df} {s : Int} (h : s < 0 ∨ (d.tag.length : Int) ≤ s) : tagD d s = -1 := by
  unfold tagD
  split
  · rfl
  · rw [List.getD_eq_getElem?_getD, List.getElem?_eq_none (by omega)]
    rfl
theorem tagD_at {d : Df} {k : Nat} {x : Int} (h : d.tag[k]? = some x) : tagD d k = x := by
  unfold tagD
  rw [if_neg (by omega), Int.toNat_natCast, getD_of h]
set_option maxRecDepth 20000 in
set_option maxHeartbeats 2000000 in
theorem rtag_calls (A1 A2 A3 : Option Addr) (n1 n2 n3 c1 c2 c3 : Nat) (d : Df) (S : Nat → Prop) (s : Int) (w : World) (hD : DF w S A1 A2 A3 n1 n2 n3 d) :
    Calls Tryz.prog 66 #[.agg #[.slice A1 n1 c1, .int .i64 d.wid, .slice A2 n2 c2, .slice A3 n3 c3, .int .i64 d.st], .int .i64 s] w fun e w' => e = .returned (.int .i64 (tagD d s)) ∧ Below w.heap.size w w' := by
  obtain ⟨v, hv⟩ : ∃ v, tagD d s = v := ⟨_, rfl⟩
  rw [hv]
  have HV := Hd.mk hv
  clear hv
  have hm1 := hD.cls.le; have hm2 := hD.nxt.le; have hm3 := hD.tag.le
  have HN1 := Hd.mk hD.cls.1; have HN2 := Hd.mk hD.nxt.1; have HN3 := Hd.mk hD.tag.1
  obtain ⟨W0, hW0⟩ : ∃ W0, w.alloc (.cells #[.slice A1 n1 c1, .int .i64 d.wid, .slice A2 n2 c2, .slice A3 n3 c3, .int .i64 d.st] 98) = W0 := ⟨_, rfl⟩
  have hBW : Below w.heap.size w W0 := by rw [← hW0]; exact below_alloc (Below.refl _ _) _
  have HDW := Hd.mk (hD.below hBW)
  have hx : W0.heap[w.heap.size]? = some (.cells #[.slice A1 n1 c1, .int .i64 d.wid, .slice A2 n2 c2, .slice A3 n3 c3, .int .i64 d.st] 98 (0, 0)) := by rw [← hW0]; exact blk_new _ _ _ rfl
  have HBW := Hd.mk hBW
  obtain ⟨wd, hwd⟩ : ∃ x, d.wid = x := ⟨_, rfl⟩
  obtain ⟨st, hst⟩ : ∃ x, d.st = x := ⟨_, rfl⟩
  have HWD := Hd.mk hwd; have HST := Hd.mk hst
  rw [hwd, hst] at hW0 hx ⊢
  clear hD hwd hst hBW
  go_enter Tryz.func66, Tryz.ntmps66
  go_upto_region 1 with fail
  clear hW0
  have hxc0 := blk_cell hx 0 _ rfl; have hxf0 := blk_frozen hx 0; have hxc1 := blk_cell hx 1 _ rfl; have hxf1 := blk_frozen hx 1; have hxc2 := blk_cell hx 2 _ rfl; have hxf2 := blk_frozen hx 2; have hxc3 := blk_cell hx 3 _ rfl; have hxf3 := blk_frozen hx 3; have hxc4 := blk_cell hx 4 _ rfl; have hxf4 := blk_frozen hx 4; have hxl := blk_lt hx
  by_cases h0 : s < 0
  · obtain rfl : v = -1 := by rw [← HV.out, tagD_out (.inl h0)]
    go_wp2
    go_ret
    exact ⟨rfl, HBW.out⟩
  by_cases h1 : (n3 : Int) ≤ s
  · obtain rfl : v = -1 := by rw [← HV.out, tagD_out (.inr (by rw [HN3.out]; exact h1))]
    go_wp2
    go_ret
    exact ⟨rfl, HBW.out⟩
  obtain ⟨s, rfl⟩ : ∃ k : Nat, s = k := ⟨s.toNat, by omega⟩
  obtain ⟨b2, o2, t, rfl, -, hb2, ht, hy2⟩ := HDW.out.tag.get_int s (by omega)
  obtain rfl : v = t := by rw [← HV.out, tagD_at ht]
  clear ht
  go_wp2
  go_ret
  exact ⟨rfl, HBW.out⟩
end Go.Proofs.YtoambcpjdcehhaaGreat.Df

/- Whether two automata are the same; whether one is too great. -/
set_option linter.unusedVariables false
set_option linter.unusedSimpArgs false
namespace Go.Proofs.YtoambcpjdcehhaaGreat.Df
open Go Go.RowKit Go.Proofs.YtoambcpjdcehhaaGreat.Can Go.Proofs.YtoambcpjdcehhaaGreat.Base Go.Proofs.YtoambcpjdcehhaaGreat.Al
attribute [local go_sem] clsB AB.cell

def sameD (d x : Df) : Prop := d.wid = x.wid ∧ d.st = x.st ∧ d.cls = x.cls ∧ d.tag = x.tag ∧ d.nxt = x.nxt
instance (d x : Df) : Decidable (sameD d x) := by unfold sameD; infer_instance
/-- A yes or a no. -/
def farE (e : Ending) : Prop := ∃ b : Bool, e = .returned (.bool b)
set_option maxRecDepth 20000 in
set_option maxHeartbeats 2000000 in
theorem rdfar_calls (A1 A2 A3 : Option Addr) (n1 n2 n3 c1 c2 c3 : Nat) (d : Df) (S : Nat → Prop) (w : World) (hD : DF w S A1 A2 A3 n1 n2 n3 d) :
    Calls Tryz.prog 36 #[.agg #[.slice A1 n1 c1, .int .i64 d.wid, .slice A2 n2 c2, .slice A3 n3 c3, .int .i64 d.st]] w fun e w' => farE e ∧ Below w.heap.size w w' := by
  have hm1 := hD.cls.le; have hm2 := hD.nxt.le; have hm3 := hD.tag.le
  obtain ⟨W0, hW0⟩ : ∃ W0, w.alloc (.cells #[.slice A1 n1 c1, .int .i64 d.wid, .slice A2 n2 c2, .slice A3 n3 c3, .int .i64 d.st] 98) = W0 := ⟨_, rfl⟩
  have hBW : Below w.heap.size w W0 := by rw [← hW0]; exact below_alloc (Below.refl _ _) _
  have HDW := Hd.mk (hD.below hBW)
  have hx : W0.heap[w.heap.size]? = some (.cells #[.slice A1 n1 c1, .int .i64 d.wid, .slice A2 n2 c2, .slice A3 n3 c3, .int .i64 d.st] 98 (0, 0)) := by rw [← hW0]; exact blk_new _ _ _ rfl
  have HBW := Hd.mk hBW
  obtain ⟨wd, hwd⟩ : ∃ x, d.wid = x := ⟨_, rfl⟩
  obtain ⟨st, hst⟩ : ∃ x, d.st = x := ⟨_, rfl⟩
  rw [hwd, hst] at hW0 hx ⊢
  clear hD hwd hst hBW
  go_enter Tryz.func36, Tryz.ntmps36
  go_upto_region 1 with fail
  clear hW0
  have hxc0 := blk_cell hx 0 _ rfl; have hxf0 := blk_frozen hx 0; have hxc1 := blk_cell hx 1 _ rfl; have hxf1 := blk_frozen hx 1; have hxc2 := blk_cell hx 2 _ rfl; have hxf2 := blk_frozen hx 2; have hxc3 := blk_cell hx 3 _ rfl; have hxf3 := blk_frozen hx 3; have hxc4 := blk_cell hx 4 _ rfl; have hxf4 := blk_frozen hx 4; have hxl := blk_lt hx
  by_cases g1 : (60 : Int) < n2
  · skip
    go_wp2
    go_ret
    exact ⟨⟨_, rfl⟩, HBW.out⟩
  by_cases g2 : (300 : Int) < n1
  · skip
    go_wp2
    go_ret
    exact ⟨⟨_, rfl⟩, HBW.out⟩
  by_cases g3 : (100 : Int) < n3
  · skip
    go_wp2
    go_ret
    exact ⟨⟨_, rfl⟩, HBW.out⟩
  go_wp2
  go_loopw [3] (fun i wr => ∃ k : Nat, k ≤ n2 ∧ i = .int .i64 k ∧ wr = W0) (fun i _ => n2 - (intOf i).toNat)
  case atStart => exact ⟨0, Nat.zero_le _, rfl, rfl⟩
  case round =>
    obtain ⟨k, hk, rfl, rfl⟩ := hrel
    by_cases hlt : k < n2
    · obtain ⟨b1, o1, A', c', r, rfl, hb1, hr, hr1, -, -, hrr⟩ := rows_get HDW.out.nxt k hlt
      obtain ⟨m, hm⟩ : ∃ m, r.length = m := ⟨_, rfl⟩
      rw [hm] at hr1
      clear hr hm hrr
      by_cases g4 : (260 : Int) < m
      · skip
        go_wp2
        go_ret
        exact ⟨⟨_, rfl⟩, HBW.out⟩
      go_wp2
      go_roundw
      case rel => exact ⟨k + 1, by omega, by go_num, trivial⟩
      case measure => simp [intOf]; omega
    · obtain rfl : k = n2 := by omega
      go_wp2
      go_ret
      exact ⟨⟨_, rfl⟩, HBW.out⟩
end Go.Proofs.YtoambcpjdcehhaaGreat.Df
