/- Texts: G1, G2, G3, G4. -/
import Derived.Test.YtoambcpjdcehhaaGreatWB
import Derived.Test.YtoambcpjdcehhaaGreatVC
import Derived.RangeFuncNested
import Derived.RangeFuncBound
import Derived.RangeFuncCalls
import Derived.RangeFuncLeaves
import Derived.Shelf.Abstract
import Derived.Shelf.RegionOpen
import Derived.WalkKit
import Derived.OwnWalkIn
import Derived.TacticsInMore
import Derived.LoopNIn
import Derived.LoopIn
import Derived.RangeFuncFrom
import Derived.Test.YtoambcpjdcehhaaGreatRnd
import Derived.Test.YtoambcpjdcehhaaGreatMA
/- The longest match: its plain law; check, leads, Sure. -/
set_option linter.unusedVariables false
set_option linter.unusedSimpArgs false
namespace Go.Proofs.YtoambcpjdcehhaaGreat.Tb
open Go Go.RowKit Go.Proofs.YtoambcpjdcehhaaGreat.Can Go.Proofs.YtoambcpjdcehhaaGreat.Base Go.Proofs.YtoambcpjdcehhaaGreat.Al Go.Proofs.YtoambcpjdcehhaaGreat.Df
attribute [local go_sem] clsB AB.cell

/-- The places and states that are met. -/
def walkL (d : Df) : List UInt8 → Int → Int → List (Int × Int)
  | [], i, s => [(i, s)]
  | b :: l, i, s => (i, s) :: (if s < 0 then [] else walkL d l (i + 1) (nextD d s b.toNat))
def hitM (d : Df) (m : Int × Int) (p : Int × Int) : Int × Int := if 0 ≤ p.2 ∧ 0 ≤ tagD d p.2 then (tagD d p.2, p.1) else m
def matchM (d : Df) (at_ : Int) (l : List (Int × Int)) : Int × Int := l.foldl (hitM d) (-1, at_)
def lastM (l : List (Int × Int)) : Int := (l.getLast?.map (·.2)).getD (-1)
def leadsB (d : Df) (s : Int) : Bool := decide (0 ≤ s) && decide (0 ≤ maxOf (d.nxt.getD s.toNat []))
/-- Rule, end, open. -/
structure Mt where
  rule : Int
  to_ : Int
  opn : Bool
def mtV (m : Mt) : Value := .agg #[.int .i64 m.rule, .int .i64 m.to_, .bool m.opn]
def longM (d : Df) (t : List UInt8) (at_ : Nat) : Mt :=
  ⟨(matchM d at_ (walkL d (t.drop at_) at_ d.st)).1, (matchM d at_ (walkL d (t.drop at_) at_ d.st)).2, leadsB d (lastM (walkL d (t.drop at_) at_ d.st))⟩
theorem matchM_snoc (d : Df) (at_ : Int) (l : List (Int × Int)) (p : Int × Int) : matchM d at_ (l ++ [p]) = hitM d (matchM d at_ l) p := by simp [matchM]
theorem lastM_snoc (l : List (Int × Int)) (p : Int × Int) : lastM (l ++ [p]) = p.2 := by simp [lastM]
theorem walkL_len (d : Df) : ∀ (l : List UInt8) (i s : Int), (walkL d l i s).length ≤ l.length + 1
  | [], i, s => by simp [walkL]
  | b :: l, i, s => by
    have := walkL_len d l (i + 1) (nextD d s b.toNat)
    rw [walkL]
    split <;> simp <;> omega
theorem walkL_neg (d : Df) (l : List UInt8) (i s : Int) (h : s < 0) : walkL d l i s = [(i, s)] := by cases l <;> simp [walkL, h]
theorem walkL_nil (d : Df) (i s : Int) : walkL d [] i s = [(i, s)] := rfl
theorem walkL_cons (d : Df) (b : UInt8) (l : List UInt8) (i s : Int) (h : ¬ s < 0) : walkL d (b :: l) i s = (i, s) :: walkL d l (i + 1) (nextD d s b.toNat) := by rw [walkL, if_neg h]
theorem okD_wid {d : Df} (h : okD d) : 0 < d.wid := by
  obtain ⟨k, _, h2⟩ := okD_cls h (c := 0) (by decide)
  omega
theorem okD_row {d : Df} (h : okD d) {s : Nat} (hs : s < d.nxt.length) : 0 < (d.nxt[s]).length := by
  have := (h.2.1 _ (List.getElem_mem hs)).1
  have := okD_wid h
  omega

theorem mcheck_calls (A1 A2 A3 : Option Addr) (n1 n2 n3 c1 c2 c3 : Nat) (l : Lx) (hr : rightB l = true) (S : Nat → Prop) (mode : Int) (t : ByteArray) (at_ : Int) (w : World) (hL : LX w S A1 A2 A3 n1 n2 n3 l)
    (hm0 : 0 ≤ mode) (hm1 : mode < n1) (ha0 : 0 ≤ at_) (ha1 : at_ ≤ t.size) (ht : t.size ≤ 140737488351232) :
    Calls Tryz.prog 122 #[.agg #[.slice A1 n1 c1, .slice A2 n2 c2, .slice A3 n3 c3], .int .i64 mode, .string t, .int .i64 at_] w fun e w' => e = .returned (.int .i64 0) ∧ Below w.heap.size w w' := by
  have hz1 := hL.modes.le
  have HL := Hd.mk hL; clear hL
  have hv := blk_new w (.cells #[.slice A1 n1 c1, .slice A2 n2 c2, .slice A3 n3 c3] 26 (0, 0)) _ rfl
  have HV := Hd.mk hv; clear hv
  go_enter Tryz.func122, Tryz.ntmps122
  go_wp2_with (go_at_call 18; go_must (refine Calls.mono (tright_calls A1 A2 A3 n1 n2 n3 c1 c2 c3 l true hr S _ (HL.out.below (by repeat (first | (with_reducible assumption) | (with_reducible exact Below.refl _ _) | (with_reducible apply below_drewL) | (with_reducible apply below_alloc) | (with_reducible apply below_drew1) | (with_reducible apply below_drewN) | (refine below_set ?_ (by first | omega | (simp only [size_alloc, size_drew, size_set]; omega)) _ _))))) ?_; rintro e w1 ⟨rfl, hb1⟩; have hv := blk_below HV.out hb1; have hvc0 := blk_cell hv 0 _ rfl; have hvf0 := blk_frozen hv 0; have hvc1 := blk_cell hv 1 _ rfl; have hvf1 := blk_frozen hv 1; have hvc2 := blk_cell hv 2 _ rfl; have hvf2 := blk_frozen hv 2; have hvl := blk_lt hv; have HB := Hd.mk (below_seq (a := w) (by repeat (first | (with_reducible assumption) | (with_reducible exact Below.refl _ _) | (with_reducible apply below_drewL) | (with_reducible apply below_alloc) | (with_reducible apply below_drew1) | (with_reducible apply below_drewN) | (refine below_set ?_ (by first | omega | (simp only [size_alloc, size_drew, size_set]; omega)) _ _))) hb1); clear hb1))
  go_ret
  exact ⟨rfl, HB.out⟩
theorem msure_calls (m : Mt) (c : Bool) (w : World) : Calls Tryz.prog 118 #[mtV m, .bool c] w fun e w' => e = .returned (.bool (c || !m.opn)) ∧ Below w.heap.size w w' := by
  unfold mtV
  cases c with
  | true =>
    go_enter Tryz.func118, Tryz.ntmps118
    go_wp2
    go_ret
    exact ⟨rfl, (by repeat (first | (with_reducible assumption) | (with_reducible exact Below.refl _ _) | (with_reducible apply below_drewL) | (with_reducible apply below_alloc) | (with_reducible apply below_drew1) | (with_reducible apply below_drewN) | (refine below_set ?_ (by first | omega | (simp only [size_alloc, size_drew, size_set]; omega)) _ _)))⟩
  | false =>
    go_enter Tryz.func118, Tryz.ntmps118
    go_wp2
    go_ret
    exact ⟨rfl, (by repeat (first | (with_reducible assumption) | (with_reducible exact Below.refl _ _) | (with_reducible apply below_drewL) | (with_reducible apply below_alloc) | (with_reducible apply below_drew1) | (with_reducible apply below_drewN) | (refine below_set ?_ (by first | omega | (simp only [size_alloc, size_drew, size_set]; omega)) _ _)))⟩
/-- An automaton on a text, as a value. -/
def wayV (A1 A2 A3 : Option Addr) (c1 c2 c3 : Nat) (d : Df) (t : ByteArray) (at_ : Int) : Value := .agg #[.slice A1 d.cls.length c1, .int .i64 d.wid, .slice A2 d.nxt.length c2, .slice A3 d.tag.length c3, .int .i64 d.st, .string t, .int .i64 at_]
theorem mleads_calls (A1 A2 A3 : Option Addr) (c1 c2 c3 : Nat) (d : Df) (t : ByteArray) (at_ s : Int) (S : Nat → Prop) (w : World) (hD : DF w S A1 A2 A3 d.cls.length d.nxt.length d.tag.length d) (hok : okD d) (hs : s < d.nxt.length) :
    Calls Tryz.prog 126 #[wayV A1 A2 A3 c1 c2 c3 d t at_, .int .i64 s] w fun e w' => e = .returned (.bool (leadsB d s)) ∧ Below w.heap.size w w' := by
  unfold wayV
  obtain ⟨n1, hn1⟩ : ∃ n, d.cls.length = n := ⟨_, rfl⟩
  obtain ⟨n2, hn2⟩ : ∃ n, d.nxt.length = n := ⟨_, rfl⟩
  obtain ⟨n3, hn3⟩ : ∃ n, d.tag.length = n := ⟨_, rfl⟩
  obtain ⟨wd, hwd⟩ : ∃ x, d.wid = x := ⟨_, rfl⟩
  obtain ⟨st, hst⟩ : ∃ x, d.st = x := ⟨_, rfl⟩
  have hz2 := hD.nxt.le
  rw [hn1, hn2, hn3] at hD
  rw [hn2] at hs hz2
  have HD := Hd.mk hD; have HOK := Hd.mk hok; have H2 := Hd.mk hn2
  by_cases h0 : s < 0
  · have hl : leadsB d s = false := by unfold leadsB; rw [decide_eq_false (by omega)]; rfl
    rw [hl, hn1, hn2, hn3, hwd, hst]
    clear hD hok hn1 hn2 hn3 hwd hst hl
    go_enter Tryz.func126, Tryz.ntmps126
    go_wp2
    go_ret
    exact ⟨rfl, (by repeat (first | (with_reducible assumption) | (with_reducible exact Below.refl _ _) | (with_reducible apply below_drewL) | (with_reducible apply below_alloc) | (with_reducible apply below_drew1) | (with_reducible apply below_drewN) | (refine below_set ?_ (by first | omega | (simp only [size_alloc, size_drew, size_set]; omega)) _ _)))⟩
  · obtain ⟨k, rfl⟩ : ∃ k : Nat, s = k := ⟨s.toNat, by omega⟩
    obtain ⟨b, o, A', c', r, rfl, hb, hr, hcell, hrc, _, hR⟩ := rows_get hD.nxt k (by omega)
    obtain ⟨q, hq⟩ : ∃ q, maxOf r = q := ⟨_, rfl⟩
    have hl : leadsB d k = decide (0 ≤ q) := by unfold leadsB; rw [decide_eq_true (by omega), Int.toNat_natCast, getD_of hr, hq]; rfl
    have hpos : 0 < r.length := by
      have := okD_row hok (s := k) (by omega)
      obtain ⟨h1, h2⟩ := List.getElem?_eq_some_iff.1 hr
      rw [h2] at this; exact this
    have HR := Hd.mk hR; have HP := Hd.mk hpos; have HQ := Hd.mk hq
    obtain ⟨m, hm⟩ : ∃ m, r.length = m := ⟨_, rfl⟩
    have hzm := hR.le
    rw [hm] at hcell HR HP hzm
    rw [hl, hn1, hn2, hn3, hwd, hst]
    clear hD hok hn1 hn2 hn3 hwd hst hl hR hpos hr hq hm
    by_cases hq0 : 0 ≤ q
    all_goals
      go_enter Tryz.func126, Tryz.ntmps126
      go_wp2_with (go_at_call 100; go_must (refine Calls.mono (max_calls A' m c' r S _ (HR.out.below HD.out.lt (by repeat (first | (with_reducible assumption) | (with_reducible exact Below.refl _ _) | (with_reducible apply below_drewL) | (with_reducible apply below_alloc) | (with_reducible apply below_drew1) | (with_reducible apply below_drewN) | (refine below_set ?_ (by first | omega | (simp only [size_alloc, size_drew, size_set]; omega)) _ _)))) HP.out) ?_; rintro e w1 ⟨he, hw1⟩; rw [HQ.out] at he; subst he; have h9 := hw1.symm; subst h9))
      go_ret
      exact ⟨ret_bool (by simp <;> omega), (by repeat (first | (with_reducible assumption) | (with_reducible exact Below.refl _ _) | (with_reducible apply below_drewL) | (with_reducible apply below_alloc) | (with_reducible apply below_drew1) | (with_reducible apply below_drewN) | (refine below_set ?_ (by first | omega | (simp only [size_alloc, size_drew, size_set]; omega)) _ _)))⟩
end Go.Proofs.YtoambcpjdcehhaaGreat.Tb

/- The iterator over the states. -/
set_option linter.unusedVariables false
set_option linter.unusedSimpArgs false
namespace Go.Proofs.YtoambcpjdcehhaaGreat.Tb
open Go Go.RowKit Go.Shelf Go.Proofs.YtoambcpjdcehhaaGreat.Can Go.Proofs.YtoambcpjdcehhaaGreat.Base Go.Proofs.YtoambcpjdcehhaaGreat.Al
open Go.Proofs.YtoambcpjdcehhaaGreat.Df hiding bl bl_len
attribute [local go_sem] Oper.semAt_some

/-- What a round keeps: these blocks. -/
def Kept (K : Nat → Prop) (W W' : World) : Prop := ∀ k, K k → W'.heap[k]? = W.heap[k]?
theorem Kept.refl (K : Nat → Prop) (W : World) : Kept K W W := fun _ _ => rfl
theorem Kept.trans {K : Nat → Prop} {A B C : World} (h : Kept K A B) (k : Kept K B C) : Kept K A C := fun i hi => (k i hi).trans (h i hi)
theorem Kept.cell {K : Nat → Prop} {A B : World} (h : Kept K A B) {b i : Nat} (hb : K b) : B.cell? ⟨b, i, none⟩ = A.cell? ⟨b, i, none⟩ := World.cell?_of_block (w := A) (h b hb)
theorem _root_.Go.Proofs.YtoambcpjdcehhaaGreat.Df.DF.move {w w' : World} {S : Nat → Prop} {A1 A2 A3 : Option Addr} {n1 n2 n3 : Nat} {d : Df} (h : DF w S A1 A2 A3 n1 n2 n3 d) (hm : ∀ b, S b → w'.heap[b]? = w.heap[b]?) : DF w' S A1 A2 A3 n1 n2 n3 d :=
  ⟨h.cls.move hm, h.nxt.move hm, h.tag.move hm, fun k hk => by
    have h1 := h.lt k hk
    have h2 := hm k hk
    rw [Array.getElem?_eq_getElem h1] at h2
    exact (Array.getElem?_eq_some_iff.1 h2).1⟩
/-- A place and a state that there is. -/
abbrev St (d : Df) := { p : Int × Int // p.2 < (d.nxt.length : Int) }
set_option maxRecDepth 100000 in
set_option maxHeartbeats 4000000 in
theorem states_in (n : Nat) (hn : 1 ≤ n) (l Bx : Nat) (A1 A2 A3 : Option Addr) (c1 c2 c3 : Nat) (d : Df) (hok : okD d) (t : ByteArray) (at_ : Nat) (hat : at_ ≤ t.size) (ht : t.size ≤ 140737488351232) (S : Nat → Prop) (J Jx : List (St d) → World → Prop)
    (hY : ∀ (pre : List (St d)) (x : St d) W, J pre W → pre.length < t.size + 1 → YieldAt Fence.wide (n - 1) Tryz.prog l #[.int .i64 x.1.1, .int .i64 x.1.2] W fun e W' =>
      (e = .returned (.bool true) ∧ J (pre ++ [x]) W' ∧ Kept (fun k => k = Bx ∨ S k) W W') ∨ (e = .returned (.bool false) ∧ Jx (pre ++ [x]) W'))
    (hA : ∀ pre W, J pre W → J pre W.drew) (W : World) (hB : W.heap[Bx]? = some (.cells #[.slice A1 d.cls.length c1, .int .i64 d.wid, .slice A2 d.nxt.length c2, .slice A3 d.tag.length c3, .int .i64 d.st, .string t, .int .i64 at_] 175 (0, 0))) (hD : DF W S A1 A2 A3 d.cls.length d.nxt.length d.tag.length d) (h0 : J [] W) :
    CallsIn Fence.wide n Tryz.prog 127 #[.func (.yield l) #[] #[], .pointer (some ⟨Bx, 0, none⟩)] W fun e W' => (∃ v, e = .returned v) ∧
      ((∃ ys : List (St d), ys.map (·.1) = walkL d ((bl t).drop at_) at_ d.st ∧ J ys W') ∨ (∃ pre, True ∧ Jx pre W')) := by
  refine callsIn_of_wp Tryz.func127 rfl trivial ?_ rfl
  simp only [Tryz.ntmps127, List.size_toArray, List.length_cons, List.length_nil, Nat.reduceAdd, Nat.reduceSub, Array.replicate_succ, Array.replicate_zero, List.push_toArray, List.append_toArray, List.nil_append, List.cons_append]
  obtain ⟨n1, hn1⟩ : ∃ n, d.cls.length = n := ⟨_, rfl⟩
  obtain ⟨n2, hn2⟩ : ∃ n, d.nxt.length = n := ⟨_, rfl⟩
  obtain ⟨n3, hn3⟩ : ∃ n, d.tag.length = n := ⟨_, rfl⟩
  obtain ⟨wd, hwd⟩ : ∃ x, d.wid = x := ⟨_, rfl⟩
  obtain ⟨st, hst⟩ : ∃ x, d.st = x := ⟨_, rfl⟩
  have hm1 := hD.cls.le; have hm2 := hD.nxt.le
  have hst1 : d.st < (d.nxt.length : Int) := hok.1.2.2.2.1
  rw [hn1, hn2, hn3] at hD
  rw [hn1, hn2, hn3, hwd, hst] at hB
  rw [hn2, hst] at hst1
  rw [hn1] at hm1
  rw [hn2] at hm2
  have HN1 := Hd.mk hn1; have HN2 := Hd.mk hn2; have HST := Hd.mk hst; have HOK := Hd.mk hok; have HB := Hd.mk hB; have HD := Hd.mk hD; have H0 := Hd.mk h0; have HY := Hd.mk hY; have HAT := Hd.mk hat; have HA := Hd.mk hA
  have HWL := Hd.mk (walkL_len d)
  have hBc0 := blk_cell hB 0 _ rfl; have hBf0 := blk_frozen hB 0; have hBc1 := blk_cell hB 1 _ rfl; have hBf1 := blk_frozen hB 1; have hBc2 := blk_cell hB 2 _ rfl; have hBf2 := blk_frozen hB 2; have hBc3 := blk_cell hB 3 _ rfl; have hBf3 := blk_frozen hB 3; have hBc4 := blk_cell hB 4 _ rfl; have hBf4 := blk_frozen hB 4; have hBc5 := blk_cell hB 5 _ rfl; have hBf5 := blk_frozen hB 5; have hBc6 := blk_cell hB 6 _ rfl; have hBf6 := blk_frozen hB 6; have hBl := blk_lt hB
  clear hn1 hn2 hn3 hwd hst hok hD hB h0 hY hA
  gi_wp2
  gi_loopw [3, 4] (fun u v wr => ∃ (s : Int) (i : Nat) (pre : List (St d)), u = .int .i64 s ∧ v = .int .i64 i ∧ i ≤ t.size ∧ Hd (at_ ≤ i ∧ pre.length = i - at_) ∧ s < (n2 : Int) ∧ Hd (walkL d ((bl t).drop at_) at_ st = pre.map (·.1) ++ walkL d ((bl t).drop i) i s) ∧ Hd (J pre wr) ∧ Hd (Kept (fun k => k = Bx ∨ S k) W wr)) (fun _ v _ => t.size - (intOf v).toNat)
  case atStart => exact ⟨st, at_, [], rfl, rfl, hat, ⟨Nat.le_refl _, by simp⟩, hst1, ⟨rfl⟩, H0, ⟨Kept.refl _ _⟩⟩
  case round =>
    clear hBc0 hBc1 hBc2 hBc3 hBc4 hBc5 hBc6 hBf0 hBf1 hBf2 hBf3 hBf4 hBf5 hBf6 hBl
    obtain ⟨s, i, pre, rfl, rfl, hi, HP, hs, HW, HJ, HK⟩ := hrel
    have HPL : Hd (pre.length < t.size + 1) := ⟨by have := HP.out; omega⟩
    obtain ⟨fn, tmps, assign, body, hy, hR⟩ := HY.out pre ⟨(i, s), by rw [HN2.out]; exact hs⟩ wr HJ.out HPL.out
    by_cases hs0 : s < 0
    · gi_wp2
      refine hR.mono ?_
      rintro e W3 (⟨rfl, hJ3, hk3⟩ | ⟨rfl, hJx3⟩)
      · have HJ3 := Hd.mk hJ3; have HK3 := Hd.mk hk3
        clear hJ3 hk3 hy hR
        gi_wp2
        go_end0
        exact ⟨⟨_, rfl⟩, .inl ⟨_, by rw [HST.out, HW.out, walkL_neg _ _ _ _ hs0, List.map_append]; rfl, HJ3.out⟩⟩
      · gi_wp2
        go_end0
        exact ⟨⟨_, rfl⟩, .inr ⟨_, trivial, hJx3⟩⟩
    · obtain ⟨k, rfl⟩ : ∃ k : Nat, s = k := ⟨s.toNat, by omega⟩
      by_cases hlt : i < t.size
      · obtain ⟨b, hb⟩ : ∃ b, (bl t)[i]? = some b := ⟨_, List.getElem?_eq_getElem (by rw [bl_len]; exact hlt)⟩
        obtain ⟨r, q, x, hr, hq, hqr, hrq, hnx, hx1, hx2⟩ := okD_next HOK.out (s := k) (c := b.toNat) (by rw [HN2.out]; omega) b.toNat_lt
        have HS : Hd (walkL d ((bl t).drop at_) at_ st = (pre ++ [(⟨((i : Int), (k : Int)), by rw [HN2.out]; exact hs⟩ : St d)]).map (·.1) ++ walkL d ((bl t).drop (i + 1)) ((i + 1 : Nat) : Int) x) := ⟨by
          rw [HW.out, drop_cons hb, walkL_cons _ _ _ _ _ hs0, hnx, List.map_append, List.append_assoc]; rfl⟩
        have hidx := fun W => index_at t i b hb W
        have HR := Hd.mk hr; have HQ := Hd.mk hq; have HRQ := Hd.mk hrq
        rw [HN2.out] at hx2
        clear hr hq hrq hnx hb
        gi_wp2
        refine hR.mono ?_
        rintro e W3 (⟨rfl, hJ3, hk3⟩ | ⟨rfl, hJx3⟩)
        · have HJ3 := Hd.mk hJ3; have HK3 := Hd.mk (HK.out.trans hk3)
          have hD3 := HD.out.move (fun b hb => HK3.out b (.inr hb))
          have hB3 := (HK3.out Bx (.inl rfl)).trans HB.out
          have hB3c0 := blk_cell hB3 0 _ rfl; have hB3f0 := blk_frozen hB3 0; have hB3c1 := blk_cell hB3 1 _ rfl; have hB3f1 := blk_frozen hB3 1; have hB3c2 := blk_cell hB3 2 _ rfl; have hB3f2 := blk_frozen hB3 2; have hB3c3 := blk_cell hB3 3 _ rfl; have hB3f3 := blk_frozen hB3 3; have hB3c4 := blk_cell hB3 4 _ rfl; have hB3f4 := blk_frozen hB3 4; have hB3c5 := blk_cell hB3 5 _ rfl; have hB3f5 := blk_frozen hB3 5; have hB3c6 := blk_cell hB3 6 _ rfl; have hB3f6 := blk_frozen hB3 6; have hB3l := blk_lt hB3
          obtain ⟨b1, o1, A', c', r', he1, hb1, hr', hy1, -, -, hrr⟩ := rows_get hD3.nxt k (by omega)
          obtain rfl : r = r' := Option.some.inj (HR.out.symm.trans hr')
          obtain ⟨b2, o2, k', he2, -, hb2, hk', hy2⟩ := hD3.cls.get_int b.toNat (by have := (List.getElem?_eq_some_iff.1 HQ.out).1; have := HN1.out; omega)
          obtain rfl : (q : Int) = k' := Option.some.inj (HQ.out.symm.trans hk')
          obtain ⟨m, hm⟩ : ∃ m, r.length = m := ⟨_, rfl⟩
          rw [hm] at hy1 hrr hqr
          obtain ⟨b3, o3, x', he3, -, hb3, hx', hy3⟩ := hrr.get_int q hqr
          obtain rfl : x = x' := Option.some.inj (HRQ.out.symm.trans hx')
          have hml := hrr.le
          have hbn : b.toNat < n1 := by have := (List.getElem?_eq_some_iff.1 HQ.out).1; have := HN1.out; omega
          subst he1 he2 he3
          clear hJ3 hk3 hy hR hD3 hr' hk' hx' hrr hm hB3
          gi_wp2
          gi_region
          gi_wp2
          go_roundw
          case rel => exact ⟨x, i + 1, _, rfl, by go_num, by omega, ⟨by have := HP.out; omega, by have := HP.out; simp; omega⟩, hx2, HS, ⟨HA.out _ _ HJ3.out⟩, HK3⟩
          case measure => simp [intOf]; omega
        · gi_wp2
          go_end0
          exact ⟨⟨_, rfl⟩, .inr ⟨_, trivial, hJx3⟩⟩
      · have HIE : Hd (i = t.size) := ⟨by omega⟩
        gi_wp2
        refine hR.mono ?_
        rintro e W3 (⟨rfl, hJ3, hk3⟩ | ⟨rfl, hJx3⟩)
        · have HJ3 := Hd.mk hJ3; have HK3 := Hd.mk (HK.out.trans hk3)
          have hB3 := (HK3.out Bx (.inl rfl)).trans HB.out
          have hB3c0 := blk_cell hB3 0 _ rfl; have hB3f0 := blk_frozen hB3 0; have hB3c1 := blk_cell hB3 1 _ rfl; have hB3f1 := blk_frozen hB3 1; have hB3c2 := blk_cell hB3 2 _ rfl; have hB3f2 := blk_frozen hB3 2; have hB3c3 := blk_cell hB3 3 _ rfl; have hB3f3 := blk_frozen hB3 3; have hB3c4 := blk_cell hB3 4 _ rfl; have hB3f4 := blk_frozen hB3 4; have hB3c5 := blk_cell hB3 5 _ rfl; have hB3f5 := blk_frozen hB3 5; have hB3c6 := blk_cell hB3 6 _ rfl; have hB3f6 := blk_frozen hB3 6; have hB3l := blk_lt hB3
          clear hJ3 hk3 hy hR hB3
          gi_wp2
          go_end0
          exact ⟨⟨_, rfl⟩, .inl ⟨_, by rw [HST.out, HW.out, HIE.out, List.drop_eq_nil_of_le (by rw [bl_len]; exact Nat.le_refl _), walkL_nil, List.map_append]; rfl, HJ3.out⟩⟩
        · gi_wp2
          go_end0
          exact ⟨⟨_, rfl⟩, .inr ⟨_, trivial, hJx3⟩⟩
theorem longest1_calls (m : Mt) (T : Nat) (x y z : Value) (w : World) (hT : w.heap[T]? = some (.cells #[x, y, z] 166 (0, 0))) :
    Calls Tryz.prog 124 #[mtV m, .pointer (some ⟨T, 0, none⟩)] w fun e w' => e = .returned (.tuple #[]) ∧ w'.heap[T]? = some (.cells #[.int .i64 m.rule, .int .i64 m.to_, .bool m.opn] 166 (0, 0)) ∧ Fr (fun b => b = T) w w' := by
  unfold mtV
  have hTc0 := blk_cell hT 0 _ rfl; have hTf0 := blk_frozen hT 0; have hTc1 := blk_cell hT 1 _ rfl; have hTf1 := blk_frozen hT 1; have hTc2 := blk_cell hT 2 _ rfl; have hTf2 := blk_frozen hT 2; have hTl := blk_lt hT
  go_enter Tryz.func124, Tryz.ntmps124
  go_wp2
  go_end0
  refine ⟨rfl, blk_alloc (blk_set (blk_set (blk_set hT 0 _ _ rfl) 1 _ _ rfl) 2 _ _ rfl) _, ?_⟩
  exact Fr.alloc (Fr.set (Fr.set (Fr.set (Fr.refl (fun b => b = T) w) (.inl rfl) _ _) (.inl rfl) _ _) (.inl rfl) _ _) _
theorem mstates_calls (A1 A2 A3 : Option Addr) (c1 c2 c3 : Nat) (d : Df) (t : ByteArray) (at_ : Int) (w : World) :
    Calls Tryz.prog 125 #[wayV A1 A2 A3 c1 c2 c3 d t at_] w fun e w' => e = .returned (.func (.func 127) #[] #[.pointer (some ⟨w.heap.size, 0, none⟩)]) ∧ w' = w.alloc (.cells #[.slice A1 d.cls.length c1, .int .i64 d.wid, .slice A2 d.nxt.length c2, .slice A3 d.tag.length c3, .int .i64 d.st, .string t, .int .i64 at_] 175) := by
  unfold wayV
  obtain ⟨n1, hn1⟩ : ∃ n, d.cls.length = n := ⟨_, rfl⟩
  obtain ⟨n2, hn2⟩ : ∃ n, d.nxt.length = n := ⟨_, rfl⟩
  obtain ⟨n3, hn3⟩ : ∃ n, d.tag.length = n := ⟨_, rfl⟩
  rw [hn1, hn2, hn3]
  clear hn1 hn2 hn3
  go_enter Tryz.func125, Tryz.ntmps125
  have hmf : ∀ (fn : Fn) (first cap : Array Value) (w : World), (Instr.makeFunc fn first cap).run Tryz.prog w = .ok (.func fn first cap) w := fun _ _ _ _ => rfl
  go_wp2
  go_ret
  exact ⟨rfl, rfl⟩
end Go.Proofs.YtoambcpjdcehhaaGreat.Tb

/- Each match: what is the last one. -/
set_option linter.unusedVariables false
set_option linter.unusedSimpArgs false
namespace Go.Proofs.YtoambcpjdcehhaaGreat.Tb
open Go Go.RowKit Go.Shelf Go.Proofs.YtoambcpjdcehhaaGreat.Can Go.Proofs.YtoambcpjdcehhaaGreat.Base Go.Proofs.YtoambcpjdcehhaaGreat.Al
open Go.Proofs.YtoambcpjdcehhaaGreat.Df hiding bl bl_len
attribute [local go_sem] Oper.semAt_some clsB AB.cell

theorem kept_b {K : Nat → Prop} {w : World} (hK : ∀ k, K k → k < w.heap.size) (W : World) (l : Nat) (o o' : Obj) (hl : w.heap.size ≤ l) (_ : W.heap[l]? = some o) (_ : o.isCells = false) (_ : o.isWalk = false) : Kept K W (W.putObj l o') := fun k hk =>
  World.putObj_heap_other (by have := hK k hk; omega)
theorem Fr.put {X : Nat → Prop} {w W : World} {D : Nat} (h : Fr X w W) (hD : w.heap.size ≤ D) (o : Obj) : Fr X w (W.putObj D o) :=
  ⟨h.zero.grown (grownBy_putObj' W D o) (Nat.zero_le _) (fun _ _ => Nat.zero_le _), fun b hb hx => (World.putObj_heap_other (by omega)).trans (h.same b hb hx)⟩
/-- Blocks below B abide what the law turns. -/
theorem turn_keeps {W W' : World} {row : Option Nat} {B k : Nat} (hg : W.grownBy W' row) (hr : ∀ r, row = some r → B ≤ r ∧ ∃ o : Obj, W.heap[r]? = some o ∧ o.isCells = false) (hk : k < B) (hkW : k < W.heap.size) : W'.heap[k]? = W.heap[k]? :=
  hg.block k hkW (fun h => by have := (hr k h.symm).1; omega)
theorem keepsO_fr {X : Nat → Prop} {W W' : World} (h : Fr X W W') (hX : ∀ k o, X k → W.heap[k]? = some o → o.isCells = true) : KeepsOthers W W' :=
  ⟨h.size, fun k o hk ho => (h.same k (blk_lt hk) (fun hx => by rw [hX k o hx hk] at ho; cases ho)).trans hk⟩
theorem grown_drew (w : World) (row : Option Nat) : w.grownBy w.drew row := ⟨rfl, rfl, rfl, Nat.le_refl _, fun _ _ _ => rfl⟩
theorem states_stops (n : Nat) (hn : 1 ≤ n) (Bx : Nat) (A1 A2 A3 : Option Addr) (c1 c2 c3 : Nat) (d : Df) (hok : okD d) (t : ByteArray) (at_ : Nat) (hat : at_ ≤ t.size) (ht : t.size ≤ 140737488351232) (S : Nat → Prop) (w : World)
    (hB : w.heap[Bx]? = some (.cells #[.slice A1 d.cls.length c1, .int .i64 d.wid, .slice A2 d.nxt.length c2, .slice A3 d.tag.length c3, .int .i64 d.st, .string t, .int .i64 at_] 175 (0, 0))) (hD : DF w S A1 A2 A3 d.cls.length d.nxt.length d.tag.length d) :
    SeqStopsK Fence.wide n Tryz.prog 127 #[.pointer (some ⟨Bx, 0, none⟩)] (fun x : St d => #[Value.int .i64 x.1.1, .int .i64 x.1.2]) (Kept (fun k => k = Bx ∨ S k)) (fun ys => ys.map (·.1) = walkL d ((bl t).drop at_) at_ d.st) (fun _ => True) (t.size + 1) w := fun l J Jx W hW hJa _ hY hJ =>
  states_in n hn l Bx A1 A2 A3 c1 c2 c3 d hok t at_ hat ht S J Jx hY (fun pre W h => hJa pre W _ none h (grown_drew W none) (fun r e => by cases e)) W ((hW.block Bx (blk_lt hB)).trans hB) (hD.below hW) hJ
theorem last_lt {d : Df} (ys : List (St d)) : lastM (ys.map (·.1)) < (d.nxt.length : Int) := by
  rcases List.eq_nil_or_concat ys with rfl | ⟨l, x, rfl⟩
  · show (-1 : Int) < _; omega
  · rw [List.concat_eq_append, List.map_append, List.map_cons, List.map_nil, lastM_snoc]; exact x.2
set_option maxRecDepth 100000 in
set_option maxHeartbeats 4000000 in
theorem meach_calls (A1 A2 A3 : Option Addr) (c1 c2 c3 T : Nat) (d : Df) (hok : okD d) (t : ByteArray) (at_ : Nat) (hat : at_ ≤ t.size) (ht : t.size ≤ 140737488351232) (S : Nat → Prop) (w : World)
    (hD : DF w S A1 A2 A3 d.cls.length d.nxt.length d.tag.length d) (hST : ¬ S T) (hT : w.heap[T]? = some (.cells #[.int .i64 (-1), .int .i64 at_, .bool false] 166 (0, 0))) :
    Calls Tryz.prog 123 #[wayV A1 A2 A3 c1 c2 c3 d t at_, .func (.func 124) #[] #[.pointer (some ⟨T, 0, none⟩)]] w fun e w' =>
      e = .returned (.bool (leadsB d (lastM (walkL d ((bl t).drop at_) at_ d.st)))) ∧ w'.heap[T]? = some (.cells #[.int .i64 (matchM d at_ (walkL d ((bl t).drop at_) at_ d.st)).1, .int .i64 (matchM d at_ (walkL d ((bl t).drop at_) at_ d.st)).2, .bool false] 166 (0, 0)) ∧ Fr (fun b => b = T) w w' := by
  refine (callsIn_wide (n := 6)).1 ?_
  refine callsIn_of_wp_marks Tryz.func123 rfl trivial ?_ rfl
  simp only [Tryz.ntmps123, List.size_toArray, List.length_cons, List.length_nil, Nat.reduceAdd, Nat.reduceSub, Array.replicate_succ, Array.replicate_zero, List.push_toArray, List.append_toArray, List.nil_append, List.cons_append]
  have hTl := blk_lt hT
  have HD := Hd.mk hD; have HT := Hd.mk hT; have HOK := Hd.mk hok; have HST := Hd.mk hST; have HAT := Hd.mk hat; have HTS := Hd.mk ht
  have HMS := Hd.mk (mstates_calls A1 A2 A3 c1 c2 c3 d t at_)
  have HLE := Hd.mk (mleads_calls A1 A2 A3 c1 c2 c3 d t at_)
  have HTG : Hd (d.tag.length = d.nxt.length) := ⟨hok.1.2.1⟩
  have htle := hD.tag.le
  unfold wayV at HMS HLE ⊢
  obtain ⟨n1, hn1⟩ : ∃ n, d.cls.length = n := ⟨_, rfl⟩
  obtain ⟨n2, hn2⟩ : ∃ n, d.nxt.length = n := ⟨_, rfl⟩
  obtain ⟨n3, hn3⟩ : ∃ n, d.tag.length = n := ⟨_, rfl⟩
  obtain ⟨wd, hwd⟩ : ∃ x, d.wid = x := ⟨_, rfl⟩
  obtain ⟨st, hst⟩ : ∃ x, d.st = x := ⟨_, rfl⟩
  have HN1 := Hd.mk hn1; have HN2 := Hd.mk hn2; have HN3 := Hd.mk hn3; have HST2 := Hd.mk hst; have HWD := Hd.mk hwd
  rw [hn1, hn2, hn3, hwd, hst] at HMS
  rw [hn1, hn2, hn3] at HD
  rw [hn1, hn2, hn3, hwd, hst] at HLE
  rw [hn1, hn2, hn3, hwd, hst]
  rw [hn3] at htle
  clear hD hT hok hST hat ht hn1 hn2 hn3 hwd hst
  gi_wp2_with (refine ⟨trivial, ?_⟩; gi_at_call 125; refine (callsIn_wide.2 (HMS.out _)).mono ?_; rintro e w' ⟨rfl, rfl⟩)
  generalize hV : World.alloc _ _ = V
  have HBV : Below w.heap.size w V := below_of hV (by repeat (first | (with_reducible assumption) | (with_reducible exact Below.refl _ _) | (with_reducible apply below_drewL) | (with_reducible apply below_alloc) | (with_reducible apply below_drew1) | (with_reducible apply below_drewN) | (refine below_set ?_ (by first | omega | (simp only [size_alloc, size_drew, size_set]; omega)) _ _)))
  have zV : Hd (V.heap.size = w.heap.size + 1 + 1 + 1 + 1) := ⟨by rw [← hV]; simp only [size_alloc]⟩
  have V0 := at_of hV (blk_alloc (blk_alloc (blk_alloc (blk_new _ _ _ rfl) _) _) _)
  have V0l := blk_lt V0
  have V1 := at_of hV (blk_alloc (blk_alloc (blk_new _ _ _ rfl) _) _)
  simp only [size_alloc] at V1
  have V1l := blk_lt V1
  have V2 := at_of hV (blk_alloc (blk_new _ _ _ rfl) _)
  simp only [size_alloc] at V2
  have V2l := blk_lt V2
  have V3 := at_of hV (blk_new _ _ _ rfl)
  simp only [size_alloc] at V3
  have V3l := blk_lt V3
  clear hV
  have hzV : V.heap.size = w.heap.size + 4 := by rw [zV.out]
  have HV := Hd.mk HBV
  obtain ⟨Bx, hBx⟩ : ∃ Bx, w.heap.size + 1 + 1 + 1 = Bx := ⟨_, rfl⟩
  rw [hBx] at V3 V3l ⊢
  obtain ⟨Bl, hBl⟩ : ∃ Bl, w.heap.size + 1 + 1 = Bl := ⟨_, rfl⟩
  rw [hBl] at V2 V2l ⊢
  have HDV := Hd.mk (HD.out.below HBV)
  have HSEQ := states_stops 5 (by omega) Bx A1 A2 A3 c1 c2 c3 d HOK.out t at_ HAT.out HTS.out S V (by rw [HN1.out, HN2.out, HN3.out, HWD.out, HST2.out]; exact V3) (by rw [HN1.out, HN2.out, HN3.out]; exact HDV.out)
  have hTV := blk_below HT.out HBV
  have HI0 := And.intro hTV (And.intro V2 (And.intro V0 (And.intro V1 (And.intro (Fr.of_below (X := fun k => k = T) HBV) (Nat.le_refl V.heap.size)))))
  have HSL : Hd (∀ k, S k → k < w.heap.size) := ⟨HD.out.lt⟩
  have HKL : Hd (∀ k, (k = Bx ∨ S k) → k < V.heap.size) := ⟨fun k hk => hk.elim (fun h => by omega) (fun h => by have := HSL.out k h; omega)⟩
  have HKT : Hd (∀ k, (k = Bx ∨ S k) → ¬ k = T) := ⟨fun k hk => hk.elim (fun h => by omega) (fun h h2 => HST.out (by rw [← h2]; exact h))⟩
  have HKB : Hd (∀ k, (k = Bx ∨ S k) → ¬ k = Bl) := ⟨fun k hk => hk.elim (fun h => by omega) (fun h => by have := HSL.out k h; omega)⟩
  clear V0 V1 V2 V3 V0l V1l V2l V3l zV HBV hTV
  refine wpIn_rangeFunc_ownF rfl (by omega) (gf := 127) (lb := #[.pointer (some ⟨Bx, 0, none⟩)]) rfl trivial (enters_of Tryz.func127 (by kernel_rfl) rfl)
    HSEQ (fun h k => h.trans k) (kept_b HKL.out) (Below.refl _ _) (fun _ => rfl)
    (fun pre W => W.heap[T]? = some (.cells #[.int .i64 (matchM d at_ (pre.map (·.1))).1, .int .i64 (matchM d at_ (pre.map (·.1))).2, .bool false] 166 (0, 0)) ∧ W.heap[Bl]? = some (.cells #[.int .i64 (lastM (pre.map (·.1)))] 3 (0, 0)) ∧ W.heap[w.heap.size]? = some (.cells #[.slice A1 n1 c1, .int .i64 wd, .slice A2 n2 c2, .slice A3 n3 c3, .int .i64 st, .string t, .int .i64 at_] 175 (0, 0)) ∧ W.heap[w.heap.size + 1]? = some (.cells #[.func (.func 124) #[] #[.pointer (some ⟨T, 0, none⟩)]] 177 (0, 0)) ∧ Fr (fun k => k = T) w W ∧ V.heap.size ≤ W.heap.size)
    (fun _ _ _ => False)
    (fun s A B row hs hg hr => ⟨(turn_keeps hg hr (by omega) (blk_lt hs.1)).trans hs.1, (turn_keeps hg hr (by omega) (blk_lt hs.2.1)).trans hs.2.1, (turn_keeps hg hr (by omega) (blk_lt hs.2.2.1)).trans hs.2.2.1, (turn_keeps hg hr (by omega) (blk_lt hs.2.2.2.1)).trans hs.2.2.2.1, ⟨hs.2.2.2.2.1.zero.grown hg (Nat.zero_le _) (fun _ _ => Nat.zero_le _), fun b hb hx => (turn_keeps hg hr (by omega) (by have := hs.2.2.2.2.2; omega)).trans (hs.2.2.2.2.1.same b hb hx)⟩, Nat.le_trans hs.2.2.2.2.2 hg.size⟩)
    (fun _ _ _ _ _ hs _ _ => hs)
    HI0
    (fun x => { tmps := #[.agg #[.slice A1 n1 c1, .int .i64 wd, .slice A2 n2 c2, .slice A3 n3 c3, .int .i64 st, .string t, .int .i64 at_], .func (.func 124) #[] #[.pointer (some ⟨T, 0, none⟩)], .pointer (some ⟨w.heap.size, 0, none⟩), .pointer (some ⟨w.heap.size + 1, 0, none⟩), .bool false, .pointer (some ⟨Bl, 0, none⟩), .int .i64 x.1.1, .int .i64 x.1.2, .agg #[.slice A1 n1 c1, .int .i64 wd, .slice A2 n2 c2, .slice A3 n3 c3, .int .i64 st, .string t, .int .i64 at_], .func (.func 127) #[] #[.pointer (some ⟨Bx, 0, none⟩)], .int .i64 x.1.1, .int .i64 x.1.2, undef, undef, undef, undef, undef, undef, undef, undef, undef, undef, undef, undef, undef, undef, undef, undef, undef, undef, undef, undef, undef, undef, undef, undef, undef], defers := [] }) ?assign ?body ?done ?stop
  case assign =>
    intro l x W K hK
    gi_wp2
    exact hK
  case body =>
    clear HI0 HSEQ
    rintro l pre ⟨⟨i, s⟩, hs⟩ W ⟨hT, hL, hw, hf, hF, hVW⟩ _
    have hs' : s < (d.nxt.length : Int) := hs
    have HTW := Hd.mk hT; have HLW := Hd.mk hL; have HWW := Hd.mk hw; have HFW := Hd.mk hf; have HF := Hd.mk hF
    have hDW := HD.out.move (fun b hb => hF.same b (HSL.out b hb) (fun h => HST.out (by rw [← h]; exact hb)))
    have HDW := Hd.mk hDW
    rw [HN2.out] at hs'
    have hTB : ¬ T = Bl := by omega
    have hwB : ¬ w.heap.size = Bl := by omega
    have hwB1 : ¬ w.heap.size + 1 = Bl := by omega
    have hLc0 := blk_cell hL 0 _ rfl; have hLf0 := blk_frozen hL 0; have hLl := blk_lt hL
    have hwc0 := blk_cell hw 0 _ rfl; have hwf0 := blk_frozen hw 0; have hwc1 := blk_cell hw 1 _ rfl; have hwf1 := blk_frozen hw 1; have hwc2 := blk_cell hw 2 _ rfl; have hwf2 := blk_frozen hw 2; have hwc3 := blk_cell hw 3 _ rfl; have hwf3 := blk_frozen hw 3; have hwc4 := blk_cell hw 4 _ rfl; have hwf4 := blk_frozen hw 4; have hwc5 := blk_cell hw 5 _ rfl; have hwf5 := blk_frozen hw 5; have hwc6 := blk_cell hw 6 _ rfl; have hwf6 := blk_frozen hw 6; have hwl := blk_lt hw
    have hfc0 := blk_cell hf 0 _ rfl; have hff0 := blk_frozen hf 0; have hfl := blk_lt hf
    by_cases h0 : s < 0
    · have HE : Hd (hitM d (matchM d at_ (pre.map (·.1))) (i, s) = matchM d at_ (pre.map (·.1))) := ⟨by unfold hitM; rw [if_neg (by rintro ⟨h, -⟩; exact absurd h (by omega))]⟩
      clear hT hL hw hf hF hDW
      gi_wp2
      have hfs := Fr.set (X := fun k => k = Bl) (Fr.refl _ W) (.inl rfl) 0 (.int .i64 s)
      refine ⟨KeepsOthers.setCell _ _ _, ?_, ?_⟩
      · intro k hk
        have hk1 : k < W.heap.size ∧ ¬ k = Bl := ⟨by have := HKL.out k hk; omega, HKB.out k hk⟩
        exact hfs.same k hk1.1 hk1.2
      · dsimp only
        simp only [List.map_append, List.map_cons, List.map_nil, matchM_snoc, lastM_snoc, HE.out]
        exact ⟨blk_far HTW.out hTB _, blk_set HLW.out 0 _ _ rfl, blk_far HWW.out hwB _, blk_far HFW.out hwB1 _, HF.out.set (.inr (by omega)) 0 _, by rw [size_set]; omega⟩
    · obtain ⟨k, rfl⟩ : ∃ k : Nat, s = k := ⟨s.toNat, by omega⟩
      obtain ⟨b3, o3, x, he3, hSb3, hb3, hx3, hy3⟩ := hDW.tag.get_int k (by have := HTG.out; rw [HN2.out, HN3.out] at this; omega)
      have hk3 : k < n3 := by have := HTG.out; rw [HN2.out, HN3.out] at this; omega
      have htg : tagD d k = x := tagD_at hx3
      subst he3
      have hb3B : ¬ b3 = Bl := HKB.out b3 (.inr hSb3)
      by_cases hx0 : 0 ≤ x
      · have HE : Hd (hitM d (matchM d at_ (pre.map (·.1))) (i, (k : Int)) = (x, i)) := ⟨by unfold hitM; rw [if_pos ⟨by omega, by rw [htg]; exact hx0⟩, htg]⟩
        clear hT hL hF hDW htg
        gi_wp2
        generalize hU : World.setCell _ _ _ = U
        have hwU := blk_far HWW.out (p := ⟨Bl, 0, none⟩) hwB (.int .i64 (k : Int))
        have hfU := blk_far HFW.out (p := ⟨Bl, 0, none⟩) hwB1 (.int .i64 (k : Int))
        rw [hU] at hwU hfU
        have HTU : Hd (U.heap[T]? = some (.cells #[.int .i64 (matchM d at_ (pre.map (·.1))).1, .int .i64 (matchM d at_ (pre.map (·.1))).2, .bool false] 166 (0, 0))) := ⟨by rw [← hU]; exact blk_far HTW.out hTB _⟩
        have HLU : Hd (U.heap[Bl]? = some (.cells #[.int .i64 (k : Int)] 3 (0, 0))) := ⟨by rw [← hU]; exact blk_set HLW.out 0 _ _ rfl⟩
        have hyU : U.cell? ⟨b3, o3 + k, none⟩ = some (.int .i64 x) := by rw [← hU]; exact (World.cell?_of_block (w := W) (Below.heap_setCell W ⟨Bl, 0, none⟩ _ b3 hb3B)).trans hy3
        have HFU : Hd (Fr (fun b => b = T) w U) := ⟨by rw [← hU]; exact HF.out.set (.inr (by omega)) 0 _⟩
        have HKO : Hd (KeepsOthers W U) := ⟨by rw [← hU]; exact KeepsOthers.setCell _ _ _⟩
        have HZU : Hd (U.heap.size = W.heap.size) := ⟨by rw [← hU, size_set]⟩
        have HSU : Hd (∀ k, k < W.heap.size → ¬ k = Bl → U.heap[k]? = W.heap[k]?) := ⟨fun k _ h => by rw [← hU]; exact Below.heap_setCell W ⟨Bl, 0, none⟩ _ k h⟩
        have hb3U : b3 < U.heap.size := by rw [HZU.out]; exact hb3
        clear hU hLc0 hLf0 hLl hwc0 hwc1 hwc2 hwc3 hwc4 hwc5 hwc6 hwf0 hwf1 hwf2 hwf3 hwf4 hwf5 hwf6 hwl hfc0 hff0 hfl hy3 hb3 hw hf
        have hwUc0 := blk_cell hwU 0 _ rfl; have hwUf0 := blk_frozen hwU 0; have hwUc1 := blk_cell hwU 1 _ rfl; have hwUf1 := blk_frozen hwU 1; have hwUc2 := blk_cell hwU 2 _ rfl; have hwUf2 := blk_frozen hwU 2; have hwUc3 := blk_cell hwU 3 _ rfl; have hwUf3 := blk_frozen hwU 3; have hwUc4 := blk_cell hwU 4 _ rfl; have hwUf4 := blk_frozen hwU 4; have hwUc5 := blk_cell hwU 5 _ rfl; have hwUf5 := blk_frozen hwU 5; have hwUc6 := blk_cell hwU 6 _ rfl; have hwUf6 := blk_frozen hwU 6; have hwUl := blk_lt hwU
        have hfUc0 := blk_cell hfU 0 _ rfl; have hfUf0 := blk_frozen hfU 0; have hfUl := blk_lt hfU
        refine wpIn_region_can (.q [0, 1, 2, 3, 4, 5, 6, 7, 8] (.e 9 false (.done))) (clsB _) (by kernel_rfl) (by rintro ⟨_, _, h_⟩; exact h_) (by kernel_rfl) (by kernel_rfl) (by intro _ _ d _ _ h; cases d <;> exact h) (clsB_drew _) ?_
        refine can_q (l := [⟨_,_,_,_,_,_⟩, ⟨_,_,_,_,_,_⟩, ⟨_,_,_,_,_,_⟩, ⟨_,_,_,_,_,_⟩, ⟨_,_,_,_,_,_⟩, ⟨_,_,_,_,_,_⟩, ⟨_,_,_,_,_,_⟩, ⟨_,_,_,_,_,_⟩, ⟨_,_,_,_,_,_⟩]) rfl ?_
        repeat (go_big_quiet_step (fail))
        refine wpQuiet_nil ?_
        refine can_e (o := ⟨_,_,_,_,_,_⟩) rfl (fun K hK => ?_)
        go_wp2_with (go_at_call 124; go_must (refine Calls.mono (longest1_calls ⟨x, i, false⟩ T _ _ _ _ (blk_drew HTU.out)) ?_; rintro e w2 ⟨rfl, hT2, hF2⟩))
        refine onK_normal (hK _ _ ⟨fun _ => True, trivial, (fun h => by cases h), ?_⟩)
        clear hK K
        refine can_done ?_
        have hz2 := hF2.size
        rw [heap_drew, HZU.out] at hz2
        refine ⟨(HKO.out.trans (KeepsOthers.drew U)).trans (keepsO_fr hF2 (fun k o hx ho => ?_)), ?_, ?_⟩
        · subst hx; rw [heap_drew, HTU.out] at ho; cases ho; rfl
        · intro k hk
          have hk1 : k < W.heap.size ∧ ¬ k = Bl := ⟨by have := HKL.out k hk; omega, HKB.out k hk⟩
          exact (hF2.same k (by rw [heap_drew, HZU.out]; exact hk1.1) (HKT.out k hk)).trans (HSU.out k hk1.1 hk1.2)
        · dsimp only
          simp only [List.map_append, List.map_cons, List.map_nil, matchM_snoc, lastM_snoc, HE.out]
          refine ⟨hT2, (hF2.same Bl (by rw [heap_drew, HZU.out]; omega) (fun h => hTB h.symm)).trans HLU.out, (hF2.same w.heap.size (by rw [heap_drew, HZU.out]; omega) (by omega)).trans hwU, (hF2.same (w.heap.size + 1) (by rw [heap_drew, HZU.out]; omega) (by omega)).trans hfU, (HFU.out.drew).trans hF2, by omega⟩
      · have HE : Hd (hitM d (matchM d at_ (pre.map (·.1))) (i, (k : Int)) = matchM d at_ (pre.map (·.1))) := ⟨by unfold hitM; rw [if_neg (by rw [htg]; rintro ⟨-, h⟩; exact hx0 h)]⟩
        clear hT hL hw hf hF hDW htg hx3
        gi_wp2
        have hfs := Fr.set (X := fun k => k = Bl) (Fr.refl _ W) (.inl rfl) 0 (.int .i64 (k : Int))
        refine ⟨KeepsOthers.setCell _ _ _, ?_, ?_⟩
        · intro k hk
          have hk1 : k < W.heap.size ∧ ¬ k = Bl := ⟨by have := HKL.out k hk; omega, HKB.out k hk⟩
          exact hfs.same k hk1.1 hk1.2
        · dsimp only
          simp only [List.map_append, List.map_cons, List.map_nil, matchM_snoc, lastM_snoc, HE.out]
          exact ⟨blk_far HTW.out hTB _, blk_set HLW.out 0 _ _ rfl, blk_far HWW.out hwB _, blk_far HFW.out hwB1 _, HF.out.set (.inr (by omega)) 0 _, by rw [size_set]; omega⟩
  case done =>
    clear HSEQ HI0
    rintro D ys W hD hys ⟨hT, hL, hw, hf, hF, hVW⟩ hK
    have hlt := last_lt ys
    rw [hys] at hT hL hlt
    have HT := Hd.mk hT; have HF := Hd.mk hF
    obtain ⟨la, hla⟩ : ∃ la, lastM (walkL d ((bl t).drop at_) at_ d.st) = la := ⟨_, rfl⟩
    have HLA := Hd.mk hla
    rw [hla] at hL hlt
    rw [HN2.out] at hlt
    have HLC := Hd.mk (HLE.out la S W (HD.out.move (fun b hb => HF.out.same b (HSL.out b hb) (fun h => HST.out (by rw [← h]; exact hb)))) HOK.out hlt)
    clear hT hF hla
    have hLc0 := blk_cell hL 0 _ rfl; have hLf0 := blk_frozen hL 0; have hLl := blk_lt hL
    have hwc0 := blk_cell hw 0 _ rfl; have hwf0 := blk_frozen hw 0; have hwc1 := blk_cell hw 1 _ rfl; have hwf1 := blk_frozen hw 1; have hwc2 := blk_cell hw 2 _ rfl; have hwf2 := blk_frozen hw 2; have hwc3 := blk_cell hw 3 _ rfl; have hwf3 := blk_frozen hw 3; have hwc4 := blk_cell hw 4 _ rfl; have hwf4 := blk_frozen hw 4; have hwc5 := blk_cell hw 5 _ rfl; have hwf5 := blk_frozen hw 5; have hwc6 := blk_cell hw 6 _ rfl; have hwf6 := blk_frozen hw 6; have hwl := blk_lt hw
    clear hL hw
    gi_wp2_with (refine ⟨trivial, ?_⟩; gi_at_call 126; refine (callsIn_wide.2 HLC.out).mono ?_; rintro e w2 ⟨rfl, hb2⟩)
    have hz := HF.out.size
    have hz2 := hb2.size
    refine ⟨by simp, .inl ⟨_, _, rfl, run_takeDeferred ((hb2.block D (blk_lt hK)).trans hK), ?_⟩⟩
    rw [← HST2.out]
    refine ⟨_, results_tmp rfl _ _ _, by rw [HLA.out]; rfl, ?_, ?_⟩
    · exact (World.putObj_heap_other (by omega)).trans (blk_below HT.out hb2)
    · exact Fr.put (HF.out.trans (Fr.of_below hb2)) (by omega) _
  case stop =>
    rintro D c pre W _ _ h _
    exact h.elim
end Go.Proofs.YtoambcpjdcehhaaGreat.Tb

/- What Longest computes. -/
set_option linter.unusedVariables false
set_option linter.unusedSimpArgs false
namespace Go.Proofs.YtoambcpjdcehhaaGreat.Tb
open Go Go.RowKit Go.Proofs.YtoambcpjdcehhaaGreat.Can Go.Proofs.YtoambcpjdcehhaaGreat.Base Go.Proofs.YtoambcpjdcehhaaGreat.Al
open Go.Proofs.YtoambcpjdcehhaaGreat.Df hiding bl bl_len
attribute [local go_sem] clsB AB.cell
open Go.Proofs.YtoambcpjdcehhaaGreat.Fn (cell_tmp_row)

theorem right_parts {l : Lx} (h : rightB l = true) : l.dfas.length = l.modes.length ∧ (∀ d ∈ l.dfas, okD d ∧ tagD d d.st < 0 ∧ ∀ t ∈ d.tag, t < (l.acts.length : Int)) ∧ (∀ a ∈ l.acts, -1 ≤ a.2 ∧ a.2 < (l.modes.length : Int)) ∧ l.modes.length ≤ 16 ∧ l.acts.length ≤ 128 := by
  unfold rightB at h
  simp only [Bool.and_eq_true, decide_eq_true_eq, List.all_eq_true] at h
  obtain ⟨⟨⟨⟨⟨⟨h1, h2⟩, h3⟩, h4⟩, h5⟩, h6⟩, h7⟩ := h
  refine ⟨h5, fun d hd => ?_, fun a ha => ?_, h2, h4⟩
  · have := h7 d hd
    unfold dfaB at this
    simp only [Bool.and_eq_true, decide_eq_true_eq, List.all_eq_true] at this
    exact ⟨this.1.1, this.1.2, fun t ht => this.2 t ht⟩
  · have := h6 a ha
    unfold actB at this
    simp only [Bool.and_eq_true, decide_eq_true_eq] at this
    exact ⟨this.1.2, this.2⟩
set_option maxRecDepth 20000 in
set_option maxHeartbeats 2000000 in
theorem longest_calls (A1 A2 A3 : Option Addr) (n1 n2 n3 c1 c2 c3 : Nat) (l : Lx) (hr : rightB l = true) (S : Nat → Prop) (mode : Nat) (d : Df) (hd : l.dfas[mode]? = some d) (t : ByteArray) (at_ : Nat) (w : World) (hL : LX w S A1 A2 A3 n1 n2 n3 l)
    (ha1 : at_ ≤ t.size) (ht : t.size ≤ 140737488351232) :
    Calls Tryz.prog 117 #[.agg #[.slice A1 n1 c1, .slice A2 n2 c2, .slice A3 n3 c3], .int .i64 mode, .string t, .int .i64 at_] w fun e w' => e = .returned (.tuple #[mtV (longM d (bl t) at_), .int .i64 0]) ∧ Below w.heap.size w w' := by
  have hz1 := hL.modes.le; have hz2 := hL.dfas.le
  have hm2 : mode < n2 := by rw [← hL.dfas.1]; exact (List.getElem?_eq_some_iff.1 hd).1
  have hm1 : mode < n1 := by rw [← hL.modes.1, ← (right_parts hr).1, hL.dfas.1]; exact hm2
  have HOK := Hd.mk ((right_parts hr).2.1 d (List.mem_of_getElem? hd)).1
  obtain ⟨b2, o2, d', B1, B2, B3, e1, e2, e3, rfl, hb2, hd', q0, q1, q2, q3, q4, hDF⟩ := d_get hL.lt hL.dfas mode hm2
  obtain rfl : d = d' := Option.some.inj (hd.symm.trans hd')
  have HL := Hd.mk hL; have HDF := Hd.mk hDF; clear hL hDF hd hd'
  have HQ := Hd.mk (And.intro q0 (And.intro q1 (And.intro q2 (And.intro q3 q4))))
  clear q0 q1 q2 q3 q4
  have HE := fun T W hDW hST hT => meach_calls B1 B2 B3 e1 e2 e3 T d HOK.out t at_ ha1 ht S W hDW hST hT
  have HE := Hd.mk HE
  unfold wayV at HE
  have HLM : Hd (longM d (bl t) at_ = ⟨(matchM d at_ (walkL d ((bl t).drop at_) at_ d.st)).1, (matchM d at_ (walkL d ((bl t).drop at_) at_ d.st)).2, leadsB d (lastM (walkL d ((bl t).drop at_) at_ d.st))⟩) := ⟨rfl⟩
  generalize longM d (bl t) at_ = lm at HLM ⊢
  generalize matchM d at_ (walkL d ((bl t).drop at_) at_ d.st) = mm at HE HLM
  generalize leadsB d (lastM (walkL d ((bl t).drop at_) at_ d.st)) = op at HE HLM
  obtain ⟨k1, hk1⟩ : ∃ n, d.cls.length = n := ⟨_, rfl⟩
  obtain ⟨k2, hk2⟩ : ∃ n, d.nxt.length = n := ⟨_, rfl⟩
  obtain ⟨k3, hk3⟩ : ∃ n, d.tag.length = n := ⟨_, rfl⟩
  obtain ⟨wd, hwd⟩ : ∃ x, d.wid = x := ⟨_, rfl⟩
  obtain ⟨st, hst⟩ : ∃ x, d.st = x := ⟨_, rfl⟩
  rw [hk1, hk2, hk3, hwd, hst] at HQ HE
  rw [hk1, hk2, hk3] at HDF
  clear hk1 hk2 hk3 hwd hst HOK
  have hv0 := blk_alloc (blk_new w (.cells #[.slice A1 n1 c1, .slice (some ⟨b2, o2, none⟩) n2 c2, .slice A3 n3 c3] 26 (0, 0)) _ rfl) (.cells #[.int .i64 0, .int .i64 0, .bool false] 166 (0, 0))
  have hv1 := blk_new (w.alloc (.cells #[.slice A1 n1 c1, .slice (some ⟨b2, o2, none⟩) n2 c2, .slice A3 n3 c3] 26 (0, 0))) (.cells #[.int .i64 0, .int .i64 0, .bool false] 166 (0, 0)) (w.heap.size + 1) (by rw [size_alloc])
  have HV0 := Hd.mk hv0; have HV1 := Hd.mk hv1; clear hv0 hv1
  have hmf : ∀ (fn : Fn) (first cap : Array Value) (w : World), (Instr.makeFunc fn first cap).run Tryz.prog w = .ok (.func fn first cap) w := fun _ _ _ _ => rfl
  go_enter Tryz.func117, Tryz.ntmps117
  go_wp2_with (first
    | (go_at_call 123; go_must (refine Calls.mono (HE.out w1.heap.size _ (HDF.out.below (by have hB_ := HB1.out; exact (by repeat (first | (with_reducible assumption) | (with_reducible exact Below.refl _ _) | (with_reducible apply below_drewL) | (with_reducible apply below_alloc) | (with_reducible apply below_drew1) | (with_reducible apply below_drewN) | (refine below_set ?_ (by first | omega | (simp only [size_alloc, size_drew, size_set]; omega)) _ _))))) (fun h => by have h1_ := HDF.out.lt _ h; have h2_ := HB1.out.size; omega) (blk_new _ _ _ rfl)) ?_; rintro e w3 ⟨rfl, hT3, hF3⟩; have hu1 := hF3.blk (blk_alloc hv1 _) (fun h => by omega); clear hv1c0 hv1f0 hv1c1 hv1f1 hv1c2 hv1f2 hv1l; have hu1c0 := blk_cell hu1 0 _ rfl; have hu1f0 := blk_frozen hu1 0; have hu1c1 := blk_cell hu1 1 _ rfl; have hu1f1 := blk_frozen hu1 1; have hu1c2 := blk_cell hu1 2 _ rfl; have hu1f2 := blk_frozen hu1 2; have hu1l := blk_lt hu1; have hT3c0 := blk_cell hT3 0 _ rfl; have hT3f0 := blk_frozen hT3 0; have hT3c1 := blk_cell hT3 1 _ rfl; have hT3f1 := blk_frozen hT3 1; have hT3c2 := blk_cell hT3 2 _ rfl; have hT3f2 := blk_frozen hT3 2; have hT3l := blk_lt hT3))
    | (go_at_call 122; go_must (refine Calls.mono (mcheck_calls A1 (some ⟨b2, o2, none⟩) A3 n1 n2 n3 c1 c2 c3 l hr S mode t at_ _ (HL.out.below (by repeat (first | (with_reducible assumption) | (with_reducible exact Below.refl _ _) | (with_reducible apply below_drewL) | (with_reducible apply below_alloc) | (with_reducible apply below_drew1) | (with_reducible apply below_drewN) | (refine below_set ?_ (by first | omega | (simp only [size_alloc, size_drew, size_set]; omega)) _ _)))) (by omega) (by omega) (by omega) (by omega) ht) ?_; rintro e w1 ⟨rfl, hb1⟩; have HB1 := Hd.mk (below_seq (a := w) (by repeat (first | (with_reducible assumption) | (with_reducible exact Below.refl _ _) | (with_reducible apply below_drewL) | (with_reducible apply below_alloc) | (with_reducible apply below_drew1) | (with_reducible apply below_drewN) | (refine below_set ?_ (by first | omega | (simp only [size_alloc, size_drew, size_set]; omega)) _ _))) hb1); have hv0 := blk_below HV0.out hb1; have hv1 := blk_below HV1.out hb1; have hv0c0 := blk_cell hv0 0 _ rfl; have hv0f0 := blk_frozen hv0 0; have hv0c1 := blk_cell hv0 1 _ rfl; have hv0f1 := blk_frozen hv0 1; have hv0c2 := blk_cell hv0 2 _ rfl; have hv0f2 := blk_frozen hv0 2; have hv0l := blk_lt hv0; have hv1c0 := blk_cell hv1 0 _ rfl; have hv1f0 := blk_frozen hv1 0; have hv1c1 := blk_cell hv1 1 _ rfl; have hv1f1 := blk_frozen hv1 1; have hv1c2 := blk_cell hv1 2 _ rfl; have hv1f2 := blk_frozen hv1 2; have hv1l := blk_lt hv1; have hlt9 := blk_lt hv1; have hne9 : ¬ w.heap.size + 1 = w1.heap.size := (by omega); have hne8 : ¬ w1.heap.size = w.heap.size + 1 := (by omega); obtain ⟨q0, q1, q2, q3, q4⟩ := HQ.out; rw [← HB1.out.cell (p := ⟨b2, o2 + mode * 5, none⟩) hb2] at q0; rw [← HB1.out.cell (p := ⟨b2, o2 + mode * 5 + 1, none⟩) hb2] at q1; rw [← HB1.out.cell (p := ⟨b2, o2 + mode * 5 + 2, none⟩) hb2] at q2; rw [← HB1.out.cell (p := ⟨b2, o2 + mode * 5 + 3, none⟩) hb2] at q3; rw [← HB1.out.cell (p := ⟨b2, o2 + mode * 5 + 4, none⟩) hb2] at q4; have hb2' : b2 < w1.heap.size := (by have := HB1.out.size; omega))))
  rw [HLM.out]
  refine bodyPost_ret (cell_tmp_row rfl _ _ (w.heap.size + 1) 166 #[.int .i64 mm.1, .int .i64 mm.2, .bool op] (0, 0) _ rfl ?_ Tryz.underlying166 rfl (by kernel_rfl)) rfl ⟨rfl, ?_⟩
  · exact blk_set (blk_set (blk_set (blk_far hu1 hne9 _) 0 _ _ rfl) 1 _ _ rfl) 2 _ _ rfl
  · have hB1 := HB1.out
    have hz9 := hB1.size
    have hA := below_alloc hB1 (.cells #[.int .i64 (-1), .int .i64 at_, .bool false] 166 (0, 0))
    have hB3 : Below w.heap.size w w3 := Fr.seq hA hF3 hA.size (fun b hb hx => by omega)
    have hz3 := hB3.size
    exact (by repeat (first | (with_reducible assumption) | (with_reducible exact Below.refl _ _) | (with_reducible apply below_drewL) | (with_reducible apply below_alloc) | (with_reducible apply below_drew1) | (with_reducible apply below_drewN) | (refine below_set ?_ (by first | omega | (simp only [size_alloc, size_drew, size_set]; omega)) _ _)))
end Go.Proofs.YtoambcpjdcehhaaGreat.Tb
