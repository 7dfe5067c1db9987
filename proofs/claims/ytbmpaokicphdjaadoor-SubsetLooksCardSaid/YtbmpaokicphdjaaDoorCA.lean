/- Texts: C1, C2, C3. -/
import Derived.Test.YtbmpaokicphdjaaDoorS5
import Derived.Deep.DeepCutAuto
import Derived.Deep.CutBlock
set_option linter.unusedVariables false
set_option linter.unusedSimpArgs false
/- Automata that may be in many states, as they are read; the sets of states that they come to: plain. -/
namespace Go.Proofs.YtbmpaokicphdjaaDoor.Fn
open Go Go.RowKit Go.Proofs.YtbmpaokicphdjaaDoor.Can Go.Proofs.YtbmpaokicphdjaaDoor.Base

/-- A state. -/
structure St where
  lo : Int
  hi : Int
  dst : Int
  eps : List Int
  tag : Int
def stT : Ty St := Ty.iso (Ty.pair I (Ty.pair I (Ty.pair I (Ty.pair (Ty.slice I (by decide)) I)))) (fun x : St => (x.lo, x.hi, x.dst, x.eps, x.tag))
theorem st_get {w : World} {S : Nat → Prop} {A : Option Addr} {n : Nat} {l : List St} (h : Row stT w S A n l) (k : Nat) (hk : k < n) :
    ∃ b off x A' c', A = some ⟨b, off, none⟩ ∧ b < w.heap.size ∧ l[k]? = some x ∧ w.cell? ⟨b, off + k * 5, none⟩ = some (.int .i64 x.lo) ∧ w.cell? ⟨b, off + k * 5 + 1, none⟩ = some (.int .i64 x.hi) ∧ w.cell? ⟨b, off + k * 5 + 2, none⟩ = some (.int .i64 x.dst) ∧ w.cell? ⟨b, off + k * 5 + 3, none⟩ = some (.slice A' x.eps.length c') ∧ w.cell? ⟨b, off + k * 5 + 4, none⟩ = some (.int .i64 x.tag) ∧ Row I w S A' x.eps.length x.eps := by
  obtain ⟨b, off, cs, he, hs, ⟨c0, r0, rfl, h0, c1, r1, rfl, h1, c2, r2, rfl, h2, c3, c4, rfl, ⟨A', c', e3, _, _, hr⟩, h4⟩, hcell⟩ := h.get k hk
  have h0' : c0 = [.int .i64 _] := h0
  have h1' : c1 = [.int .i64 _] := h1
  have h2' : c2 = [.int .i64 _] := h2
  have h4' : c4 = [.int .i64 _] := h4
  subst h0' h1' h2' e3 h4'
  have q0 := hcell 0 _ rfl
  exact ⟨b, off, _, A', c', he, World.block_lt_of_cell? w _ q0, List.getElem?_eq_getElem _, q0, hcell 1 _ rfl, hcell 2 _ rfl, hcell 3 _ rfl, hcell 4 _ rfl, hr⟩
/-- May a state be, of so many? -/
def okS (n : Nat) (x : St) : Prop := (∀ k ∈ x.eps, 0 ≤ k ∧ k < n) ∧ -1 ≤ x.tag ∧ ((x.lo = -1 ∧ x.hi = -1 ∧ x.dst = -1) ∨ (0 ≤ x.lo ∧ x.lo ≤ x.hi ∧ x.hi ≤ 255 ∧ 0 ≤ x.dst ∧ x.dst < n))
instance (n : Nat) (x : St) : Decidable (okS n x) := by unfold okS; infer_instance
def okN (st : Int) (q : List St) : Prop := (0 ≤ st ∧ st < q.length) ∧ ∀ x ∈ q, okS q.length x
instance (st : Int) (q : List St) : Decidable (okN st q) := by unfold okN; infer_instance

/-! ### Sets of states, as rows of marks -/
/-- What is come to from some, by these steps. -/
inductive Cl (E : Nat → Nat → Prop) (X : Nat → Prop) : Nat → Prop
  | base {k : Nat} : X k → Cl E X k
  | step {i k : Nat} : Cl E X i → E i k → Cl E X k
theorem Cl.mono {E E' : Nat → Nat → Prop} {X X' : Nat → Prop} (hE : ∀ i k, E i k → E' i k) (hX : ∀ k, X k → X' k) {k : Nat} (h : Cl E X k) : Cl E' X' k := by
  induction h with
  | base h => exact .base (hX _ h)
  | step _ he ih => exact .step ih (hE _ _ he)
/-- The least set that has X and is closed. -/
theorem Cl.least {E : Nat → Nat → Prop} {X Y : Nat → Prop} (hX : ∀ k, X k → Y k) (hE : ∀ i k, Y i → E i k → Y k) {k : Nat} (h : Cl E X k) : Y k := by
  induction h with
  | base h => exact hX _ h
  | step _ he ih => exact hE _ _ ih he
def isIn (m : List Bool) (k : Nat) : Prop := m.getD k false = true
instance (m : List Bool) (k : Nat) : Decidable (isIn m k) := by unfold isIn; infer_instance
theorem isIn_lt {m : List Bool} {k : Nat} (h : isIn m k) : k < m.length := by
  rcases Nat.lt_or_ge k m.length with h1 | h1
  · exact h1
  · unfold isIn at h
    rw [List.getD_eq_getElem?_getD, List.getElem?_eq_none h1] at h
    cases h
theorem marks_ext {a b : List Bool} (hl : a.length = b.length) (h : ∀ k, isIn a k ↔ isIn b k) : a = b := by
  apply List.ext_getElem hl
  intro i h1 h2
  have := h i
  unfold isIn at this
  rw [List.getD_eq_getElem?_getD, List.getD_eq_getElem?_getD, List.getElem?_eq_getElem h1, List.getElem?_eq_getElem h2] at this
  simp only [Option.getD_some] at this
  cases ha : a[i] <;> cases hb : b[i] <;> simp_all
/-- The marks of a set. -/
noncomputable def marksP (n : Nat) (X : Nat → Prop) : List Bool := by
  classical
  exact (List.range n).map fun i => decide (X i)
theorem marksP_len (n : Nat) (X : Nat → Prop) : (marksP n X).length = n := by unfold marksP; rw [List.length_map, List.length_range]
theorem marksP_in (n : Nat) (X : Nat → Prop) (k : Nat) : isIn (marksP n X) k ↔ k < n ∧ X k := by
  classical
  unfold isIn marksP
  rw [List.getD_eq_getElem?_getD, List.getElem?_map]
  rcases Nat.lt_or_ge k n with h | h
  · rw [List.getElem?_range h]
    simp [h]
  · rw [List.getElem?_eq_none (by rw [List.length_range]; exact h)]
    simp
    omega
def epsE (q : List St) (i k : Nat) : Prop := ∃ x, q[i]? = some x ∧ (k : Int) ∈ x.eps
def anyE (q : List St) (i k : Nat) : Prop := ∃ x, q[i]? = some x ∧ ((k : Int) ∈ x.eps ∨ (0 ≤ x.lo ∧ x.dst = (k : Int)))
/-- What goes on by a byte. -/
def byteE (q : List St) (c : Nat) (i k : Nat) : Prop := ∃ x, q[i]? = some x ∧ 0 ≤ x.lo ∧ x.lo ≤ (c : Int) ∧ (c : Int) ≤ x.hi ∧ x.dst = (k : Int)
noncomputable def closeM (E : List St → Nat → Nat → Prop) (q : List St) (m : List Bool) : List Bool := marksP q.length (Cl (E q) (isIn m))
noncomputable def startM (st : Int) (q : List St) : List Bool := closeM epsE q (marksP q.length fun k => (k : Int) = st)
noncomputable def stepM (q : List St) (c : Nat) (m : List Bool) : List Bool := closeM epsE q (marksP q.length fun k => ∃ i, isIn m i ∧ byteE q c i k)
noncomputable def runM (st : Int) (q : List St) (t : List UInt8) : List Bool := t.foldl (fun m c => stepM q c.toNat m) (startM st q)
theorem closeM_len (E : List St → Nat → Nat → Prop) (q : List St) (m : List Bool) : (closeM E q m).length = q.length := marksP_len _ _
/-- The steps stay among the states. -/
def Stays (E : Nat → Nat → Prop) (n : Nat) : Prop := ∀ i k, E i k → k < n
theorem epsE_stays {st : Int} {q : List St} (h : okN st q) : Stays (epsE q) q.length := by
  rintro i k ⟨x, hx, hk⟩
  have := (h.2 x (List.mem_of_getElem? hx)).1 _ hk
  omega
theorem anyE_stays {st : Int} {q : List St} (h : okN st q) : Stays (anyE q) q.length := by
  rintro i k ⟨x, hx, hk | ⟨h1, h2⟩⟩
  · have := (h.2 x (List.mem_of_getElem? hx)).1 _ hk
    omega
  · rcases (h.2 x (List.mem_of_getElem? hx)).2.2 with ⟨h3, _⟩ | ⟨_, _, _, _, h3⟩ <;> omega
theorem closeM_in {E : List St → Nat → Nat → Prop} {q : List St} {m : List Bool} (hs : Stays (E q) q.length) (hm : m.length ≤ q.length) (k : Nat) : isIn (closeM E q m) k ↔ Cl (E q) (isIn m) k := by
  unfold closeM
  rw [marksP_in]
  constructor
  · exact fun h => h.2
  · intro h
    refine ⟨?_, h⟩
    cases h with
    | base h => have := isIn_lt h; omega
    | step _ he => exact hs _ _ he
/-- It is told by: has m, is closed, and is come to. -/
theorem closeM_eq {E : List St → Nat → Nat → Prop} {q : List St} {m r : List Bool} (hs : Stays (E q) q.length) (hm : m.length ≤ q.length) (hr : r.length = q.length) (h1 : ∀ k, isIn m k → isIn r k) (h2 : ∀ i k, isIn r i → E q i k → isIn r k) (h3 : ∀ k, isIn r k → Cl (E q) (isIn m) k) : r = closeM E q m :=
  marks_ext (by rw [hr, closeM_len]) fun k => by rw [closeM_in hs hm]; exact ⟨h3 k, fun h => h.least h1 h2⟩
/-- The least tag. -/
def bestF (b : Int) (x : St) (y : Bool) : Int := if y = true ∧ 0 ≤ x.tag ∧ (b < 0 ∨ x.tag < b) then x.tag else b
def bestM (q : List St) (m : List Bool) : Int := (List.range q.length).foldl (fun b i => match q[i]? with | some x => bestF b x (m.getD i false) | none => b) (-1)
noncomputable def aliveM (q : List St) (m : List Bool) : Bool := decide (0 ≤ bestM q (closeM anyE q m))
end Go.Proofs.YtbmpaokicphdjaaDoor.Fn

/- May an automaton be? The program's word. -/
namespace Go.Proofs.YtbmpaokicphdjaaDoor.Fn
open Go Go.RowKit Go.Proofs.YtbmpaokicphdjaaDoor.Can Go.Proofs.YtbmpaokicphdjaaDoor.Base
attribute [local go_sem] clsB AB.cell

def quietB (x : St) : Bool := decide (x.lo = -1 ∧ x.hi = -1 ∧ x.dst = -1)
def goesB (n : Nat) (x : St) : Bool := decide (0 ≤ x.lo ∧ x.lo ≤ x.hi ∧ x.hi ≤ 255 ∧ 0 ≤ x.dst ∧ x.dst < n)
theorem okS_of {n : Nat} {x : St} (h : ∀ k ∈ x.eps, 0 ≤ k ∧ k < n) : decide (okS n x) = (decide (-1 ≤ x.tag) && (quietB x || goesB n x)) := by
  unfold okS quietB goesB
  rw [← Bool.decide_or, ← Bool.decide_and]
  exact decide_eq_decide.2 ⟨fun h' => h'.2, fun h' => ⟨h, h'⟩⟩
theorem okS_no {n : Nat} {x : St} {k : Int} (hk : k ∈ x.eps) (h : ¬ (0 ≤ k ∧ k < n)) : decide (okS n x) = false := decide_eq_false fun h' => h (h'.1 k hk)
set_option maxHeartbeats 2000000 in
theorem right_calls (x : St) (n : Nat) (A : Option Addr) (c : Nat) (S : Nat → Prop) (w : World) (hS : ∀ k, S k → k < w.heap.size) (hC : Row I w S A x.eps.length x.eps) :
    Calls Tryd.prog 110 #[.agg #[.int .i64 x.lo, .int .i64 x.hi, .int .i64 x.dst, .slice A x.eps.length c, .int .i64 x.tag], .int .i64 n] w fun e w' => e = .returned (.bool (decide (okS n x))) ∧ Below w.heap.size w w' := by
  obtain ⟨m, hm⟩ : ∃ m, x.eps.length = m := ⟨_, rfl⟩
  rw [hm] at hC ⊢
  have hmN := hC.le
  obtain ⟨r, hr⟩ : ∃ r, decide (okS n x) = r := ⟨_, rfl⟩
  rw [hr]
  have HC := Hd.mk hC; have HS := Hd.mk hS; have HR := Hd.mk hr; have HM := Hd.mk hm
  clear hC hS hr hm
  obtain ⟨qb, hqb⟩ : ∃ b, quietB x = b := ⟨_, rfl⟩
  obtain ⟨gb, hgb⟩ : ∃ b, goesB n x = b := ⟨_, rfl⟩
  have HQB := Hd.mk hqb; have HGB := Hd.mk hgb
  have HOK : Hd (∀ k ∈ x.eps, 0 ≤ k ∧ k < n → True) := ⟨fun _ _ _ => trivial⟩
  clear hqb hgb HOK
  obtain ⟨lo, hi, dst, eps, tag⟩ := x
  dsimp only at *
  go_enter Tryd.func110, Tryd.ntmps110
  go_wp2
  generalize hV : World.alloc _ _ = V
  have HBV : Below w.heap.size w V := below_of hV (by repeat (first | (with_reducible assumption) | (with_reducible exact Below.refl _ _) | (with_reducible apply below_drewL) | (with_reducible apply below_alloc) | (with_reducible apply below_drew1) | (with_reducible apply below_drewN) | (refine below_set ?_ (by first | omega | (simp only [size_alloc, size_drew, size_set]; omega)) _ _)))
  have zV : Hd (V.heap.size = w.heap.size + 1) := ⟨by rw [← hV]; simp only [size_alloc]⟩
  have V0 := at_of hV (blk_new _ _ _ rfl)
  have V0l := blk_lt V0
  clear hV
  have V0c0 := blk_cell V0 0 _ rfl; have V0f0 := blk_frozen V0 0; have V0c1 := blk_cell V0 1 _ rfl; have V0f1 := blk_frozen V0 1; have V0c2 := blk_cell V0 2 _ rfl; have V0f2 := blk_frozen V0 2; have V0c3 := blk_cell V0 3 _ rfl; have V0f3 := blk_frozen V0 3; have V0c4 := blk_cell V0 4 _ rfl; have V0f4 := blk_frozen V0 4; have V0l := blk_lt V0
  have HV := Hd.mk HBV
  clear zV HBV
  go_loopw [12] (fun i wr => ∃ k : Nat, k ≤ m ∧ i = .int .i64 k ∧ Hd (∀ y ∈ eps.take k, 0 ≤ y ∧ y < (n : Int)) ∧ V = wr) (fun i _ => m - (intOf i).toNat)
  case atStart => exact ⟨0, Nat.zero_le _, rfl, ⟨by simp⟩, rfl⟩
  case round =>
    obtain ⟨k, hk, rfl, HP, rfl⟩ := hrel
    by_cases hlt : k < m
    · obtain ⟨b, off, y, rfl, _, hb, hy, hcell⟩ := (HC.out.below HS.out HV.out).get_int k hlt
      have HT : Hd (eps.take (k + 1) = eps.take k ++ [y]) := ⟨by rw [List.take_add_one, hy]; rfl⟩
      have HY := Hd.mk hy
      clear hy
      by_cases hy0 : y < 0
      · obtain rfl : r = false := by rw [← HR.out]; exact okS_no (List.mem_of_getElem? HY.out) (by omega)
        go_wp2
        go_ret
        exact ⟨rfl, HV.out⟩
      · by_cases hyn : (n : Int) ≤ y
        · obtain rfl : r = false := by rw [← HR.out]; exact okS_no (List.mem_of_getElem? HY.out) (by omega)
          go_wp2
          go_ret
          exact ⟨rfl, HV.out⟩
        · have HP2 : Hd (∀ z ∈ eps.take (k + 1), 0 ≤ z ∧ z < (n : Int)) := ⟨fun z hz => by
            rw [HT.out] at hz
            rcases List.mem_append.1 hz with h | h
            · exact HP.out z h
            · rw [List.mem_singleton.1 h]; omega⟩
          go_wp2
          go_roundw
          case rel => exact ⟨k + 1, by omega, by go_num, HP2, (by first | trivial | rfl)⟩
          case measure => simp [intOf]; omega
    · obtain rfl : k = m := by omega
      have HALL : Hd (∀ z ∈ eps, 0 ≤ z ∧ z < (n : Int)) := ⟨by have := HP.out; rwa [← HM.out, List.take_length] at this⟩
      clear HP
      go_upto_region 7 with fail
      go_cut [7] (fun v wx => v = .bool qb ∧ V = wx)
      case first =>
        by_cases h1 : lo = -1
        · by_cases h2 : hi = -1
          · by_cases h3 : dst = -1
            · obtain rfl : qb = true := by rw [← HQB.out]; exact decide_eq_true ⟨h1, h2, h3⟩
              subst h1 h2 h3
              go_wp2
              go_meet
              case rel => exact ⟨rfl, rfl⟩
            · obtain rfl : qb = false := by rw [← HQB.out]; exact decide_eq_false fun h => h3 h.2.2
              have j3 : (dst == -1) = false := by simpa using h3
              subst h1 h2
              clear h3
              go_wp2
              go_meet
              case rel => exact ⟨rfl, rfl⟩
          · obtain rfl : qb = false := by rw [← HQB.out]; exact decide_eq_false fun h => h2 h.2.1
            have j2 : (hi == -1) = false := by simpa using h2
            subst h1
            clear h2
            go_wp2
            go_meet
            case rel => exact ⟨rfl, rfl⟩
        · obtain rfl : qb = false := by rw [← HQB.out]; exact decide_eq_false fun h => h1 h.1
          have j1 : (lo == -1) = false := by simpa using h1
          clear h1
          go_wp2
          go_meet
          case rel => exact ⟨rfl, rfl⟩
      case rest =>
        obtain ⟨rfl, rfl⟩ := hcut
        go_upto_region 8 with fail
        go_cut [8] (fun v wx => v = .bool gb ∧ V = wx)
        case first =>
          by_cases h1 : 0 ≤ lo
          · by_cases h2 : lo ≤ hi
            · by_cases h3 : hi ≤ 255
              · by_cases h4 : 0 ≤ dst
                · by_cases h5 : dst < (n : Int)
                  · obtain rfl : gb = true := by rw [← HGB.out]; exact decide_eq_true ⟨h1, h2, h3, h4, h5⟩
                    go_wp2
                    go_meet
                    case rel => exact ⟨rfl, rfl⟩
                  · obtain rfl : gb = false := by rw [← HGB.out]; exact decide_eq_false fun h => h5 h.2.2.2.2
                    go_wp2
                    go_meet
                    case rel => exact ⟨rfl, rfl⟩
                · obtain rfl : gb = false := by rw [← HGB.out]; exact decide_eq_false fun h => h4 h.2.2.2.1
                  go_wp2
                  go_meet
                  case rel => exact ⟨rfl, rfl⟩
              · obtain rfl : gb = false := by rw [← HGB.out]; exact decide_eq_false fun h => h3 h.2.2.1
                go_wp2
                go_meet
                case rel => exact ⟨rfl, rfl⟩
            · obtain rfl : gb = false := by rw [← HGB.out]; exact decide_eq_false fun h => h2 h.2.1
              go_wp2
              go_meet
              case rel => exact ⟨rfl, rfl⟩
          · obtain rfl : gb = false := by rw [← HGB.out]; exact decide_eq_false fun h => h1 h.1
            go_wp2
            go_meet
            case rel => exact ⟨rfl, rfl⟩
        case rest =>
          obtain ⟨rfl, rfl⟩ := hcut
          have hR : (decide (-1 ≤ tag) && (qb || gb)) = r := by rw [← HR.out, ← HQB.out, ← HGB.out]; exact (okS_of (x := ⟨lo, hi, dst, eps, tag⟩) HALL.out).symm
          have HRR := Hd.mk hR
          clear hR
          by_cases ht : -1 ≤ tag
          · have e1 : r = (qb || gb) := by rw [← HRR.out, decide_eq_true ht, Bool.true_and]
            cases qb with
            | true =>
              subst e1
              go_wp2
              go_ret
              exact ⟨rfl, HV.out⟩
            | false =>
              subst e1
              go_wp2
              go_ret
              exact ⟨by first | rfl | (cases r <;> rfl), HV.out⟩
          · obtain rfl : r = false := by rw [← HRR.out, decide_eq_false ht]; rfl
            go_wp2
            go_ret
            exact ⟨rfl, HV.out⟩
end Go.Proofs.YtbmpaokicphdjaaDoor.Fn

/- May an automaton be? Right, check. -/
namespace Go.Proofs.YtbmpaokicphdjaaDoor.Fn
open Go Go.RowKit Go.Proofs.YtbmpaokicphdjaaDoor.Can Go.Proofs.YtbmpaokicphdjaaDoor.Base
attribute [local go_sem] clsB AB.cell

theorem okN_no {st : Int} {q : List St} {x : St} (hx : x ∈ q) (h : decide (okS q.length x) = false) : decide (okN st q) = false := decide_eq_false fun h' => (of_decide_eq_false h) (h'.2 x hx)
theorem Right_calls (st : Int) (A : Option Addr) (c : Nat) (q : List St) (S : Nat → Prop) (w : World) (hS : ∀ k, S k → k < w.heap.size) (hC : Row stT w S A q.length q) :
    Calls Tryd.prog 90 #[.agg #[.int .i64 st, .slice A q.length c]] w fun e w' => e = .returned (.bool (decide (okN st q))) ∧ Below w.heap.size w w' := by
  obtain ⟨n, hn⟩ : ∃ m, q.length = m := ⟨_, rfl⟩
  rw [hn] at hC ⊢
  have hmN := hC.le
  obtain ⟨r, hr⟩ : ∃ r, decide (okN st q) = r := ⟨_, rfl⟩
  rw [hr]
  have HC := Hd.mk hC; have HS := Hd.mk hS; have HR := Hd.mk hr; have HN := Hd.mk hn
  clear hC hS hr hn
  go_enter Tryd.func90, Tryd.ntmps90
  go_wp2
  generalize hV : World.alloc _ _ = V
  have HBV : Below w.heap.size w V := below_of hV (by repeat (first | (with_reducible assumption) | (with_reducible exact Below.refl _ _) | (with_reducible apply below_drewL) | (with_reducible apply below_alloc) | (with_reducible apply below_drew1) | (with_reducible apply below_drewN) | (refine below_set ?_ (by first | omega | (simp only [size_alloc, size_drew, size_set]; omega)) _ _)))
  have zV : Hd (V.heap.size = w.heap.size + 1) := ⟨by rw [← hV]; simp only [size_alloc]⟩
  have V0 := at_of hV (blk_new _ _ _ rfl)
  have V0l := blk_lt V0
  clear hV
  have HV := Hd.mk HBV; have HV0 := Hd.mk V0
  have V0c0 := blk_cell V0 0 _ rfl; have V0f0 := blk_frozen V0 0; have V0c1 := blk_cell V0 1 _ rfl; have V0f1 := blk_frozen V0 1; have V0l := blk_lt V0
  clear zV HBV
  go_wp2
  go_loopw [8] (fun i wr => ∃ k : Nat, k ≤ n ∧ i = .int .i64 k ∧ Hd (∀ x ∈ q.take k, okS n x) ∧ Hd (Below V.heap.size V wr)) (fun i _ => n - (intOf i).toNat)
  case atStart => exact ⟨0, Nat.zero_le _, rfl, ⟨by simp⟩, ⟨Below.refl _ _⟩⟩
  case round =>
    clear V0c0 V0f0 V0c1 V0f1 V0l
    obtain ⟨k, hk, rfl, HP, HB⟩ := hrel
    have hv := blk_below HV0.out HB.out
    have hvc0 := blk_cell hv 0 _ rfl; have hvf0 := blk_frozen hv 0; have hvc1 := blk_cell hv 1 _ rfl; have hvf1 := blk_frozen hv 1; have hvl := blk_lt hv
    by_cases hlt : k < n
    · obtain ⟨b, off, x, A', c', rfl, hb, hx, h0, h1, h2, h3, h4, hrow⟩ := st_get (HC.out.below HS.out (below_seq HV.out HB.out)) k hlt
      have HT : Hd (q.take (k + 1) = q.take k ++ [x]) := ⟨by rw [List.take_add_one, hx]; rfl⟩
      have HX := Hd.mk hx; have HROW := Hd.mk hrow
      obtain ⟨ne, hne⟩ : ∃ m, x.eps.length = m := ⟨_, rfl⟩
      rw [hne] at h3
      have HNE := Hd.mk hne
      obtain ⟨ok, hok⟩ : ∃ b, decide (okS n x) = b := ⟨_, rfl⟩
      have HOK := Hd.mk hok
      clear hx hrow hne hok
      cases ok with
      | true =>
        go_wp2_with (go_at_call 110; go_must (have h9 := right_calls x n A' c' S (World.alloc wr (.cells #[.int .i64 x.lo, .int .i64 x.hi, .int .i64 x.dst, .slice A' ne c', .int .i64 x.tag] 71)) (fun q hq => by rw [size_alloc]; have := HS.out q hq; have := HV.out.size; have := HB.out.size; omega) (HROW.out.below (fun q hq => by have := HS.out q hq; have := HV.out.size; have := HB.out.size; omega) (below_alloc (Below.refl _ _) _)); rw [HNE.out, HOK.out] at h9; refine Calls.mono h9 ?_; clear h9; rintro e w2 ⟨rfl, hb2⟩; have HB2 := Hd.mk (below_seq (below_alloc (Below.refl _ _) _) hb2); clear hb2))
        go_roundw
        case rel =>
          refine ⟨k + 1, by omega, by go_num, ⟨fun y hy => ?_⟩, ⟨below_seq HB.out HB2.out⟩⟩
          rw [HT.out] at hy
          rcases List.mem_append.1 hy with h | h
          · exact HP.out y h
          · rw [List.mem_singleton.1 h]; exact of_decide_eq_true HOK.out
        case measure => simp [intOf]; omega
      | false =>
        obtain rfl : r = false := by rw [← HR.out]; exact okN_no (List.mem_of_getElem? HX.out) (by rw [HN.out]; exact HOK.out)
        go_wp2_with (go_at_call 110; go_must (have h9 := right_calls x n A' c' S (World.alloc wr (.cells #[.int .i64 x.lo, .int .i64 x.hi, .int .i64 x.dst, .slice A' ne c', .int .i64 x.tag] 71)) (fun q hq => by rw [size_alloc]; have := HS.out q hq; have := HV.out.size; have := HB.out.size; omega) (HROW.out.below (fun q hq => by have := HS.out q hq; have := HV.out.size; have := HB.out.size; omega) (below_alloc (Below.refl _ _) _)); rw [HNE.out, HOK.out] at h9; refine Calls.mono h9 ?_; clear h9; rintro e w2 ⟨rfl, hb2⟩; have HB2 := Hd.mk (below_seq (below_alloc (Below.refl _ _) _) hb2); clear hb2))
        go_ret
        exact ⟨rfl, below_seq (below_seq HV.out HB.out) HB2.out⟩
    · obtain rfl : k = n := by omega
      have HALL : Hd (∀ x ∈ q, okS q.length x) := ⟨by have := HP.out; rw [← HN.out, List.take_length] at this; exact this⟩
      by_cases h1 : 0 ≤ st
      · by_cases h2 : st < (k : Int)
        · obtain rfl : r = true := by rw [← HR.out]; exact decide_eq_true ⟨⟨h1, by rw [HN.out]; exact h2⟩, HALL.out⟩
          go_wp2
          go_ret
          exact ⟨rfl, below_seq HV.out HB.out⟩
        · obtain rfl : r = false := by rw [← HR.out]; exact decide_eq_false fun h => h2 (by have := h.1.2; rwa [HN.out] at this)
          go_wp2
          go_ret
          exact ⟨rfl, below_seq HV.out HB.out⟩
      · obtain rfl : r = false := by rw [← HR.out]; exact decide_eq_false fun h => h1 h.1.1
        go_wp2
        go_ret
        exact ⟨rfl, below_seq HV.out HB.out⟩
/-- What is wrong with an automaton. -/
def checkV (st : Int) (q : List St) : Int := if 4096 < q.length then 6 else if okN st q then 0 else 3
theorem check_calls (st : Int) (A : Option Addr) (c : Nat) (q : List St) (S : Nat → Prop) (w : World) (hS : ∀ k, S k → k < w.heap.size) (hC : Row stT w S A q.length q) :
    Calls Tryd.prog 79 #[.agg #[.int .i64 st, .slice A q.length c]] w fun e w' => e = .returned (.int .i64 (checkV st q)) ∧ Below w.heap.size w w' := by
  have HRC := Hd.mk (Right_calls st A c q S (w.alloc (.cells #[.int .i64 st, .slice A q.length c] 58)) (fun q hq => by rw [size_alloc]; have := hS q hq; omega) (hC.below hS (below_alloc (Below.refl _ _) _)))
  obtain ⟨n, hn⟩ : ∃ m, q.length = m := ⟨_, rfl⟩
  rw [hn] at hC HRC ⊢
  have hmN := hC.le
  have HN := Hd.mk hn
  clear hC hS hn
  by_cases hbig : 4096 < n
  · have e : checkV st q = 6 := by unfold checkV; rw [if_pos (by rw [HN.out]; exact hbig)]
    rw [e]
    go_enter Tryd.func79, Tryd.ntmps79
    go_wp2
    go_ret
    exact ⟨rfl, below_alloc (Below.refl _ _) _⟩
  · by_cases hok : okN st q
    · have e : checkV st q = 0 := by unfold checkV; rw [if_neg (by rw [HN.out]; exact hbig), if_pos hok]
      rw [e]
      rw [decide_eq_true hok] at HRC
      go_enter Tryd.func79, Tryd.ntmps79
      go_wp2_with (go_at_call 90; go_must (refine Calls.mono HRC.out ?_; rintro e w2 ⟨rfl, hb2⟩))
      go_ret
      exact ⟨rfl, below_seq (below_alloc (Below.refl _ _) _) hb2⟩
    · have e : checkV st q = 3 := by unfold checkV; rw [if_neg (by rw [HN.out]; exact hbig), if_neg hok]
      rw [e]
      rw [decide_eq_false hok] at HRC
      go_enter Tryd.func79, Tryd.ntmps79
      go_wp2_with (go_at_call 90; go_must (refine Calls.mono HRC.out ?_; rintro e w2 ⟨rfl, hb2⟩))
      go_ret
      exact ⟨rfl, below_seq (below_alloc (Below.refl _ _) _) hb2⟩
end Go.Proofs.YtbmpaokicphdjaaDoor.Fn
