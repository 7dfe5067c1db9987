/- What a peeker is in memory; New. -/
import Derived.Test.YtfckpppfmjllbaaP2
namespace Go.Proofs.Ytfckpppfmjllbaa.Fn
open Go Go.RowKit Go.Proofs.Ytfckpppfmjllbaa.Can Go.Proofs.Ytfckpppfmjllbaa.Base
attribute [local go_sem] clsB AB.cell

/-- A peeker's state. -/
structure PS where
  n : Nat
  re : Nat
  tr : Nat
  st : Nat
  ho : Nat
  ep : Int
  a : Int
  m : Int
  le : Nat
  t : Tok
  ph : Nat
def fnOf : Nat → Nat
  | 0 => 16
  | 1 => 20
  | _ => 23
def fnV (k : Nat) : Value := .func (Fn.func k) #[] #[]
def pkC (s : PS) : Array Value := #[.int .i64 s.n, .int .i64 s.re, .int .i64 s.tr, .int .i64 s.st, .int .i64 s.ho, .int .i64 s.ep, .int .i64 s.a, .int .i64 s.m, .int .i64 s.le, .int .i64 s.t.k, .int .i64 s.t.r, .int .i64 s.t.f, .int .i64 s.t.a, .int .i64 s.t.t, .int .i64 s.t.m, fnV (fnOf s.ph)]
def nN (n : Int) : Nat := (if n < 1 then 1 else if 16 < n then 16 else n).toNat
def rN (n : Int) : Nat := (if n < 0 then 0 else if 16 < n then 16 else n).toNat
theorem new_calls (n r : Int) (w : World) : Calls Try.prog 7 #[.int .i64 n, .int .i64 r] w fun e w' =>
    ∃ p, e = .returned (.pointer (some ⟨p, 0, none⟩)) ∧ w.heap.size ≤ p ∧ w'.heap[p]? = some (.cells (pkC ⟨nN n, rN r, 0, 0, 0, 0, 0, 0, 0, tok0, 0⟩) 51 (0, 0)) ∧ Below w.heap.size w w' := by
  obtain ⟨m, hm⟩ : ∃ m, nN n = m := ⟨_, rfl⟩
  obtain ⟨q, hq⟩ : ∃ q, rN r = q := ⟨_, rfl⟩
  obtain ⟨m1, hm1⟩ : ∃ m1 : Int, (if n < 1 then 1 else n) = m1 := ⟨_, rfl⟩
  have hm2 : (if (16 : Int) < m1 then 16 else m1) = m := by
    rw [← hm1, ← hm]; unfold nN; split <;> split <;> (try split) <;> omega
  obtain ⟨q1, hq1⟩ : ∃ q1 : Int, (if r < 0 then 0 else r) = q1 := ⟨_, rfl⟩
  have hq2 : (if (16 : Int) < q1 then 16 else q1) = q := by
    rw [← hq1, ← hq]; unfold rN; split <;> split <;> (try split) <;> omega
  rw [hm, hq]
  have HM1 := Hd.mk hm1; have HM2 := Hd.mk hm2; have HQ1 := Hd.mk hq1; have HQ2 := Hd.mk hq2
  clear hm1 hm2 hq1 hq2 hm hq
  go_enter Try.func7, Try.ntmps7
  go_wp2_with (first | (refine max_int rfl (.tmp 5) (.const (.int .i64 1)) _ rfl .i64 n 1 m1 rfl rfl HM1.out ?_) | (refine min_int rfl (.tmp 6) (.const (.int .i64 16)) _ rfl .i64 m1 16 m rfl rfl HM2.out ?_) | (refine max_int rfl (.tmp 8) (.const (.int .i64 0)) _ rfl .i64 r 0 q1 rfl rfl HQ1.out ?_) | (refine min_int rfl (.tmp 9) (.const (.int .i64 16)) _ rfl .i64 q1 16 q rfl rfl HQ2.out ?_))
  go_ret
  exact ⟨_, rfl, Nat.le_refl _, by rw [blk_new _ _ _ rfl]; rfl, (by repeat (first | (with_reducible assumption) | (with_reducible exact Below.refl _ _) | (with_reducible apply below_drewL) | (with_reducible apply below_alloc) | (with_reducible apply below_drew1) | (with_reducible apply below_drewN) | (refine below_set ?_ (by first | omega | (simp only [size_alloc, size_drew, size_set]; omega)) _ _)))⟩
end Go.Proofs.Ytfckpppfmjllbaa.Fn
