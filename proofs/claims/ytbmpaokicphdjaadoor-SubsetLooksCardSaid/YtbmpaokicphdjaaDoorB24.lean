/- What the laid table gives; what a row's argument reads as. -/
import Derived.Test.YtbmpaokicphdjaaDoorRows
import Derived.Test.YtbmpaokicphdjaaDoorB23
import Derived.Test.YtbmpaokicphdjaaDoorOpens
import Derived.Test.YtbmpaokicphdjaaDoorArr
import Derived.LaidMore
import Derived.ProofKit
import Derived.OpenShut
set_option linter.unusedVariables false
set_option linter.unusedSimpArgs false
namespace Go.Proofs.YtbmpaokicphdjaaDoor.Fn
open Go Go.RowKit Go.ChangeShapes Go.WideShapes Go.ChangeAt Go.WideMaps Go.WideElems Go.Proofs.YtbmpaokicphdjaaDoor.Can Go.Proofs.YtbmpaokicphdjaaDoor.Base

theorem opensInts : Opens Tryd.prog 24 (Ty.slice I (by decide)) (fun xs => ∀ x ∈ xs, (Lit.int .i64 x).wf = true) := opens_slice Tryd.underlying24 (by kernel_rfl) (by decide) (opens_int Tryd.underlying3)
theorem opensRooms : Opens Tryd.prog 23 (Ty.pair (Ty.int .u16) (Ty.int .u16)) (fun x => (Lit.int .u16 x.1).wf = true ∧ (Lit.int .u16 x.2).wf = true) :=
  opens_arr2 Tryd.underlying23 (by kernel_rfl) (by kernel_rfl) (opens_int Tryd.underlying22)
theorem two_rooms {w : World} {S : Nat → Prop} {y : Int × Int} {z : Array Value} (h : (Ty.pair (Ty.int .u16) (Ty.int .u16)).rel w S y z.toList) (g : (Lit.int .u16 y.1).wf = true ∧ (Lit.int .u16 y.2).wf = true) : ∃ r0 r1 : Nat, z = #[.int .u16 r0, .int .u16 r1] ∧ r0 ≤ 65535 ∧ r1 ≤ 65535 := by
  obtain ⟨c0, c1, hz, h0, h1⟩ := h
  have h0' : c0 = [.int .u16 y.1] := h0
  have h1' : c1 = [.int .u16 y.2] := h1
  subst h0' h1'
  obtain ⟨a, b⟩ := y
  simp only [Lit.wf, IntKind.min, IntKind.max, IntKind.signed, IntKind.bits, Bool.and_eq_true, decide_eq_true_eq] at g
  obtain ⟨r0, rfl⟩ : ∃ r : Nat, a = r := ⟨a.toNat, by simp at g; omega⟩
  obtain ⟨r1, rfl⟩ : ∃ r : Nat, b = r := ⟨b.toNat, by simp at g; omega⟩
  exact ⟨r0, r1, Array.toList_inj.1 hz, by simp at g; omega, by simp at g; omega⟩
theorem gTab : Tryd.prog.globalNamed "math/bits.deBruijn64tab" = some 0 := by kernel_rfl
theorem tTab : (Tryd.prog.globals[0]?).map (·.type) = some 142 := by kernel_rfl
theorem laid_list : (Rows.laid_math_bits_deBruijn64tab (H := Unit)) = .agg (Lib.deBruijn64tab.map fun k : Nat => .lit (.int .u8 (k : Int))) := rfl
theorem tab_of_laid {W : World} (h : laidMetH Tryd.prog [("math/bits.deBruijn64tab", Rows.laid_math_bits_deBruijn64tab)] W) : TabAt 0 Lib.deBruijn64tab W := by
  rw [MakeChecks.laidMetH_plain _ _ _ (by kernel_rfl)] at h
  obtain ⟨ps, ⟨g0, t0, cs0, f0, p0, q0, hg0, ht0, hv0, hd0, _, _⟩, _, _⟩ := h
  obtain rfl := Option.some.inj (gTab.symm.trans hg0)
  obtain rfl := Option.some.inj (tTab.symm.trans ht0)
  obtain ⟨xs, m1, rfl, hx1, hlen, hn3, hel⟩ := DataW.trod_array Tryd.underlying142 hd0
  have c5 : Tryd.prog.cellsOf 5 = 1 := by kernel_rfl
  intro j hj
  have hj64 : j < 64 := hj
  have hE := hel j hj64
  have hv := World.var?_cell hg0 hv0 j
  rw [laid_list] at hx1
  simp only [Prod.mk.injEq, DataW.agg.injEq] at hx1
  obtain ⟨x, hx⟩ : ∃ x, xs[j]? = some x := ⟨_, List.getElem?_eq_getElem (by rw [hn3]; exact hj64)⟩
  rw [hx, c5] at hE
  obtain ⟨k, e1, e2, _⟩ := DataW.trod_int Tryd.underlying5 hE
  have hL := congrArg (·[j]?) hx1.1
  simp only [List.getElem?_map, hx, Option.map_some] at hL
  rw [List.getElem?_eq_getElem hj] at hL
  simp only [Option.map_some, Option.some.injEq] at hL
  have hk : k = (Lib.deBruijn64tab.getD j 0 : Nat) := by
    rw [List.getD_eq_getElem?_getD, List.getElem?_eq_getElem hj]
    rw [e2] at hL
    simpa using hL.symm
  rw [hv, ← hk]
  have h9 := congrArg (·[0]?) e1
  simpa using h9
end Go.Proofs.YtbmpaokicphdjaaDoor.Fn
