/- What the laid table gives; what a row's argument reads as. -/
import Derived.Test.YtcpcnmdedgenoaaDoorRows
import Derived.Test.YtcpcnmdedgenoaaDoorL1
import Derived.Test.YtcpcnmdedgenoaaDoorOpens
import Derived.LaidMore
import Derived.ProofKit
import Derived.OpenShut
namespace Go.Proofs.YtcpcnmdedgenoaaDoor.Fn
open Go Go.RowKit Go.ChangeShapes Go.WideShapes Go.ChangeAt Go.WideMaps Go.WideElems Go.Proofs.YtcpcnmdedgenoaaDoor.Can Go.Proofs.YtcpcnmdedgenoaaDoor.Base

theorem opens31 : Opens Tryd.prog 31 actT (fun _ => True) :=
  (opens_struct3 (a := I) (b := I) (c := lT) Tryd.underlying31 (opens_int Tryd.underlying3) (opens_int Tryd.underlying3) (opens_slice Tryd.underlying28 (by kernel_rfl) (by decide) (opens_int Tryd.underlying3)) rfl rfl rfl (by kernel_rfl) (by kernel_rfl) (by kernel_rfl) (by kernel_rfl)).map (fun x => x) (fun _ _ => trivial) (fun _ _ _ _ h => h)
theorem opens22 : Opens Tryd.prog 22 (Ty.slice actT (by decide)) (fun _ => True) :=
  (opens_slice Tryd.underlying22 (by kernel_rfl) (by decide) opens31).map id (fun _ _ => trivial) (fun _ _ _ _ h => h)
theorem gTab : Tryd.prog.globalNamed "math/bits.deBruijn64tab" = some 0 := by kernel_rfl
theorem tTab : (Tryd.prog.globals[0]?).map (·.type) = some 55 := by kernel_rfl
theorem laid_list : (Rows.laid_math_bits_deBruijn64tab (H := Unit)) = .agg (Lib.deBruijn64tab.map fun k : Nat => .lit (.int .u8 (k : Int))) := rfl
theorem tab_of_laid {W : World} (h : laidMetH Tryd.prog [("math/bits.deBruijn64tab", Rows.laid_math_bits_deBruijn64tab)] W) : TabAt 0 Lib.deBruijn64tab W := by
  rw [MakeChecks.laidMetH_plain _ _ _ (by kernel_rfl)] at h
  obtain ⟨ps, ⟨g0, t0, cs0, f0, p0, q0, hg0, ht0, hv0, hd0, _, _⟩, _, _⟩ := h
  obtain rfl := Option.some.inj (gTab.symm.trans hg0)
  obtain rfl := Option.some.inj (tTab.symm.trans ht0)
  obtain ⟨xs, m1, rfl, hx1, hlen, hn3, hel⟩ := DataW.trod_array Tryd.underlying55 hd0
  have c5 : Tryd.prog.cellsOf 5 = 1 := by kernel_rfl
  intro j hj
  have hj64 : j < 64 := hj
  have hE := hel j hj64
  have hv := World.var?_cell hg0 hv0 j
  rw [laid_list] at hx1
  simp only [Prod.mk.injEq, DataW.agg.injEq] at hx1
  obtain ⟨x, hx⟩ : ∃ x, xs[j]? = some x := ⟨_, List.getElem?_eq_getElem (by rw [hn3]; exact hj64)⟩
  rw [hx, c5] at hE
  obtain ⟨k, e1, e2, _⟩ := DataW.trod_int Tryd.underlying5 hE
  have hL := congrArg (·[j]?) hx1.1
  simp only [List.getElem?_map, hx, Option.map_some] at hL
  rw [List.getElem?_eq_getElem hj] at hL
  simp only [Option.map_some, Option.some.injEq] at hL
  have hk : k = (Lib.deBruijn64tab.getD j 0 : Nat) := by
    rw [List.getD_eq_getElem?_getD, List.getElem?_eq_getElem hj]
    rw [e2] at hL
    simpa using hL.symm
  rw [hv, ← hk]
  have h9 := congrArg (·[0]?) e1
  simpa using h9
end Go.Proofs.YtcpcnmdedgenoaaDoor.Fn
