/- An array of two, as it is read. -/
import Derived.Test.YtbmpaokicphdjaaDoorOpens
import Derived.OpenShut
import Derived.WideShapes
set_option linter.unusedVariables false
set_option linter.unusedSimpArgs false
set_option linter.unusedVariables false
namespace Go.Proofs.YtbmpaokicphdjaaDoor.Base
open Go Go.RowKit
theorem okWide_arr {P : Program} {w : World} {r : Reach} {base : Nat} {t e : TypeId} {n : Nat} {v : Value} (ht : P.underlying t = some (.array n e)) (h : Value.okWide P w r base t v) : ∃ cs, v = .agg cs ∧ cs.size = P.cellsOf t := by
  simp only [Value.okWide, ht] at h
  obtain ⟨cs, h1, h2, _⟩ := h
  exact ⟨cs, h1, h2⟩
theorem opens_arr2 {P : Program} {t e : TypeId} {α : Type} {T : Ty α} {wf : α → Prop} (ht : P.underlying t = some (.array 2 e)) (hc : P.cellsOf e = T.sz) (hs : P.cellsOf t = T.sz + T.sz) (h : Opens P e T wf) : Opens P t (Ty.pair T T) (fun x => wf x.1 ∧ wf x.2) := by
  refine ⟨fun {H enc w fuel cs x} hd => ?_⟩
  obtain ⟨xs, m, rfl, rfl, hl, hn, hf⟩ := DataW.trod_array ht hd
  have e0 := hf 0 (by decide)
  have e1 := hf 1 (by decide)
  rw [hc] at e0 e1
  rw [Nat.zero_mul, List.drop_zero, List.getElem?_eq_getElem (by omega)] at e0
  rw [Nat.one_mul, List.getElem?_eq_getElem (by omega)] at e1
  obtain ⟨y0, hw0, hr0⟩ := h.out e0
  obtain ⟨y1, hw1, hr1⟩ := h.out e1
  refine ⟨(y0, y1), ⟨hw0, hw1⟩, _, _, ?_, hr0, hr1⟩
  have h2 : ((cs.drop T.sz).take T.sz) = cs.drop T.sz := List.take_of_length_le (by rw [List.length_drop, hl, hs]; omega)
  rw [h2, List.take_append_drop]
end Go.Proofs.YtbmpaokicphdjaaDoor.Base
