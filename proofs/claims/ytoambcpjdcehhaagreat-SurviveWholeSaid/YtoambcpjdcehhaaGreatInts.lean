/- Structs of whole numbers, as they are read. -/
import Derived.Test.YtoambcpjdcehhaaGreatOpens
set_option linter.unusedVariables false
set_option linter.unusedSimpArgs false
set_option linter.unusedVariables false
namespace Go.Proofs.YtoambcpjdcehhaaGreat.Base
open Go Go.RowKit
theorem all_ints {cs : List Value} {k : IntKind} (h : ∀ i, i < cs.length → ∃ y : Int, cs[i]? = some (.int k y)) : ∃ l : List Int, cs = l.map (.int k) := by
  induction cs with
  | nil => exact ⟨[], rfl⟩
  | cons a cs ih =>
    obtain ⟨y, hy⟩ := h 0 (by simp)
    simp at hy; subst hy
    obtain ⟨l, rfl⟩ := ih fun i hi => by
      obtain ⟨y, hy⟩ := h (i + 1) (by simpa using hi)
      exact ⟨y, by simpa using hy⟩
    exact ⟨y :: l, rfl⟩
/-- n numbers, one behind the other. -/
def intsT (k : IntKind) (n : Nat) : Ty {l : List Int // l.length = n} := Ty.flat n (fun l => l.1.map (.int k)) (fun l => by rw [List.length_map, l.2]) (fun l u hu => by
  obtain ⟨y, _, rfl⟩ := List.mem_map.1 hu
  rfl)
theorem opens_ints {P : Program} {t : TypeId} {fs : Array Field} {k : IntKind} (n : Nat) (ht : P.underlying t = some (.struct fs)) (hn : fs.size = n)
    (hf : ∀ i, i < n → ∃ f, fs[i]? = some f ∧ P.underlying f.type = some (.int k) ∧ f.offset = i ∧ P.cellsOf f.type = 1) (hs : P.cellsOf t = n) : Opens P t (intsT k n) (fun _ => True) := by
  refine ⟨fun {H enc w fuel cs x} hd => ?_⟩
  obtain ⟨xs, m, _, _, hl, hm, hfld⟩ := DataW.trod_struct ht hd
  have hcs : cs.length = n := by rw [← hs]; omega
  obtain ⟨l, hl2⟩ := all_ints (cs := cs) (k := k) fun i hi => by
    obtain ⟨f, hfi, hu, ho, hc⟩ := hf i (by omega)
    have e := hfld i f hfi
    rw [List.getElem?_eq_getElem (by rw [hm, hn]; omega), ho, hc] at e
    obtain ⟨y, _, r⟩ := (opens_int hu).out e
    have r' : (cs.drop i).take 1 = [.int k y] := r
    refine ⟨y, ?_⟩
    have h9 := congrArg (·[0]?) r'
    simpa using h9
  subst hl2
  exact ⟨⟨l, by simpa using hcs⟩, trivial, rfl⟩
end Go.Proofs.YtoambcpjdcehhaaGreat.Base
