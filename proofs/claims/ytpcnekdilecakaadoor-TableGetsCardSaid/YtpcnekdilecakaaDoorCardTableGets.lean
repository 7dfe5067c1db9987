/- The card of TableGets. -/
import Derived.Test.YtpcnekdilecakaaDoorRowTableGets
import Derived.Test.YtpcnekdilecakaaDoorCards
import Derived.Test.YtpcnekdilecakaaDoorTie
import Derived.SevenTiedAt
set_option linter.unusedVariables false
set_option linter.unusedSimpArgs false
namespace Go.Proofs.YtpcnekdilecakaaDoor
open Go
set_option maxRecDepth 100000 in
theorem tableGetsCard_holds : Rows.TableGetsCardSaid :=
  Claim7.holds_tied_plain_at .later [] [.data] true (true, "03acc7a7200e2a1df99d9c79fa2a56794a4a16b573cfa0ae012cf680b7c1e4b6") false
    tableGets_holds (fun _ h => by cases h) (by kernel_rfl) (fun _ h => by cases h) tableGets_row_tie rfl ⟨rfl, rfl⟩ (by kernel_rfl) rfl
    (fun f fn hf hfn => by
      obtain rfl : f = 4 := Option.some.inj ((show Tryd.prog.funcNamed Rows.tableGetsRow.func = some 4 by kernel_rfl).symm.trans hf) |>.symm
      obtain rfl : fn = Tryd.f4 := (Option.some.inj (Tryd.func4.symm.trans hfn)).symm
      exact ⟨by kernel_rfl, fun j t ht => by
        rw [Tryd.params4] at ht
        have hm : t ∈ [29] := List.mem_of_getElem? (by simpa using ht)
        simp only [List.mem_cons, List.not_mem_nil, or_false] at hm
        rcases hm with rfl
        · exact (show Tryd.prog.wantsStandIn 29 = false by kernel_rfl)⟩)
    (by kernel_rfl)
#print axioms tableGetsCard_holds
end Go.Proofs.YtpcnekdilecakaaDoor
