/- The card of SubsetRuns. -/
import Derived.Test.YtbmpaokicphdjaaDoorRowSubsetRuns
import Derived.Test.YtbmpaokicphdjaaDoorCards
import Derived.Test.YtbmpaokicphdjaaDoorTie
import Derived.SevenTiedAt
set_option linter.unusedVariables false
set_option linter.unusedSimpArgs false
namespace Go.Proofs.YtbmpaokicphdjaaDoor
open Go
set_option maxRecDepth 100000 in
theorem subsetRunsCard_holds : Rows.SubsetRunsCardSaid :=
  Claim7.holds_tied_plain_at .later [] [.data] true (true, "61ad94dcccf544697238165c5481063577e6a0c1bc23e138afe169383c5ae3e4") false
    subsetRuns_holds (fun _ h => by cases h) (by kernel_rfl) (fun _ h => by cases h) subsetRuns_row_tie rfl ⟨rfl, rfl⟩ (by kernel_rfl) rfl
    (fun f fn hf hfn => by
      obtain rfl : f = 12 := Option.some.inj ((show Tryd.prog.funcNamed Rows.subsetRunsRow.func = some 12 by kernel_rfl).symm.trans hf) |>.symm
      obtain rfl : fn = Tryd.f12 := (Option.some.inj (Tryd.func12.symm.trans hfn)).symm
      exact ⟨by kernel_rfl, fun j t ht => by
        rw [Tryd.params12] at ht
        have hm : t ∈ [58, 9] := List.mem_of_getElem? (by simpa using ht)
        simp only [List.mem_cons, List.not_mem_nil, or_false] at hm
        rcases hm with rfl | rfl
        · exact (show Tryd.prog.wantsStandIn 58 = false by kernel_rfl)
        · exact (show Tryd.prog.wantsStandIn 9 = false by kernel_rfl)⟩)
    (by kernel_rfl)
#print axioms subsetRunsCard_holds
end Go.Proofs.YtbmpaokicphdjaaDoor
