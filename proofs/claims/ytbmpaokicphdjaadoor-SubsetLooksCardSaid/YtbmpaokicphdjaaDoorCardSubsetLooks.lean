/- The card of SubsetLooks. -/
import Derived.Test.YtbmpaokicphdjaaDoorRowSubsetLooks
import Derived.Test.YtbmpaokicphdjaaDoorCards
import Derived.Test.YtbmpaokicphdjaaDoorTie
import Derived.SevenTiedAt
set_option linter.unusedVariables false
set_option linter.unusedSimpArgs false
namespace Go.Proofs.YtbmpaokicphdjaaDoor
open Go
set_option maxRecDepth 100000 in
theorem subsetLooksCard_holds : Rows.SubsetLooksCardSaid :=
  Claim7.holds_tied_plain_at .later [] [.data] true (true, "61ad94dcccf544697238165c5481063577e6a0c1bc23e138afe169383c5ae3e4") false
    subsetLooks_holds (fun _ h => by cases h) (by kernel_rfl) (fun _ h => by cases h) subsetLooks_row_tie rfl ⟨rfl, rfl⟩ (by kernel_rfl) rfl
    (fun f fn hf hfn => by
      obtain rfl : f = 13 := Option.some.inj ((show Tryd.prog.funcNamed Rows.subsetLooksRow.func = some 13 by kernel_rfl).symm.trans hf) |>.symm
      obtain rfl : fn = Tryd.f13 := (Option.some.inj (Tryd.func13.symm.trans hfn)).symm
      exact ⟨by kernel_rfl, fun j t ht => by
        rw [Tryd.params13] at ht
        have hm : t ∈ [90, 90, 9] := List.mem_of_getElem? (by simpa using ht)
        simp only [List.mem_cons, List.not_mem_nil, or_false] at hm
        rcases hm with rfl | rfl | rfl
        · exact (show Tryd.prog.wantsStandIn 90 = false by kernel_rfl)
        · exact (show Tryd.prog.wantsStandIn 90 = false by kernel_rfl)
        · exact (show Tryd.prog.wantsStandIn 9 = false by kernel_rfl)⟩)
    (by kernel_rfl)
#print axioms subsetLooksCard_holds
end Go.Proofs.YtbmpaokicphdjaaDoor
