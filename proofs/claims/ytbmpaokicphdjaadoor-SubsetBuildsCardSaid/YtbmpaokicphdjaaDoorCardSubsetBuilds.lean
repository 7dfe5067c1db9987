/- The card of SubsetBuilds. -/
import Derived.Test.YtbmpaokicphdjaaDoorRowSubsetBuilds
import Derived.Test.YtbmpaokicphdjaaDoorCards
import Derived.Test.YtbmpaokicphdjaaDoorTie
import Derived.SevenTiedAt
namespace Go.Proofs.YtbmpaokicphdjaaDoor
open Go
set_option maxRecDepth 100000 in
theorem subsetBuildsCard_holds : Rows.SubsetBuildsCardSaid :=
  Claim7.holds_tied_plain_at .later [] [.data] true (true, "61ad94dcccf544697238165c5481063577e6a0c1bc23e138afe169383c5ae3e4") false
    subsetBuilds_holds (fun _ h => by cases h) (by kernel_rfl) (fun _ h => by cases h) subsetBuilds_row_tie rfl ⟨rfl, rfl⟩ (by kernel_rfl) rfl
    (fun f fn hf hfn => by
      obtain rfl : f = 11 := Option.some.inj ((show Tryd.prog.funcNamed Rows.subsetBuildsRow.func = some 11 by kernel_rfl).symm.trans hf) |>.symm
      obtain rfl : fn = Tryd.f11 := (Option.some.inj (Tryd.func11.symm.trans hfn)).symm
      exact ⟨by kernel_rfl, fun j t ht => by
        rw [Tryd.params11] at ht
        have hm : t ∈ [58, 5] := List.mem_of_getElem? (by simpa using ht)
        simp only [List.mem_cons, List.not_mem_nil, or_false] at hm
        rcases hm with rfl | rfl
        · exact (show Tryd.prog.wantsStandIn 58 = false by kernel_rfl)
        · exact (show Tryd.prog.wantsStandIn 5 = false by kernel_rfl)⟩)
    (by kernel_rfl)
#print axioms subsetBuildsCard_holds
end Go.Proofs.YtbmpaokicphdjaaDoor
