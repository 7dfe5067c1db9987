/- The card of ClosureBig. -/
import Derived.Test.YtbmpaokicphdjaaDoorRowClosureBig
import Derived.Test.YtbmpaokicphdjaaDoorCards
import Derived.Test.YtbmpaokicphdjaaDoorTie
import Derived.SevenTiedAt
namespace Go.Proofs.YtbmpaokicphdjaaDoor
open Go
set_option maxRecDepth 100000 in
theorem closureBigCard_holds : Rows.ClosureBigCardSaid :=
  Claim7.holds_tied_plain_at .later [] [.data] true (true, "61ad94dcccf544697238165c5481063577e6a0c1bc23e138afe169383c5ae3e4") false
    closureBig_holds (fun _ h => by cases h) (by kernel_rfl) (fun _ h => by cases h) closureBig_row_tie rfl ⟨rfl, rfl⟩ (by kernel_rfl) rfl
    (fun f fn hf hfn => by
      obtain rfl : f = 8 := Option.some.inj ((show Tryd.prog.funcNamed Rows.closureBigRow.func = some 8 by kernel_rfl).symm.trans hf) |>.symm
      obtain rfl : fn = Tryd.f8 := (Option.some.inj (Tryd.func8.symm.trans hfn)).symm
      exact ⟨by kernel_rfl, fun j t ht => by
        rw [Tryd.params8] at ht
        have hm : t ∈ [24] := List.mem_of_getElem? (by simpa using ht)
        simp only [List.mem_cons, List.not_mem_nil, or_false] at hm
        rcases hm with rfl
        · exact (show Tryd.prog.wantsStandIn 24 = false by kernel_rfl)⟩)
    (by kernel_rfl)
#print axioms closureBigCard_holds
end Go.Proofs.YtbmpaokicphdjaaDoor
