/- The card of SettableLoads. -/
import Derived.Test.YtbmpaokicphdjaaDoorRowSettableLoads
import Derived.Test.YtbmpaokicphdjaaDoorCards
import Derived.Test.YtbmpaokicphdjaaDoorTie
import Derived.SevenTiedAt
namespace Go.Proofs.YtbmpaokicphdjaaDoor
open Go
set_option maxRecDepth 100000 in
theorem settableLoadsCard_holds : Rows.SettableLoadsCardSaid :=
  Claim7.holds_tied_plain_at .later [] [.data] true (true, "61ad94dcccf544697238165c5481063577e6a0c1bc23e138afe169383c5ae3e4") false
    settableLoads_holds (fun _ h => by cases h) (by kernel_rfl) (fun _ h => by cases h) settableLoads_row_tie rfl ⟨rfl, rfl⟩ (by kernel_rfl) rfl
    (fun f fn hf hfn => by
      obtain rfl : f = 5 := Option.some.inj ((show Tryd.prog.funcNamed Rows.settableLoadsRow.func = some 5 by kernel_rfl).symm.trans hf) |>.symm
      obtain rfl : fn = Tryd.f5 := (Option.some.inj (Tryd.func5.symm.trans hfn)).symm
      exact ⟨by kernel_rfl, fun j t ht => by
        rw [Tryd.params5] at ht
        have hm : t ∈ [22] := List.mem_of_getElem? (by simpa using ht)
        simp only [List.mem_cons, List.not_mem_nil, or_false] at hm
        rcases hm with rfl
        · exact (show Tryd.prog.wantsStandIn 22 = false by kernel_rfl)⟩)
    (by kernel_rfl)
#print axioms settableLoadsCard_holds
end Go.Proofs.YtbmpaokicphdjaaDoor
