/- The card of BitsPlays. -/
import Derived.Test.YtcpcnmdedgenoaaDoorRowPlays
import Derived.Test.YtcpcnmdedgenoaaDoorCards
import Derived.Test.YtcpcnmdedgenoaaDoorTie
import Derived.SevenTiedAt
namespace Go.Proofs.YtcpcnmdedgenoaaDoor
open Go
theorem bitsPlaysCard_holds : Rows.BitsPlaysCardSaid :=
  Claim7.holds_tied_plain_at .later [] [.data] true (true, "7cc01cbaca0f570454637968c8ed16a38b1dbf7b2a19070e9d6c45eebc2887be") false
    bitsPlays_holds (fun _ h => by cases h) (by kernel_rfl) (fun _ h => by cases h) bitsPlays_row_tie rfl ⟨rfl, rfl⟩ (by kernel_rfl) rfl
    (fun f fn hf hfn => by
      obtain rfl : f = 3 := Option.some.inj ((show Tryd.prog.funcNamed Rows.bitsPlaysRow.func = some 3 by kernel_rfl).symm.trans hf) |>.symm
      obtain rfl : fn = Tryd.f3 := (Option.some.inj (Tryd.func3.symm.trans hfn)).symm
      exact ⟨by kernel_rfl, fun j t ht => by
        rw [Tryd.params3] at ht
        have hm : t ∈ [3, 22, 3] := List.mem_of_getElem? (by simpa using ht)
        simp only [List.mem_cons, List.not_mem_nil, or_false] at hm
        rcases hm with rfl | rfl | rfl <;> first | exact (show Tryd.prog.wantsStandIn 22 = false by kernel_rfl) | exact (show Tryd.prog.wantsStandIn 3 = false by kernel_rfl)⟩)
    (by kernel_rfl)
#print axioms bitsPlaysCard_holds
end Go.Proofs.YtcpcnmdedgenoaaDoor
