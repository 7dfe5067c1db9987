/- The card of TableSame. -/
import Derived.Test.YtpcnekdilecakaaDoorRowTableSame
import Derived.Test.YtpcnekdilecakaaDoorCards
import Derived.Test.YtpcnekdilecakaaDoorTie
import Derived.SevenTiedAt
set_option linter.unusedVariables false
set_option linter.unusedSimpArgs false
namespace Go.Proofs.YtpcnekdilecakaaDoor
open Go
set_option maxRecDepth 100000 in
theorem tableSameCard_holds : Rows.TableSameCardSaid :=
  Claim7.holds_tied_plain_at .later [] [.data] true (true, "03acc7a7200e2a1df99d9c79fa2a56794a4a16b573cfa0ae012cf680b7c1e4b6") false
    tableSame_holds (fun _ h => by cases h) (by kernel_rfl) (fun _ h => by cases h) tableSame_row_tie rfl ⟨rfl, rfl⟩ (by kernel_rfl) rfl
    (fun f fn hf hfn => by
      obtain rfl : f = 5 := Option.some.inj ((show Tryd.prog.funcNamed Rows.tableSameRow.func = some 5 by kernel_rfl).symm.trans hf) |>.symm
      obtain rfl : fn = Tryd.f5 := (Option.some.inj (Tryd.func5.symm.trans hfn)).symm
      exact ⟨by kernel_rfl, fun j t ht => by
        rw [Tryd.params5] at ht
        have hm : t ∈ [26, 26, 38] := List.mem_of_getElem? (by simpa using ht)
        simp only [List.mem_cons, List.not_mem_nil, or_false] at hm
        rcases hm with rfl | rfl | rfl
        · exact (show Tryd.prog.wantsStandIn 26 = false by kernel_rfl)
        · exact (show Tryd.prog.wantsStandIn 26 = false by kernel_rfl)
        · exact (show Tryd.prog.wantsStandIn 38 = false by kernel_rfl)⟩)
    (by kernel_rfl)
#print axioms tableSameCard_holds
end Go.Proofs.YtpcnekdilecakaaDoor
