/-
  DERIVED. GIVEN WITH THE SEED: THE CARDS: each row of YtbmpaokicphdjaaDoorRows.lean that lists a variable, with what it lists TIED to the program's text (the seventh form; the later family's looks); each row that meets fmt, with fmt's text TOLD by the authors' own Lean function (tested against real Go, not proved from fmt's source: count such statements apart). THE CARD IS WHAT COUNTS. Prove the row's statement (the work); the ties are given (YtbmpaokicphdjaaDoorTie.lean); close each card by the builder's one call (the guide's Derived/Test/ToyasCard.lean, 'card_holds'). Laid BY PROGRAM, IN A SANDBOX (cutbox-door.mjs). By AI agents, Wed Nov 11 2026. No macro, syntax, notation, axiom, sorry.
-/
import Derived.Test.YtbmpaokicphdjaaDoorRows
import GoSem.ClaimSeven
namespace Go.Proofs.YtbmpaokicphdjaaDoor
namespace Rows

/-- THE TIED CARD OF 'spoollaw20.BitsSame'. -/
def bitsSameCard : Claim7 := { stood := { row := bitsSameRow, standIns := [], harness := (true, "61ad94dcccf544697238165c5481063577e6a0c1bc23e138afe169383c5ae3e4"), looks := false }, kinds := [], alts := [], laidByText := true, laidKinds := [.data], laidTests := true, laidLooks := .later }
def BitsSameCardSaid : Prop := Claim7.holds Tryd.pinned (.plain (OpenSpec.ofChange bitsSameSpec)) bitsSameCard

/-- THE TIED CARD OF 'spoollaw20.BitsNobody'. -/
def bitsNobodyCard : Claim7 := { stood := { row := bitsNobodyRow, standIns := [], harness := (true, "61ad94dcccf544697238165c5481063577e6a0c1bc23e138afe169383c5ae3e4"), looks := false }, kinds := [], alts := [], laidByText := true, laidKinds := [.data], laidTests := true, laidLooks := .later }
def BitsNobodyCardSaid : Prop := Claim7.holds Tryd.pinned (.plain (OpenSpec.ofChange bitsNobodySpec)) bitsNobodyCard

/-- THE TIED CARD OF 'spoollaw23.SettableLoads'. -/
def settableLoadsCard : Claim7 := { stood := { row := settableLoadsRow, standIns := [], harness := (true, "61ad94dcccf544697238165c5481063577e6a0c1bc23e138afe169383c5ae3e4"), looks := false }, kinds := [], alts := [], laidByText := true, laidKinds := [.data], laidTests := true, laidLooks := .later }
def SettableLoadsCardSaid : Prop := Claim7.holds Tryd.pinned (.plain (OpenSpec.ofChange settableLoadsSpec)) settableLoadsCard

/-- THE TIED CARD OF 'spoollaw23.SettablePlays'. -/
def settablePlaysCard : Claim7 := { stood := { row := settablePlaysRow, standIns := [], harness := (true, "61ad94dcccf544697238165c5481063577e6a0c1bc23e138afe169383c5ae3e4"), looks := false }, kinds := [], alts := [], laidByText := true, laidKinds := [.data], laidTests := true, laidLooks := .later }
def SettablePlaysCardSaid : Prop := Claim7.holds Tryd.pinned (.plain (OpenSpec.ofChange settablePlaysSpec)) settablePlaysCard

/-- THE TIED CARD OF 'spoollaw22.ClosureRuns'. -/
def closureRunsCard : Claim7 := { stood := { row := closureRunsRow, standIns := [], harness := (true, "61ad94dcccf544697238165c5481063577e6a0c1bc23e138afe169383c5ae3e4"), looks := false }, kinds := [], alts := [], laidByText := true, laidKinds := [.data], laidTests := true, laidLooks := .later }
def ClosureRunsCardSaid : Prop := Claim7.holds Tryd.pinned (.plain (OpenSpec.ofChange closureRunsSpec)) closureRunsCard

/-- THE TIED CARD OF 'spoollaw22.ClosureBig'. -/
def closureBigCard : Claim7 := { stood := { row := closureBigRow, standIns := [], harness := (true, "61ad94dcccf544697238165c5481063577e6a0c1bc23e138afe169383c5ae3e4"), looks := false }, kinds := [], alts := [], laidByText := true, laidKinds := [.data], laidTests := true, laidLooks := .later }
def ClosureBigCardSaid : Prop := Claim7.holds Tryd.pinned (.plain (OpenSpec.ofChange closureBigSpec)) closureBigCard

/-- THE TIED CARD OF 'spoollaw23.SettableOwn'. -/
def settableOwnCard : Claim7 := { stood := { row := settableOwnRow, standIns := [], harness := (true, "61ad94dcccf544697238165c5481063577e6a0c1bc23e138afe169383c5ae3e4"), looks := false }, kinds := [], alts := [], laidByText := true, laidKinds := [.data], laidTests := true, laidLooks := .later }
def SettableOwnCardSaid : Prop := Claim7.holds Tryd.pinned (.plain (OpenSpec.ofChange settableOwnSpec)) settableOwnCard

/-- THE TIED CARD OF 'spoollaw22.ClosureSteps'. -/
def closureStepsCard : Claim7 := { stood := { row := closureStepsRow, standIns := [], harness := (true, "61ad94dcccf544697238165c5481063577e6a0c1bc23e138afe169383c5ae3e4"), looks := false }, kinds := [], alts := [], laidByText := true, laidKinds := [.data], laidTests := true, laidLooks := .later }
def ClosureStepsCardSaid : Prop := Claim7.holds Tryd.pinned (.plain (OpenSpec.ofChange closureStepsSpec)) closureStepsCard

/-- THE TIED CARD OF 'spoollaw24.SubsetBuilds'. -/
def subsetBuildsCard : Claim7 := { stood := { row := subsetBuildsRow, standIns := [], harness := (true, "61ad94dcccf544697238165c5481063577e6a0c1bc23e138afe169383c5ae3e4"), looks := false }, kinds := [], alts := [], laidByText := true, laidKinds := [.data], laidTests := true, laidLooks := .later }
def SubsetBuildsCardSaid : Prop := Claim7.holds Tryd.pinned (.plain (OpenSpec.ofChange subsetBuildsSpec)) subsetBuildsCard

/-- THE TIED CARD OF 'spoollaw24.SubsetRuns'. -/
def subsetRunsCard : Claim7 := { stood := { row := subsetRunsRow, standIns := [], harness := (true, "61ad94dcccf544697238165c5481063577e6a0c1bc23e138afe169383c5ae3e4"), looks := false }, kinds := [], alts := [], laidByText := true, laidKinds := [.data], laidTests := true, laidLooks := .later }
def SubsetRunsCardSaid : Prop := Claim7.holds Tryd.pinned (.plain (OpenSpec.ofChange subsetRunsSpec)) subsetRunsCard

/-- THE TIED CARD OF 'spoollaw24.SubsetLooks'. -/
def subsetLooksCard : Claim7 := { stood := { row := subsetLooksRow, standIns := [], harness := (true, "61ad94dcccf544697238165c5481063577e6a0c1bc23e138afe169383c5ae3e4"), looks := false }, kinds := [], alts := [], laidByText := true, laidKinds := [.data], laidTests := true, laidLooks := .later }
def SubsetLooksCardSaid : Prop := Claim7.holds Tryd.pinned (.plain (OpenSpec.ofChange subsetLooksSpec)) subsetLooksCard

/-- THE SECOND FORM's CARD OF 'spoollaw20.BitsSame'. -/
def bitsSameUptoCard : Claim7 := { stood := { row := bitsSameUptoRow, standIns := [], harness := (true, "61ad94dcccf544697238165c5481063577e6a0c1bc23e138afe169383c5ae3e4"), looks := false }, kinds := [], alts := [], laidByText := true, laidKinds := [.data], laidTests := true, laidLooks := .later }
def BitsSameUptoCardSaid : Prop := Claim7.holds Tryd.pinned (.plain (OpenSpec.upto bitsSameSpec)) bitsSameUptoCard

/-- THE SECOND FORM's CARD OF 'spoollaw20.BitsNobody'. -/
def bitsNobodyUptoCard : Claim7 := { stood := { row := bitsNobodyUptoRow, standIns := [], harness := (true, "61ad94dcccf544697238165c5481063577e6a0c1bc23e138afe169383c5ae3e4"), looks := false }, kinds := [], alts := [], laidByText := true, laidKinds := [.data], laidTests := true, laidLooks := .later }
def BitsNobodyUptoCardSaid : Prop := Claim7.holds Tryd.pinned (.plain (OpenSpec.upto bitsNobodySpec)) bitsNobodyUptoCard

/-- THE SECOND FORM's CARD OF 'spoollaw23.SettableLoads'. -/
def settableLoadsUptoCard : Claim7 := { stood := { row := settableLoadsUptoRow, standIns := [], harness := (true, "61ad94dcccf544697238165c5481063577e6a0c1bc23e138afe169383c5ae3e4"), looks := false }, kinds := [], alts := [], laidByText := true, laidKinds := [.data], laidTests := true, laidLooks := .later }
def SettableLoadsUptoCardSaid : Prop := Claim7.holds Tryd.pinned (.plain (OpenSpec.upto settableLoadsSpec)) settableLoadsUptoCard

/-- THE SECOND FORM's CARD OF 'spoollaw23.SettablePlays'. -/
def settablePlaysUptoCard : Claim7 := { stood := { row := settablePlaysUptoRow, standIns := [], harness := (true, "61ad94dcccf544697238165c5481063577e6a0c1bc23e138afe169383c5ae3e4"), looks := false }, kinds := [], alts := [], laidByText := true, laidKinds := [.data], laidTests := true, laidLooks := .later }
def SettablePlaysUptoCardSaid : Prop := Claim7.holds Tryd.pinned (.plain (OpenSpec.upto settablePlaysSpec)) settablePlaysUptoCard

/-- THE SECOND FORM's CARD OF 'spoollaw22.ClosureRuns'. -/
def closureRunsUptoCard : Claim7 := { stood := { row := closureRunsUptoRow, standIns := [], harness := (true, "61ad94dcccf544697238165c5481063577e6a0c1bc23e138afe169383c5ae3e4"), looks := false }, kinds := [], alts := [], laidByText := true, laidKinds := [.data], laidTests := true, laidLooks := .later }
def ClosureRunsUptoCardSaid : Prop := Claim7.holds Tryd.pinned (.plain (OpenSpec.upto closureRunsSpec)) closureRunsUptoCard

/-- THE SECOND FORM's CARD OF 'spoollaw22.ClosureBig'. -/
def closureBigUptoCard : Claim7 := { stood := { row := closureBigUptoRow, standIns := [], harness := (true, "61ad94dcccf544697238165c5481063577e6a0c1bc23e138afe169383c5ae3e4"), looks := false }, kinds := [], alts := [], laidByText := true, laidKinds := [.data], laidTests := true, laidLooks := .later }
def ClosureBigUptoCardSaid : Prop := Claim7.holds Tryd.pinned (.plain (OpenSpec.upto closureBigSpec)) closureBigUptoCard

/-- THE SECOND FORM's CARD OF 'spoollaw23.SettableOwn'. -/
def settableOwnUptoCard : Claim7 := { stood := { row := settableOwnUptoRow, standIns := [], harness := (true, "61ad94dcccf544697238165c5481063577e6a0c1bc23e138afe169383c5ae3e4"), looks := false }, kinds := [], alts := [], laidByText := true, laidKinds := [.data], laidTests := true, laidLooks := .later }
def SettableOwnUptoCardSaid : Prop := Claim7.holds Tryd.pinned (.plain (OpenSpec.upto settableOwnSpec)) settableOwnUptoCard

/-- THE SECOND FORM's CARD OF 'spoollaw22.ClosureSteps'. -/
def closureStepsUptoCard : Claim7 := { stood := { row := closureStepsUptoRow, standIns := [], harness := (true, "61ad94dcccf544697238165c5481063577e6a0c1bc23e138afe169383c5ae3e4"), looks := false }, kinds := [], alts := [], laidByText := true, laidKinds := [.data], laidTests := true, laidLooks := .later }
def ClosureStepsUptoCardSaid : Prop := Claim7.holds Tryd.pinned (.plain (OpenSpec.upto closureStepsSpec)) closureStepsUptoCard

/-- THE SECOND FORM's CARD OF 'spoollaw24.SubsetBuilds'. -/
def subsetBuildsUptoCard : Claim7 := { stood := { row := subsetBuildsUptoRow, standIns := [], harness := (true, "61ad94dcccf544697238165c5481063577e6a0c1bc23e138afe169383c5ae3e4"), looks := false }, kinds := [], alts := [], laidByText := true, laidKinds := [.data], laidTests := true, laidLooks := .later }
def SubsetBuildsUptoCardSaid : Prop := Claim7.holds Tryd.pinned (.plain (OpenSpec.upto subsetBuildsSpec)) subsetBuildsUptoCard

/-- THE SECOND FORM's CARD OF 'spoollaw24.SubsetRuns'. -/
def subsetRunsUptoCard : Claim7 := { stood := { row := subsetRunsUptoRow, standIns := [], harness := (true, "61ad94dcccf544697238165c5481063577e6a0c1bc23e138afe169383c5ae3e4"), looks := false }, kinds := [], alts := [], laidByText := true, laidKinds := [.data], laidTests := true, laidLooks := .later }
def SubsetRunsUptoCardSaid : Prop := Claim7.holds Tryd.pinned (.plain (OpenSpec.upto subsetRunsSpec)) subsetRunsUptoCard

/-- THE SECOND FORM's CARD OF 'spoollaw24.SubsetLooks'. -/
def subsetLooksUptoCard : Claim7 := { stood := { row := subsetLooksUptoRow, standIns := [], harness := (true, "61ad94dcccf544697238165c5481063577e6a0c1bc23e138afe169383c5ae3e4"), looks := false }, kinds := [], alts := [], laidByText := true, laidKinds := [.data], laidTests := true, laidLooks := .later }
def SubsetLooksUptoCardSaid : Prop := Claim7.holds Tryd.pinned (.plain (OpenSpec.upto subsetLooksSpec)) subsetLooksUptoCard
end Rows
end Go.Proofs.YtbmpaokicphdjaaDoor
