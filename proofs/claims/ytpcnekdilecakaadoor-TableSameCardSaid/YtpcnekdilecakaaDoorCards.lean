/-
  DERIVED. GIVEN WITH THE SEED: THE CARDS: each row of YtpcnekdilecakaaDoorRows.lean that lists a variable, with what it lists TIED to the program's text (the seventh form; the later family's looks); each row that meets fmt, with fmt's text TOLD by the authors' own Lean function (tested against real Go, not proved from fmt's source: count such statements apart). THE CARD IS WHAT COUNTS. Prove the row's statement (the work); the ties are given (YtpcnekdilecakaaDoorTie.lean); close each card by the builder's one call (the guide's Derived/Test/ToyasCard.lean, 'card_holds'). Laid BY PROGRAM, IN A SANDBOX (cutbox-door.mjs). By AI agents, Wed Nov 11 2026. No macro, syntax, notation, axiom, sorry.
-/
import Derived.Test.YtpcnekdilecakaaDoorRows
import GoSem.ClaimSeven
namespace Go.Proofs.YtpcnekdilecakaaDoor
namespace Rows

/-- THE TIED CARD OF 'spoollaw30.TablePuts'. -/
def tablePutsCard : Claim7 := { stood := { row := tablePutsRow, standIns := [], harness := (true, "03acc7a7200e2a1df99d9c79fa2a56794a4a16b573cfa0ae012cf680b7c1e4b6"), looks := false }, kinds := [], alts := [], laidByText := true, laidKinds := [.data], laidTests := true, laidLooks := .later }
def TablePutsCardSaid : Prop := Claim7.holds Tryd.pinned (.plain (OpenSpec.ofChange tablePutsSpec)) tablePutsCard

/-- THE TIED CARD OF 'spoollaw30.TableGets'. -/
def tableGetsCard : Claim7 := { stood := { row := tableGetsRow, standIns := [], harness := (true, "03acc7a7200e2a1df99d9c79fa2a56794a4a16b573cfa0ae012cf680b7c1e4b6"), looks := false }, kinds := [], alts := [], laidByText := true, laidKinds := [.data], laidTests := true, laidLooks := .later }
def TableGetsCardSaid : Prop := Claim7.holds Tryd.pinned (.plain (OpenSpec.ofChange tableGetsSpec)) tableGetsCard

/-- THE TIED CARD OF 'spoollaw30.TableSame'. -/
def tableSameCard : Claim7 := { stood := { row := tableSameRow, standIns := [], harness := (true, "03acc7a7200e2a1df99d9c79fa2a56794a4a16b573cfa0ae012cf680b7c1e4b6"), looks := false }, kinds := [], alts := [], laidByText := true, laidKinds := [.data], laidTests := true, laidLooks := .later }
def TableSameCardSaid : Prop := Claim7.holds Tryd.pinned (.plain (OpenSpec.ofChange tableSameSpec)) tableSameCard

/-- THE SECOND FORM's CARD OF 'spoollaw30.TablePuts'. -/
def tablePutsUptoCard : Claim7 := { stood := { row := tablePutsUptoRow, standIns := [], harness := (true, "03acc7a7200e2a1df99d9c79fa2a56794a4a16b573cfa0ae012cf680b7c1e4b6"), looks := false }, kinds := [], alts := [], laidByText := true, laidKinds := [.data], laidTests := true, laidLooks := .later }
def TablePutsUptoCardSaid : Prop := Claim7.holds Tryd.pinned (.plain (OpenSpec.upto tablePutsSpec)) tablePutsUptoCard

/-- THE SECOND FORM's CARD OF 'spoollaw30.TableGets'. -/
def tableGetsUptoCard : Claim7 := { stood := { row := tableGetsUptoRow, standIns := [], harness := (true, "03acc7a7200e2a1df99d9c79fa2a56794a4a16b573cfa0ae012cf680b7c1e4b6"), looks := false }, kinds := [], alts := [], laidByText := true, laidKinds := [.data], laidTests := true, laidLooks := .later }
def TableGetsUptoCardSaid : Prop := Claim7.holds Tryd.pinned (.plain (OpenSpec.upto tableGetsSpec)) tableGetsUptoCard

/-- THE SECOND FORM's CARD OF 'spoollaw30.TableSame'. -/
def tableSameUptoCard : Claim7 := { stood := { row := tableSameUptoRow, standIns := [], harness := (true, "03acc7a7200e2a1df99d9c79fa2a56794a4a16b573cfa0ae012cf680b7c1e4b6"), looks := false }, kinds := [], alts := [], laidByText := true, laidKinds := [.data], laidTests := true, laidLooks := .later }
def TableSameUptoCardSaid : Prop := Claim7.holds Tryd.pinned (.plain (OpenSpec.upto tableSameSpec)) tableSameUptoCard
end Rows
end Go.Proofs.YtpcnekdilecakaaDoor
