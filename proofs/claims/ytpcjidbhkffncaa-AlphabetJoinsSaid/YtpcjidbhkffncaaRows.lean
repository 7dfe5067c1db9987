/-
  No cell of these rows narrows 'for every input' (looked for: loops, veiled, ifaces, maps, wideKeys, modest, calm, conditions, laid).
  DERIVED. THE GIVEN ROWS OF THIS SEAT. 3 by the template 'for every input the law returns true; each argument reads behind the call as it read before'; 0 by the template 'total and deterministic' (their statements: YtpcjidbhkffncaaTotals.lean).
  GIVEN WITH THE SEED: the statements are not yours to turn. If you find one false, say at which input.
  Laid BY PROGRAM, IN A SANDBOX (cutbox-rows.mjs): the forced cells as the released guide's own fill.sh prints them over the translation 02d758a3ef6ce2a5… (all of the seat's roots in one cut). By AI agents, Wed Nov 11 2026. No macro, syntax, notation, axiom, sorry.
-/
import Derived.Test.YtpcjidbhkffncaaChecked
import GoSem.Claim
import GoSem.ClaimJoined
import GoSem.ClaimMapViews
import Derived.JoinedTies
import Derived.KernelRfl
namespace Go.Proofs.Ytpcjidbhkffncaa
/- THE CELL 'sum', in the pinned program and in every row, IS THE sha256 OF THE DUMP (.gsa) THAT YtpcjidbhkffncaaProg.lean LOADS. Nothing in Lean hashes anything: it is a label: what it is worth is what the hold of that sum in a sandbox is worth. -/
noncomputable def Try.pinned : Pinned := { name := "ytpcjidbhkffncaa", sum := "02d758a3ef6ce2a5409fba6c4d0419e435678ae2074a78e471cca7b192f2b025", checked := Try.checked }
namespace Rows
def none {H : Type} : Left H := { results := [], args := [] }

/-- 'spoollaw09.AlphabetOf': WHATEVER THE INPUT: true; the input reads as it did. -/
def alphabetOfSpec : ChangeSpec := { name := "alphabetOf", fn := fun _ => fun
  | [d1, d2, d3] => { results := [.lit (.bool true)], args := [d1, d2, d3] }
  | _ => none }
def alphabetOfRow : OpenClaim := { program := "ytpcjidbhkffncaa", sum := "02d758a3ef6ce2a5409fba6c4d0419e435678ae2074a78e471cca7b192f2b025", func := "spool/spoollaw09.AlphabetOf", spec := "alphabetOf", plainKeys := false, apart := false }
def AlphabetOfSaid : Prop := alphabetOfRow.holds Try.pinned (OpenSpec.ofChange alphabetOfSpec)

/-- ITS FALSE NEIGHBOUR: 'it returns false'. Refute it at one input. -/
def alphabetOfWrong : ChangeSpec := { name := "alphabetOf", fn := fun _ => fun
  | [d1, d2, d3] => { results := [.lit (.bool false)], args := [d1, d2, d3] }
  | _ => none }
def AlphabetOfWrongFalsely : Prop := alphabetOfRow.holds Try.pinned (OpenSpec.ofChange alphabetOfWrong)

/-- 'spoollaw09.AlphabetJoins': WHATEVER THE INPUT: true; the input reads as it did. -/
def alphabetJoinsSpec : ChangeSpec := { name := "alphabetJoins", fn := fun _ => fun
  | [d1, d2, d3] => { results := [.lit (.bool true)], args := [d1, d2, d3] }
  | _ => none }
def alphabetJoinsRow : OpenClaim := { program := "ytpcjidbhkffncaa", sum := "02d758a3ef6ce2a5409fba6c4d0419e435678ae2074a78e471cca7b192f2b025", func := "spool/spoollaw09.AlphabetJoins", spec := "alphabetJoins", plainKeys := false, apart := false }
def AlphabetJoinsSaid : Prop := alphabetJoinsRow.holds Try.pinned (OpenSpec.ofChange alphabetJoinsSpec)

/-- ITS FALSE NEIGHBOUR: 'it returns false'. Refute it at one input. -/
def alphabetJoinsWrong : ChangeSpec := { name := "alphabetJoins", fn := fun _ => fun
  | [d1, d2, d3] => { results := [.lit (.bool false)], args := [d1, d2, d3] }
  | _ => none }
def AlphabetJoinsWrongFalsely : Prop := alphabetJoinsRow.holds Try.pinned (OpenSpec.ofChange alphabetJoinsWrong)

/-- 'spoollaw09.AlphabetRows': WHATEVER THE INPUT: true; the input reads as it did. -/
def alphabetRowsSpec : ChangeSpec := { name := "alphabetRows", fn := fun _ => fun
  | [d1, d2] => { results := [.lit (.bool true)], args := [d1, d2] }
  | _ => none }
def alphabetRowsRow : OpenClaim := { program := "ytpcjidbhkffncaa", sum := "02d758a3ef6ce2a5409fba6c4d0419e435678ae2074a78e471cca7b192f2b025", func := "spool/spoollaw09.AlphabetRows", spec := "alphabetRows", plainKeys := false, apart := false }
def AlphabetRowsSaid : Prop := alphabetRowsRow.holds Try.pinned (OpenSpec.ofChange alphabetRowsSpec)

/-- ITS FALSE NEIGHBOUR: 'it returns false'. Refute it at one input. -/
def alphabetRowsWrong : ChangeSpec := { name := "alphabetRows", fn := fun _ => fun
  | [d1, d2] => { results := [.lit (.bool false)], args := [d1, d2] }
  | _ => none }
def AlphabetRowsWrongFalsely : Prop := alphabetRowsRow.holds Try.pinned (OpenSpec.ofChange alphabetRowsWrong)

/- THE SECOND FORM. 'bulk': how many values and letters a reading holds, each counted each time it is reached (what is shared counts as often as it is met; a slice's spare places count too). A statement '..UptoSaid' is the law's where the arguments, and the package variables that the reading takes, are together of bulk at most 1048576: NARROWER than '..Said'. Prove '..Said' where nothing that the law and all that it calls make is longer than what came in: it says more and counts as full. Else prove '..UptoSaid'. A law counts once. -/
mutual
def uptoBulk {H : Type} : DataW H → Nat
  | .lit (.string bytes) => bytes.length + 1
  | .lit _ => 1
  | .nil => 1
  | .ptr d => uptoBulk d + 1
  | .slice elems spare => uptoBulkAll elems + uptoBulkAll spare + 1
  | .agg parts => uptoBulkAll parts + 1
  | .iface _ d => uptoBulk d + 1
  | .map entries => uptoBulkEntries entries + 1
  | .held _ => 1
def uptoBulkAll {H : Type} : List (DataW H) → Nat
  | [] => 0
  | d :: r => uptoBulk d + uptoBulkAll r
def uptoBulkEntries {H : Type} : List (Lit × DataW H) → Nat
  | [] => 0
  | x :: r => uptoBulkEntry x + uptoBulkEntries r
def uptoBulkEntry {H : Type} : Lit × DataW H → Nat
  | (.string bytes, d) => bytes.length + uptoBulk d + 1
  | (_, d) => uptoBulk d + 1
 end
def uptoSmall : (H : Type) → List (DataW H) → Bool := fun _ ds => decide (uptoBulkAll ds ≤ 1048576)
def OpenSpec.upto (s : _root_.Go.ChangeSpec) : _root_.Go.OpenSpec := { _root_.Go.OpenSpec.ofChange s with cond := some uptoSmall }

/-- 'spoollaw09.AlphabetOf', WHERE WHAT IT READS IS OF BULK AT MOST 1048576: true; the input reads as it did. -/
def alphabetOfUptoRow : OpenClaim := { program := "ytpcjidbhkffncaa", sum := "02d758a3ef6ce2a5409fba6c4d0419e435678ae2074a78e471cca7b192f2b025", func := "spool/spoollaw09.AlphabetOf", spec := "alphabetOf", plainKeys := false, apart := false, narrowed := true }
def AlphabetOfUptoSaid : Prop := alphabetOfUptoRow.holds Try.pinned (OpenSpec.upto alphabetOfSpec)

/-- 'spoollaw09.AlphabetJoins', WHERE WHAT IT READS IS OF BULK AT MOST 1048576: true; the input reads as it did. -/
def alphabetJoinsUptoRow : OpenClaim := { program := "ytpcjidbhkffncaa", sum := "02d758a3ef6ce2a5409fba6c4d0419e435678ae2074a78e471cca7b192f2b025", func := "spool/spoollaw09.AlphabetJoins", spec := "alphabetJoins", plainKeys := false, apart := false, narrowed := true }
def AlphabetJoinsUptoSaid : Prop := alphabetJoinsUptoRow.holds Try.pinned (OpenSpec.upto alphabetJoinsSpec)

/-- 'spoollaw09.AlphabetRows', WHERE WHAT IT READS IS OF BULK AT MOST 1048576: true; the input reads as it did. -/
def alphabetRowsUptoRow : OpenClaim := { program := "ytpcjidbhkffncaa", sum := "02d758a3ef6ce2a5409fba6c4d0419e435678ae2074a78e471cca7b192f2b025", func := "spool/spoollaw09.AlphabetRows", spec := "alphabetRows", plainKeys := false, apart := false, narrowed := true }
def AlphabetRowsUptoSaid : Prop := alphabetRowsUptoRow.holds Try.pinned (OpenSpec.upto alphabetRowsSpec)

end Rows
end Go.Proofs.Ytpcjidbhkffncaa
