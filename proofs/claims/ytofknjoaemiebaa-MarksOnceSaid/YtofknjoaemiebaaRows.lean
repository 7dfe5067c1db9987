/-
  No cell of these rows narrows 'for every input' (looked for: loops, veiled, ifaces, maps, wideKeys, modest, calm, conditions, laid).
  DERIVED. THE GIVEN ROWS OF THIS SEAT. 3 by the template 'for every input the law returns true; each argument reads behind the call as it read before'; 0 by the template 'total and deterministic' (their statements: YtofknjoaemiebaaTotals.lean).
  GIVEN WITH THE SEED: the statements are not yours to turn. If you find one false, say at which input.
  Laid BY PROGRAM, IN A SANDBOX (cutbox-rows.mjs): the forced cells as the released guide's own fill.sh prints them over the translation 808dc3ad9cf7c8fe… (all of the seat's roots in one cut). By AI agents, Wed Nov 11 2026. No macro, syntax, notation, axiom, sorry.
-/
import Derived.Test.YtofknjoaemiebaaChecked
import GoSem.Claim
import GoSem.ClaimJoined
import GoSem.ClaimMapViews
import Derived.JoinedTies
import Derived.KernelRfl
namespace Go.Proofs.Ytofknjoaemiebaa
/- THE CELL 'sum', in the pinned program and in every row, IS THE sha256 OF THE DUMP (.gsa) THAT YtofknjoaemiebaaProg.lean LOADS. Nothing in Lean hashes anything: it is a label: what it is worth is what the hold of that sum in a sandbox is worth. -/
noncomputable def Try.pinned : Pinned := { name := "ytofknjoaemiebaa", sum := "808dc3ad9cf7c8feef70c43d82af7bdb9b5e19260366134eb42fe46f748e44af", checked := Try.checked }
namespace Rows
def none {H : Type} : Left H := { results := [], args := [] }

/-- 'spoollaw38.MarksPlays': WHATEVER THE INPUT: true; the input reads as it did. -/
def marksPlaysSpec : ChangeSpec := { name := "marksPlays", fn := fun _ => fun
  | [d1, d2, d3] => { results := [.lit (.bool true)], args := [d1, d2, d3] }
  | _ => none }
def marksPlaysRow : OpenClaim := { program := "ytofknjoaemiebaa", sum := "808dc3ad9cf7c8feef70c43d82af7bdb9b5e19260366134eb42fe46f748e44af", func := "spool/spoollaw38.MarksPlays", spec := "marksPlays", apart := false }
def MarksPlaysSaid : Prop := marksPlaysRow.holds Try.pinned (OpenSpec.ofChange marksPlaysSpec)

/-- ITS FALSE NEIGHBOUR: 'it returns false'. Refute it at one input. -/
def marksPlaysWrong : ChangeSpec := { name := "marksPlays", fn := fun _ => fun
  | [d1, d2, d3] => { results := [.lit (.bool false)], args := [d1, d2, d3] }
  | _ => none }
def MarksPlaysWrongFalsely : Prop := marksPlaysRow.holds Try.pinned (OpenSpec.ofChange marksPlaysWrong)

/-- 'spoollaw38.MarksOnce': WHATEVER THE INPUT: true; the input reads as it did. -/
def marksOnceSpec : ChangeSpec := { name := "marksOnce", fn := fun _ => fun
  | [d1, d2, d3] => { results := [.lit (.bool true)], args := [d1, d2, d3] }
  | _ => none }
def marksOnceRow : OpenClaim := { program := "ytofknjoaemiebaa", sum := "808dc3ad9cf7c8feef70c43d82af7bdb9b5e19260366134eb42fe46f748e44af", func := "spool/spoollaw38.MarksOnce", spec := "marksOnce", apart := false }
def MarksOnceSaid : Prop := marksOnceRow.holds Try.pinned (OpenSpec.ofChange marksOnceSpec)

/-- ITS FALSE NEIGHBOUR: 'it returns false'. Refute it at one input. -/
def marksOnceWrong : ChangeSpec := { name := "marksOnce", fn := fun _ => fun
  | [d1, d2, d3] => { results := [.lit (.bool false)], args := [d1, d2, d3] }
  | _ => none }
def MarksOnceWrongFalsely : Prop := marksOnceRow.holds Try.pinned (OpenSpec.ofChange marksOnceWrong)

/-- 'spoollaw38.MarksOwn': WHATEVER THE INPUT: true; the input reads as it did. -/
def marksOwnSpec : ChangeSpec := { name := "marksOwn", fn := fun _ => fun
  | [d1, d2] => { results := [.lit (.bool true)], args := [d1, d2] }
  | _ => none }
def marksOwnRow : OpenClaim := { program := "ytofknjoaemiebaa", sum := "808dc3ad9cf7c8feef70c43d82af7bdb9b5e19260366134eb42fe46f748e44af", func := "spool/spoollaw38.MarksOwn", spec := "marksOwn", apart := false }
def MarksOwnSaid : Prop := marksOwnRow.holds Try.pinned (OpenSpec.ofChange marksOwnSpec)

/-- ITS FALSE NEIGHBOUR: 'it returns false'. Refute it at one input. -/
def marksOwnWrong : ChangeSpec := { name := "marksOwn", fn := fun _ => fun
  | [d1, d2] => { results := [.lit (.bool false)], args := [d1, d2] }
  | _ => none }
def MarksOwnWrongFalsely : Prop := marksOwnRow.holds Try.pinned (OpenSpec.ofChange marksOwnWrong)

/- THE SECOND FORM. 'bulk': how many values and letters a reading holds, each counted each time it is reached (what is shared counts as often as it is met; a slice's spare places count too). A statement '..UptoSaid' is the law's where the arguments, and the package variables that the reading takes, are together of bulk at most 1048576: NARROWER than '..Said'. Prove '..Said' where nothing that the law and all that it calls make is longer than what came in: it says more and counts as full. Else prove '..UptoSaid'. A law counts once. -/
mutual
def uptoBulk {H : Type} : DataW H → Nat
  | .lit (.string bytes) => bytes.length + 1
  | .lit _ => 1
  | .nil => 1
  | .ptr d => uptoBulk d + 1
  | .slice elems spare => uptoBulkAll elems + uptoBulkAll spare + 1
  | .agg parts => uptoBulkAll parts + 1
  | .iface _ d => uptoBulk d + 1
  | .map entries => uptoBulkEntries entries + 1
  | .held _ => 1
def uptoBulkAll {H : Type} : List (DataW H) → Nat
  | [] => 0
  | d :: r => uptoBulk d + uptoBulkAll r
def uptoBulkEntries {H : Type} : List (Lit × DataW H) → Nat
  | [] => 0
  | x :: r => uptoBulkEntry x + uptoBulkEntries r
def uptoBulkEntry {H : Type} : Lit × DataW H → Nat
  | (.string bytes, d) => bytes.length + uptoBulk d + 1
  | (_, d) => uptoBulk d + 1
 end
def uptoSmall : (H : Type) → List (DataW H) → Bool := fun _ ds => decide (uptoBulkAll ds ≤ 1048576)
def OpenSpec.upto (s : _root_.Go.ChangeSpec) : _root_.Go.OpenSpec := { _root_.Go.OpenSpec.ofChange s with cond := some uptoSmall }

/-- 'spoollaw38.MarksPlays', WHERE WHAT IT READS IS OF BULK AT MOST 1048576: true; the input reads as it did. -/
def marksPlaysUptoRow : OpenClaim := { program := "ytofknjoaemiebaa", sum := "808dc3ad9cf7c8feef70c43d82af7bdb9b5e19260366134eb42fe46f748e44af", func := "spool/spoollaw38.MarksPlays", spec := "marksPlays", apart := false, narrowed := true }
def MarksPlaysUptoSaid : Prop := marksPlaysUptoRow.holds Try.pinned (OpenSpec.upto marksPlaysSpec)

/-- 'spoollaw38.MarksOnce', WHERE WHAT IT READS IS OF BULK AT MOST 1048576: true; the input reads as it did. -/
def marksOnceUptoRow : OpenClaim := { program := "ytofknjoaemiebaa", sum := "808dc3ad9cf7c8feef70c43d82af7bdb9b5e19260366134eb42fe46f748e44af", func := "spool/spoollaw38.MarksOnce", spec := "marksOnce", apart := false, narrowed := true }
def MarksOnceUptoSaid : Prop := marksOnceUptoRow.holds Try.pinned (OpenSpec.upto marksOnceSpec)

/-- 'spoollaw38.MarksOwn', WHERE WHAT IT READS IS OF BULK AT MOST 1048576: true; the input reads as it did. -/
def marksOwnUptoRow : OpenClaim := { program := "ytofknjoaemiebaa", sum := "808dc3ad9cf7c8feef70c43d82af7bdb9b5e19260366134eb42fe46f748e44af", func := "spool/spoollaw38.MarksOwn", spec := "marksOwn", apart := false, narrowed := true }
def MarksOwnUptoSaid : Prop := marksOwnUptoRow.holds Try.pinned (OpenSpec.upto marksOwnSpec)

end Rows
end Go.Proofs.Ytofknjoaemiebaa
