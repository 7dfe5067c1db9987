/-
  No cell of these rows narrows 'for every input' (looked for: loops, veiled, ifaces, maps, wideKeys, modest, calm, conditions, laid).
  DERIVED. THE GIVEN ROWS OF THIS SEAT. 3 by the template 'for every input the law returns true; each argument reads behind the call as it read before'; 0 by the template 'total and deterministic' (their statements: YtefkhjgckdphnaaTotals.lean).
  GIVEN WITH THE SEED: the statements are not yours to turn. If you find one false, say at which input.
  Laid BY PROGRAM, IN A SANDBOX (cutbox-rows.mjs): the forced cells as the released guide's own fill.sh prints them over the translation bf8a9c003c87324a… (all of the seat's roots in one cut). By AI agents, Wed Nov 11 2026. No macro, syntax, notation, axiom, sorry.
-/
import Derived.Test.YtefkhjgckdphnaaChecked
import GoSem.Claim
import GoSem.ClaimJoined
import GoSem.ClaimMapViews
import Derived.JoinedTies
import Derived.KernelRfl
namespace Go.Proofs.Ytefkhjgckdphnaa
/- THE CELL 'sum', in the pinned program and in every row, IS THE sha256 OF THE DUMP (.gsa) THAT YtefkhjgckdphnaaProg.lean LOADS. Nothing in Lean hashes anything: it is a label: what it is worth is what the hold of that sum in a sandbox is worth. -/
noncomputable def Try.pinned : Pinned := { name := "ytefkhjgckdphnaa", sum := "bf8a9c003c87324ab29486ab5d7e0b9e747b10f497ade26dc1fc7aad60f0df17", checked := Try.checked }
namespace Rows
def none {H : Type} : Left H := { results := [], args := [] }

/-- 'spoollaw37.TrailUndo': WHATEVER THE INPUT: true; the input reads as it did. -/
def trailUndoSpec : ChangeSpec := { name := "trailUndo", fn := fun _ => fun
  | [d1, d2] => { results := [.lit (.bool true)], args := [d1, d2] }
  | _ => none }
def trailUndoRow : OpenClaim := { program := "ytefkhjgckdphnaa", sum := "bf8a9c003c87324ab29486ab5d7e0b9e747b10f497ade26dc1fc7aad60f0df17", func := "spool/spoollaw37.TrailUndo", spec := "trailUndo", apart := false }
def TrailUndoSaid : Prop := trailUndoRow.holds Try.pinned (OpenSpec.ofChange trailUndoSpec)

/-- ITS FALSE NEIGHBOUR: 'it returns false'. Refute it at one input. -/
def trailUndoWrong : ChangeSpec := { name := "trailUndo", fn := fun _ => fun
  | [d1, d2] => { results := [.lit (.bool false)], args := [d1, d2] }
  | _ => none }
def TrailUndoWrongFalsely : Prop := trailUndoRow.holds Try.pinned (OpenSpec.ofChange trailUndoWrong)

/-- 'spoollaw37.TrailPlays': WHATEVER THE INPUT: true; the input reads as it did. -/
def trailPlaysSpec : ChangeSpec := { name := "trailPlays", fn := fun _ => fun
  | [d1, d2, d3] => { results := [.lit (.bool true)], args := [d1, d2, d3] }
  | _ => none }
def trailPlaysRow : OpenClaim := { program := "ytefkhjgckdphnaa", sum := "bf8a9c003c87324ab29486ab5d7e0b9e747b10f497ade26dc1fc7aad60f0df17", func := "spool/spoollaw37.TrailPlays", spec := "trailPlays", apart := false }
def TrailPlaysSaid : Prop := trailPlaysRow.holds Try.pinned (OpenSpec.ofChange trailPlaysSpec)

/-- ITS FALSE NEIGHBOUR: 'it returns false'. Refute it at one input. -/
def trailPlaysWrong : ChangeSpec := { name := "trailPlays", fn := fun _ => fun
  | [d1, d2, d3] => { results := [.lit (.bool false)], args := [d1, d2, d3] }
  | _ => none }
def TrailPlaysWrongFalsely : Prop := trailPlaysRow.holds Try.pinned (OpenSpec.ofChange trailPlaysWrong)

/-- 'spoollaw37.TrailStays': WHATEVER THE INPUT: true; the input reads as it did. -/
def trailStaysSpec : ChangeSpec := { name := "trailStays", fn := fun _ => fun
  | [d1, d2, d3] => { results := [.lit (.bool true)], args := [d1, d2, d3] }
  | _ => none }
def trailStaysRow : OpenClaim := { program := "ytefkhjgckdphnaa", sum := "bf8a9c003c87324ab29486ab5d7e0b9e747b10f497ade26dc1fc7aad60f0df17", func := "spool/spoollaw37.TrailStays", spec := "trailStays", apart := false }
def TrailStaysSaid : Prop := trailStaysRow.holds Try.pinned (OpenSpec.ofChange trailStaysSpec)

/-- ITS FALSE NEIGHBOUR: 'it returns false'. Refute it at one input. -/
def trailStaysWrong : ChangeSpec := { name := "trailStays", fn := fun _ => fun
  | [d1, d2, d3] => { results := [.lit (.bool false)], args := [d1, d2, d3] }
  | _ => none }
def TrailStaysWrongFalsely : Prop := trailStaysRow.holds Try.pinned (OpenSpec.ofChange trailStaysWrong)

/- THE SECOND FORM. 'bulk': how many values and letters a reading holds, each counted each time it is reached (what is shared counts as often as it is met; a slice's spare places count too). A statement '..UptoSaid' is the law's where the arguments, and the package variables that the reading takes, are together of bulk at most 1048576: NARROWER than '..Said'. Prove '..Said' where nothing that the law and all that it calls make is longer than what came in: it says more and counts as full. Else prove '..UptoSaid'. A law counts once. -/
mutual
def uptoBulk {H : Type} : DataW H → Nat
  | .lit (.string bytes) => bytes.length + 1
  | .lit _ => 1
  | .nil => 1
  | .ptr d => uptoBulk d + 1
  | .slice elems spare => uptoBulkAll elems + uptoBulkAll spare + 1
  | .agg parts => uptoBulkAll parts + 1
  | .iface _ d => uptoBulk d + 1
  | .map entries => uptoBulkEntries entries + 1
  | .held _ => 1
def uptoBulkAll {H : Type} : List (DataW H) → Nat
  | [] => 0
  | d :: r => uptoBulk d + uptoBulkAll r
def uptoBulkEntries {H : Type} : List (Lit × DataW H) → Nat
  | [] => 0
  | x :: r => uptoBulkEntry x + uptoBulkEntries r
def uptoBulkEntry {H : Type} : Lit × DataW H → Nat
  | (.string bytes, d) => bytes.length + uptoBulk d + 1
  | (_, d) => uptoBulk d + 1
 end
def uptoSmall : (H : Type) → List (DataW H) → Bool := fun _ ds => decide (uptoBulkAll ds ≤ 1048576)
def OpenSpec.upto (s : _root_.Go.ChangeSpec) : _root_.Go.OpenSpec := { _root_.Go.OpenSpec.ofChange s with cond := some uptoSmall }

/-- 'spoollaw37.TrailUndo', WHERE WHAT IT READS IS OF BULK AT MOST 1048576: true; the input reads as it did. -/
def trailUndoUptoRow : OpenClaim := { program := "ytefkhjgckdphnaa", sum := "bf8a9c003c87324ab29486ab5d7e0b9e747b10f497ade26dc1fc7aad60f0df17", func := "spool/spoollaw37.TrailUndo", spec := "trailUndo", apart := false, narrowed := true }
def TrailUndoUptoSaid : Prop := trailUndoUptoRow.holds Try.pinned (OpenSpec.upto trailUndoSpec)

/-- 'spoollaw37.TrailPlays', WHERE WHAT IT READS IS OF BULK AT MOST 1048576: true; the input reads as it did. -/
def trailPlaysUptoRow : OpenClaim := { program := "ytefkhjgckdphnaa", sum := "bf8a9c003c87324ab29486ab5d7e0b9e747b10f497ade26dc1fc7aad60f0df17", func := "spool/spoollaw37.TrailPlays", spec := "trailPlays", apart := false, narrowed := true }
def TrailPlaysUptoSaid : Prop := trailPlaysUptoRow.holds Try.pinned (OpenSpec.upto trailPlaysSpec)

/-- 'spoollaw37.TrailStays', WHERE WHAT IT READS IS OF BULK AT MOST 1048576: true; the input reads as it did. -/
def trailStaysUptoRow : OpenClaim := { program := "ytefkhjgckdphnaa", sum := "bf8a9c003c87324ab29486ab5d7e0b9e747b10f497ade26dc1fc7aad60f0df17", func := "spool/spoollaw37.TrailStays", spec := "trailStays", apart := false, narrowed := true }
def TrailStaysUptoSaid : Prop := trailStaysUptoRow.holds Try.pinned (OpenSpec.upto trailStaysSpec)

end Rows
end Go.Proofs.Ytefkhjgckdphnaa
