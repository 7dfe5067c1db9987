/-
  NARROWER THAN 'FOR EVERY INPUT', by the rows' own cells (each row's printed sentence says how): TablePuts: laid · TableGets: laid · TableSame: laid.
  DERIVED. THE GIVEN ROWS OF THIS SEAT. 3 by the template 'for every input the law returns true; each argument reads behind the call as it read before'; 0 by the template 'total and deterministic' (their statements: YtpcnekdilecakaaDoorTotals.lean).
  GIVEN WITH THE SEED: the statements are not yours to turn. If you find one false, say at which input.
  Laid BY PROGRAM, IN A SANDBOX (cutbox-rows.mjs): the forced cells as the released guide's own fill.sh prints them over the translation 67495d49ceda6678… (all of the seat's roots in one cut). By AI agents, Wed Nov 11 2026. No macro, syntax, notation, axiom, sorry.
-/
import Derived.Test.YtpcnekdilecakaaDoorChecked
import GoSem.Claim
import GoSem.ClaimJoined
import GoSem.ClaimMapViews
import Derived.JoinedTies
import Derived.KernelRfl
namespace Go.Proofs.YtpcnekdilecakaaDoor
/- THE CELL 'sum', in the pinned program and in every row, IS THE sha256 OF THE DUMP (.gsa) THAT YtpcnekdilecakaaDoorProg.lean LOADS. Nothing in Lean hashes anything: it is a label: what it is worth is what the hold of that sum in a sandbox is worth. -/
noncomputable def Tryd.pinned : Pinned := { name := "ytpcnekdilecakaadoor", sum := "67495d49ceda667832525cff36533eb8d3a6252f8b8ec91ccc9b4f192ec00d57", checked := Tryd.checked }
namespace Rows
def none {H : Type} : Left H := { results := [], args := [] }

/- WHAT THE LISTED PACKAGE-LEVEL VARIABLES READ AS WHEN THE CALL BEGINS. Each datum BY PROGRAM (the guide's laid-datum.mjs) off the statement by which the dump's own 'gosem.cut.vars' lays the variable. In a bare row this is a premise. The card (YtpcnekdilecakaaDoorCards.lean) ties it to the program's text. -/
def laid_spool_table_begin {H : Type} : DataW H := .agg [.lit (.int .u8 83), .lit (.int .u8 80), .lit (.int .u8 1)]

/-- 'spoollaw30.TablePuts': WHATEVER THE INPUT: true; the input reads as it did. -/
def tablePutsSpec : ChangeSpec := { name := "tablePuts", fn := fun _ => fun
  | [d] => { results := [.lit (.bool true)], args := [d] }
  | _ => none }
def tablePutsRow : OpenClaim := { program := "ytpcnekdilecakaadoor", sum := "67495d49ceda667832525cff36533eb8d3a6252f8b8ec91ccc9b4f192ec00d57", func := "spool/spoollaw30.TablePuts", spec := "tablePuts", unfollowed := true, recurses := true, named := ["spool/table.begin"], apart := false, laid := [("spool/table.begin", laid_spool_table_begin)] }
def TablePutsSaid : Prop := tablePutsRow.holds Tryd.pinned (OpenSpec.ofChange tablePutsSpec)

/-- ITS FALSE NEIGHBOUR: 'it returns false'. Refute it at one input. -/
def tablePutsWrong : ChangeSpec := { name := "tablePuts", fn := fun _ => fun
  | [d] => { results := [.lit (.bool false)], args := [d] }
  | _ => none }
def TablePutsWrongFalsely : Prop := tablePutsRow.holds Tryd.pinned (OpenSpec.ofChange tablePutsWrong)

/-- 'spoollaw30.TableGets': WHATEVER THE INPUT: true; the input reads as it did. -/
def tableGetsSpec : ChangeSpec := { name := "tableGets", fn := fun _ => fun
  | [d] => { results := [.lit (.bool true)], args := [d] }
  | _ => none }
def tableGetsRow : OpenClaim := { program := "ytpcnekdilecakaadoor", sum := "67495d49ceda667832525cff36533eb8d3a6252f8b8ec91ccc9b4f192ec00d57", func := "spool/spoollaw30.TableGets", spec := "tableGets", unfollowed := true, recurses := true, named := ["spool/table.begin"], apart := false, laid := [("spool/table.begin", laid_spool_table_begin)] }
def TableGetsSaid : Prop := tableGetsRow.holds Tryd.pinned (OpenSpec.ofChange tableGetsSpec)

/-- ITS FALSE NEIGHBOUR: 'it returns false'. Refute it at one input. -/
def tableGetsWrong : ChangeSpec := { name := "tableGets", fn := fun _ => fun
  | [d] => { results := [.lit (.bool false)], args := [d] }
  | _ => none }
def TableGetsWrongFalsely : Prop := tableGetsRow.holds Tryd.pinned (OpenSpec.ofChange tableGetsWrong)

/-- 'spoollaw30.TableSame': WHATEVER THE INPUT: true; the input reads as it did. -/
def tableSameSpec : ChangeSpec := { name := "tableSame", fn := fun _ => fun
  | [d1, d2, d3] => { results := [.lit (.bool true)], args := [d1, d2, d3] }
  | _ => none }
def tableSameRow : OpenClaim := { program := "ytpcnekdilecakaadoor", sum := "67495d49ceda667832525cff36533eb8d3a6252f8b8ec91ccc9b4f192ec00d57", func := "spool/spoollaw30.TableSame", spec := "tableSame", unfollowed := true, recurses := true, named := ["spool/table.begin"], apart := false, laid := [("spool/table.begin", laid_spool_table_begin)] }
def TableSameSaid : Prop := tableSameRow.holds Tryd.pinned (OpenSpec.ofChange tableSameSpec)

/-- ITS FALSE NEIGHBOUR: 'it returns false'. Refute it at one input. -/
def tableSameWrong : ChangeSpec := { name := "tableSame", fn := fun _ => fun
  | [d1, d2, d3] => { results := [.lit (.bool false)], args := [d1, d2, d3] }
  | _ => none }
def TableSameWrongFalsely : Prop := tableSameRow.holds Tryd.pinned (OpenSpec.ofChange tableSameWrong)

/- THE SECOND FORM. 'bulk': how many values and letters a reading holds, each counted each time it is reached (what is shared counts as often as it is met; a slice's spare places count too). A statement '..UptoSaid' is the law's where the arguments, and the package variables that the reading takes, are together of bulk at most 1048576: NARROWER than '..Said'. Prove '..Said' where nothing that the law and all that it calls make is longer than what came in: it says more and counts as full. Else prove '..UptoSaid'. A law counts once. -/
mutual
def uptoBulk {H : Type} : DataW H → Nat
  | .lit (.string bytes) => bytes.length + 1
  | .lit _ => 1
  | .nil => 1
  | .ptr d => uptoBulk d + 1
  | .slice elems spare => uptoBulkAll elems + uptoBulkAll spare + 1
  | .agg parts => uptoBulkAll parts + 1
  | .iface _ d => uptoBulk d + 1
  | .map entries => uptoBulkEntries entries + 1
  | .held _ => 1
def uptoBulkAll {H : Type} : List (DataW H) → Nat
  | [] => 0
  | d :: r => uptoBulk d + uptoBulkAll r
def uptoBulkEntries {H : Type} : List (Lit × DataW H) → Nat
  | [] => 0
  | x :: r => uptoBulkEntry x + uptoBulkEntries r
def uptoBulkEntry {H : Type} : Lit × DataW H → Nat
  | (.string bytes, d) => bytes.length + uptoBulk d + 1
  | (_, d) => uptoBulk d + 1
 end
def uptoSmall : (H : Type) → List (DataW H) → Bool := fun _ ds => decide (uptoBulkAll ds ≤ 1048576)
def OpenSpec.upto (s : _root_.Go.ChangeSpec) : _root_.Go.OpenSpec := { _root_.Go.OpenSpec.ofChange s with cond := some uptoSmall }

/-- 'spoollaw30.TablePuts', WHERE WHAT IT READS IS OF BULK AT MOST 1048576: true; the input reads as it did. -/
def tablePutsUptoRow : OpenClaim := { program := "ytpcnekdilecakaadoor", sum := "67495d49ceda667832525cff36533eb8d3a6252f8b8ec91ccc9b4f192ec00d57", func := "spool/spoollaw30.TablePuts", spec := "tablePuts", unfollowed := true, recurses := true, named := ["spool/table.begin"], apart := false, laid := [("spool/table.begin", laid_spool_table_begin)], narrowed := true }
def TablePutsUptoSaid : Prop := tablePutsUptoRow.holds Tryd.pinned (OpenSpec.upto tablePutsSpec)

/-- 'spoollaw30.TableGets', WHERE WHAT IT READS IS OF BULK AT MOST 1048576: true; the input reads as it did. -/
def tableGetsUptoRow : OpenClaim := { program := "ytpcnekdilecakaadoor", sum := "67495d49ceda667832525cff36533eb8d3a6252f8b8ec91ccc9b4f192ec00d57", func := "spool/spoollaw30.TableGets", spec := "tableGets", unfollowed := true, recurses := true, named := ["spool/table.begin"], apart := false, laid := [("spool/table.begin", laid_spool_table_begin)], narrowed := true }
def TableGetsUptoSaid : Prop := tableGetsUptoRow.holds Tryd.pinned (OpenSpec.upto tableGetsSpec)

/-- 'spoollaw30.TableSame', WHERE WHAT IT READS IS OF BULK AT MOST 1048576: true; the input reads as it did. -/
def tableSameUptoRow : OpenClaim := { program := "ytpcnekdilecakaadoor", sum := "67495d49ceda667832525cff36533eb8d3a6252f8b8ec91ccc9b4f192ec00d57", func := "spool/spoollaw30.TableSame", spec := "tableSame", unfollowed := true, recurses := true, named := ["spool/table.begin"], apart := false, laid := [("spool/table.begin", laid_spool_table_begin)], narrowed := true }
def TableSameUptoSaid : Prop := tableSameUptoRow.holds Tryd.pinned (OpenSpec.upto tableSameSpec)

end Rows
end Go.Proofs.YtpcnekdilecakaaDoor
