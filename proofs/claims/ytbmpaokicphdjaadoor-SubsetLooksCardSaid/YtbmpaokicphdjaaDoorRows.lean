/-
  NARROWER THAN 'FOR EVERY INPUT', by the rows' own cells (each row's printed sentence says how): BitsSame: laid · BitsNobody: laid · SettableLoads: laid · SettablePlays: laid · ClosureRuns: laid · ClosureBig: laid · SettableOwn: laid · ClosureSteps: laid · SubsetBuilds: laid · SubsetRuns: laid · SubsetLooks: laid.
  DERIVED. THE GIVEN ROWS OF THIS SEAT. 11 by the template 'for every input the law returns true; each argument reads behind the call as it read before'; 0 by the template 'total and deterministic' (their statements: YtbmpaokicphdjaaDoorTotals.lean).
  GIVEN WITH THE SEED: the statements are not yours to turn. If you find one false, say at which input.
  Laid BY PROGRAM, IN A SANDBOX (cutbox-rows.mjs): the forced cells as the released guide's own fill.sh prints them over the translation a65ca48bb80c62da… (all of the seat's roots in one cut). By AI agents, Wed Nov 11 2026. No macro, syntax, notation, axiom, sorry.
-/
import Derived.Test.YtbmpaokicphdjaaDoorChecked
import GoSem.Claim
import GoSem.ClaimJoined
import GoSem.ClaimMapViews
import Derived.JoinedTies
import Derived.KernelRfl
namespace Go.Proofs.YtbmpaokicphdjaaDoor
/- THE CELL 'sum', in the pinned program and in every row, IS THE sha256 OF THE DUMP (.gsa) THAT YtbmpaokicphdjaaDoorProg.lean LOADS. Nothing in Lean hashes anything: it is a label: what it is worth is what the hold of that sum in a sandbox is worth. -/
noncomputable def Tryd.pinned : Pinned := { name := "ytbmpaokicphdjaadoor", sum := "a65ca48bb80c62dafcdcb46256ae6684f304484f810d3670dcfcd89920021544", checked := Tryd.checked }
namespace Rows
def none {H : Type} : Left H := { results := [], args := [] }

/- WHAT THE LISTED PACKAGE-LEVEL VARIABLES READ AS WHEN THE CALL BEGINS. Each datum BY PROGRAM (the guide's laid-datum.mjs) off the statement by which the dump's own 'gosem.cut.vars' lays the variable. In a bare row this is a premise. The card (YtbmpaokicphdjaaDoorCards.lean) ties it to the program's text. -/
def laid_math_bits_deBruijn64tab {H : Type} : DataW H := .agg [.lit (.int .u8 0), .lit (.int .u8 1), .lit (.int .u8 56), .lit (.int .u8 2), .lit (.int .u8 57), .lit (.int .u8 49), .lit (.int .u8 28), .lit (.int .u8 3), .lit (.int .u8 61), .lit (.int .u8 58), .lit (.int .u8 42), .lit (.int .u8 50), .lit (.int .u8 38), .lit (.int .u8 29), .lit (.int .u8 17), .lit (.int .u8 4), .lit (.int .u8 62), .lit (.int .u8 47), .lit (.int .u8 59), .lit (.int .u8 36), .lit (.int .u8 45), .lit (.int .u8 43), .lit (.int .u8 51), .lit (.int .u8 22), .lit (.int .u8 53), .lit (.int .u8 39), .lit (.int .u8 33), .lit (.int .u8 30), .lit (.int .u8 24), .lit (.int .u8 18), .lit (.int .u8 12), .lit (.int .u8 5), .lit (.int .u8 63), .lit (.int .u8 55), .lit (.int .u8 48), .lit (.int .u8 27), .lit (.int .u8 60), .lit (.int .u8 41), .lit (.int .u8 37), .lit (.int .u8 16), .lit (.int .u8 46), .lit (.int .u8 35), .lit (.int .u8 44), .lit (.int .u8 21), .lit (.int .u8 52), .lit (.int .u8 32), .lit (.int .u8 23), .lit (.int .u8 11), .lit (.int .u8 54), .lit (.int .u8 26), .lit (.int .u8 40), .lit (.int .u8 15), .lit (.int .u8 34), .lit (.int .u8 20), .lit (.int .u8 31), .lit (.int .u8 10), .lit (.int .u8 25), .lit (.int .u8 14), .lit (.int .u8 19), .lit (.int .u8 9), .lit (.int .u8 13), .lit (.int .u8 8), .lit (.int .u8 7), .lit (.int .u8 6)]

/-- 'spoollaw20.BitsSame': WHATEVER THE INPUT: true; the input reads as it did. -/
def bitsSameSpec : ChangeSpec := { name := "bitsSame", fn := fun _ => fun
  | [d1, d2, d3] => { results := [.lit (.bool true)], args := [d1, d2, d3] }
  | _ => none }
def bitsSameRow : OpenClaim := { program := "ytbmpaokicphdjaadoor", sum := "a65ca48bb80c62dafcdcb46256ae6684f304484f810d3670dcfcd89920021544", func := "spool/spoollaw20.BitsSame", spec := "bitsSame", unfollowed := true, recurses := true, named := ["math/bits.deBruijn64tab"], plainKeys := false, apart := false, laid := [("math/bits.deBruijn64tab", laid_math_bits_deBruijn64tab)] }
def BitsSameSaid : Prop := bitsSameRow.holds Tryd.pinned (OpenSpec.ofChange bitsSameSpec)

/-- ITS FALSE NEIGHBOUR: 'it returns false'. Refute it at one input. -/
def bitsSameWrong : ChangeSpec := { name := "bitsSame", fn := fun _ => fun
  | [d1, d2, d3] => { results := [.lit (.bool false)], args := [d1, d2, d3] }
  | _ => none }
def BitsSameWrongFalsely : Prop := bitsSameRow.holds Tryd.pinned (OpenSpec.ofChange bitsSameWrong)

/-- 'spoollaw20.BitsNobody': WHATEVER THE INPUT: true; the input reads as it did. -/
def bitsNobodySpec : ChangeSpec := { name := "bitsNobody", fn := fun _ => fun
  | [d] => { results := [.lit (.bool true)], args := [d] }
  | _ => none }
def bitsNobodyRow : OpenClaim := { program := "ytbmpaokicphdjaadoor", sum := "a65ca48bb80c62dafcdcb46256ae6684f304484f810d3670dcfcd89920021544", func := "spool/spoollaw20.BitsNobody", spec := "bitsNobody", unfollowed := true, recurses := true, named := ["math/bits.deBruijn64tab"], plainKeys := false, apart := false, laid := [("math/bits.deBruijn64tab", laid_math_bits_deBruijn64tab)] }
def BitsNobodySaid : Prop := bitsNobodyRow.holds Tryd.pinned (OpenSpec.ofChange bitsNobodySpec)

/-- ITS FALSE NEIGHBOUR: 'it returns false'. Refute it at one input. -/
def bitsNobodyWrong : ChangeSpec := { name := "bitsNobody", fn := fun _ => fun
  | [d] => { results := [.lit (.bool false)], args := [d] }
  | _ => none }
def BitsNobodyWrongFalsely : Prop := bitsNobodyRow.holds Tryd.pinned (OpenSpec.ofChange bitsNobodyWrong)

/-- 'spoollaw23.SettableLoads': WHATEVER THE INPUT: true; the input reads as it did. -/
def settableLoadsSpec : ChangeSpec := { name := "settableLoads", fn := fun _ => fun
  | [d] => { results := [.lit (.bool true)], args := [d] }
  | _ => none }
def settableLoadsRow : OpenClaim := { program := "ytbmpaokicphdjaadoor", sum := "a65ca48bb80c62dafcdcb46256ae6684f304484f810d3670dcfcd89920021544", func := "spool/spoollaw23.SettableLoads", spec := "settableLoads", unfollowed := true, recurses := true, named := ["math/bits.deBruijn64tab"], plainKeys := false, apart := false, laid := [("math/bits.deBruijn64tab", laid_math_bits_deBruijn64tab)] }
def SettableLoadsSaid : Prop := settableLoadsRow.holds Tryd.pinned (OpenSpec.ofChange settableLoadsSpec)

/-- ITS FALSE NEIGHBOUR: 'it returns false'. Refute it at one input. -/
def settableLoadsWrong : ChangeSpec := { name := "settableLoads", fn := fun _ => fun
  | [d] => { results := [.lit (.bool false)], args := [d] }
  | _ => none }
def SettableLoadsWrongFalsely : Prop := settableLoadsRow.holds Tryd.pinned (OpenSpec.ofChange settableLoadsWrong)

/-- 'spoollaw23.SettablePlays': WHATEVER THE INPUT: true; the input reads as it did. -/
def settablePlaysSpec : ChangeSpec := { name := "settablePlays", fn := fun _ => fun
  | [d1, d2, d3] => { results := [.lit (.bool true)], args := [d1, d2, d3] }
  | _ => none }
def settablePlaysRow : OpenClaim := { program := "ytbmpaokicphdjaadoor", sum := "a65ca48bb80c62dafcdcb46256ae6684f304484f810d3670dcfcd89920021544", func := "spool/spoollaw23.SettablePlays", spec := "settablePlays", unfollowed := true, recurses := true, named := ["math/bits.deBruijn64tab"], plainKeys := false, apart := false, laid := [("math/bits.deBruijn64tab", laid_math_bits_deBruijn64tab)] }
def SettablePlaysSaid : Prop := settablePlaysRow.holds Tryd.pinned (OpenSpec.ofChange settablePlaysSpec)

/-- ITS FALSE NEIGHBOUR: 'it returns false'. Refute it at one input. -/
def settablePlaysWrong : ChangeSpec := { name := "settablePlays", fn := fun _ => fun
  | [d1, d2, d3] => { results := [.lit (.bool false)], args := [d1, d2, d3] }
  | _ => none }
def SettablePlaysWrongFalsely : Prop := settablePlaysRow.holds Tryd.pinned (OpenSpec.ofChange settablePlaysWrong)

/-- 'spoollaw22.ClosureRuns': WHATEVER THE INPUT: true; the input reads as it did. -/
def closureRunsSpec : ChangeSpec := { name := "closureRuns", fn := fun _ => fun
  | [d1, d2, d3] => { results := [.lit (.bool true)], args := [d1, d2, d3] }
  | _ => none }
def closureRunsRow : OpenClaim := { program := "ytbmpaokicphdjaadoor", sum := "a65ca48bb80c62dafcdcb46256ae6684f304484f810d3670dcfcd89920021544", func := "spool/spoollaw22.ClosureRuns", spec := "closureRuns", unfollowed := true, recurses := true, named := ["math/bits.deBruijn64tab"], plainKeys := false, apart := false, laid := [("math/bits.deBruijn64tab", laid_math_bits_deBruijn64tab)] }
def ClosureRunsSaid : Prop := closureRunsRow.holds Tryd.pinned (OpenSpec.ofChange closureRunsSpec)

/-- ITS FALSE NEIGHBOUR: 'it returns false'. Refute it at one input. -/
def closureRunsWrong : ChangeSpec := { name := "closureRuns", fn := fun _ => fun
  | [d1, d2, d3] => { results := [.lit (.bool false)], args := [d1, d2, d3] }
  | _ => none }
def ClosureRunsWrongFalsely : Prop := closureRunsRow.holds Tryd.pinned (OpenSpec.ofChange closureRunsWrong)

/-- 'spoollaw22.ClosureBig': WHATEVER THE INPUT: true; the input reads as it did. -/
def closureBigSpec : ChangeSpec := { name := "closureBig", fn := fun _ => fun
  | [d] => { results := [.lit (.bool true)], args := [d] }
  | _ => none }
def closureBigRow : OpenClaim := { program := "ytbmpaokicphdjaadoor", sum := "a65ca48bb80c62dafcdcb46256ae6684f304484f810d3670dcfcd89920021544", func := "spool/spoollaw22.ClosureBig", spec := "closureBig", unfollowed := true, recurses := true, named := ["math/bits.deBruijn64tab"], plainKeys := false, apart := false, laid := [("math/bits.deBruijn64tab", laid_math_bits_deBruijn64tab)] }
def ClosureBigSaid : Prop := closureBigRow.holds Tryd.pinned (OpenSpec.ofChange closureBigSpec)

/-- ITS FALSE NEIGHBOUR: 'it returns false'. Refute it at one input. -/
def closureBigWrong : ChangeSpec := { name := "closureBig", fn := fun _ => fun
  | [d] => { results := [.lit (.bool false)], args := [d] }
  | _ => none }
def ClosureBigWrongFalsely : Prop := closureBigRow.holds Tryd.pinned (OpenSpec.ofChange closureBigWrong)

/-- 'spoollaw23.SettableOwn': WHATEVER THE INPUT: true; the input reads as it did. -/
def settableOwnSpec : ChangeSpec := { name := "settableOwn", fn := fun _ => fun
  | [d1, d2] => { results := [.lit (.bool true)], args := [d1, d2] }
  | _ => none }
def settableOwnRow : OpenClaim := { program := "ytbmpaokicphdjaadoor", sum := "a65ca48bb80c62dafcdcb46256ae6684f304484f810d3670dcfcd89920021544", func := "spool/spoollaw23.SettableOwn", spec := "settableOwn", unfollowed := true, recurses := true, named := ["math/bits.deBruijn64tab"], plainKeys := false, apart := false, laid := [("math/bits.deBruijn64tab", laid_math_bits_deBruijn64tab)] }
def SettableOwnSaid : Prop := settableOwnRow.holds Tryd.pinned (OpenSpec.ofChange settableOwnSpec)

/-- ITS FALSE NEIGHBOUR: 'it returns false'. Refute it at one input. -/
def settableOwnWrong : ChangeSpec := { name := "settableOwn", fn := fun _ => fun
  | [d1, d2] => { results := [.lit (.bool false)], args := [d1, d2] }
  | _ => none }
def SettableOwnWrongFalsely : Prop := settableOwnRow.holds Tryd.pinned (OpenSpec.ofChange settableOwnWrong)

/-- 'spoollaw22.ClosureSteps': WHATEVER THE INPUT: true; the input reads as it did. -/
def closureStepsSpec : ChangeSpec := { name := "closureSteps", fn := fun _ => fun
  | [d1, d2, d3] => { results := [.lit (.bool true)], args := [d1, d2, d3] }
  | _ => none }
def closureStepsRow : OpenClaim := { program := "ytbmpaokicphdjaadoor", sum := "a65ca48bb80c62dafcdcb46256ae6684f304484f810d3670dcfcd89920021544", func := "spool/spoollaw22.ClosureSteps", spec := "closureSteps", unfollowed := true, recurses := true, named := ["math/bits.deBruijn64tab"], plainKeys := false, apart := false, laid := [("math/bits.deBruijn64tab", laid_math_bits_deBruijn64tab)] }
def ClosureStepsSaid : Prop := closureStepsRow.holds Tryd.pinned (OpenSpec.ofChange closureStepsSpec)

/-- ITS FALSE NEIGHBOUR: 'it returns false'. Refute it at one input. -/
def closureStepsWrong : ChangeSpec := { name := "closureSteps", fn := fun _ => fun
  | [d1, d2, d3] => { results := [.lit (.bool false)], args := [d1, d2, d3] }
  | _ => none }
def ClosureStepsWrongFalsely : Prop := closureStepsRow.holds Tryd.pinned (OpenSpec.ofChange closureStepsWrong)

/-- 'spoollaw24.SubsetBuilds': WHATEVER THE INPUT: true; the input reads as it did. -/
def subsetBuildsSpec : ChangeSpec := { name := "subsetBuilds", fn := fun _ => fun
  | [d1, d2] => { results := [.lit (.bool true)], args := [d1, d2] }
  | _ => none }
def subsetBuildsRow : OpenClaim := { program := "ytbmpaokicphdjaadoor", sum := "a65ca48bb80c62dafcdcb46256ae6684f304484f810d3670dcfcd89920021544", func := "spool/spoollaw24.SubsetBuilds", spec := "subsetBuilds", unfollowed := true, recurses := true, named := ["math/bits.deBruijn64tab"], plainKeys := false, apart := false, laid := [("math/bits.deBruijn64tab", laid_math_bits_deBruijn64tab)] }
def SubsetBuildsSaid : Prop := subsetBuildsRow.holds Tryd.pinned (OpenSpec.ofChange subsetBuildsSpec)

/-- ITS FALSE NEIGHBOUR: 'it returns false'. Refute it at one input. -/
def subsetBuildsWrong : ChangeSpec := { name := "subsetBuilds", fn := fun _ => fun
  | [d1, d2] => { results := [.lit (.bool false)], args := [d1, d2] }
  | _ => none }
def SubsetBuildsWrongFalsely : Prop := subsetBuildsRow.holds Tryd.pinned (OpenSpec.ofChange subsetBuildsWrong)

/-- 'spoollaw24.SubsetRuns': WHATEVER THE INPUT: true; the input reads as it did. -/
def subsetRunsSpec : ChangeSpec := { name := "subsetRuns", fn := fun _ => fun
  | [d1, d2] => { results := [.lit (.bool true)], args := [d1, d2] }
  | _ => none }
def subsetRunsRow : OpenClaim := { program := "ytbmpaokicphdjaadoor", sum := "a65ca48bb80c62dafcdcb46256ae6684f304484f810d3670dcfcd89920021544", func := "spool/spoollaw24.SubsetRuns", spec := "subsetRuns", unfollowed := true, recurses := true, named := ["math/bits.deBruijn64tab"], plainKeys := false, apart := false, laid := [("math/bits.deBruijn64tab", laid_math_bits_deBruijn64tab)] }
def SubsetRunsSaid : Prop := subsetRunsRow.holds Tryd.pinned (OpenSpec.ofChange subsetRunsSpec)

/-- ITS FALSE NEIGHBOUR: 'it returns false'. Refute it at one input. -/
def subsetRunsWrong : ChangeSpec := { name := "subsetRuns", fn := fun _ => fun
  | [d1, d2] => { results := [.lit (.bool false)], args := [d1, d2] }
  | _ => none }
def SubsetRunsWrongFalsely : Prop := subsetRunsRow.holds Tryd.pinned (OpenSpec.ofChange subsetRunsWrong)

/-- 'spoollaw24.SubsetLooks': WHATEVER THE INPUT: true; the input reads as it did. -/
def subsetLooksSpec : ChangeSpec := { name := "subsetLooks", fn := fun _ => fun
  | [d1, d2, d3] => { results := [.lit (.bool true)], args := [d1, d2, d3] }
  | _ => none }
def subsetLooksRow : OpenClaim := { program := "ytbmpaokicphdjaadoor", sum := "a65ca48bb80c62dafcdcb46256ae6684f304484f810d3670dcfcd89920021544", func := "spool/spoollaw24.SubsetLooks", spec := "subsetLooks", unfollowed := true, recurses := true, named := ["math/bits.deBruijn64tab"], plainKeys := false, apart := false, laid := [("math/bits.deBruijn64tab", laid_math_bits_deBruijn64tab)] }
def SubsetLooksSaid : Prop := subsetLooksRow.holds Tryd.pinned (OpenSpec.ofChange subsetLooksSpec)

/-- ITS FALSE NEIGHBOUR: 'it returns false'. Refute it at one input. -/
def subsetLooksWrong : ChangeSpec := { name := "subsetLooks", fn := fun _ => fun
  | [d1, d2, d3] => { results := [.lit (.bool false)], args := [d1, d2, d3] }
  | _ => none }
def SubsetLooksWrongFalsely : Prop := subsetLooksRow.holds Tryd.pinned (OpenSpec.ofChange subsetLooksWrong)

/- THE SECOND FORM. 'bulk': how many values and letters a reading holds, each counted each time it is reached (what is shared counts as often as it is met; a slice's spare places count too). A statement '..UptoSaid' is the law's where the arguments, and the package variables that the reading takes, are together of bulk at most 1048576: NARROWER than '..Said'. Prove '..Said' where nothing that the law and all that it calls make is longer than what came in: it says more and counts as full. Else prove '..UptoSaid'. A law counts once. -/
mutual
def uptoBulk {H : Type} : DataW H → Nat
  | .lit (.string bytes) => bytes.length + 1
  | .lit _ => 1
  | .nil => 1
  | .ptr d => uptoBulk d + 1
  | .slice elems spare => uptoBulkAll elems + uptoBulkAll spare + 1
  | .agg parts => uptoBulkAll parts + 1
  | .iface _ d => uptoBulk d + 1
  | .map entries => uptoBulkEntries entries + 1
  | .held _ => 1
def uptoBulkAll {H : Type} : List (DataW H) → Nat
  | [] => 0
  | d :: r => uptoBulk d + uptoBulkAll r
def uptoBulkEntries {H : Type} : List (Lit × DataW H) → Nat
  | [] => 0
  | x :: r => uptoBulkEntry x + uptoBulkEntries r
def uptoBulkEntry {H : Type} : Lit × DataW H → Nat
  | (.string bytes, d) => bytes.length + uptoBulk d + 1
  | (_, d) => uptoBulk d + 1
 end
def uptoSmall : (H : Type) → List (DataW H) → Bool := fun _ ds => decide (uptoBulkAll ds ≤ 1048576)
def OpenSpec.upto (s : _root_.Go.ChangeSpec) : _root_.Go.OpenSpec := { _root_.Go.OpenSpec.ofChange s with cond := some uptoSmall }

/-- 'spoollaw20.BitsSame', WHERE WHAT IT READS IS OF BULK AT MOST 1048576: true; the input reads as it did. -/
def bitsSameUptoRow : OpenClaim := { program := "ytbmpaokicphdjaadoor", sum := "a65ca48bb80c62dafcdcb46256ae6684f304484f810d3670dcfcd89920021544", func := "spool/spoollaw20.BitsSame", spec := "bitsSame", unfollowed := true, recurses := true, named := ["math/bits.deBruijn64tab"], plainKeys := false, apart := false, laid := [("math/bits.deBruijn64tab", laid_math_bits_deBruijn64tab)], narrowed := true }
def BitsSameUptoSaid : Prop := bitsSameUptoRow.holds Tryd.pinned (OpenSpec.upto bitsSameSpec)

/-- 'spoollaw20.BitsNobody', WHERE WHAT IT READS IS OF BULK AT MOST 1048576: true; the input reads as it did. -/
def bitsNobodyUptoRow : OpenClaim := { program := "ytbmpaokicphdjaadoor", sum := "a65ca48bb80c62dafcdcb46256ae6684f304484f810d3670dcfcd89920021544", func := "spool/spoollaw20.BitsNobody", spec := "bitsNobody", unfollowed := true, recurses := true, named := ["math/bits.deBruijn64tab"], plainKeys := false, apart := false, laid := [("math/bits.deBruijn64tab", laid_math_bits_deBruijn64tab)], narrowed := true }
def BitsNobodyUptoSaid : Prop := bitsNobodyUptoRow.holds Tryd.pinned (OpenSpec.upto bitsNobodySpec)

/-- 'spoollaw23.SettableLoads', WHERE WHAT IT READS IS OF BULK AT MOST 1048576: true; the input reads as it did. -/
def settableLoadsUptoRow : OpenClaim := { program := "ytbmpaokicphdjaadoor", sum := "a65ca48bb80c62dafcdcb46256ae6684f304484f810d3670dcfcd89920021544", func := "spool/spoollaw23.SettableLoads", spec := "settableLoads", unfollowed := true, recurses := true, named := ["math/bits.deBruijn64tab"], plainKeys := false, apart := false, laid := [("math/bits.deBruijn64tab", laid_math_bits_deBruijn64tab)], narrowed := true }
def SettableLoadsUptoSaid : Prop := settableLoadsUptoRow.holds Tryd.pinned (OpenSpec.upto settableLoadsSpec)

/-- 'spoollaw23.SettablePlays', WHERE WHAT IT READS IS OF BULK AT MOST 1048576: true; the input reads as it did. -/
def settablePlaysUptoRow : OpenClaim := { program := "ytbmpaokicphdjaadoor", sum := "a65ca48bb80c62dafcdcb46256ae6684f304484f810d3670dcfcd89920021544", func := "spool/spoollaw23.SettablePlays", spec := "settablePlays", unfollowed := true, recurses := true, named := ["math/bits.deBruijn64tab"], plainKeys := false, apart := false, laid := [("math/bits.deBruijn64tab", laid_math_bits_deBruijn64tab)], narrowed := true }
def SettablePlaysUptoSaid : Prop := settablePlaysUptoRow.holds Tryd.pinned (OpenSpec.upto settablePlaysSpec)

/-- 'spoollaw22.ClosureRuns', WHERE WHAT IT READS IS OF BULK AT MOST 1048576: true; the input reads as it did. -/
def closureRunsUptoRow : OpenClaim := { program := "ytbmpaokicphdjaadoor", sum := "a65ca48bb80c62dafcdcb46256ae6684f304484f810d3670dcfcd89920021544", func := "spool/spoollaw22.ClosureRuns", spec := "closureRuns", unfollowed := true, recurses := true, named := ["math/bits.deBruijn64tab"], plainKeys := false, apart := false, laid := [("math/bits.deBruijn64tab", laid_math_bits_deBruijn64tab)], narrowed := true }
def ClosureRunsUptoSaid : Prop := closureRunsUptoRow.holds Tryd.pinned (OpenSpec.upto closureRunsSpec)

/-- 'spoollaw22.ClosureBig', WHERE WHAT IT READS IS OF BULK AT MOST 1048576: true; the input reads as it did. -/
def closureBigUptoRow : OpenClaim := { program := "ytbmpaokicphdjaadoor", sum := "a65ca48bb80c62dafcdcb46256ae6684f304484f810d3670dcfcd89920021544", func := "spool/spoollaw22.ClosureBig", spec := "closureBig", unfollowed := true, recurses := true, named := ["math/bits.deBruijn64tab"], plainKeys := false, apart := false, laid := [("math/bits.deBruijn64tab", laid_math_bits_deBruijn64tab)], narrowed := true }
def ClosureBigUptoSaid : Prop := closureBigUptoRow.holds Tryd.pinned (OpenSpec.upto closureBigSpec)

/-- 'spoollaw23.SettableOwn', WHERE WHAT IT READS IS OF BULK AT MOST 1048576: true; the input reads as it did. -/
def settableOwnUptoRow : OpenClaim := { program := "ytbmpaokicphdjaadoor", sum := "a65ca48bb80c62dafcdcb46256ae6684f304484f810d3670dcfcd89920021544", func := "spool/spoollaw23.SettableOwn", spec := "settableOwn", unfollowed := true, recurses := true, named := ["math/bits.deBruijn64tab"], plainKeys := false, apart := false, laid := [("math/bits.deBruijn64tab", laid_math_bits_deBruijn64tab)], narrowed := true }
def SettableOwnUptoSaid : Prop := settableOwnUptoRow.holds Tryd.pinned (OpenSpec.upto settableOwnSpec)

/-- 'spoollaw22.ClosureSteps', WHERE WHAT IT READS IS OF BULK AT MOST 1048576: true; the input reads as it did. -/
def closureStepsUptoRow : OpenClaim := { program := "ytbmpaokicphdjaadoor", sum := "a65ca48bb80c62dafcdcb46256ae6684f304484f810d3670dcfcd89920021544", func := "spool/spoollaw22.ClosureSteps", spec := "closureSteps", unfollowed := true, recurses := true, named := ["math/bits.deBruijn64tab"], plainKeys := false, apart := false, laid := [("math/bits.deBruijn64tab", laid_math_bits_deBruijn64tab)], narrowed := true }
def ClosureStepsUptoSaid : Prop := closureStepsUptoRow.holds Tryd.pinned (OpenSpec.upto closureStepsSpec)

/-- 'spoollaw24.SubsetBuilds', WHERE WHAT IT READS IS OF BULK AT MOST 1048576: true; the input reads as it did. -/
def subsetBuildsUptoRow : OpenClaim := { program := "ytbmpaokicphdjaadoor", sum := "a65ca48bb80c62dafcdcb46256ae6684f304484f810d3670dcfcd89920021544", func := "spool/spoollaw24.SubsetBuilds", spec := "subsetBuilds", unfollowed := true, recurses := true, named := ["math/bits.deBruijn64tab"], plainKeys := false, apart := false, laid := [("math/bits.deBruijn64tab", laid_math_bits_deBruijn64tab)], narrowed := true }
def SubsetBuildsUptoSaid : Prop := subsetBuildsUptoRow.holds Tryd.pinned (OpenSpec.upto subsetBuildsSpec)

/-- 'spoollaw24.SubsetRuns', WHERE WHAT IT READS IS OF BULK AT MOST 1048576: true; the input reads as it did. -/
def subsetRunsUptoRow : OpenClaim := { program := "ytbmpaokicphdjaadoor", sum := "a65ca48bb80c62dafcdcb46256ae6684f304484f810d3670dcfcd89920021544", func := "spool/spoollaw24.SubsetRuns", spec := "subsetRuns", unfollowed := true, recurses := true, named := ["math/bits.deBruijn64tab"], plainKeys := false, apart := false, laid := [("math/bits.deBruijn64tab", laid_math_bits_deBruijn64tab)], narrowed := true }
def SubsetRunsUptoSaid : Prop := subsetRunsUptoRow.holds Tryd.pinned (OpenSpec.upto subsetRunsSpec)

/-- 'spoollaw24.SubsetLooks', WHERE WHAT IT READS IS OF BULK AT MOST 1048576: true; the input reads as it did. -/
def subsetLooksUptoRow : OpenClaim := { program := "ytbmpaokicphdjaadoor", sum := "a65ca48bb80c62dafcdcb46256ae6684f304484f810d3670dcfcd89920021544", func := "spool/spoollaw24.SubsetLooks", spec := "subsetLooks", unfollowed := true, recurses := true, named := ["math/bits.deBruijn64tab"], plainKeys := false, apart := false, laid := [("math/bits.deBruijn64tab", laid_math_bits_deBruijn64tab)], narrowed := true }
def SubsetLooksUptoSaid : Prop := subsetLooksUptoRow.holds Tryd.pinned (OpenSpec.upto subsetLooksSpec)

end Rows
end Go.Proofs.YtbmpaokicphdjaaDoor
