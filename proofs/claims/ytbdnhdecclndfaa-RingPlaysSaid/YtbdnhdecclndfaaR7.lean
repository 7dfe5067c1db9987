/- Two numbers, as they are read. -/
import Derived.Test.YtbdnhdecclndfaaR1
import Derived.Test.YtbdnhdecclndfaaArr
namespace Go.Proofs.Ytbdnhdecclndfaa.Fn
open Go Go.RowKit Go.Proofs.Ytbdnhdecclndfaa.Can Go.Proofs.Ytbdnhdecclndfaa.Base
theorem opens23 : Opens Try.prog 23 (Ty.pair (Ty.int .i64) (Ty.int .i64)) (fun x => (Lit.int .i64 x.1).wf = true ∧ (Lit.int .i64 x.2).wf = true) :=
  opens_arr2 Try.underlying23 (by kernel_rfl) (by kernel_rfl) (opens_int Try.underlying3)
theorem two_ints {w : World} {S : Nat → Prop} {y : Int × Int} {z : Array Value} (h : (Ty.pair (Ty.int .i64) (Ty.int .i64)).rel w S y z.toList) : z = #[.int .i64 y.1, .int .i64 y.2] := by
  obtain ⟨c0, c1, hz, h0, h1⟩ := h
  have h0' : c0 = [.int .i64 y.1] := h0
  have h1' : c1 = [.int .i64 y.2] := h1
  subst h0' h1'
  exact Array.toList_inj.1 hz
end Go.Proofs.Ytbdnhdecclndfaa.Fn
