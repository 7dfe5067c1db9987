/- What SettablePlays's arguments read as. -/
import Derived.Test.YtbmpaokicphdjaaDoorS11
namespace Go.Proofs.YtbmpaokicphdjaaDoor.Fn
open Go Go.RowKit Go.ChangeShapes Go.WideShapes Go.ChangeAt Go.Proofs.YtbmpaokicphdjaaDoor.Can Go.Proofs.YtbmpaokicphdjaaDoor.Base
theorem opensBytes : Opens Tryd.prog 48 (Ty.slice (Ty.int .u8) (by decide)) (fun xs => ∀ x ∈ xs, (Lit.int .u8 x).wf = true) := opens_slice Tryd.underlying48 (by kernel_rfl) (by decide) (opens_int Tryd.underlying5)
theorem opensRows : Opens Tryd.prog 49 (Ty.slice rowT (by decide)) (fun xs => ∀ x ∈ xs, ∀ y ∈ x, (Lit.int .i64 y).wf = true) := opens_slice Tryd.underlying49 (by kernel_rfl) (by decide) opensInts
theorem bytes_small {xs : List Int} (h : ∀ x ∈ xs, (Lit.int .u8 x).wf = true) : ∀ y ∈ xs, 0 ≤ y ∧ y ≤ 255 := fun y hy => by
  have := h y hy
  simp only [Lit.wf, IntKind.min, IntKind.max, IntKind.signed, IntKind.bits, Bool.and_eq_true, decide_eq_true_eq] at this
  simp at this
  omega
end Go.Proofs.YtbmpaokicphdjaaDoor.Fn
