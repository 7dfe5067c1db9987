/- What the trail's arguments read as. -/
import Derived.Test.YtefkhjgckdphnaaOpens
import Derived.Test.YtefkhjgckdphnaaFn
namespace Go.Proofs.Ytefkhjgckdphnaa.Fn
open Go Go.RowKit Go.Proofs.Ytefkhjgckdphnaa.Base
theorem opens28 : Opens Try.prog 28 spotT (fun _ => True) :=
  (opens_struct2 (a := Ty.int .i64) (b := Ty.int .i64) Try.underlying28 (opens_int Try.underlying3) (opens_int Try.underlying3) rfl rfl (by kernel_rfl) (by kernel_rfl) (by kernel_rfl)).map (fun x => ⟨x.1, x.2⟩) (fun _ _ => trivial) (by
    rintro w S x cs ⟨c0, c1, rfl, h0, h1⟩
    have h0' : c0 = [.int .i64 x.1] := h0
    have h1' : c1 = [.int .i64 x.2] := h1
    subst h0' h1'
    rfl)
theorem opens22 : Opens Try.prog 22 (Ty.slice spotT (by decide)) (fun _ => True) :=
  (opens_slice Try.underlying22 (by kernel_rfl) (by decide) opens28).map id (fun _ _ => trivial) (fun _ _ _ _ h => h)
end Go.Proofs.Ytefkhjgckdphnaa.Fn
