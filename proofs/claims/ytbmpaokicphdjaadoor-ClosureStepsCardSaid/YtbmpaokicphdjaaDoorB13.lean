/- The reference's Drop and Add. -/
import Derived.Test.YtbmpaokicphdjaaDoorB12
namespace Go.Proofs.YtbmpaokicphdjaaDoor.Fn
open Go Go.RowKit Go.Proofs.YtbmpaokicphdjaaDoor.Can Go.Proofs.YtbmpaokicphdjaaDoor.Base
attribute [local go_sem] clsB AB.cell

def dropR (x : Int) (L : List Int) : List Int := L.filter fun y => !(y == x)
theorem dropR_snoc (x y : Int) (L : List Int) : dropR x (L ++ [y]) = if y = x then dropR x L else dropR x L ++ [y] := by
  unfold dropR
  rw [List.filter_append]
  by_cases h : y = x
  · subst h; simp
  · rw [if_neg h]; simp [h]
end Go.Proofs.YtbmpaokicphdjaaDoor.Fn
