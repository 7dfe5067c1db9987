/- SettableOwn: the walk. -/
import Derived.Test.YtbmpaokicphdjaaDoorS11
namespace Go.Proofs.YtbmpaokicphdjaaDoor.Fn
open Go Go.RowKit Go.Proofs.YtbmpaokicphdjaaDoor.Can Go.Proofs.YtbmpaokicphdjaaDoor.Base
attribute [local go_sem] clsB AB.cell nilH1 nilH2

/-- A table that nobody made. -/
def zeroTab : Array Value := #[.slice none 0 0, .slice none 0 0, .int .i64 0, .nilFunc]
def NoT (w : World) (q : Option Addr) : Prop := q = none ∨ ∃ p, q = some ⟨p, 0, none⟩ ∧ w.heap[p]? = some (.cells zeroTab 82 (0, 0))
theorem NoT.below {w w' : World} {q : Option Addr} (h : NoT w q) (hb : Below w.heap.size w w') : NoT w' q := by
  rcases h with h | ⟨p, h1, h2⟩
  · exact .inl h
  · exact .inr ⟨p, h1, blk_below h2 hb⟩
theorem no_made {w : World} {q : Option Addr} (h : NoT w q) : Calls Tryd.prog 76 #[.pointer q] w fun e w' => e = .returned (.bool false) ∧ w' = w := by
  rcases h with rfl | ⟨p, rfl, h2⟩
  · exact made_nil w
  · exact made_zero p _ _ _ w h2
theorem no_put {w : World} {q : Option Addr} (h : NoT w q) (A : Option Addr) (m c r : Nat) : Calls Tryd.prog 30 #[.pointer q, .agg #[.slice A m c, .int .i64 r]] w fun e w' => e = .returned (.tuple #[.int .i64 (-1), .bool false]) ∧ Below w.heap.size w w' := by
  have H := Hd.mk h
  clear h
  go_enter Tryd.func30, Tryd.ntmps30
  go_wp2_with (go_at_call 76; go_must (refine Calls.mono (no_made (H.out.below (below_alloc (Below.refl _ _) _))) ?_; rintro e w1 ⟨rfl, rfl⟩))
  go_ret2
  exact ⟨rfl, below_alloc (Below.refl _ _) _⟩
theorem no_find {w : World} {q : Option Addr} (h : NoT w q) (A : Option Addr) (m c r : Nat) : Calls Tryd.prog 36 #[.pointer q, .agg #[.slice A m c, .int .i64 r]] w fun e w' => e = .returned (.tuple #[.int .i64 (-1), .bool false]) ∧ Below w.heap.size w w' := by
  have H := Hd.mk h
  clear h
  go_enter Tryd.func36, Tryd.ntmps36
  go_wp2_with (go_at_call 76; go_must (refine Calls.mono (no_made (H.out.below (below_alloc (Below.refl _ _) _))) ?_; rintro e w1 ⟨rfl, rfl⟩))
  go_ret2
  exact ⟨rfl, below_alloc (Below.refl _ _) _⟩
theorem no_len {w : World} {q : Option Addr} (h : NoT w q) : Calls Tryd.prog 31 #[.pointer q] w fun e w' => e = .returned (.int .i64 0) ∧ w' = w := by
  have H := Hd.mk h
  clear h
  go_enter Tryd.func31, Tryd.ntmps31
  go_wp2_with (go_at_call 76; go_must (refine Calls.mono (no_made H.out) ?_; rintro e w1 ⟨rfl, rfl⟩))
  go_ret
  exact ⟨rfl, rfl⟩
theorem no_load {w : World} {q : Option Addr} (h : NoT w q) : Calls Tryd.prog 32 #[.pointer q] w fun e w' => e = .returned (.tuple #[.int .i64 0, .int .i64 0]) ∧ w' = w := by
  have H := Hd.mk h
  clear h
  go_enter Tryd.func32, Tryd.ntmps32
  go_wp2_with (go_at_call 76; go_must (refine Calls.mono (no_made H.out) ?_; rintro e w1 ⟨rfl, rfl⟩))
  go_ret2
  exact ⟨rfl, rfl⟩
theorem no_full {w : World} {q : Option Addr} (h : NoT w q) : Calls Tryd.prog 38 #[.pointer q] w fun e w' => e = .returned (.bool true) ∧ Below w.heap.size w w' := by
  have H := Hd.mk h
  clear h
  go_enter Tryd.func38, Tryd.ntmps38
  go_wp2
  refine wp_region_can (.q [0] (.e 1 false (.q [2, 3, 4, 5, 6, 7, 8, 9, 10, 11, 12, 13, 14, 15] (.done)))) (clsB _) (by kernel_rfl) (by kernel_rfl) (by intro _ _ d _ _ h; cases d <;> exact h) (clsB_drew _) ?_
  refine can_q (l := [⟨_,_,_,_,_,_⟩]) rfl ?_
  repeat (go_big_quiet_step (fail))
  refine wpQuiet_nil ?_
  refine can_e (o := ⟨_,_,_,_,_,_⟩) rfl (fun K hK => ?_)
  go_wp2_with (go_at_call 76; go_must (refine Calls.mono (no_made (H.out.below (below_drew1 (Below.refl _ _)))) ?_; rintro e w1 ⟨rfl, rfl⟩))
  refine onK_normal (hK _ _ ⟨clsB _, clsB_of (by first | exact ((below_drew1 (Below.refl _ _))) | exact below_undrew ((below_drew1 (Below.refl _ _)))), fun _ _ h => h, ?_⟩)
  clear hK K
  refine can_q (l := [⟨_,_,_,_,_,_⟩, ⟨_,_,_,_,_,_⟩, ⟨_,_,_,_,_,_⟩, ⟨_,_,_,_,_,_⟩, ⟨_,_,_,_,_,_⟩, ⟨_,_,_,_,_,_⟩, ⟨_,_,_,_,_,_⟩, ⟨_,_,_,_,_,_⟩, ⟨_,_,_,_,_,_⟩, ⟨_,_,_,_,_,_⟩, ⟨_,_,_,_,_,_⟩, ⟨_,_,_,_,_,_⟩, ⟨_,_,_,_,_,_⟩, ⟨_,_,_,_,_,_⟩]) rfl ?_
  repeat (go_big_quiet_step (fail))
  refine wpQuiet_nil ?_
  refine can_done ?_
  go_wp2
  go_ret
  exact ⟨rfl, below_drew1 (Below.refl _ _)⟩
end Go.Proofs.YtbmpaokicphdjaaDoor.Fn
