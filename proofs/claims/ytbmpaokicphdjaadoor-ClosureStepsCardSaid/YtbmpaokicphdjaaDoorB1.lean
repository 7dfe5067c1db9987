/- Sets of small numbers: their words, a number's place, Has, Room. -/
import Derived.Test.YtbmpaokicphdjaaDoorChecked
import Derived.Test.YtbmpaokicphdjaaDoorFlat
import Derived.OwnWalk
import Derived.Laws.Bits64b
import Derived.Laws.BitsAllLaws
import Derived.Laws.ShiftsVarLaws
namespace Go.Proofs.YtbmpaokicphdjaaDoor.Fn
open Go Go.RowKit Go.Proofs.YtbmpaokicphdjaaDoor.Can Go.Proofs.YtbmpaokicphdjaaDoor.Base
attribute [local go_sem] clsB AB.cell

def wE (x : Nat) : List Value := [.int .u64 x]
theorem w_len (x : Nat) : (wE x).length = 1 := rfl
theorem w_one (x : Nat) : ∀ u ∈ wE x, u.oneCell' = true := fun u hu => by rw [List.mem_singleton.1 hu]; rfl
abbrev wT : Ty Nat := Ty.flat 1 wE w_len w_one
/-- Is the number n in these words? -/
def bitAt (ws : List Nat) (n : Nat) : Bool := (ws.getD (n / 64) 0).testBit (n % 64)
/-- The words of a set of this room. -/
structure Wok (room : Nat) (ws : List Nat) : Prop where
  len : ws.length = (room + 63) / 64
  lt : ∀ x ∈ ws, x < 18446744073709551616
  top : ∀ n, room ≤ n → bitAt ws n = false
  small : room ≤ 65536
/-- They lie in block g. -/
def Wd (w : World) (A : Option Addr) (g : Nat) (ws : List Nat) : Prop := ws = [] ∨ (A = some ⟨g, 0, none⟩ ∧ Blk wE w 33 g ws)
theorem Wd.move {w w' : World} {A : Option Addr} {g : Nat} {ws : List Nat} (h : Wd w A g ws) (hm : w'.heap[g]? = w.heap[g]?) : Wd w' A g ws := by
  rcases h with h | ⟨h1, h2⟩
  · exact .inl h
  · exact .inr ⟨h1, h2.move hm⟩
theorem Wok.at_ {room : Nat} {ws : List Nat} (h : Wok room ws) {n : Nat} (hn : n < room) : ∃ x, ws[n / 64]? = some x ∧ x < 18446744073709551616 ∧ bitAt ws n = x.testBit (n % 64) := by
  have hl : n / 64 < ws.length := by rw [h.len]; omega
  refine ⟨ws[n / 64], List.getElem?_eq_getElem hl, h.lt _ (List.getElem_mem hl), ?_⟩
  unfold bitAt
  rw [List.getD_eq_getElem?_getD, List.getElem?_eq_getElem hl]
  rfl
theorem wrap_pow (n : Nat) : IntKind.u64.wrap ((2 : Int) ^ (n % 64)) = ((2 ^ (n % 64) : Nat) : Int) := by
  have h : 2 ^ (n % 64) < 2 ^ 64 := Nat.pow_lt_pow_right (by decide) (Nat.mod_lt _ (by decide))
  have e : ((2 : Int) ^ (n % 64)) = ((2 ^ (n % 64) : Nat) : Int) := by simp
  rw [e, IntKind.wrap_u64]
  generalize 2 ^ (n % 64) = p at *
  omega
theorem bit_calls (A : Option Addr) (m c : Nat) (room : Nat) (n q b : Nat) (w : World) (hn : n < room) (hr : room ≤ 65536) (hq : n / 64 = q) (hb : 2 ^ (n % 64) = b) :
    Calls Tryd.prog 71 #[.agg #[.slice A m c, .int .i64 room], .int .i64 n] w fun e w' => e = .returned (.tuple #[.int .i64 q, .int .u64 b, .bool true]) ∧ Below w.heap.size w w' := by
  have HQ := Hd.mk hq; have HB := Hd.mk hb; clear hq hb
  go_enter Tryd.func71, Tryd.ntmps71
  go_wp2
  refine wp_region_can (.q [0, 1, 2, 3, 4, 5, 6, 7] (.done)) (clsB _) (by kernel_rfl) (by kernel_rfl) (by intro _ _ d _ _ h; cases d <;> exact h) (clsB_drew _) ?_
  refine can_q (l := [⟨_,_,_,_,_,_⟩, ⟨_,_,_,_,_,_⟩, ⟨_,_,_,_,_,_⟩, ⟨_,_,_,_,_,_⟩, ⟨_,_,_,_,_,_⟩, ⟨_,_,_,_,_,_⟩, ⟨_,_,_,_,_,_⟩, ⟨_,_,_,_,_,_⟩]) rfl ?_
  repeat (go_big_quiet_step (fail))
  refine wpQuiet_nil ?_
  refine can_done ?_
  go_wp2
  go_ret3
  refine ⟨?_, (by repeat (first | (with_reducible assumption) | (with_reducible exact Below.refl _ _) | (with_reducible apply below_drewL) | (with_reducible apply below_alloc) | (with_reducible apply below_drew1) | (with_reducible apply below_drewN) | (refine below_set ?_ (by first | omega | (simp only [size_alloc, size_drew, size_set]; omega)) _ _)))⟩
  rw [← HQ.out, ← HB.out, ← wrap_pow]
  rfl
theorem bit_not (A : Option Addr) (m c : Nat) (room : Nat) (n : Int) (w : World) (hn : n < 0 ∨ (¬ n < 0 ∧ (room : Int) ≤ n)) (hr : room ≤ 65536) :
    Calls Tryd.prog 71 #[.agg #[.slice A m c, .int .i64 room], .int .i64 n] w fun e w' => e = .returned (.tuple #[.int .i64 0, .int .u64 0, .bool false]) ∧ Below w.heap.size w w' := by
  rcases hn with h | ⟨h1, h2⟩
  · go_enter Tryd.func71, Tryd.ntmps71
    go_wp2
    go_ret3
    exact ⟨rfl, (by repeat (first | (with_reducible assumption) | (with_reducible exact Below.refl _ _) | (with_reducible apply below_drewL) | (with_reducible apply below_alloc) | (with_reducible apply below_drew1) | (with_reducible apply below_drewN) | (refine below_set ?_ (by first | omega | (simp only [size_alloc, size_drew, size_set]; omega)) _ _)))⟩
  · go_enter Tryd.func71, Tryd.ntmps71
    go_wp2
    go_ret3
    exact ⟨rfl, (by repeat (first | (with_reducible assumption) | (with_reducible exact Below.refl _ _) | (with_reducible apply below_drewL) | (with_reducible apply below_alloc) | (with_reducible apply below_drew1) | (with_reducible apply below_drewN) | (refine below_set ?_ (by first | omega | (simp only [size_alloc, size_drew, size_set]; omega)) _ _)))⟩
theorem room_calls (A : Option Addr) (m c : Nat) (room : Int) (w : World) :
    Calls Tryd.prog 26 #[.agg #[.slice A m c, .int .i64 room]] w fun e w' => e = .returned (.int .i64 room) ∧ Below w.heap.size w w' := by
  go_enter Tryd.func26, Tryd.ntmps26
  go_wp2
  go_ret
  exact ⟨rfl, (by repeat (first | (with_reducible assumption) | (with_reducible exact Below.refl _ _) | (with_reducible apply below_drewL) | (with_reducible apply below_alloc) | (with_reducible apply below_drew1) | (with_reducible apply below_drewN) | (refine below_set ?_ (by first | omega | (simp only [size_alloc, size_drew, size_set]; omega)) _ _)))⟩
end Go.Proofs.YtbmpaokicphdjaaDoor.Fn
