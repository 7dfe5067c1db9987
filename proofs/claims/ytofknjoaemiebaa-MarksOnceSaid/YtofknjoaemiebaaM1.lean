/- What a table of marks is in memory; its small functions. -/
import Derived.Test.YtofknjoaemiebaaProg
import Derived.Test.YtofknjoaemiebaaFlat
namespace Go.Proofs.Ytofknjoaemiebaa.Fn
open Go Go.RowKit Go.Proofs.Ytofknjoaemiebaa.Can Go.Proofs.Ytofknjoaemiebaa.Base
attribute [local go_sem] clsB AB.cell

structure Slot (α : Type) where
  taken : Bool
  times : Nat
  low : Int
  v : α
def slotE {α : Type} (enc : α → Value) (s : Slot α) : List Value := [.bool s.taken, .int .i64 s.times, .int .i64 s.low, enc s.v]
theorem slot_len {α : Type} (enc : α → Value) (s : Slot α) : (slotE enc s).length = 4 := rfl
/-- A table in memory: the struct in block p, the slots in block r; none was released more than B times. -/
structure Tab {α : Type} (enc : α → Value) (tT tE : TypeId) (w : World) (p r m c B : Nat) (L : List (Slot α)) : Prop where
  str : w.heap[p]? = some (.cells #[.slice (some ⟨r, 0, none⟩) m c] tT (0, 0))
  row : Blk (slotE enc) w tE r L
  ne : p ≠ r
  len : L.length = m
  cap : m ≤ c
  pos : 0 < m
  max : m ≤ 4096
  tms : ∀ s ∈ L, s.times ≤ B
theorem Tab.move {α : Type} {enc : α → Value} {tT tE : TypeId} {w w' : World} {p r m c B : Nat} {L : List (Slot α)} (h : Tab enc tT tE w p r m c B L) (hp : w'.heap[p]? = w.heap[p]?) (hr : w'.heap[r]? = w.heap[r]?) : Tab enc tT tE w' p r m c B L :=
  ⟨hp.trans h.str, h.row.move hr, h.ne, h.len, h.cap, h.pos, h.max, h.tms⟩
theorem Tab.below {α : Type} {enc : α → Value} {tT tE : TypeId} {w w' : World} {p r m c B : Nat} {L : List (Slot α)} (h : Tab enc tT tE w p r m c B L) (hb : Below w.heap.size w w') : Tab enc tT tE w' p r m c B L :=
  h.move (hb.block p (blk_lt h.str)) (hb.block r h.row.lt)
theorem Tab.by {α : Type} {enc : α → Value} {tT tE : TypeId} {w w' : World} {p r m c B : Nat} {L : List (Slot α)} {X : Nat → Prop} (h : Tab enc tT tE w p r m c B L) (hf : Fr X w w') (hp : ¬ X p) (hr : ¬ X r) : Tab enc tT tE w' p r m c B L :=
  h.move (hf.same p (blk_lt h.str) hp) (hf.same r h.row.lt hr)
theorem Tab.more {α : Type} {enc : α → Value} {tT tE : TypeId} {w : World} {p r m c B B' : Nat} {L : List (Slot α)} (h : Tab enc tT tE w p r m c B L) (hB : B ≤ B') : Tab enc tT tE w p r m c B' L :=
  ⟨h.str, h.row, h.ne, h.len, h.cap, h.pos, h.max, fun s hs => Nat.le_trans (h.tms s hs) hB⟩

/-- The number of slot i's mark. -/
def numb {α : Type} (m i : Nat) (s : Slot α) : Nat := i + m * s.times
/-- Slot i, if it has that mark. -/
def findL {α : Type} (L : List (Slot α)) (id : Int) : Option Nat :=
  if id < 0 then none else
    match L[id.toNat % L.length]? with
    | some s => if s.taken = true ∧ (numb L.length (id.toNat % L.length) s : Int) = id then some (id.toNat % L.length) else none
    | none => none
def findI {α : Type} (L : List (Slot α)) (id : Int) : Int := match findL L id with | some i => i | none => -1

theorem free_calls (b : Bool) (t l : Int) (w : World) : Calls Try.prog 28 #[.agg #[.bool b, .int .i64 t, .int .i64 l]] w fun e w' => e = .returned (.bool (!b)) ∧ Below w.heap.size w w' := by
  go_enter Try.func28, Try.ntmps28
  go_wp2
  go_ret
  exact ⟨rfl, (by repeat (first | (with_reducible assumption) | (with_reducible exact Below.refl _ _) | (with_reducible apply below_drewL) | (with_reducible apply below_alloc) | (with_reducible apply below_drew1) | (with_reducible apply below_drewN) | (refine below_set ?_ (by first | omega | (simp only [size_alloc, size_drew, size_set]; omega)) _ _)))⟩

theorem room_int {p r m c B : Nat} {L} {w : World} (h : Tab (Value.int .i64) 54 64 w p r m c B L) : Calls Try.prog 21 #[.pointer (some ⟨p, 0, none⟩)] w fun e w' => e = .returned (.int .i64 m) ∧ w' = w := by
  have hs := h.str
  have h1 := h.max
  have hsc0 := blk_cell hs 0 _ rfl; have hsf0 := blk_frozen hs 0; have hsl := blk_lt hs
  clear h
  go_enter Try.func21, Try.ntmps21
  go_wp2
  go_ret
  exact ⟨rfl, rfl⟩
theorem number_int {p r m c B i : Nat} {L s} {w : World} (h : Tab (Value.int .i64) 54 64 w p r m c B L) (hB : B ≤ 1000000) (hx : L[i]? = some s) : Calls Try.prog 29 #[.pointer (some ⟨p, 0, none⟩), .int .i64 i] w fun e w' => e = .returned (.int .i64 (numb m i s : Nat)) ∧ Below w.heap.size w w' := by
  have hs := h.str
  have h1 := h.max
  have hi : i < m := by rw [← h.len]; exact (List.getElem?_eq_some_iff.1 hx).1
  obtain ⟨N, hN⟩ : ∃ N, m * s.times = N := ⟨_, rfl⟩
  have hN1 : N ≤ 4096 * 1000000 := by rw [← hN]; exact Nat.mul_le_mul h1 (Nat.le_trans (h.tms s (List.mem_of_getElem? hx)) hB)
  have hNI : (m : Int) * (s.times : Int) = N := by rw [← hN]; simp
  have hcell : w.cell? ⟨r, i * 4 + 1, none⟩ = some (.int .i64 s.times) := h.row.cell (slot_len _) hx rfl
  have hlt := h.row.lt
  have hsc0 := blk_cell hs 0 _ rfl; have hsf0 := blk_frozen hs 0; have hsl := blk_lt hs
  have HN := Hd.mk hN
  have H := Hd.mk h; clear h hx hN
  go_enter Try.func29, Try.ntmps29
  go_wp2
  refine wp_region_can (.q [0, 1, 3, 4, 5, 6, 7, 8, 9, 10, 11] (.e 2 true (.q [12, 13, 14] (.done)))) (clsB _) (by kernel_rfl) (by kernel_rfl) (by intro _ _ d _ _ h; cases d <;> exact h) (clsB_drew _) ?_
  refine can_q (l := [⟨_,_,_,_,_,_⟩, ⟨_,_,_,_,_,_⟩, ⟨_,_,_,_,_,_⟩, ⟨_,_,_,_,_,_⟩, ⟨_,_,_,_,_,_⟩, ⟨_,_,_,_,_,_⟩, ⟨_,_,_,_,_,_⟩, ⟨_,_,_,_,_,_⟩, ⟨_,_,_,_,_,_⟩, ⟨_,_,_,_,_,_⟩, ⟨_,_,_,_,_,_⟩]) rfl ?_
  repeat (go_big_quiet_step (fail))
  refine wpQuiet_nil ?_
  refine can_e (o := ⟨_,_,_,_,_,_⟩) rfl (fun K hK => ?_)
  go_wp2_with (go_at_call 21; go_must (refine Calls.mono (room_int (H.out.below (by repeat (first | (with_reducible assumption) | (with_reducible exact Below.refl _ _) | (with_reducible apply below_drewL) | (with_reducible apply below_alloc) | (with_reducible apply below_drew1) | (with_reducible apply below_drewN) | (refine below_set ?_ (by first | omega | (simp only [size_alloc, size_drew, size_set]; omega)) _ _))))) ?_; rintro e w1 ⟨rfl, rfl⟩))
  refine onK_normal (hK _ _ ⟨clsB _, (by first | exact clsB_drew _ | exact clsB_self _), fun _ => clsB_next (by first | exact ((Below.refl _ _)) | exact below_undrew ((Below.refl _ _))), ?_⟩)
  clear hK K
  refine can_q (l := [⟨_,_,_,_,_,_⟩, ⟨_,_,_,_,_,_⟩, ⟨_,_,_,_,_,_⟩]) rfl ?_
  repeat (go_big_quiet_step (fail))
  refine wpQuiet_nil ?_
  refine can_done ?_
  go_wp2
  go_ret
  exact ⟨ret_int (by unfold numb; rw [HN.out]; simp), (by repeat (first | (with_reducible assumption) | (with_reducible exact Below.refl _ _) | (with_reducible apply below_drewL) | (with_reducible apply below_alloc) | (with_reducible apply below_drew1) | (with_reducible apply below_drewN) | (refine below_set ?_ (by first | omega | (simp only [size_alloc, size_drew, size_set]; omega)) _ _)))⟩
theorem room_str {p r m c B : Nat} {L} {w : World} (h : Tab (Value.string) 68 70 w p r m c B L) : Calls Try.prog 32 #[.pointer (some ⟨p, 0, none⟩)] w fun e w' => e = .returned (.int .i64 m) ∧ w' = w := by
  have hs := h.str
  have h1 := h.max
  have hsc0 := blk_cell hs 0 _ rfl; have hsf0 := blk_frozen hs 0; have hsl := blk_lt hs
  clear h
  go_enter Try.func32, Try.ntmps32
  go_wp2
  go_ret
  exact ⟨rfl, rfl⟩
theorem number_str {p r m c B i : Nat} {L s} {w : World} (h : Tab (Value.string) 68 70 w p r m c B L) (hB : B ≤ 1000000) (hx : L[i]? = some s) : Calls Try.prog 33 #[.pointer (some ⟨p, 0, none⟩), .int .i64 i] w fun e w' => e = .returned (.int .i64 (numb m i s : Nat)) ∧ Below w.heap.size w w' := by
  have hs := h.str
  have h1 := h.max
  have hi : i < m := by rw [← h.len]; exact (List.getElem?_eq_some_iff.1 hx).1
  obtain ⟨N, hN⟩ : ∃ N, m * s.times = N := ⟨_, rfl⟩
  have hN1 : N ≤ 4096 * 1000000 := by rw [← hN]; exact Nat.mul_le_mul h1 (Nat.le_trans (h.tms s (List.mem_of_getElem? hx)) hB)
  have hNI : (m : Int) * (s.times : Int) = N := by rw [← hN]; simp
  have hcell : w.cell? ⟨r, i * 4 + 1, none⟩ = some (.int .i64 s.times) := h.row.cell (slot_len _) hx rfl
  have hlt := h.row.lt
  have hsc0 := blk_cell hs 0 _ rfl; have hsf0 := blk_frozen hs 0; have hsl := blk_lt hs
  have HN := Hd.mk hN
  have H := Hd.mk h; clear h hx hN
  go_enter Try.func33, Try.ntmps33
  go_wp2
  refine wp_region_can (.q [0, 1, 3, 4, 5, 6, 7, 8, 9, 10, 11] (.e 2 true (.q [12, 13, 14] (.done)))) (clsB _) (by kernel_rfl) (by kernel_rfl) (by intro _ _ d _ _ h; cases d <;> exact h) (clsB_drew _) ?_
  refine can_q (l := [⟨_,_,_,_,_,_⟩, ⟨_,_,_,_,_,_⟩, ⟨_,_,_,_,_,_⟩, ⟨_,_,_,_,_,_⟩, ⟨_,_,_,_,_,_⟩, ⟨_,_,_,_,_,_⟩, ⟨_,_,_,_,_,_⟩, ⟨_,_,_,_,_,_⟩, ⟨_,_,_,_,_,_⟩, ⟨_,_,_,_,_,_⟩, ⟨_,_,_,_,_,_⟩]) rfl ?_
  repeat (go_big_quiet_step (fail))
  refine wpQuiet_nil ?_
  refine can_e (o := ⟨_,_,_,_,_,_⟩) rfl (fun K hK => ?_)
  go_wp2_with (go_at_call 32; go_must (refine Calls.mono (room_str (H.out.below (by repeat (first | (with_reducible assumption) | (with_reducible exact Below.refl _ _) | (with_reducible apply below_drewL) | (with_reducible apply below_alloc) | (with_reducible apply below_drew1) | (with_reducible apply below_drewN) | (refine below_set ?_ (by first | omega | (simp only [size_alloc, size_drew, size_set]; omega)) _ _))))) ?_; rintro e w1 ⟨rfl, rfl⟩))
  refine onK_normal (hK _ _ ⟨clsB _, (by first | exact clsB_drew _ | exact clsB_self _), fun _ => clsB_next (by first | exact ((Below.refl _ _)) | exact below_undrew ((Below.refl _ _))), ?_⟩)
  clear hK K
  refine can_q (l := [⟨_,_,_,_,_,_⟩, ⟨_,_,_,_,_,_⟩, ⟨_,_,_,_,_,_⟩]) rfl ?_
  repeat (go_big_quiet_step (fail))
  refine wpQuiet_nil ?_
  refine can_done ?_
  go_wp2
  go_ret
  exact ⟨ret_int (by unfold numb; rw [HN.out]; simp), (by repeat (first | (with_reducible assumption) | (with_reducible exact Below.refl _ _) | (with_reducible apply below_drewL) | (with_reducible apply below_alloc) | (with_reducible apply below_drew1) | (with_reducible apply below_drewN) | (refine below_set ?_ (by first | omega | (simp only [size_alloc, size_drew, size_set]; omega)) _ _)))⟩
end Go.Proofs.Ytofknjoaemiebaa.Fn
