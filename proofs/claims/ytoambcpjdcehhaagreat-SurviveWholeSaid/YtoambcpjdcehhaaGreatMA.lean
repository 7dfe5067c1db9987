/- Texts: M1, M2, M3, M4, M5. -/
import Derived.Test.YtoambcpjdcehhaaGreatVA
import Derived.Test.YtoambcpjdcehhaaGreatFlat
import Derived.OwnWalk
/- What a table of marks is in memory; its small functions. -/
set_option linter.unusedVariables false
set_option linter.unusedSimpArgs false
namespace Go.Proofs.YtoambcpjdcehhaaGreat.Fn
open Go Go.RowKit Go.Proofs.YtoambcpjdcehhaaGreat.Can Go.Proofs.YtoambcpjdcehhaaGreat.Base
attribute [local go_sem] clsB AB.cell

/-- What is kept: a spot and a trail. -/
structure Sv where
  at_ : Spot
  d : Int
  A : Option Addr
  n : Nat
  c : Nat
def svE (x : Sv) : List Value := [.int .i64 x.at_.at_, .int .i64 x.at_.mode, .int .i64 x.d, .slice x.A x.n x.c]
def svV (x : Sv) : Value := .agg #[.int .i64 x.at_.at_, .int .i64 x.at_.mode, .int .i64 x.d, .slice x.A x.n x.c]
def sv0 : Sv := ⟨⟨0, 0⟩, 0, none, 0, 0⟩
structure Slot where
  taken : Bool
  times : Nat
  low : Int
  v : Sv
def slotE (s : Slot) : List Value := [.bool s.taken, .int .i64 s.times, .int .i64 s.low] ++ svE s.v
theorem slot_len (s : Slot) : (slotE s).length = 7 := rfl
/-- A table in memory: the struct in block p, the slots in block r; none was released more than B times. -/
structure Tab (w : World) (p r m c B : Nat) (L : List Slot) : Prop where
  str : w.heap[p]? = some (.cells #[.slice (some ⟨r, 0, none⟩) m c] 113 (0, 0))
  row : Blk slotE w 157 r L
  ne : p ≠ r
  len : L.length = m
  cap : m ≤ c
  pos : 0 < m
  max : m ≤ 4096
  tms : ∀ s ∈ L, s.times ≤ B
theorem Tab.slot {w : World} {p r m c B i : Nat} {L : List Slot} {s : Slot} (h : Tab w p r m c B L) (hx : L[i]? = some s) :
    w.cell? ⟨r, i * 7, none⟩ = some (.bool s.taken) ∧ w.cell? ⟨r, i * 7 + 1, none⟩ = some (.int .i64 s.times) ∧ w.cell? ⟨r, i * 7 + 2, none⟩ = some (.int .i64 s.low) ∧ w.cell? ⟨r, i * 7 + 3, none⟩ = some (.int .i64 s.v.at_.at_) ∧ w.cell? ⟨r, i * 7 + 3 + 1, none⟩ = some (.int .i64 s.v.at_.mode) ∧ w.cell? ⟨r, i * 7 + 3 + 2, none⟩ = some (.int .i64 s.v.d) ∧ w.cell? ⟨r, i * 7 + 3 + 2 + 1, none⟩ = some (.slice s.v.A s.v.n s.v.c) ∧ r < w.heap.size :=
  ⟨h.row.cell (j := 0) slot_len hx rfl, h.row.cell slot_len hx rfl, h.row.cell slot_len hx rfl, h.row.cell (j := 3) slot_len hx rfl, h.row.cell (j := 4) slot_len hx rfl, h.row.cell (j := 5) slot_len hx rfl, h.row.cell (j := 6) slot_len hx rfl, h.row.lt⟩
theorem Tab.move {w w' : World} {p r m c B : Nat} {L : List Slot} (h : Tab w p r m c B L) (hp : w'.heap[p]? = w.heap[p]?) (hr : w'.heap[r]? = w.heap[r]?) : Tab w' p r m c B L :=
  ⟨hp.trans h.str, h.row.move hr, h.ne, h.len, h.cap, h.pos, h.max, h.tms⟩
theorem Tab.below {w w' : World} {p r m c B : Nat} {L : List Slot} (h : Tab w p r m c B L) (hb : Below w.heap.size w w') : Tab w' p r m c B L :=
  h.move (hb.block p (blk_lt h.str)) (hb.block r h.row.lt)
theorem Tab.by {w w' : World} {p r m c B : Nat} {L : List Slot} {X : Nat → Prop} (h : Tab w p r m c B L) (hf : Fr X w w') (hp : ¬ X p) (hr : ¬ X r) : Tab w' p r m c B L :=
  h.move (hf.same p (blk_lt h.str) hp) (hf.same r h.row.lt hr)
theorem Tab.more {w : World} {p r m c B B' : Nat} {L : List Slot} (h : Tab w p r m c B L) (hB : B ≤ B') : Tab w p r m c B' L :=
  ⟨h.str, h.row, h.ne, h.len, h.cap, h.pos, h.max, fun s hs => Nat.le_trans (h.tms s hs) hB⟩

/-- The number of slot i's mark. -/
def numb (m i : Nat) (s : Slot) : Nat := i + m * s.times
/-- Slot i, if it has that mark. -/
def findL (L : List (Slot)) (id : Int) : Option Nat :=
  if id < 0 then none else
    match L[id.toNat % L.length]? with
    | some s => if s.taken = true ∧ (numb L.length (id.toNat % L.length) s : Int) = id then some (id.toNat % L.length) else none
    | none => none
def findI (L : List (Slot)) (id : Int) : Int := match findL L id with | some i => i | none => -1

theorem mfree_calls (b : Bool) (t l : Int) (w : World) : Calls Tryz.prog 104 #[.agg #[.bool b, .int .i64 t, .int .i64 l]] w fun e w' => e = .returned (.bool (!b)) ∧ Below w.heap.size w w' := by
  go_enter Tryz.func104, Tryz.ntmps104
  go_wp2
  go_ret
  exact ⟨rfl, (by repeat (first | (with_reducible assumption) | (with_reducible exact Below.refl _ _) | (with_reducible apply below_drewL) | (with_reducible apply below_alloc) | (with_reducible apply below_drew1) | (with_reducible apply below_drewN) | (refine below_set ?_ (by first | omega | (simp only [size_alloc, size_drew, size_set]; omega)) _ _)))⟩

theorem mroom_calls {p r m c B : Nat} {L} {w : World} (h : Tab w p r m c B L) : Calls Tryz.prog 103 #[.pointer (some ⟨p, 0, none⟩)] w fun e w' => e = .returned (.int .i64 m) ∧ w' = w := by
  have hs := h.str
  have h1 := h.max
  have hsc0 := blk_cell hs 0 _ rfl; have hsf0 := blk_frozen hs 0; have hsl := blk_lt hs
  clear h
  go_enter Tryz.func103, Tryz.ntmps103
  go_wp2
  go_ret
  exact ⟨rfl, rfl⟩
theorem number_calls {p r m c B i : Nat} {L s} {w : World} (h : Tab w p r m c B L) (hB : B ≤ 1000000) (hx : L[i]? = some s) : Calls Tryz.prog 105 #[.pointer (some ⟨p, 0, none⟩), .int .i64 i] w fun e w' => e = .returned (.int .i64 (numb m i s : Nat)) ∧ Below w.heap.size w w' := by
  have hs := h.str
  have h1 := h.max
  have hi : i < m := by rw [← h.len]; exact (List.getElem?_eq_some_iff.1 hx).1
  obtain ⟨N, hN⟩ : ∃ N, m * s.times = N := ⟨_, rfl⟩
  have hN1 : N ≤ 4096 * 1000000 := by rw [← hN]; exact Nat.mul_le_mul h1 (Nat.le_trans (h.tms s (List.mem_of_getElem? hx)) hB)
  have hNI : (m : Int) * (s.times : Int) = N := by rw [← hN]; simp
  have hcell : w.cell? ⟨r, i * 7 + 1, none⟩ = some (.int .i64 s.times) := h.row.cell slot_len hx rfl
  have hlt := h.row.lt
  have hsc0 := blk_cell hs 0 _ rfl; have hsf0 := blk_frozen hs 0; have hsl := blk_lt hs
  have HN := Hd.mk hN
  have H := Hd.mk h; clear h hx hN
  go_enter Tryz.func105, Tryz.ntmps105
  go_wp2
  refine wp_region_can (.q [0, 1, 3, 4, 5, 6, 7, 8, 9, 10, 11] (.e 2 true (.q [12, 13, 14] (.done)))) (clsB _) (by kernel_rfl) (by kernel_rfl) (by intro _ _ d _ _ h; cases d <;> exact h) (clsB_drew _) ?_
  refine can_q (l := [⟨_,_,_,_,_,_⟩, ⟨_,_,_,_,_,_⟩, ⟨_,_,_,_,_,_⟩, ⟨_,_,_,_,_,_⟩, ⟨_,_,_,_,_,_⟩, ⟨_,_,_,_,_,_⟩, ⟨_,_,_,_,_,_⟩, ⟨_,_,_,_,_,_⟩, ⟨_,_,_,_,_,_⟩, ⟨_,_,_,_,_,_⟩, ⟨_,_,_,_,_,_⟩]) rfl ?_
  repeat (go_big_quiet_step (fail))
  refine wpQuiet_nil ?_
  refine can_e (o := ⟨_,_,_,_,_,_⟩) rfl (fun K hK => ?_)
  go_wp2_with (go_at_call 103; go_must (refine Calls.mono (mroom_calls (H.out.below (by repeat (first | (with_reducible assumption) | (with_reducible exact Below.refl _ _) | (with_reducible apply below_drewL) | (with_reducible apply below_alloc) | (with_reducible apply below_drew1) | (with_reducible apply below_drewN) | (refine below_set ?_ (by first | omega | (simp only [size_alloc, size_drew, size_set]; omega)) _ _))))) ?_; rintro e w1 ⟨rfl, rfl⟩))
  refine onK_normal (hK _ _ ⟨clsB _, (by first | exact clsB_drew _ | exact clsB_self _), fun _ => clsB_next (by first | exact ((Below.refl _ _)) | exact below_undrew ((Below.refl _ _))), ?_⟩)
  clear hK K
  refine can_q (l := [⟨_,_,_,_,_,_⟩, ⟨_,_,_,_,_,_⟩, ⟨_,_,_,_,_,_⟩]) rfl ?_
  repeat (go_big_quiet_step (fail))
  refine wpQuiet_nil ?_
  refine can_done ?_
  go_wp2
  go_ret
  exact ⟨ret_int (by unfold numb; rw [HN.out]; simp), (by repeat (first | (with_reducible assumption) | (with_reducible exact Below.refl _ _) | (with_reducible apply below_drewL) | (with_reducible apply below_alloc) | (with_reducible apply below_drew1) | (with_reducible apply below_drewN) | (refine below_set ?_ (by first | omega | (simp only [size_alloc, size_drew, size_set]; omega)) _ _)))⟩
end Go.Proofs.YtoambcpjdcehhaaGreat.Fn

/- What find, Get compute. -/
set_option linter.unusedVariables false
set_option linter.unusedSimpArgs false
namespace Go.Proofs.YtoambcpjdcehhaaGreat.Fn
open Go Go.RowKit Go.Proofs.YtoambcpjdcehhaaGreat.Can Go.Proofs.YtoambcpjdcehhaaGreat.Base
attribute [local go_sem] clsB AB.cell

theorem findI_neg {L : List (Slot)} {id : Int} (h : id < 0) : findI L id = -1 := by unfold findI findL; rw [if_pos h]
theorem findI_nat {L : List (Slot)} {n m i : Nat} {s : Slot} (hm : L.length = m) (hi : n % m = i) (hs : L[i]? = some s) : findI L (n : Int) = if s.taken = true ∧ numb m i s = n then (i : Int) else -1 := by
  subst hm hi
  unfold findI findL
  rw [if_neg (by omega)]
  simp only [Int.toNat_natCast, hs]
  by_cases h : s.taken = true ∧ numb L.length (n % L.length) s = n
  · rw [if_pos ⟨h.1, by rw [h.2]⟩, if_pos h]
  · rw [if_neg (fun hh => h ⟨hh.1, by have := hh.2; omega⟩), if_neg h]
theorem findI_some {L : List (Slot)} {id : Int} {i : Nat} (h : findI L id = i) : findL L id = some i := by
  unfold findI at h
  cases hf : findL L id with
  | none => rw [hf] at h; simp at h
  | some j => rw [hf] at h; simp at h; rw [Int.ofNat_inj.1 h]
theorem findL_slot {L : List (Slot)} {id : Int} {i : Nat} (h : findL L id = some i) : ∃ s, L[i]? = some s ∧ s.taken = true ∧ (numb L.length i s : Int) = id := by
  unfold findL at h
  split at h
  · cases h
  · split at h
    · rename_i s hs
      split at h
      · rename_i hc
        simp at h; subst h
        exact ⟨s, hs, hc.1, hc.2⟩
      · cases h
    · cases h

theorem find_calls {p r m c B : Nat} {L} (id : Int) {w : World} (h : Tab w p r m c B L) (hB : B ≤ 1000000) : Calls Tryz.prog 107 #[.pointer (some ⟨p, 0, none⟩), .int .i64 id] w fun e w' => e = .returned (.int .i64 (findI L id)) ∧ Below w.heap.size w w' := by
  have hs := h.str
  have h1 := h.max
  have h2 := h.pos
  have hm0 : ¬ (m : Int) = 0 := by omega
  have hm0b : ((m : Int) == 0) = false := by simpa using hm0
  have hsc0 := blk_cell hs 0 _ rfl; have hsf0 := blk_frozen hs 0; have hsl := blk_lt hs
  by_cases hid : id < 0
  · rw [findI_neg hid]
    have H := Hd.mk h; clear h
    go_enter Tryz.func107, Tryz.ntmps107
    go_wp2_with (go_at_call 103; go_must (refine Calls.mono (mroom_calls (H.out.below (by repeat (first | (with_reducible assumption) | (with_reducible exact Below.refl _ _) | (with_reducible apply below_drewL) | (with_reducible apply below_alloc) | (with_reducible apply below_drew1) | (with_reducible apply below_drewN) | (refine below_set ?_ (by first | omega | (simp only [size_alloc, size_drew, size_set]; omega)) _ _))))) ?_; rintro e w1 ⟨rfl, rfl⟩))
    go_ret
    exact ⟨rfl, (by repeat (first | (with_reducible assumption) | (with_reducible exact Below.refl _ _) | (with_reducible apply below_drewL) | (with_reducible apply below_alloc) | (with_reducible apply below_drew1) | (with_reducible apply below_drewN) | (refine below_set ?_ (by first | omega | (simp only [size_alloc, size_drew, size_set]; omega)) _ _)))⟩
  · obtain ⟨n, rfl⟩ : ∃ n : Nat, id = n := ⟨id.toNat, by omega⟩
    obtain ⟨i, hi⟩ : ∃ i, n % m = i := ⟨_, rfl⟩
    have him : i < m := by rw [← hi]; exact Nat.mod_lt _ h2
    have hiI : (n : Int) % (m : Int) = i := by rw [← hi]; simp
    obtain ⟨s, hx⟩ : ∃ s, L[i]? = some s := ⟨_, List.getElem?_eq_getElem (by rw [h.len]; exact him)⟩
    rw [findI_nat h.len hi hx]
    have HX := Hd.mk hx
    have hc0 : w.cell? ⟨r, i * 7, none⟩ = some (.bool s.taken) := h.row.cell (j := 0) slot_len hx rfl
    have hc1 : w.cell? ⟨r, i * 7 + 1, none⟩ = some (.int .i64 s.times) := h.row.cell slot_len hx rfl
    have hc2 : w.cell? ⟨r, i * 7 + 2, none⟩ = some (.int .i64 s.low) := h.row.cell slot_len hx rfl
    have hlt := h.row.lt
    have H := Hd.mk h; clear h hx hi
    cases ht : s.taken with
    | false =>
      rw [ht] at hc0
      rw [if_neg (by simp)]
      go_enter Tryz.func107, Tryz.ntmps107
      go_wp2_with (first | (go_at_call 104; go_must (refine Calls.mono (mfree_calls _ _ _ _) ?_; rintro e w2 ⟨rfl, hb2⟩)) | (go_at_call 103; go_must (refine Calls.mono (mroom_calls (H.out.below (by repeat (first | (with_reducible assumption) | (with_reducible exact Below.refl _ _) | (with_reducible apply below_drewL) | (with_reducible apply below_alloc) | (with_reducible apply below_drew1) | (with_reducible apply below_drewN) | (refine below_set ?_ (by first | omega | (simp only [size_alloc, size_drew, size_set]; omega)) _ _))))) ?_; rintro e w1 ⟨rfl, rfl⟩)))
      go_ret
      exact ⟨rfl, (by repeat (first | (with_reducible assumption) | (with_reducible exact Below.refl _ _) | (with_reducible apply below_drewL) | (with_reducible apply below_alloc) | (with_reducible apply below_drew1) | (with_reducible apply below_drewN) | (refine below_set ?_ (by first | omega | (simp only [size_alloc, size_drew, size_set]; omega)) _ _)))⟩
    | true =>
      rw [ht] at hc0
      obtain ⟨N, hN⟩ : ∃ N, numb m i s = N := ⟨_, rfl⟩
      rw [hN]
      have HN := Hd.mk hN; clear hN ht
      by_cases he : N = n
      · subst he
        rw [if_pos ⟨rfl, rfl⟩]
        go_enter Tryz.func107, Tryz.ntmps107
        go_wp2_with (first | (go_at_call 105; have hq_ := hb2; clear hq_; go_must (refine Calls.mono (number_calls (H.out.below (below_seq (by repeat (first | (with_reducible assumption) | (with_reducible exact Below.refl _ _) | (with_reducible apply below_drewL) | (with_reducible apply below_alloc) | (with_reducible apply below_drew1) | (with_reducible apply below_drewN) | (refine below_set ?_ (by first | omega | (simp only [size_alloc, size_drew, size_set]; omega)) _ _))) hb2)) hB HX.out) ?_; rintro e w3 ⟨he, hb3⟩; rw [HN.out] at he; subst he)) | (go_at_call 104; go_must (refine Calls.mono (mfree_calls _ _ _ _) ?_; rintro e w2 ⟨rfl, hb2⟩)) | (go_at_call 103; go_must (refine Calls.mono (mroom_calls (H.out.below (by repeat (first | (with_reducible assumption) | (with_reducible exact Below.refl _ _) | (with_reducible apply below_drewL) | (with_reducible apply below_alloc) | (with_reducible apply below_drew1) | (with_reducible apply below_drewN) | (refine below_set ?_ (by first | omega | (simp only [size_alloc, size_drew, size_set]; omega)) _ _))))) ?_; rintro e w1 ⟨rfl, rfl⟩)))
        go_ret
        exact ⟨rfl, below_seq hb2 hb3⟩
      · rw [if_neg (by simp [he])]
        have he' : ¬ (N : Int) = n := by omega
        go_enter Tryz.func107, Tryz.ntmps107
        go_wp2_with (first | (go_at_call 105; have hq_ := hb2; clear hq_; go_must (refine Calls.mono (number_calls (H.out.below (below_seq (by repeat (first | (with_reducible assumption) | (with_reducible exact Below.refl _ _) | (with_reducible apply below_drewL) | (with_reducible apply below_alloc) | (with_reducible apply below_drew1) | (with_reducible apply below_drewN) | (refine below_set ?_ (by first | omega | (simp only [size_alloc, size_drew, size_set]; omega)) _ _))) hb2)) hB HX.out) ?_; rintro e w3 ⟨he, hb3⟩; rw [HN.out] at he; subst he)) | (go_at_call 104; go_must (refine Calls.mono (mfree_calls _ _ _ _) ?_; rintro e w2 ⟨rfl, hb2⟩)) | (go_at_call 103; go_must (refine Calls.mono (mroom_calls (H.out.below (by repeat (first | (with_reducible assumption) | (with_reducible exact Below.refl _ _) | (with_reducible apply below_drewL) | (with_reducible apply below_alloc) | (with_reducible apply below_drew1) | (with_reducible apply below_drewN) | (refine below_set ?_ (by first | omega | (simp only [size_alloc, size_drew, size_set]; omega)) _ _))))) ?_; rintro e w1 ⟨rfl, rfl⟩)))
        go_ret
        exact ⟨rfl, below_seq hb2 hb3⟩
end Go.Proofs.YtoambcpjdcehhaaGreat.Fn

/- What Get, Release and Set compute. -/
set_option linter.unusedVariables false
set_option linter.unusedSimpArgs false
namespace Go.Proofs.YtoambcpjdcehhaaGreat.Fn
open Go Go.RowKit Go.Proofs.YtoambcpjdcehhaaGreat.Can Go.Proofs.YtoambcpjdcehhaaGreat.Base
attribute [local go_sem] clsB AB.cell clsX AX.cell

theorem findI_of {L : List Slot} {id : Int} {i : Nat} (h : findL L id = some i) : findI L id = i := by unfold findI; rw [h]
theorem findI_no {L : List Slot} {id : Int} (h : findL L id = none) : findI L id = -1 := by unfold findI; rw [h]
/-- A slot that has been released. -/
def freed (s : Slot) : Slot := ⟨false, s.times + 1, 0, sv0⟩
def took (s : Slot) (v : Sv) (low : Int) : Slot := ⟨true, s.times, low, v⟩
theorem cell_tmp_row {P : Program} {fn : Func} {p u : Tmp} {ty : TypeId} (h : fn.results = #[.cell p ty, .tmp u]) (tmps : Array Value) (w : World) (g : Nat) (t : TypeId) (cs : Array Value) (fr : Nat × Nat) (d : TypeDesc)
    (hp : tmps.getD p undef = .pointer (some ⟨g, 0, none⟩)) (hg : w.heap[g]? = some (.cells cs t fr))
    (hu : P.underlying ty = some d) (hd : (match d with | .struct _ | .array _ _ => true | _ => false) = true) (hi : (P.info? ty).map (·.size) = some cs.size) :
    (results fn tmps).run P w = .ok (.tuple #[.agg cs, tmps.getD u undef]) w := by
  have hp' : tmps[p]?.getD undef = .pointer (some ⟨g, 0, none⟩) := by simpa using hp
  rw [results_cell_tmp h]
  simp [hp', asAddr, run_loadVar_row w g t ty cs fr d hg hu hd hi, Result.andThen]

/-- A slot's thing, stored. -/
theorem Tab.setv {w : World} {r i : Nat} {L : List Slot} {s : Slot} (h : Blk slotE w 157 r L) (hx : L[i]? = some s) (v : Sv) :
    Blk slotE ((((w.setCell ⟨r, i * 7 + 3, none⟩ (.int .i64 v.at_.at_)).setCell ⟨r, i * 7 + 4, none⟩ (.int .i64 v.at_.mode)).setCell ⟨r, i * 7 + 5, none⟩ (.int .i64 v.d)).setCell ⟨r, i * 7 + 6, none⟩ (.slice v.A v.n v.c)) 157 r (L.set i ⟨s.taken, s.times, s.low, v⟩) := by
  have hil : i < L.length := (List.getElem?_eq_some_iff.1 hx).1
  have q3 := h.set (j := 3) (y := (⟨s.taken, s.times, s.low, ⟨⟨v.at_.at_, s.v.at_.mode⟩, s.v.d, s.v.A, s.v.n, s.v.c⟩⟩ : Slot)) (v := .int .i64 v.at_.at_) slot_len hx (by decide) rfl
  have q4 := q3.set (j := 4) (x := ⟨s.taken, s.times, s.low, ⟨⟨v.at_.at_, s.v.at_.mode⟩, s.v.d, s.v.A, s.v.n, s.v.c⟩⟩) (y := (⟨s.taken, s.times, s.low, ⟨⟨v.at_.at_, v.at_.mode⟩, s.v.d, s.v.A, s.v.n, s.v.c⟩⟩ : Slot)) (v := .int .i64 v.at_.mode) slot_len (by rw [List.getElem?_set_self hil]) (by decide) rfl
  have q5 := q4.set (j := 5) (x := ⟨s.taken, s.times, s.low, ⟨⟨v.at_.at_, v.at_.mode⟩, s.v.d, s.v.A, s.v.n, s.v.c⟩⟩) (y := (⟨s.taken, s.times, s.low, ⟨⟨v.at_.at_, v.at_.mode⟩, v.d, s.v.A, s.v.n, s.v.c⟩⟩ : Slot)) (v := .int .i64 v.d) slot_len (by rw [List.getElem?_set_self (by simpa using hil)]) (by decide) rfl
  have q6 := q5.set (j := 6) (x := ⟨s.taken, s.times, s.low, ⟨⟨v.at_.at_, v.at_.mode⟩, v.d, s.v.A, s.v.n, s.v.c⟩⟩) (y := (⟨s.taken, s.times, s.low, ⟨⟨v.at_.at_, v.at_.mode⟩, v.d, v.A, v.n, v.c⟩⟩ : Slot)) (v := .slice v.A v.n v.c) slot_len (by rw [List.getElem?_set_self (by simpa using hil)]) (by decide) rfl
  simp only [List.set_set] at q6
  exact q6
theorem getno_calls {p r m c B : Nat} {L} {id : Int} {w : World} (h : Tab w p r m c B L) (hB : B ≤ 1000000) (hf : findL L id = none) : Calls Tryz.prog 83 #[.pointer (some ⟨p, 0, none⟩), .int .i64 id] w fun e w' => e = .returned (.tuple #[svV sv0, .int .i64 12]) ∧ Below w.heap.size w w' := by
  have H := Hd.mk h; have HF := Hd.mk (findI_no hf); clear h hf
  have hv := blk_new w (.cells #[.int .i64 0, .int .i64 0, .int .i64 0, .slice none 0 0] 69 (0, 0)) _ rfl
  have HV := Hd.mk hv; clear hv
  go_enter Tryz.func83, Tryz.ntmps83
  go_wp2_with (go_at_call 107; go_must (refine Calls.mono (find_calls id (H.out.below (by repeat (first | (with_reducible assumption) | (with_reducible exact Below.refl _ _) | (with_reducible apply below_drewL) | (with_reducible apply below_alloc) | (with_reducible apply below_drew1) | (with_reducible apply below_drewN) | (refine below_set ?_ (by first | omega | (simp only [size_alloc, size_drew, size_set]; omega)) _ _)))) hB) ?_; rintro e w1 ⟨he, hb1⟩; rw [HF.out] at he; subst he; have hv := blk_below HV.out hb1; have hvc0 := blk_cell hv 0 _ rfl; have hvf0 := blk_frozen hv 0; have hvc1 := blk_cell hv 1 _ rfl; have hvf1 := blk_frozen hv 1; have hvc2 := blk_cell hv 2 _ rfl; have hvf2 := blk_frozen hv 2; have hvc3 := blk_cell hv 3 _ rfl; have hvf3 := blk_frozen hv 3; have hvl := blk_lt hv))
  refine bodyPost_ret (cell_tmp_row rfl _ _ w.heap.size 69 #[.int .i64 0, .int .i64 0, .int .i64 0, .slice none 0 0] (0, 0) _ rfl ?_ Tryz.underlying69 rfl (by kernel_rfl)) rfl ?_
  · exact blk_alloc (blk_set (blk_set (blk_set (blk_set hv 0 _ _ rfl) 1 _ _ rfl) 2 _ _ rfl) 3 _ _ rfl) _
  · have hb := below_seq (a := w) (by repeat (first | (with_reducible assumption) | (with_reducible exact Below.refl _ _) | (with_reducible apply below_drewL) | (with_reducible apply below_alloc) | (with_reducible apply below_drew1) | (with_reducible apply below_drewN) | (refine below_set ?_ (by first | omega | (simp only [size_alloc, size_drew, size_set]; omega)) _ _))) hb1
    exact ⟨rfl, (by repeat (first | (with_reducible assumption) | (with_reducible exact Below.refl _ _) | (with_reducible apply below_drewL) | (with_reducible apply below_alloc) | (with_reducible apply below_drew1) | (with_reducible apply below_drewN) | (refine below_set ?_ (by first | omega | (simp only [size_alloc, size_drew, size_set]; omega)) _ _)))⟩
theorem get_calls {p r m c B i : Nat} {L s} {id : Int} {w : World} (h : Tab w p r m c B L) (hB : B ≤ 1000000) (hf : findL L id = some i) (hx : L[i]? = some s) : Calls Tryz.prog 83 #[.pointer (some ⟨p, 0, none⟩), .int .i64 id] w fun e w' => e = .returned (.tuple #[svV s.v, .int .i64 0]) ∧ Below w.heap.size w w' := by
  have hi : i < m := by rw [← h.len]; exact (List.getElem?_eq_some_iff.1 hx).1
  have h1 := h.max
  have H := Hd.mk h; have HF := Hd.mk (findI_of hf); have HX := Hd.mk hx; clear h hf hx
  have hv := blk_new w (.cells #[.int .i64 0, .int .i64 0, .int .i64 0, .slice none 0 0] 69 (0, 0)) _ rfl
  have HV := Hd.mk hv; clear hv
  go_enter Tryz.func83, Tryz.ntmps83
  go_wp2_with (go_at_call 107; go_must (refine Calls.mono (find_calls id (H.out.below (by repeat (first | (with_reducible assumption) | (with_reducible exact Below.refl _ _) | (with_reducible apply below_drewL) | (with_reducible apply below_alloc) | (with_reducible apply below_drew1) | (with_reducible apply below_drewN) | (refine below_set ?_ (by first | omega | (simp only [size_alloc, size_drew, size_set]; omega)) _ _)))) hB) ?_; rintro e w1 ⟨he, hb1⟩; rw [HF.out] at he; subst he; have hv := blk_below HV.out hb1; have hvc0 := blk_cell hv 0 _ rfl; have hvf0 := blk_frozen hv 0; have hvc1 := blk_cell hv 1 _ rfl; have hvf1 := blk_frozen hv 1; have hvc2 := blk_cell hv 2 _ rfl; have hvf2 := blk_frozen hv 2; have hvc3 := blk_cell hv 3 _ rfl; have hvf3 := blk_frozen hv 3; have hvl := blk_lt hv; have H1 := Hd.mk (H.out.below (below_seq (by repeat (first | (with_reducible assumption) | (with_reducible exact Below.refl _ _) | (with_reducible apply below_drewL) | (with_reducible apply below_alloc) | (with_reducible apply below_drew1) | (with_reducible apply below_drewN) | (refine below_set ?_ (by first | omega | (simp only [size_alloc, size_drew, size_set]; omega)) _ _))) hb1)); have hs := H1.out.str; have hsc0 := blk_cell hs 0 _ rfl; have hsf0 := blk_frozen hs 0; have hsl := blk_lt hs; obtain ⟨hc0, hc1, hc2, hc3, hc4, hc5, hc6, hrl⟩ := H1.out.slot HX.out))
  refine bodyPost_ret (cell_tmp_row rfl _ _ w.heap.size 69 #[.int .i64 s.v.at_.at_, .int .i64 s.v.at_.mode, .int .i64 s.v.d, .slice s.v.A s.v.n s.v.c] (0, 0) _ rfl ?_ Tryz.underlying69 rfl (by kernel_rfl)) rfl ?_
  · exact blk_set (blk_set (blk_set (blk_set hv 0 _ _ rfl) 1 _ _ rfl) 2 _ _ rfl) 3 _ _ rfl
  · have hb := below_seq (a := w) (by repeat (first | (with_reducible assumption) | (with_reducible exact Below.refl _ _) | (with_reducible apply below_drewL) | (with_reducible apply below_alloc) | (with_reducible apply below_drew1) | (with_reducible apply below_drewN) | (refine below_set ?_ (by first | omega | (simp only [size_alloc, size_drew, size_set]; omega)) _ _))) hb1
    exact ⟨rfl, (by repeat (first | (with_reducible assumption) | (with_reducible exact Below.refl _ _) | (with_reducible apply below_drewL) | (with_reducible apply below_alloc) | (with_reducible apply below_drew1) | (with_reducible apply below_drewN) | (refine below_set ?_ (by first | omega | (simp only [size_alloc, size_drew, size_set]; omega)) _ _)))⟩
theorem relno_calls {p r m c B : Nat} {L} {id : Int} {w : World} (h : Tab w p r m c B L) (hB : B ≤ 1000000) (hf : findL L id = none) : Calls Tryz.prog 84 #[.pointer (some ⟨p, 0, none⟩), .int .i64 id] w fun e w' => e = .returned (.int .i64 12) ∧ Below w.heap.size w w' := by
  have H := Hd.mk h; have HF := Hd.mk (findI_no hf); clear h hf
  go_enter Tryz.func84, Tryz.ntmps84
  go_wp2_with (go_at_call 107; go_must (refine Calls.mono (find_calls id (H.out.below (by repeat (first | (with_reducible assumption) | (with_reducible exact Below.refl _ _) | (with_reducible apply below_drewL) | (with_reducible apply below_alloc) | (with_reducible apply below_drew1) | (with_reducible apply below_drewN) | (refine below_set ?_ (by first | omega | (simp only [size_alloc, size_drew, size_set]; omega)) _ _)))) hB) ?_; rintro e w1 ⟨he, hb1⟩; rw [HF.out] at he; subst he))
  go_ret
  exact ⟨rfl, hb1⟩
set_option maxHeartbeats 1000000 in
theorem rel_calls {p r m c B i : Nat} {L s} {id : Int} {w : World} (h : Tab w p r m c B L) (hB : B ≤ 1000000) (hf : findL L id = some i) (hx : L[i]? = some s) : Calls Tryz.prog 84 #[.pointer (some ⟨p, 0, none⟩), .int .i64 id] w fun e w' => e = .returned (.int .i64 0) ∧ Tab w' p r m c (B + 1) (L.set i (freed s)) ∧ Fr (fun b => b = r) w w' := by
  have hi : i < m := by rw [← h.len]; exact (List.getElem?_eq_some_iff.1 hx).1
  have h1 := h.max
  have hne : ¬ r = p := Ne.symm h.ne
  have hne2 : ¬ p = r := h.ne
  have htm : s.times ≤ 1000000 := Nat.le_trans (h.tms s (List.mem_of_getElem? hx)) hB
  have H := Hd.mk h; have HF := Hd.mk (findI_of hf); have HX := Hd.mk hx; clear h hf hx
  go_enter Tryz.func84, Tryz.ntmps84
  go_wp2_with (go_at_call 107; go_must (refine Calls.mono (find_calls id (H.out.below (by repeat (first | (with_reducible assumption) | (with_reducible exact Below.refl _ _) | (with_reducible apply below_drewL) | (with_reducible apply below_alloc) | (with_reducible apply below_drew1) | (with_reducible apply below_drewN) | (refine below_set ?_ (by first | omega | (simp only [size_alloc, size_drew, size_set]; omega)) _ _)))) hB) ?_; rintro e w1 ⟨he, hb1⟩; rw [HF.out] at he; subst he; have H1 := Hd.mk (H.out.below hb1); have hs := H1.out.str; have hsc0 := blk_cell hs 0 _ rfl; have hsf0 := blk_frozen hs 0; have hsl := blk_lt hs; obtain ⟨hc0, hc1, hc2, hc3, hc4, hc5, hc6, hrl⟩ := H1.out.slot HX.out; have hf0 := H1.out.row.frozen (i * 7); have hf1 := H1.out.row.frozen (i * 7 + 1); have hf2 := H1.out.row.frozen (i * 7 + 2); have hf3 := H1.out.row.frozen (i * 7 + 3); have hf4 := H1.out.row.frozen (i * 7 + 3 + 1); have hf5 := H1.out.row.frozen (i * 7 + 3 + 2); have hf6 := H1.out.row.frozen (i * 7 + 3 + 2 + 1)))
  refine wp_region_can (.q [0, 1, 2, 3, 4, 5, 6, 7, 8, 9, 10, 11, 12, 13, 14, 15, 16, 17] (.e 18 false (.done))) (clsB _) (by kernel_rfl) (by kernel_rfl) (by intro _ _ d _ _ h; cases d <;> exact h) (clsB_drew _) ?_
  refine can_q (l := [⟨_,_,_,_,_,_⟩, ⟨_,_,_,_,_,_⟩, ⟨_,_,_,_,_,_⟩, ⟨_,_,_,_,_,_⟩, ⟨_,_,_,_,_,_⟩, ⟨_,_,_,_,_,_⟩, ⟨_,_,_,_,_,_⟩, ⟨_,_,_,_,_,_⟩, ⟨_,_,_,_,_,_⟩, ⟨_,_,_,_,_,_⟩, ⟨_,_,_,_,_,_⟩, ⟨_,_,_,_,_,_⟩, ⟨_,_,_,_,_,_⟩, ⟨_,_,_,_,_,_⟩, ⟨_,_,_,_,_,_⟩, ⟨_,_,_,_,_,_⟩, ⟨_,_,_,_,_,_⟩, ⟨_,_,_,_,_,_⟩]) rfl ?_
  repeat (go_big_quiet_step (fail))
  refine wpQuiet_nil ?_
  refine can_e (o := ⟨_,_,_,_,_,_⟩) rfl (fun K hK => ?_)
  go_wp2_with fail
  refine onK_normal (hK _ _ ⟨fun _ => True, trivial, (fun h => by cases h), ?_⟩)
  clear hK K
  refine can_done ?_
  go_wp2
  go_ret
  have hF : Fr (fun b => b = r) w1 _ := (Fr.set (Fr.set (Fr.set (Fr.set (Fr.set (Fr.set (Fr.set (Fr.of_below (X := fun b => b = r) (Below.refl _ w1)) (.inl rfl) (i * 7) (.bool false)) (.inl rfl) (i * 7 + 1) (.int .i64 ((s.times : Int) + 1))) (.inl rfl) (i * 7 + 2) (.int .i64 0)) (.inl rfl) (i * 7 + 3) (.int .i64 0)) (.inl rfl) (i * 7 + 4) (.int .i64 0)) (.inl rfl) (i * 7 + 5) (.int .i64 0)) (.inl rfl) (i * 7 + 6) (.slice none 0 0)).drew
  refine ⟨rfl, ⟨(hF.same p (blk_lt hs) hne2).trans hs, ?_, H1.out.ne, by rw [List.length_set]; exact H1.out.len, H1.out.cap, H1.out.pos, h1, ?_⟩, (Fr.of_below hb1).trans hF⟩
  · have hil : i < L.length := by rw [H.out.len]; exact hi
    have q0 := H1.out.row.set0 (y := (⟨false, s.times, s.low, s.v⟩ : Slot)) (v := .bool false) slot_len HX.out (by decide) rfl
    have q1 := q0.set (j := 1) (x := ⟨false, s.times, s.low, s.v⟩) (y := (⟨false, s.times + 1, s.low, s.v⟩ : Slot)) (v := .int .i64 ((s.times : Int) + 1)) slot_len (by rw [List.getElem?_set_self hil]) (by decide) rfl
    have q2 := q1.set (j := 2) (x := ⟨false, s.times + 1, s.low, s.v⟩) (y := (⟨false, s.times + 1, 0, s.v⟩ : Slot)) (v := .int .i64 0) slot_len (by rw [List.getElem?_set_self (by simpa using hil)]) (by decide) rfl
    have q3 := Tab.setv q2 (s := ⟨false, s.times + 1, 0, s.v⟩) (by rw [List.getElem?_set_self (by simpa using hil)]) sv0
    simp only [List.set_set] at q3
    refine q3.move ?_; rw [heap_drew]; rfl
  · intro x hx'
    rcases List.mem_or_eq_of_mem_set hx' with hx' | rfl
    · have := H1.out.tms x hx'; omega
    · have := H1.out.tms s (List.mem_of_getElem? HX.out); simp only [freed]; omega
end Go.Proofs.YtoambcpjdcehhaaGreat.Fn

/- What Set computes. -/
set_option linter.unusedVariables false
set_option linter.unusedSimpArgs false
namespace Go.Proofs.YtoambcpjdcehhaaGreat.Fn
open Go Go.RowKit Go.Proofs.YtoambcpjdcehhaaGreat.Can Go.Proofs.YtoambcpjdcehhaaGreat.Base
attribute [local go_sem] clsB AB.cell clsX AX.cell

theorem setfull_calls {p r m c B : Nat} {L} (v : Sv) (low : Int) {w : World} (h : Tab w p r m c B L) (hf : ∀ s ∈ L, s.taken = true) : Calls Tryz.prog 81 #[.pointer (some ⟨p, 0, none⟩), svV v, .int .i64 low] w fun e w' => e = .returned (.tuple #[.int .i64 0, .int .i64 6]) ∧ Below w.heap.size w w' := by
  have h1 := h.max
  have H := Hd.mk h; have HF := Hd.mk hf; clear h hf
  unfold svV
  go_enter Tryz.func81, Tryz.ntmps81
  go_wp2_with (go_at_call 103; go_must (refine Calls.mono (mroom_calls (H.out.below (by repeat (first | (with_reducible assumption) | (with_reducible exact Below.refl _ _) | (with_reducible apply below_drewL) | (with_reducible apply below_alloc) | (with_reducible apply below_drew1) | (with_reducible apply below_drewN) | (refine below_set ?_ (by first | omega | (simp only [size_alloc, size_drew, size_set]; omega)) _ _))))) ?_; rintro e w1 ⟨rfl, hw⟩; have h9 := hw.symm; subst h9))
  go_loopw [11] (fun i wr => ∃ k : Nat, k ≤ m ∧ i = .int .i64 k ∧ Hd (Below w.heap.size w wr)) (fun i _ => m - (intOf i).toNat)
  case atStart => exact ⟨0, Nat.zero_le _, rfl, ⟨(by repeat (first | (with_reducible assumption) | (with_reducible exact Below.refl _ _) | (with_reducible apply below_drewL) | (with_reducible apply below_alloc) | (with_reducible apply below_drew1) | (with_reducible apply below_drewN) | (refine below_set ?_ (by first | omega | (simp only [size_alloc, size_drew, size_set]; omega)) _ _)))⟩⟩
  case round =>
    obtain ⟨k, hk, rfl, hb⟩ := hrel
    by_cases hlt : k < m
    · have H1 := Hd.mk (H.out.below hb.out)
      obtain ⟨s, hx⟩ : ∃ s, L[k]? = some s := ⟨_, List.getElem?_eq_getElem (by rw [H.out.len]; exact hlt)⟩
      obtain ⟨hc0, hc1, hc2, hc3, hc4, hc5, hc6, hrl⟩ := H1.out.slot hx
      rw [HF.out s (List.mem_of_getElem? hx)] at hc0
      have hs := H1.out.str
      have hsc0 := blk_cell hs 0 _ rfl; have hsf0 := blk_frozen hs 0; have hsl := blk_lt hs
      clear hs hx
      go_wp2_with (go_at_call 104; go_must (refine Calls.mono (mfree_calls _ _ _ _) ?_; rintro e w2 ⟨rfl, hb2⟩))
      go_roundw
      case rel => exact ⟨k + 1, by omega, by go_num, ⟨below_seq hb.out hb2⟩⟩
      case measure => simp [intOf]; omega
    · obtain rfl : k = m := by omega
      go_wp2
      go_ret2
      exact ⟨rfl, hb.out⟩
set_option maxHeartbeats 1000000 in
theorem set_calls {p r m c B i : Nat} {L s} (v : Sv) (low : Int) {w : World} (h : Tab w p r m c B L) (hB : B ≤ 1000000) (hf : ∀ j, j < i → ∀ s, L[j]? = some s → s.taken = true) (hx : L[i]? = some s) (ht : s.taken = false) :
    Calls Tryz.prog 81 #[.pointer (some ⟨p, 0, none⟩), svV v, .int .i64 low] w fun e w' => e = .returned (.tuple #[.int .i64 (numb m i s : Nat), .int .i64 0]) ∧ Tab w' p r m c B (L.set i (took s v low)) ∧ Fr (fun b => b = r) w w' := by
  have h1 := h.max
  have hi : i < m := by rw [← h.len]; exact (List.getElem?_eq_some_iff.1 hx).1
  have hne : ¬ r = p := Ne.symm h.ne
  have hne2 : ¬ p = r := h.ne
  have hrw := h.row.lt
  have H := Hd.mk h; have HF := Hd.mk hf; have HX := Hd.mk hx; have HT := Hd.mk ht; clear h hf hx ht
  unfold svV
  obtain ⟨g, hg⟩ : ∃ g, w.heap.size = g := ⟨_, rfl⟩
  have HG := Hd.mk hg
  rw [hg] at hrw
  have hv := blk_new w (.cells #[.int .i64 v.at_.at_, .int .i64 v.at_.mode, .int .i64 v.d, .slice v.A v.n v.c] 69 (0, 0)) g hg.symm
  have HV := Hd.mk hv; clear hv
  go_enter Tryz.func81, Tryz.ntmps81
  go_wp2_with (go_at_call 103; go_must (refine Calls.mono (mroom_calls (H.out.below (by repeat (first | (with_reducible assumption) | (with_reducible exact Below.refl _ _) | (with_reducible apply below_drewL) | (with_reducible apply below_alloc) | (with_reducible apply below_drew1) | (with_reducible apply below_drewN) | (refine below_set ?_ (by first | omega | (simp only [size_alloc, size_drew, size_set]; omega)) _ _))))) ?_; rintro e w1 ⟨rfl, hw⟩; have h9 := hw.symm; subst h9))
  clear hg
  go_loopw [11] (fun x wr => ∃ k : Nat, k ≤ i ∧ x = .int .i64 k ∧ Hd (Below w.heap.size w wr) ∧ Hd (wr.heap[g]? = some (.cells #[.int .i64 v.at_.at_, .int .i64 v.at_.mode, .int .i64 v.d, .slice v.A v.n v.c] 69 (0, 0)))) (fun x _ => m - (intOf x).toNat)
  case atStart => exact ⟨0, Nat.zero_le _, rfl, ⟨(by repeat (first | (with_reducible assumption) | (with_reducible exact Below.refl _ _) | (with_reducible apply below_drewL) | (with_reducible apply below_alloc) | (with_reducible apply below_drew1) | (with_reducible apply below_drewN) | (refine below_set ?_ (by first | omega | (simp only [size_alloc, size_drew, size_set]; omega)) _ _)))⟩, HV⟩
  case round =>
    obtain ⟨k, hk, rfl, hb, HV1⟩ := hrel
    clear HV
    have H1 := Hd.mk (H.out.below hb.out)
    have hs := H1.out.str
    have hv := HV1.out
    have hsc0 := blk_cell hs 0 _ rfl; have hsf0 := blk_frozen hs 0; have hsl := blk_lt hs
    have hvc0 := blk_cell hv 0 _ rfl; have hvf0 := blk_frozen hv 0; have hvc1 := blk_cell hv 1 _ rfl; have hvf1 := blk_frozen hv 1; have hvc2 := blk_cell hv 2 _ rfl; have hvf2 := blk_frozen hv 2; have hvc3 := blk_cell hv 3 _ rfl; have hvf3 := blk_frozen hv 3; have hvl := blk_lt hv
    by_cases hlt : k < i
    · obtain ⟨s', hx⟩ : ∃ s', L[k]? = some s' := ⟨_, List.getElem?_eq_getElem (by rw [H.out.len]; omega)⟩
      obtain ⟨hc0, hc1, hc2, hc3, hc4, hc5, hc6, hrl⟩ := H1.out.slot hx
      rw [HF.out k hlt s' hx] at hc0
      clear hs hx hv
      go_wp2_with (go_at_call 104; go_must (refine Calls.mono (mfree_calls _ _ _ _) ?_; rintro e w2 ⟨rfl, hb2⟩))
      go_roundw
      case rel => exact ⟨k + 1, by omega, by go_num, ⟨below_seq hb.out hb2⟩, ⟨blk_below HV1.out hb2⟩⟩
      case measure => simp [intOf]; omega
    · obtain rfl : k = i := by omega
      obtain ⟨hc0, hc1, hc2, hc3, hc4, hc5, hc6, hrl⟩ := H1.out.slot HX.out
      rw [HT.out] at hc0
      have hrg : ¬ g = r := by omega
      go_wp2_with (go_at_call 104; go_must (refine Calls.mono (mfree_calls _ _ _ _) ?_; rintro e w2 ⟨rfl, hb2⟩; have H2 := Hd.mk (H1.out.below hb2); have hs2 := blk_below hs hb2; have hv2 := blk_below hv hb2; clear hsc0 hsf0 hsl; clear hvc0 hvf0 hvc1 hvf1 hvc2 hvf2 hvc3 hvf3 hvl; clear hc0 hc1 hc2 hc3 hc4 hc5 hc6 hs hrl hv; have hs2c0 := blk_cell hs2 0 _ rfl; have hs2f0 := blk_frozen hs2 0; have hs2l := blk_lt hs2; have hv2c0 := blk_cell hv2 0 _ rfl; have hv2f0 := blk_frozen hv2 0; have hv2c1 := blk_cell hv2 1 _ rfl; have hv2f1 := blk_frozen hv2 1; have hv2c2 := blk_cell hv2 2 _ rfl; have hv2f2 := blk_frozen hv2 2; have hv2c3 := blk_cell hv2 3 _ rfl; have hv2f3 := blk_frozen hv2 3; have hv2l := blk_lt hv2; obtain ⟨hc0, hc1, hc2, hc3, hc4, hc5, hc6, hrl⟩ := H2.out.slot HX.out; rw [HT.out] at hc0; have hf0 := H2.out.row.frozen (k * 7); have hf2 := H2.out.row.frozen (k * 7 + 2); have hf3 := H2.out.row.frozen (k * 7 + 3); have hf4 := H2.out.row.frozen (k * 7 + 3 + 1); have hf5 := H2.out.row.frozen (k * 7 + 3 + 2); have hf6 := H2.out.row.frozen (k * 7 + 3 + 2 + 1)))
      refine wp_region_can (.q [0, 1, 2, 3, 4, 5, 6, 7, 8, 9, 10, 11, 12, 13, 14, 15, 16, 17, 18] (.e 19 false (.q [20, 21, 22] (.e 23 false (.q [24, 25, 26] (.e 27 false (.done))))))) (clsX (fun b => b = r) _) (by kernel_rfl) (by kernel_rfl) (by intro _ _ d _ _ h; cases d <;> exact h) (clsX_drew _ _) ?_
      refine can_q (l := [⟨_,_,_,_,_,_⟩, ⟨_,_,_,_,_,_⟩, ⟨_,_,_,_,_,_⟩, ⟨_,_,_,_,_,_⟩, ⟨_,_,_,_,_,_⟩, ⟨_,_,_,_,_,_⟩, ⟨_,_,_,_,_,_⟩, ⟨_,_,_,_,_,_⟩, ⟨_,_,_,_,_,_⟩, ⟨_,_,_,_,_,_⟩, ⟨_,_,_,_,_,_⟩, ⟨_,_,_,_,_,_⟩, ⟨_,_,_,_,_,_⟩, ⟨_,_,_,_,_,_⟩, ⟨_,_,_,_,_,_⟩, ⟨_,_,_,_,_,_⟩, ⟨_,_,_,_,_,_⟩, ⟨_,_,_,_,_,_⟩, ⟨_,_,_,_,_,_⟩]) rfl ?_
      repeat (go_big_quiet_step (fail))
      refine wpQuiet_nil ?_
      refine can_e (o := ⟨_,_,_,_,_,_⟩) rfl (fun K hK => ?_)
      go_wp2_with fail
      first | refine onK_normal (hK _ _ ⟨clsX _ _, clsX_drew _ _, fun _ => clsX_next ?_ ?_, ?_⟩) | refine onK_normal (hK _ _ ⟨clsX _ _, clsX_self _ _, fun _ => clsX_next ?_ ?_, ?_⟩)
      · simp only [size_alloc, size_drew, size_set]; omega
      · intro b_ hb_ hW_; repeat (first | (rw [Below.heap_setCell _ _ _ _ (by intro he_; exact hW_ (by first | exact he_ | exact .inl he_ | exact .inr he_))]) | (rw [Below.heap_alloc _ _ _ (by simp only [size_alloc, size_drew, size_set]; omega)]) | rfl)
      clear hK K
      refine can_q (l := [⟨_,_,_,_,_,_⟩, ⟨_,_,_,_,_,_⟩, ⟨_,_,_,_,_,_⟩]) rfl ?_
      repeat (go_big_quiet_step (fail))
      refine wpQuiet_nil ?_
      refine can_e (o := ⟨_,_,_,_,_,_⟩) rfl (fun K hK => ?_)
      go_wp2_with fail
      first | refine onK_normal (hK _ _ ⟨clsX _ _, clsX_drew _ _, fun _ => clsX_next ?_ ?_, ?_⟩) | refine onK_normal (hK _ _ ⟨clsX _ _, clsX_self _ _, fun _ => clsX_next ?_ ?_, ?_⟩)
      · simp only [size_alloc, size_drew, size_set]; omega
      · intro b_ hb_ hW_; repeat (first | (rw [Below.heap_setCell _ _ _ _ (by intro he_; exact hW_ (by first | exact he_ | exact .inl he_ | exact .inr he_))]) | (rw [Below.heap_alloc _ _ _ (by simp only [size_alloc, size_drew, size_set]; omega)]) | rfl)
      clear hK K
      refine can_q (l := [⟨_,_,_,_,_,_⟩, ⟨_,_,_,_,_,_⟩, ⟨_,_,_,_,_,_⟩]) rfl ?_
      repeat (go_big_quiet_step (fail))
      refine wpQuiet_nil ?_
      refine can_e (o := ⟨_,_,_,_,_,_⟩) rfl (fun K hK => ?_)
      go_wp2_with fail
      refine onK_normal (hK _ _ ⟨fun _ => True, trivial, (fun h => by cases h), ?_⟩)
      clear hK K
      refine can_done ?_
      have hil : k < L.length := by rw [H.out.len]; exact hi
      have q3 := Tab.setv H2.out.row HX.out v
      have q2 := q3.set (j := 2) (x := ⟨s.taken, s.times, s.low, v⟩) (y := (⟨s.taken, s.times, low, v⟩ : Slot)) (v := .int .i64 low) slot_len (by rw [List.getElem?_set_self hil]) (by decide) rfl
      have q0 := q2.set0 (x := ⟨s.taken, s.times, low, v⟩) (y := (⟨true, s.times, low, v⟩ : Slot)) (v := .bool true) slot_len (by rw [List.getElem?_set_self (by simpa using hil)]) (by decide) rfl
      simp only [List.set_set] at q0
      generalize hW : World.drew (World.setCell _ _ _) = W
      have hF0 : Fr (fun b => b = r) w2 W := by
        rw [← hW]
        exact ((Fr.set (Fr.set (Fr.set (Fr.set (Fr.set (Fr.set (Fr.of_below (X := fun b => b = r) (Below.refl _ w2)) (.inl rfl) (k * 7 + 3) (.int .i64 v.at_.at_)) (.inl rfl) (k * 7 + 4) (.int .i64 v.at_.mode)) (.inl rfl) (k * 7 + 5) (.int .i64 v.d)) (.inl rfl) (k * 7 + 6) (.slice v.A v.n v.c)) (.inl rfl) (k * 7 + 2) (.int .i64 low)) (.inl rfl) (k * 7) (.bool true)).drew)
      have hT : Hd (Tab W p r m c B (L.set k (took s v low))) := ⟨by
        refine ⟨(hF0.same p (blk_lt hs2) hne2).trans hs2, q0.move (by rw [← hW, heap_drew]), H2.out.ne, by rw [List.length_set]; exact H2.out.len, H2.out.cap, H2.out.pos, h1, fun x hx' => ?_⟩
        rcases List.mem_or_eq_of_mem_set hx' with hx' | rfl
        · exact H2.out.tms x hx'
        · exact H2.out.tms s (List.mem_of_getElem? HX.out)⟩
      have hF : Hd (Fr (fun b => b = r) w W) := ⟨((Fr.of_below (X := fun b => b = r) hb.out).trans (Fr.of_below hb2)).trans hF0⟩
      have hSg : (L.set k (took s v low))[k]? = some (took s v low) := List.getElem?_set_self hil
      have HS := Hd.mk hSg; clear hSg q0 q2 q3 hW H1 H2 hb2 hF0
      clear hs2c0 hs2f0 hs2l
      clear hv2c0 hv2f0 hv2c1 hv2f1 hv2c2 hv2f2 hv2c3 hv2f3 hv2l
      clear hs2 hv2 hc0 hc1 hc2 hc3 hc4 hc5 hc6 hrl hf0 hf2 hf3 hf4 hf5 hf6
      go_wp2_with (go_at_call 105; go_must (refine Calls.mono (number_calls hT.out hB HS.out) ?_; rintro e w3 ⟨rfl, hb3⟩))
      go_ret2
      exact ⟨rfl, hT.out.below hb3, hF.out.trans (Fr.of_below hb3)⟩
end Go.Proofs.YtoambcpjdcehhaaGreat.Fn

/- What New and Low of the marks compute. -/
set_option linter.unusedVariables false
set_option linter.unusedSimpArgs false
namespace Go.Proofs.YtoambcpjdcehhaaGreat.Fn
open Go Go.RowKit Go.Proofs.YtoambcpjdcehhaaGreat.Can Go.Proofs.YtoambcpjdcehhaaGreat.Base
attribute [local go_sem] clsB AB.cell clsX AX.cell

def roomN (n : Int) : Nat := (if n < 1 then 1 else if 4096 < n then 4096 else n).toNat
theorem roomN_pos (n : Int) : 0 < roomN n ∧ roomN n ≤ 4096 := by unfold roomN; split <;> (try split) <;> omega
def slot0 : Slot := ⟨false, 0, 0, sv0⟩
def lowUpto (L : List Slot) (or : Int) : Nat → Int
  | 0 => or
  | k + 1 => match L[k]? with | some s => if s.taken then (if s.low < lowUpto L or k then s.low else lowUpto L or k) else lowUpto L or k | none => lowUpto L or k

theorem mnew_calls (n : Int) (w : World) : Calls Tryz.prog 21 #[.int .i64 n] w fun e w' =>
    ∃ p r, e = .returned (.pointer (some ⟨p, 0, none⟩)) ∧ w.heap.size ≤ p ∧ w.heap.size ≤ r ∧ Tab w' p r (roomN n) (roomN n) 0 (List.replicate (roomN n) slot0) ∧ Below w.heap.size w w' := by
  obtain ⟨m, hm⟩ : ∃ m, roomN n = m := ⟨_, rfl⟩
  have hp := roomN_pos n
  rw [hm] at hp ⊢
  obtain ⟨m1, hm1⟩ : ∃ m1 : Int, (if n < 1 then 1 else n) = m1 := ⟨_, rfl⟩
  have hm2 : (if (4096 : Int) < m1 then 4096 else m1) = m := by
    rw [← hm1, ← hm]; unfold roomN; split <;> split <;> (try split) <;> omega
  obtain ⟨i0, hi, hz, hs, hbb⟩ := info_of (P := Tryz.prog) (e := 157) (z := some (.agg #[.bool false, .int .i64 0, .int .i64 0, .int .i64 0, .int .i64 0, .int .i64 0, .slice none 0 0])) (s := 7) (b := 72) (by kernel_rfl)
  have HM1 := Hd.mk hm1; have HM2 := Hd.mk hm2; have HI := Hd.mk (And.intro hi (And.intro hz (And.intro hs hbb)))
  clear hm1 hm2 hi hz hs hbb hm
  go_enter Tryz.func21, Tryz.ntmps21
  go_wp2_with (first | (at_make; go_must (refine wpList_make_full _ rfl (.tmp 5) (.tmp 5) 111 rfl w.heap.size 157 i0 (.agg #[.bool false, .int .i64 0, .int .i64 0, .int .i64 0, .int .i64 0, .int .i64 0, .slice none 0 0]) 7 Tryz.underlying111 HI.out.1 HI.out.2.1 HI.out.2.2.1 .i64 .i64 m m m rfl rfl rfl rfl (by rw [HI.out.2.2.2]; omega) (by simp only [maxLen]; omega) (Nat.le_refl _) ?_; intro w1 ho1 hg1)) | (refine max_int rfl (.tmp 3) (.const (.int .i64 1)) _ rfl .i64 n 1 m1 rfl rfl HM1.out ?_) | (refine min_int rfl (.tmp 4) (.const (.int .i64 4096)) _ rfl .i64 m1 4096 m rfl rfl HM2.out ?_))
  go_ret
  have hz1 := hg1.size
  have hh : w1.heap[w.heap.size]? = some (.cells (flatC slotE (List.replicate m slot0)).toArray 157 (0, 0)) := by
    rcases ho1.2 with ⟨h0, _⟩ | ⟨g, cap, cur, he, hg, hh, hcap, _, hcs, ht⟩
    · cases h0
    · simp only [Value.slice.injEq, Option.some.injEq, Addr.mk.injEq, and_true, true_and] at he
      obtain ⟨rfl, rfl⟩ := he
      rw [hh]
      rw [List.take_of_length_le (by simp [hcs])] at ht
      have hcur : cur = (madeCells (.agg #[.bool false, .int .i64 0, .int .i64 0, .int .i64 0, .int .i64 0, .int .i64 0, .slice none 0 0] : Value).cells (m * 7)) := by
        apply Array.toList_inj.1; exact ht
      rw [hcur, made_flat (enc := slotE) (x := slot0) (zc := (.agg #[.bool false, .int .i64 0, .int .i64 0, .int .i64 0, .int .i64 0, .int .i64 0, .slice none 0 0] : Value).cells) slot_len (by decide) rfl m]
  refine ⟨w1.heap.size, w.heap.size, rfl, by omega, Nat.le_refl _, ⟨by rw [blk_new _ _ _ rfl], ⟨[], by rw [List.append_nil]; exact blk_alloc hh _⟩, by have := blk_lt hh; omega, by simp, Nat.le_refl _, hp.1, hp.2, fun s hs => by rw [(List.mem_replicate.1 hs).2]; exact Nat.le_refl _⟩, ?_⟩
  have hb1 : Below w.heap.size w w1 := (Below.refl _ _).grown hg1 (Nat.le_refl _) (fun k hk => by cases hk)
  exact (by repeat (first | (with_reducible assumption) | (with_reducible exact Below.refl _ _) | (with_reducible apply below_drewL) | (with_reducible apply below_alloc) | (with_reducible apply below_drew1) | (with_reducible apply below_drewN) | (refine below_set ?_ (by first | omega | (simp only [size_alloc, size_drew, size_set]; omega)) _ _)))

theorem mlow_calls {p r m c B : Nat} {L} (or : Int) {w : World} (h : Tab w p r m c B L) : Calls Tryz.prog 116 #[.pointer (some ⟨p, 0, none⟩), .int .i64 or] w fun e w' => e = .returned (.int .i64 (lowUpto L or m)) ∧ Below w.heap.size w w' := by
  have h1 := h.max
  have H := Hd.mk h; clear h
  go_enter Tryz.func116, Tryz.ntmps116
  go_wp2_with (go_at_call 103; go_must (refine Calls.mono (mroom_calls (H.out.below (by repeat (first | (with_reducible assumption) | (with_reducible exact Below.refl _ _) | (with_reducible apply below_drewL) | (with_reducible apply below_alloc) | (with_reducible apply below_drew1) | (with_reducible apply below_drewN) | (refine below_set ?_ (by first | omega | (simp only [size_alloc, size_drew, size_set]; omega)) _ _))))) ?_; rintro e w1 ⟨rfl, hw⟩; subst hw))
  go_loopw [1, 8] (fun o i wr => ∃ k : Nat, k ≤ m ∧ i = .int .i64 k ∧ (∃ x, o = .int .i64 x ∧ Hd (x = lowUpto L or k)) ∧ Hd (Below w1.heap.size w1 wr)) (fun _ i _ => m - (intOf i).toNat)
  case atStart => exact ⟨0, Nat.zero_le _, rfl, ⟨_, rfl, ⟨rfl⟩⟩, ⟨Below.refl _ _⟩⟩
  case round =>
    obtain ⟨k, hk, rfl, ⟨x, rfl, HX⟩, hb⟩ := hrel
    by_cases hlt : k < m
    · have H1 := Hd.mk (H.out.below hb.out)
      obtain ⟨s, hx⟩ : ∃ s, L[k]? = some s := ⟨_, List.getElem?_eq_getElem (by rw [H.out.len]; exact hlt)⟩
      obtain ⟨hc0, hc1, hc2, hc3, hc4, hc5, hc6, hrl⟩ := H1.out.slot hx
      have hs := H1.out.str
      have hstep : lowUpto L or (k + 1) = if s.taken then (if s.low < x then s.low else x) else x := by
        rw [HX.out]; simp only [lowUpto, hx]
      have hsc0 := blk_cell hs 0 _ rfl; have hsf0 := blk_frozen hs 0; have hsl := blk_lt hs
      cases ht : s.taken with
      | false =>
        have HS : Hd (x = lowUpto L or (k + 1)) := ⟨by rw [hstep, ht]; rfl⟩
        rw [ht] at hc0
        clear hstep hx hs
        go_wp2_with (go_at_call 104; go_must (refine Calls.mono (mfree_calls _ _ _ _) ?_; rintro e w2 ⟨rfl, hb2⟩))
        go_roundw
        case rel => exact ⟨k + 1, by omega, by go_num, ⟨_, rfl, HS⟩, ⟨below_seq hb.out hb2⟩⟩
        case measure => simp [intOf]; omega
      | true =>
        obtain ⟨y, hy⟩ : ∃ y, (if s.low < x then s.low else x) = y := ⟨_, rfl⟩
        have HS : Hd (y = lowUpto L or (k + 1)) := ⟨by rw [hstep, ht, ← hy]; rfl⟩
        have HY := Hd.mk hy
        rw [ht] at hc0
        have HX2 := Hd.mk hx
        have HSs := Hd.mk hs
        clear hstep hx hy hs
        go_wp2_with (first | (refine min_int rfl (.tmp 21) (.tmp 30) _ rfl .i64 x s.low y rfl rfl HY.out ?_) | (go_at_call 104; go_must (refine Calls.mono (mfree_calls _ _ _ _) ?_; rintro e w2 ⟨rfl, hb2⟩; have hs2 := blk_below HSs.out hb2; clear hsc0 hsf0 hsl hc0 hc1 hc2 hc3 hc4 hc5 hc6 hrl; have H2 := Hd.mk (H1.out.below hb2); obtain ⟨hc0, hc1, hc2, hc3, hc4, hc5, hc6, hrl⟩ := H2.out.slot HX2.out; have hs2c0 := blk_cell hs2 0 _ rfl; have hs2f0 := blk_frozen hs2 0; have hs2l := blk_lt hs2; clear hs2)))
        go_roundw
        case rel => exact ⟨k + 1, by omega, by go_num, ⟨_, rfl, HS⟩, ⟨below_seq hb.out hb2⟩⟩
        case measure => simp [intOf]; omega
    · obtain rfl : k = m := by omega
      go_wp2
      go_ret
      exact ⟨ret_int HX.out, hb.out⟩
end Go.Proofs.YtoambcpjdcehhaaGreat.Fn
