/- Texts: B1, B2, B3, B4, B5, B6. -/
import Derived.Test.YtbmpaokicphdjaaDoorChecked
import Derived.Test.YtbmpaokicphdjaaDoorFlat
import Derived.OwnWalk
import Derived.Laws.Bits64b
import Derived.Laws.BitsAllLaws
import Derived.Laws.ShiftsVarLaws
import Derived.Shelf.Spec.TrailingZeros
set_option linter.unusedVariables false
set_option linter.unusedSimpArgs false
/- Sets of small numbers: their words, a number's place, Has, Room. -/
namespace Go.Proofs.YtbmpaokicphdjaaDoor.Fn
open Go Go.RowKit Go.Proofs.YtbmpaokicphdjaaDoor.Can Go.Proofs.YtbmpaokicphdjaaDoor.Base
attribute [local go_sem] clsB AB.cell

def wE (x : Nat) : List Value := [.int .u64 x]
theorem w_len (x : Nat) : (wE x).length = 1 := rfl
theorem w_one (x : Nat) : ∀ u ∈ wE x, u.oneCell' = true := fun u hu => by rw [List.mem_singleton.1 hu]; rfl
abbrev wT : Ty Nat := Ty.flat 1 wE w_len w_one
/-- Is the number n in these words? -/
def bitAt (ws : List Nat) (n : Nat) : Bool := (ws.getD (n / 64) 0).testBit (n % 64)
/-- The words of a set of this room. -/
structure Wok (room : Nat) (ws : List Nat) : Prop where
  len : ws.length = (room + 63) / 64
  lt : ∀ x ∈ ws, x < 18446744073709551616
  top : ∀ n, room ≤ n → bitAt ws n = false
  small : room ≤ 65536
/-- They lie in block g. -/
def Wd (w : World) (A : Option Addr) (g : Nat) (ws : List Nat) : Prop := ws = [] ∨ (A = some ⟨g, 0, none⟩ ∧ Blk wE w 33 g ws)
theorem Wd.move {w w' : World} {A : Option Addr} {g : Nat} {ws : List Nat} (h : Wd w A g ws) (hm : w'.heap[g]? = w.heap[g]?) : Wd w' A g ws := by
  rcases h with h | ⟨h1, h2⟩
  · exact .inl h
  · exact .inr ⟨h1, h2.move hm⟩
theorem Wok.at_ {room : Nat} {ws : List Nat} (h : Wok room ws) {n : Nat} (hn : n < room) : ∃ x, ws[n / 64]? = some x ∧ x < 18446744073709551616 ∧ bitAt ws n = x.testBit (n % 64) := by
  have hl : n / 64 < ws.length := by rw [h.len]; omega
  refine ⟨ws[n / 64], List.getElem?_eq_getElem hl, h.lt _ (List.getElem_mem hl), ?_⟩
  unfold bitAt
  rw [List.getD_eq_getElem?_getD, List.getElem?_eq_getElem hl]
  rfl
theorem wrap_pow (n : Nat) : IntKind.u64.wrap ((2 : Int) ^ (n % 64)) = ((2 ^ (n % 64) : Nat) : Int) := by
  have h : 2 ^ (n % 64) < 2 ^ 64 := Nat.pow_lt_pow_right (by decide) (Nat.mod_lt _ (by decide))
  have e : ((2 : Int) ^ (n % 64)) = ((2 ^ (n % 64) : Nat) : Int) := by simp
  rw [e, IntKind.wrap_u64]
  generalize 2 ^ (n % 64) = p at *
  omega
theorem bit_calls (A : Option Addr) (m c : Nat) (room : Nat) (n q b : Nat) (w : World) (hn : n < room) (hr : room ≤ 65536) (hq : n / 64 = q) (hb : 2 ^ (n % 64) = b) :
    Calls Tryd.prog 71 #[.agg #[.slice A m c, .int .i64 room], .int .i64 n] w fun e w' => e = .returned (.tuple #[.int .i64 q, .int .u64 b, .bool true]) ∧ Below w.heap.size w w' := by
  have HQ := Hd.mk hq; have HB := Hd.mk hb; clear hq hb
  go_enter Tryd.func71, Tryd.ntmps71
  go_wp2
  refine wp_region_can (.q [0, 1, 2, 3, 4, 5, 6, 7] (.done)) (clsB _) (by kernel_rfl) (by kernel_rfl) (by intro _ _ d _ _ h; cases d <;> exact h) (clsB_drew _) ?_
  refine can_q (l := [⟨_,_,_,_,_,_⟩, ⟨_,_,_,_,_,_⟩, ⟨_,_,_,_,_,_⟩, ⟨_,_,_,_,_,_⟩, ⟨_,_,_,_,_,_⟩, ⟨_,_,_,_,_,_⟩, ⟨_,_,_,_,_,_⟩, ⟨_,_,_,_,_,_⟩]) rfl ?_
  repeat (go_big_quiet_step (fail))
  refine wpQuiet_nil ?_
  refine can_done ?_
  go_wp2
  go_ret3
  refine ⟨?_, (by repeat (first | (with_reducible assumption) | (with_reducible exact Below.refl _ _) | (with_reducible apply below_drewL) | (with_reducible apply below_alloc) | (with_reducible apply below_drew1) | (with_reducible apply below_drewN) | (refine below_set ?_ (by first | omega | (simp only [size_alloc, size_drew, size_set]; omega)) _ _)))⟩
  rw [← HQ.out, ← HB.out, ← wrap_pow]
  rfl
theorem bit_not (A : Option Addr) (m c : Nat) (room : Nat) (n : Int) (w : World) (hn : n < 0 ∨ (¬ n < 0 ∧ (room : Int) ≤ n)) (hr : room ≤ 65536) :
    Calls Tryd.prog 71 #[.agg #[.slice A m c, .int .i64 room], .int .i64 n] w fun e w' => e = .returned (.tuple #[.int .i64 0, .int .u64 0, .bool false]) ∧ Below w.heap.size w w' := by
  rcases hn with h | ⟨h1, h2⟩
  · go_enter Tryd.func71, Tryd.ntmps71
    go_wp2
    go_ret3
    exact ⟨rfl, (by repeat (first | (with_reducible assumption) | (with_reducible exact Below.refl _ _) | (with_reducible apply below_drewL) | (with_reducible apply below_alloc) | (with_reducible apply below_drew1) | (with_reducible apply below_drewN) | (refine below_set ?_ (by first | omega | (simp only [size_alloc, size_drew, size_set]; omega)) _ _)))⟩
  · go_enter Tryd.func71, Tryd.ntmps71
    go_wp2
    go_ret3
    exact ⟨rfl, (by repeat (first | (with_reducible assumption) | (with_reducible exact Below.refl _ _) | (with_reducible apply below_drewL) | (with_reducible apply below_alloc) | (with_reducible apply below_drew1) | (with_reducible apply below_drewN) | (refine below_set ?_ (by first | omega | (simp only [size_alloc, size_drew, size_set]; omega)) _ _)))⟩
theorem room_calls (A : Option Addr) (m c : Nat) (room : Int) (w : World) :
    Calls Tryd.prog 26 #[.agg #[.slice A m c, .int .i64 room]] w fun e w' => e = .returned (.int .i64 room) ∧ Below w.heap.size w w' := by
  go_enter Tryd.func26, Tryd.ntmps26
  go_wp2
  go_ret
  exact ⟨rfl, (by repeat (first | (with_reducible assumption) | (with_reducible exact Below.refl _ _) | (with_reducible apply below_drewL) | (with_reducible apply below_alloc) | (with_reducible apply below_drew1) | (with_reducible apply below_drewN) | (refine below_set ?_ (by first | omega | (simp only [size_alloc, size_drew, size_set]; omega)) _ _)))⟩
end Go.Proofs.YtbmpaokicphdjaaDoor.Fn

/- Has, Add, Drop. -/
namespace Go.Proofs.YtbmpaokicphdjaaDoor.Fn
open Go Go.RowKit Go.Proofs.YtbmpaokicphdjaaDoor.Can Go.Proofs.YtbmpaokicphdjaaDoor.Base
attribute [local go_sem] clsB AB.cell

/-- A number's word, with its bit, and without it. -/
def putB (ws : List Nat) (n : Nat) : List Nat := ws.set (n / 64) (ws.getD (n / 64) 0 ||| 2 ^ (n % 64))
def dropB (ws : List Nat) (n : Nat) : List Nat := ws.set (n / 64) (ws.getD (n / 64) 0 &&& (18446744073709551615 - 2 ^ (n % 64)))
theorem pow_lt (n : Nat) : 2 ^ (n % 64) < 18446744073709551616 := by
  have h : 2 ^ (n % 64) < 2 ^ 64 := Nat.pow_lt_pow_right (by decide) (Nat.mod_lt _ (by decide))
  simpa using h
theorem and_bit (x r : Nat) : x &&& 2 ^ r = if x.testBit r then 2 ^ r else 0 := by
  apply Nat.eq_of_testBit_eq
  intro i
  rw [Nat.testBit_and, Nat.testBit_two_pow]
  by_cases h : r = i
  · subst h
    cases hx : x.testBit r <;> simp
  · rw [decide_eq_false h, Bool.and_false]
    cases hx : x.testBit r
    · simp
    · rw [if_pos rfl, Nat.testBit_two_pow, decide_eq_false h]
theorem getD_set (ws : List Nat) (i j y : Nat) (hi : i < ws.length) : (ws.set i y).getD j 0 = if j = i then y else ws.getD j 0 := by
  rw [List.getD_eq_getElem?_getD, List.getElem?_set, List.getD_eq_getElem?_getD]
  by_cases h : i = j
  · subst h; simp [hi]
  · rw [if_neg h, if_neg (Ne.symm h)]
theorem bit_put (ws : List Nat) (n k : Nat) (hn : n / 64 < ws.length) : bitAt (putB ws n) k = (bitAt ws k || decide (k = n)) := by
  unfold bitAt putB
  rw [getD_set _ _ _ _ hn]
  by_cases h : k / 64 = n / 64
  · rw [if_pos h, Nat.testBit_or, Nat.testBit_two_pow, h]
    congr 1
    by_cases hk : k = n
    · subst hk; simp
    · rw [decide_eq_false (by omega), decide_eq_false hk]
  · rw [if_neg h, decide_eq_false (by rintro rfl; exact h rfl), Bool.or_false]
theorem bit_drop (ws : List Nat) (n k : Nat) (hn : n / 64 < ws.length) : bitAt (dropB ws n) k = (bitAt ws k && !decide (k = n)) := by
  unfold bitAt dropB
  rw [getD_set _ _ _ _ hn]
  by_cases h : k / 64 = n / 64
  · have e : 18446744073709551615 - 2 ^ (n % 64) = 2 ^ 64 - (2 ^ (n % 64) + 1) := by omega
    have hp := pow_lt n
    rw [if_pos h, Nat.testBit_and, e, Nat.testBit_two_pow_sub_succ (by omega), Nat.testBit_two_pow, h, decide_eq_true (Nat.mod_lt k (by decide)), Bool.true_and]
    congr 2
    by_cases hk : k = n
    · subst hk; simp
    · rw [decide_eq_false (by omega), decide_eq_false hk]
  · rw [if_neg h, decide_eq_false (by rintro rfl; exact h rfl), Bool.not_false, Bool.and_true]
theorem getD_lt {room : Nat} {ws : List Nat} (h : Wok room ws) (i : Nat) : ws.getD i 0 < 18446744073709551616 := by
  rw [List.getD_eq_getElem?_getD]
  cases hx : ws[i]? with
  | none => simp
  | some x => exact h.lt x (List.mem_of_getElem? hx)
theorem Wok.set {room : Nat} {ws ws' : List Nat} (h : Wok room ws) (i y : Nat) (hy : y < 18446744073709551616) (he : ws' = ws.set i y) (ht : ∀ n, room ≤ n → bitAt ws' n = false) : Wok room ws' := by
  subst he
  refine ⟨by rw [List.length_set]; exact h.len, fun x hx => ?_, ht, h.small⟩
  rcases List.mem_or_eq_of_mem_set hx with hx | rfl
  · exact h.lt x hx
  · exact hy
theorem Wok.place {room : Nat} {ws : List Nat} (h : Wok room ws) {n : Nat} (hn : n < room) : n / 64 < ws.length := by rw [h.len]; omega
theorem Wok.put {room : Nat} {ws : List Nat} (h : Wok room ws) {n : Nat} (hn : n < room) : Wok room (putB ws n) := by
  refine h.set _ _ ?_ rfl fun k hk => ?_
  · have := Nat.or_lt_two_pow (n := 64) (show ws.getD (n / 64) 0 < 2 ^ 64 from getD_lt h _) (show 2 ^ (n % 64) < 2 ^ 64 from pow_lt n)
    exact this
  · rw [bit_put ws n k (h.place hn), h.top k hk, decide_eq_false (by omega)]; rfl
theorem Wok.drop {room : Nat} {ws : List Nat} (h : Wok room ws) {n : Nat} (hn : n < room) : Wok room (dropB ws n) := by
  refine h.set _ _ ?_ rfl fun k hk => ?_
  · exact Nat.lt_of_le_of_lt Nat.and_le_left (getD_lt h _)
  · rw [bit_drop ws n k (h.place hn), h.top k hk]; rfl

theorem Wd.at_ {w : World} {A : Option Addr} {g : Nat} {ws : List Nat} {q x : Nat} (h : Wd w A g ws) (hx : ws[q]? = some x) : A = some ⟨g, 0, none⟩ ∧ Blk wE w 33 g ws := by
  rcases h with h | h
  · rw [h] at hx; simp at hx
  · exact h
theorem Wd.set {w : World} {A : Option Addr} {g : Nat} {ws : List Nat} {q x y : Nat} (h : Wd w A g ws) (hx : ws[q]? = some x) : Wd (w.setCell ⟨g, q, none⟩ (.int .u64 y)) A g (ws.set q y) := by
  obtain ⟨h1, h2⟩ := h.at_ hx
  refine .inr ⟨h1, ?_⟩
  have := h2.set0 w_len hx (by decide) (v := .int .u64 y) (y := y) rfl
  rwa [Nat.mul_one] at this
theorem Wd.cell {w : World} {A : Option Addr} {g : Nat} {ws : List Nat} {q x : Nat} (h : Wd w A g ws) (hx : ws[q]? = some x) : w.cell? ⟨g, q, none⟩ = some (.int .u64 x) := by
  obtain ⟨h1, h2⟩ := h.at_ hx
  have := h2.cell0 w_len hx (v := .int .u64 x) rfl
  rwa [Nat.mul_one] at this
/-- What the walk knows of a number's word. -/
theorem has_calls (A : Option Addr) (c g room : Nat) (n : Nat) (ws : List Nat) (bv : Bool) (w : World) (hn : n < room) (hK : Wok room ws) (hW : Wd w A g ws) (hbv : bitAt ws n = bv) :
    Calls Tryd.prog 24 #[.agg #[.slice A ws.length c, .int .i64 room], .int .i64 n] w fun e w' => e = .returned (.bool bv) ∧ Below w.heap.size w w' := by
  obtain ⟨x, hx, hx64, hbit⟩ := hK.at_ hn
  have hc0 := hW.cell hx
  obtain ⟨rfl, hblk⟩ := hW.at_ hx
  have hgl := hblk.lt
  have hfz := hblk.frozen (n / 64)
  have hlen := hK.place hn
  have hgetD : ws.getD (n / 64) 0 = x := by rw [List.getD_eq_getElem?_getD, hx]; rfl
  have hr6 := hK.small
  have hll := hK.len
  obtain ⟨q, hq⟩ : ∃ q, n / 64 = q := ⟨_, rfl⟩
  obtain ⟨b, hb⟩ : ∃ b, 2 ^ (n % 64) = b := ⟨_, rfl⟩
  have hb64 : b < 18446744073709551616 := by rw [← hb]; exact pow_lt n
  have hand := bits_and_u64_nat x b hx64 hb64
  obtain ⟨v, hv⟩ : ∃ v, x &&& b = v := ⟨_, rfl⟩
  rw [hv] at hand
  have hv2 : v = if x.testBit (n % 64) then b else 0 := by rw [← hv, ← hb]; exact and_bit x _
  rw [← hbit, hbv] at hv2
  obtain ⟨m, hm⟩ : ∃ m, ws.length = m := ⟨_, rfl⟩
  rw [hq] at hx hc0 hfz hlen
  rw [hm] at hlen ⊢
  have hm9 : m ≤ 2000 := by omega
  have HW := Hd.mk hW; have HK := Hd.mk hK; have HX := Hd.mk hx; have HQ := Hd.mk hq; have HB := Hd.mk hb; have HM := Hd.mk hm; have HGD := Hd.mk hgetD; have HBIT := Hd.mk hbit
  clear hW hK hx hq hb hm hgetD hbit hblk hbv hv hll
  cases bv with
  | true =>
    have hvb : ((v : Int) != 0) = true := by rw [if_pos rfl] at hv2; have := Nat.two_pow_pos (n % 64); have := HB.out; simp; omega
    clear hv2
    go_enter Tryd.func24, Tryd.ntmps24
    go_wp2_with (go_at_call 71; go_must (refine Calls.mono (bit_calls (some ⟨g, 0, none⟩) m c room n q b _ hn hr6 HQ.out HB.out) ?_; rintro e w2 ⟨rfl, hb2⟩; have hB2 := below_seq (below_alloc (Below.refl _ _) _) hb2; have hc2 := (Below.cell hB2 (p := ⟨g, q, none⟩) hgl).trans hc0; have hf2 : w2.frozen? ⟨g, q, none⟩ = false := (World.frozen?_of_block (hB2.block g hgl)).trans hfz; have hg2 : g < w2.heap.size := Nat.lt_of_lt_of_le hgl hB2.size; have he2 := blk_below (blk_new w (.cells #[.slice (some ⟨g, 0, none⟩) m c, .int .i64 room] 28) _ rfl) hb2; have he2c0 := blk_cell he2 0 _ rfl; have he2f0 := blk_frozen he2 0; have he2c1 := blk_cell he2 1 _ rfl; have he2f1 := blk_frozen he2 1; have he2l := blk_lt he2))
    go_ret
    exact ⟨rfl, hB2⟩
  | false =>
    have hvb : ((v : Int) != 0) = false := by rw [if_neg (by decide)] at hv2; subst hv2; rfl
    clear hv2
    go_enter Tryd.func24, Tryd.ntmps24
    go_wp2_with (go_at_call 71; go_must (refine Calls.mono (bit_calls (some ⟨g, 0, none⟩) m c room n q b _ hn hr6 HQ.out HB.out) ?_; rintro e w2 ⟨rfl, hb2⟩; have hB2 := below_seq (below_alloc (Below.refl _ _) _) hb2; have hc2 := (Below.cell hB2 (p := ⟨g, q, none⟩) hgl).trans hc0; have hf2 : w2.frozen? ⟨g, q, none⟩ = false := (World.frozen?_of_block (hB2.block g hgl)).trans hfz; have hg2 : g < w2.heap.size := Nat.lt_of_lt_of_le hgl hB2.size; have he2 := blk_below (blk_new w (.cells #[.slice (some ⟨g, 0, none⟩) m c, .int .i64 room] 28) _ rfl) hb2; have he2c0 := blk_cell he2 0 _ rfl; have he2f0 := blk_frozen he2 0; have he2c1 := blk_cell he2 1 _ rfl; have he2f1 := blk_frozen he2 1; have he2l := blk_lt he2))
    go_ret
    exact ⟨rfl, hB2⟩
/-- A number out of room. -/
def outR (room : Nat) (n : Int) : Prop := n < 0 ∨ (¬ n < 0 ∧ (room : Int) ≤ n)
theorem has_out (A : Option Addr) (m c room : Nat) (n : Int) (w : World) (hn : outR room n) (hr : room ≤ 65536) :
    Calls Tryd.prog 24 #[.agg #[.slice A m c, .int .i64 room], .int .i64 n] w fun e w' => e = .returned (.bool false) ∧ Below w.heap.size w w' := by
  go_enter Tryd.func24, Tryd.ntmps24
  go_wp2_with (go_at_call 71; go_must (refine Calls.mono (bit_not A m c room n _ hn hr) ?_; rintro e w2 ⟨rfl, hb2⟩; have hB2 := below_seq (below_alloc (Below.refl _ _) _) hb2))
  go_ret
  exact ⟨rfl, hB2⟩
theorem add_out (A : Option Addr) (m c room : Nat) (n : Int) (w : World) (hn : outR room n) (hr : room ≤ 65536) :
    Calls Tryd.prog 21 #[.agg #[.slice A m c, .int .i64 room], .int .i64 n] w fun e w' => e = .returned (.bool false) ∧ Below w.heap.size w w' := by
  go_enter Tryd.func21, Tryd.ntmps21
  go_wp2_with (go_at_call 71; go_must (refine Calls.mono (bit_not A m c room n _ hn hr) ?_; rintro e w2 ⟨rfl, hb2⟩; have hB2 := below_seq (below_alloc (Below.refl _ _) _) hb2))
  go_ret
  exact ⟨rfl, hB2⟩
theorem drop_out (A : Option Addr) (m c room : Nat) (n : Int) (w : World) (hn : outR room n) (hr : room ≤ 65536) :
    Calls Tryd.prog 22 #[.agg #[.slice A m c, .int .i64 room], .int .i64 n] w fun e w' => e = .returned (.bool false) ∧ Below w.heap.size w w' := by
  go_enter Tryd.func22, Tryd.ntmps22
  go_wp2_with (go_at_call 71; go_must (refine Calls.mono (bit_not A m c room n _ hn hr) ?_; rintro e w2 ⟨rfl, hb2⟩; have hB2 := below_seq (below_alloc (Below.refl _ _) _) hb2))
  go_ret
  exact ⟨rfl, hB2⟩
theorem add_old (A : Option Addr) (c g room : Nat) (n : Nat) (ws : List Nat) (w : World) (hn : n < room) (hK : Wok room ws) (hW : Wd w A g ws) (hbv : bitAt ws n = true) :
    Calls Tryd.prog 21 #[.agg #[.slice A ws.length c, .int .i64 room], .int .i64 n] w fun e w' => e = .returned (.bool false) ∧ Below w.heap.size w w' := by
  obtain ⟨x, hx, hx64, hbit⟩ := hK.at_ hn
  have hc0 := hW.cell hx
  obtain ⟨rfl, hblk⟩ := hW.at_ hx
  have hgl := hblk.lt
  have hfz := hblk.frozen (n / 64)
  have hlen := hK.place hn
  have hgetD : ws.getD (n / 64) 0 = x := by rw [List.getD_eq_getElem?_getD, hx]; rfl
  have hr6 := hK.small
  have hll := hK.len
  obtain ⟨q, hq⟩ : ∃ q, n / 64 = q := ⟨_, rfl⟩
  obtain ⟨b, hb⟩ : ∃ b, 2 ^ (n % 64) = b := ⟨_, rfl⟩
  have hb64 : b < 18446744073709551616 := by rw [← hb]; exact pow_lt n
  have hand := bits_and_u64_nat x b hx64 hb64
  obtain ⟨v, hv⟩ : ∃ v, x &&& b = v := ⟨_, rfl⟩
  rw [hv] at hand
  have hv2 : v = if x.testBit (n % 64) then b else 0 := by rw [← hv, ← hb]; exact and_bit x _
  rw [← hbit, hbv] at hv2
  obtain ⟨m, hm⟩ : ∃ m, ws.length = m := ⟨_, rfl⟩
  rw [hq] at hx hc0 hfz hlen
  rw [hm] at hlen ⊢
  have hm9 : m ≤ 2000 := by omega
  have HW := Hd.mk hW; have HK := Hd.mk hK; have HX := Hd.mk hx; have HQ := Hd.mk hq; have HB := Hd.mk hb; have HM := Hd.mk hm; have HGD := Hd.mk hgetD; have HBIT := Hd.mk hbit
  clear hW hK hx hq hb hm hgetD hbit hblk hbv hv hll
  have hvb : ((v : Int) != 0) = true := by rw [if_pos rfl] at hv2; have := Nat.two_pow_pos (n % 64); have := HB.out; simp; omega
  clear hv2
  go_enter Tryd.func21, Tryd.ntmps21
  go_wp2_with (go_at_call 71; go_must (refine Calls.mono (bit_calls (some ⟨g, 0, none⟩) m c room n q b _ hn hr6 HQ.out HB.out) ?_; rintro e w2 ⟨rfl, hb2⟩; have hB2 := below_seq (below_alloc (Below.refl _ _) _) hb2; have hc2 := (Below.cell hB2 (p := ⟨g, q, none⟩) hgl).trans hc0; have hf2 : w2.frozen? ⟨g, q, none⟩ = false := (World.frozen?_of_block (hB2.block g hgl)).trans hfz; have hg2 : g < w2.heap.size := Nat.lt_of_lt_of_le hgl hB2.size; have he2 := blk_below (blk_new w (.cells #[.slice (some ⟨g, 0, none⟩) m c, .int .i64 room] 28) _ rfl) hb2; have he2c0 := blk_cell he2 0 _ rfl; have he2f0 := blk_frozen he2 0; have he2c1 := blk_cell he2 1 _ rfl; have he2f1 := blk_frozen he2 1; have he2l := blk_lt he2))
  go_ret
  exact ⟨rfl, hB2⟩
theorem drop_no (A : Option Addr) (c g room : Nat) (n : Nat) (ws : List Nat) (w : World) (hn : n < room) (hK : Wok room ws) (hW : Wd w A g ws) (hbv : bitAt ws n = false) :
    Calls Tryd.prog 22 #[.agg #[.slice A ws.length c, .int .i64 room], .int .i64 n] w fun e w' => e = .returned (.bool false) ∧ Below w.heap.size w w' := by
  obtain ⟨x, hx, hx64, hbit⟩ := hK.at_ hn
  have hc0 := hW.cell hx
  obtain ⟨rfl, hblk⟩ := hW.at_ hx
  have hgl := hblk.lt
  have hfz := hblk.frozen (n / 64)
  have hlen := hK.place hn
  have hgetD : ws.getD (n / 64) 0 = x := by rw [List.getD_eq_getElem?_getD, hx]; rfl
  have hr6 := hK.small
  have hll := hK.len
  obtain ⟨q, hq⟩ : ∃ q, n / 64 = q := ⟨_, rfl⟩
  obtain ⟨b, hb⟩ : ∃ b, 2 ^ (n % 64) = b := ⟨_, rfl⟩
  have hb64 : b < 18446744073709551616 := by rw [← hb]; exact pow_lt n
  have hand := bits_and_u64_nat x b hx64 hb64
  obtain ⟨v, hv⟩ : ∃ v, x &&& b = v := ⟨_, rfl⟩
  rw [hv] at hand
  have hv2 : v = if x.testBit (n % 64) then b else 0 := by rw [← hv, ← hb]; exact and_bit x _
  rw [← hbit, hbv] at hv2
  obtain ⟨m, hm⟩ : ∃ m, ws.length = m := ⟨_, rfl⟩
  rw [hq] at hx hc0 hfz hlen
  rw [hm] at hlen ⊢
  have hm9 : m ≤ 2000 := by omega
  have HW := Hd.mk hW; have HK := Hd.mk hK; have HX := Hd.mk hx; have HQ := Hd.mk hq; have HB := Hd.mk hb; have HM := Hd.mk hm; have HGD := Hd.mk hgetD; have HBIT := Hd.mk hbit
  clear hW hK hx hq hb hm hgetD hbit hblk hbv hv hll
  have hvb : ((v : Int) == 0) = true := by rw [if_neg (by decide)] at hv2; subst hv2; rfl
  clear hv2
  go_enter Tryd.func22, Tryd.ntmps22
  go_wp2_with (go_at_call 71; go_must (refine Calls.mono (bit_calls (some ⟨g, 0, none⟩) m c room n q b _ hn hr6 HQ.out HB.out) ?_; rintro e w2 ⟨rfl, hb2⟩; have hB2 := below_seq (below_alloc (Below.refl _ _) _) hb2; have hc2 := (Below.cell hB2 (p := ⟨g, q, none⟩) hgl).trans hc0; have hf2 : w2.frozen? ⟨g, q, none⟩ = false := (World.frozen?_of_block (hB2.block g hgl)).trans hfz; have hg2 : g < w2.heap.size := Nat.lt_of_lt_of_le hgl hB2.size; have he2 := blk_below (blk_new w (.cells #[.slice (some ⟨g, 0, none⟩) m c, .int .i64 room] 28) _ rfl) hb2; have he2c0 := blk_cell he2 0 _ rfl; have he2f0 := blk_frozen he2 0; have he2c1 := blk_cell he2 1 _ rfl; have he2f1 := blk_frozen he2 1; have he2l := blk_lt he2))
  go_ret
  exact ⟨rfl, hB2⟩
theorem add_new (A : Option Addr) (c g room : Nat) (n : Nat) (ws : List Nat) (w : World) (hn : n < room) (hK : Wok room ws) (hW : Wd w A g ws) (hbv : bitAt ws n = false) :
    Calls Tryd.prog 21 #[.agg #[.slice A ws.length c, .int .i64 room], .int .i64 n] w fun e w' => e = .returned (.bool true) ∧ Fr (fun k => k = g) w w' ∧ Wd w' A g (putB ws n) := by
  obtain ⟨x, hx, hx64, hbit⟩ := hK.at_ hn
  have hc0 := hW.cell hx
  obtain ⟨rfl, hblk⟩ := hW.at_ hx
  have hgl := hblk.lt
  have hfz := hblk.frozen (n / 64)
  have hlen := hK.place hn
  have hgetD : ws.getD (n / 64) 0 = x := by rw [List.getD_eq_getElem?_getD, hx]; rfl
  have hr6 := hK.small
  have hll := hK.len
  obtain ⟨q, hq⟩ : ∃ q, n / 64 = q := ⟨_, rfl⟩
  obtain ⟨b, hb⟩ : ∃ b, 2 ^ (n % 64) = b := ⟨_, rfl⟩
  have hb64 : b < 18446744073709551616 := by rw [← hb]; exact pow_lt n
  have hand := bits_and_u64_nat x b hx64 hb64
  obtain ⟨v, hv⟩ : ∃ v, x &&& b = v := ⟨_, rfl⟩
  rw [hv] at hand
  have hv2 : v = if x.testBit (n % 64) then b else 0 := by rw [← hv, ← hb]; exact and_bit x _
  rw [← hbit, hbv] at hv2
  obtain ⟨m, hm⟩ : ∃ m, ws.length = m := ⟨_, rfl⟩
  rw [hq] at hx hc0 hfz hlen
  rw [hm] at hlen ⊢
  have hm9 : m ≤ 2000 := by omega
  have HW := Hd.mk hW; have HK := Hd.mk hK; have HX := Hd.mk hx; have HQ := Hd.mk hq; have HB := Hd.mk hb; have HM := Hd.mk hm; have HGD := Hd.mk hgetD; have HBIT := Hd.mk hbit
  clear hW hK hx hq hb hm hgetD hbit hblk hbv hv hll
  have hvb : ((v : Int) != 0) = false := by rw [if_neg (by decide)] at hv2; subst hv2; rfl
  have hor := bits_or_u64_nat x b hx64 hb64
  obtain ⟨y, hy⟩ : ∃ y, x ||| b = y := ⟨_, rfl⟩
  rw [hy] at hor
  have HY := Hd.mk hy
  clear hv2 hy
  go_enter Tryd.func21, Tryd.ntmps21
  go_wp2_with (go_at_call 71; go_must (refine Calls.mono (bit_calls (some ⟨g, 0, none⟩) m c room n q b _ hn hr6 HQ.out HB.out) ?_; rintro e w2 ⟨rfl, hb2⟩; have hB2 := below_seq (below_alloc (Below.refl _ _) _) hb2; have hc2 := (Below.cell hB2 (p := ⟨g, q, none⟩) hgl).trans hc0; have hf2 : w2.frozen? ⟨g, q, none⟩ = false := (World.frozen?_of_block (hB2.block g hgl)).trans hfz; have hg2 : g < w2.heap.size := Nat.lt_of_lt_of_le hgl hB2.size; have he2 := blk_below (blk_new w (.cells #[.slice (some ⟨g, 0, none⟩) m c, .int .i64 room] 28) _ rfl) hb2; have he2c0 := blk_cell he2 0 _ rfl; have he2f0 := blk_frozen he2 0; have he2c1 := blk_cell he2 1 _ rfl; have he2f1 := blk_frozen he2 1; have he2l := blk_lt he2))
  go_ret
  refine ⟨rfl, Fr.set (X := fun k => k = g) (Fr.of_below hB2) (.inl rfl) q _, ?_⟩
  have := (HW.out.move (hB2.block g hgl)).set (y := y) HX.out
  unfold putB
  rwa [HGD.out, HB.out, HY.out, HQ.out]
theorem drop_yes (A : Option Addr) (c g room : Nat) (n : Nat) (ws : List Nat) (w : World) (hn : n < room) (hK : Wok room ws) (hW : Wd w A g ws) (hbv : bitAt ws n = true) :
    Calls Tryd.prog 22 #[.agg #[.slice A ws.length c, .int .i64 room], .int .i64 n] w fun e w' => e = .returned (.bool true) ∧ Fr (fun k => k = g) w w' ∧ Wd w' A g (dropB ws n) := by
  obtain ⟨x, hx, hx64, hbit⟩ := hK.at_ hn
  have hc0 := hW.cell hx
  obtain ⟨rfl, hblk⟩ := hW.at_ hx
  have hgl := hblk.lt
  have hfz := hblk.frozen (n / 64)
  have hlen := hK.place hn
  have hgetD : ws.getD (n / 64) 0 = x := by rw [List.getD_eq_getElem?_getD, hx]; rfl
  have hr6 := hK.small
  have hll := hK.len
  obtain ⟨q, hq⟩ : ∃ q, n / 64 = q := ⟨_, rfl⟩
  obtain ⟨b, hb⟩ : ∃ b, 2 ^ (n % 64) = b := ⟨_, rfl⟩
  have hb64 : b < 18446744073709551616 := by rw [← hb]; exact pow_lt n
  have hand := bits_and_u64_nat x b hx64 hb64
  obtain ⟨v, hv⟩ : ∃ v, x &&& b = v := ⟨_, rfl⟩
  rw [hv] at hand
  have hv2 : v = if x.testBit (n % 64) then b else 0 := by rw [← hv, ← hb]; exact and_bit x _
  rw [← hbit, hbv] at hv2
  obtain ⟨m, hm⟩ : ∃ m, ws.length = m := ⟨_, rfl⟩
  rw [hq] at hx hc0 hfz hlen
  rw [hm] at hlen ⊢
  have hm9 : m ≤ 2000 := by omega
  have HW := Hd.mk hW; have HK := Hd.mk hK; have HX := Hd.mk hx; have HQ := Hd.mk hq; have HB := Hd.mk hb; have HM := Hd.mk hm; have HGD := Hd.mk hgetD; have HBIT := Hd.mk hbit
  clear hW hK hx hq hb hm hgetD hbit hblk hbv hv hll
  have hvb : ((v : Int) == 0) = false := by rw [if_pos rfl] at hv2; have := Nat.two_pow_pos (n % 64); have := HB.out; simp; omega
  have hor := u64_andNot_nat x b hx64 hb64
  obtain ⟨y, hy⟩ : ∃ y, x &&& (18446744073709551615 - b) = y := ⟨_, rfl⟩
  rw [hy] at hor
  have HY := Hd.mk hy
  clear hv2 hy
  go_enter Tryd.func22, Tryd.ntmps22
  go_wp2_with (go_at_call 71; go_must (refine Calls.mono (bit_calls (some ⟨g, 0, none⟩) m c room n q b _ hn hr6 HQ.out HB.out) ?_; rintro e w2 ⟨rfl, hb2⟩; have hB2 := below_seq (below_alloc (Below.refl _ _) _) hb2; have hc2 := (Below.cell hB2 (p := ⟨g, q, none⟩) hgl).trans hc0; have hf2 : w2.frozen? ⟨g, q, none⟩ = false := (World.frozen?_of_block (hB2.block g hgl)).trans hfz; have hg2 : g < w2.heap.size := Nat.lt_of_lt_of_le hgl hB2.size; have he2 := blk_below (blk_new w (.cells #[.slice (some ⟨g, 0, none⟩) m c, .int .i64 room] 28) _ rfl) hb2; have he2c0 := blk_cell he2 0 _ rfl; have he2f0 := blk_frozen he2 0; have he2c1 := blk_cell he2 1 _ rfl; have he2f1 := blk_frozen he2 1; have he2l := blk_lt he2))
  go_ret
  refine ⟨rfl, Fr.set (X := fun k => k = g) (Fr.of_below hB2) (.inl rfl) q _, ?_⟩
  have := (HW.out.move (hB2.block g hgl)).set (y := y) HX.out
  unfold dropB
  rwa [HGD.out, HB.out, HY.out, HQ.out]
end Go.Proofs.YtbmpaokicphdjaaDoor.Fn

/- New, the reference's Room. -/
namespace Go.Proofs.YtbmpaokicphdjaaDoor.Fn
open Go Go.RowKit Go.Proofs.YtbmpaokicphdjaaDoor.Can Go.Proofs.YtbmpaokicphdjaaDoor.Base
attribute [local go_sem] clsB AB.cell

def roomR (n : Int) : Nat := if n < 0 then 0 else if 65536 < n then 65536 else n.toNat
theorem roomR_le (n : Int) : roomR n ≤ 65536 := by unfold roomR; split <;> (try split) <;> omega
theorem Wok.made {room : Nat} (h : room ≤ 65536) : Wok room (List.replicate ((room + 63) / 64) 0) := by
  refine ⟨List.length_replicate, fun x hx => by rw [(List.mem_replicate.1 hx).2]; decide, fun n hn => ?_, h⟩
  unfold bitAt
  rw [List.getD_eq_getElem?_getD, List.getElem?_replicate]
  split <;> simp
theorem new_calls (n : Int) (w : World) : Calls Tryd.prog 27 #[.int .i64 n] w fun e w' => ∃ g, e = .returned (.agg #[.slice (some ⟨g, 0, none⟩) ((roomR n + 63) / 64) ((roomR n + 63) / 64), .int .i64 (roomR n)]) ∧ w.heap.size ≤ g ∧ g < w'.heap.size ∧ Wd w' (some ⟨g, 0, none⟩) g (List.replicate ((roomR n + 63) / 64) 0) ∧ Below w.heap.size w w' := by
  have hm6 := roomR_le n
  obtain ⟨m, hm⟩ : ∃ m, roomR n = m := ⟨_, rfl⟩
  rw [hm] at hm6 ⊢
  obtain ⟨K, hK⟩ : ∃ K, (m + 63) / 64 = K := ⟨_, rfl⟩
  rw [hK]
  obtain ⟨m1, hm1⟩ : ∃ m1 : Int, (if n < 0 then 0 else n) = m1 := ⟨_, rfl⟩
  have hm2 : (if (65536 : Int) < m1 then 65536 else m1) = m := by
    rw [← hm1, ← hm]; unfold roomR; split <;> split <;> (try split) <;> omega
  obtain ⟨i0, hi, hz, hs, hbb⟩ := info_of (P := Tryd.prog) (e := 33) (z := some (.int .u64 0)) (s := 1) (b := 8) (by kernel_rfl)
  have hdiv : ((m : Int) + 64 - 1) / 64 = (K : Int) := by omega
  have hK2 : K ≤ 1024 := by omega
  have HM1 := Hd.mk hm1; have HM2 := Hd.mk hm2; have HI := Hd.mk (And.intro hi (And.intro hz (And.intro hs hbb))); have HK := Hd.mk hK
  clear hm1 hm2 hi hz hs hbb hm hK
  go_enter Tryd.func27, Tryd.ntmps27
  go_wp2_with (first | (at_make; rw [hdiv]; go_must (refine wpList_make_full _ rfl (.tmp 9) (.tmp 9) 26 rfl (w.heap.size + 1) 33 i0 (.int .u64 0) 1 Tryd.underlying26 HI.out.1 HI.out.2.1 HI.out.2.2.1 .i64 .i64 K K K rfl rfl rfl rfl (by rw [HI.out.2.2.2]; omega) (by simp only [maxLen]; omega) (by simp only [size_alloc]; omega) ?_; intro w1 ho1 hg1; have hb1 : Below (w.heap.size + 1) (w.alloc (.cells #[.slice none 0 0, .int .i64 0] 28)) w1 := ((Below.refl _ _).grown hg1 (by simp only [size_alloc]; omega) (fun k hk => by cases hk)); have hp1 : w1.heap[w.heap.size]? = some (.cells #[.slice none 0 0, .int .i64 0] 28 (0, 0)) := ((hb1.block _ (by omega)).trans (blk_new _ _ _ rfl)); have hp1c0 := blk_cell hp1 0 _ rfl; have hp1f0 := blk_frozen hp1 0; have hp1c1 := blk_cell hp1 1 _ rfl; have hp1f1 := blk_frozen hp1 1; have hp1l := blk_lt hp1)) | (refine max_int rfl (.tmp 3) (.const (.int .i64 0)) _ rfl .i64 n 0 m1 rfl rfl HM1.out ?_) | (refine min_int rfl (.tmp 4) (.const (.int .i64 65536)) _ rfl .i64 m1 65536 m rfl rfl HM2.out ?_))
  have hg0 := Blk.made (enc := wE) (x := 0) w_len (by decide) rfl ho1
  simp only [size_alloc] at hg0
  refine bodyPost_ret (results_cell_row rfl _ _ w.heap.size 28 #[.slice (some ⟨w.heap.size + 1, 0, none⟩) K K, .int .i64 m] (0, 0) _ rfl (blk_set (blk_set hp1 0 _ _ rfl) 1 _ _ rfl) Tryd.underlying28 rfl (by kernel_rfl)) rfl ?_
  have hbw : Below w.heap.size w w1 := (below_alloc (Below.refl _ _) _).trans (hb1.mono (by omega))
  have hlg := hg0.lt
  refine ⟨w.heap.size + 1, rfl, by omega, by simp only [size_set]; exact hlg, .inr ⟨rfl, (hg0.far (by show ¬ w.heap.size + 1 = w.heap.size; omega) _).far (by show ¬ w.heap.size + 1 = w.heap.size; omega) _⟩, below_set (below_set hbw (Nat.le_refl _) _ _) (Nat.le_refl _) _ _⟩
end Go.Proofs.YtbmpaokicphdjaaDoor.Fn

/- Add at any number; Of. -/
namespace Go.Proofs.YtbmpaokicphdjaaDoor.Fn
open Go Go.RowKit Go.Proofs.YtbmpaokicphdjaaDoor.Can Go.Proofs.YtbmpaokicphdjaaDoor.Base
attribute [local go_sem] clsB AB.cell
abbrev I := Ty.int .i64

theorem Wd.below {w w' : World} {A : Option Addr} {g : Nat} {ws : List Nat} (h : Wd w A g ws) (hb : Below w.heap.size w w') : Wd w' A g ws := by
  rcases h with h | ⟨h1, h2⟩
  · exact .inl h
  · exact .inr ⟨h1, h2.below hb⟩
theorem Wd.fr {w w' : World} {A : Option Addr} {g : Nat} {ws : List Nat} {X : Nat → Prop} (h : Wd w A g ws) (hf : Fr X w w') (hX : ¬ X g) : Wd w' A g ws := by
  rcases h with h | ⟨h1, h2⟩
  · exact .inl h
  · exact .inr ⟨h1, h2.fr hf hX⟩
def inR (room : Nat) (n : Int) : Prop := 0 ≤ n ∧ n < room
instance (room : Nat) (n : Int) : Decidable (inR room n) := by unfold inR; infer_instance
def addW (room : Nat) (ws : List Nat) (n : Int) : List Nat := if inR room n then putB ws n.toNat else ws
def addO (room : Nat) (ws : List Nat) (n : Int) : Bool := decide (inR room n) && !bitAt ws n.toNat
def dropW (room : Nat) (ws : List Nat) (n : Int) : List Nat := if inR room n then dropB ws n.toNat else ws
def dropO (room : Nat) (ws : List Nat) (n : Int) : Bool := decide (inR room n) && bitAt ws n.toNat
def hasO (room : Nat) (ws : List Nat) (n : Int) : Bool := decide (inR room n) && bitAt ws n.toNat
theorem putB_old {ws : List Nat} {n : Nat} (h : bitAt ws n = true) : putB ws n = ws := by
  unfold putB
  apply List.ext_getElem?
  intro i
  rw [List.getElem?_set]
  split
  · rename_i h1
    subst h1
    split
    · rename_i h2
      have hg : ws.getD (n / 64) 0 = ws[n / 64] := by rw [List.getD_eq_getElem?_getD, List.getElem?_eq_getElem h2]; rfl
      rw [List.getElem?_eq_getElem h2, ← hg]
      congr 1
      apply Nat.eq_of_testBit_eq
      intro j
      rw [Nat.testBit_or, Nat.testBit_two_pow]
      by_cases hj : n % 64 = j
      · subst hj
        have : (ws.getD (n / 64) 0).testBit (n % 64) = true := h
        rw [this]; rfl
      · rw [decide_eq_false hj, Bool.or_false]
    · rename_i h2
      rw [List.getElem?_eq_none (by omega)]
  · rfl
theorem dropB_no {ws : List Nat} {n : Nat} (hl : ∀ x ∈ ws, x < 18446744073709551616) (h : bitAt ws n = false) : dropB ws n = ws := by
  unfold dropB
  apply List.ext_getElem?
  intro i
  rw [List.getElem?_set]
  split
  · rename_i h1
    subst h1
    split
    · rename_i h2
      have hg : ws.getD (n / 64) 0 = ws[n / 64] := by rw [List.getD_eq_getElem?_getD, List.getElem?_eq_getElem h2]; rfl
      have hx := hl _ (List.getElem_mem h2)
      rw [List.getElem?_eq_getElem h2, ← hg]
      rw [← hg] at hx
      congr 1
      apply Nat.eq_of_testBit_eq
      intro j
      have hp := pow_lt n
      have e : 18446744073709551615 - 2 ^ (n % 64) = 2 ^ 64 - (2 ^ (n % 64) + 1) := by omega
      rw [Nat.testBit_and, e, Nat.testBit_two_pow_sub_succ (by omega), Nat.testBit_two_pow]
      by_cases hj : n % 64 = j
      · subst hj
        have : (ws.getD (n / 64) 0).testBit (n % 64) = false := h
        rw [this]; rfl
      · rw [decide_eq_false hj, Bool.not_false, Bool.and_true]
        by_cases hj2 : j < 64
        · rw [decide_eq_true hj2, Bool.and_true]
        · rw [decide_eq_false hj2, Bool.and_false]
          exact (Nat.testBit_lt_two_pow (Nat.lt_of_lt_of_le hx (by have : (2 : Nat) ^ 64 ≤ 2 ^ j := Nat.pow_le_pow_right (by decide) (by omega); simpa using this))).symm
    · rename_i h2
      rw [List.getElem?_eq_none (by omega)]
  · rfl
theorem Wok.add {room : Nat} {ws : List Nat} (h : Wok room ws) (n : Int) : Wok room (addW room ws n) := by
  unfold addW
  split
  · rename_i hn; exact h.put (by unfold inR at hn; omega)
  · exact h
theorem Wok.less {room : Nat} {ws : List Nat} (h : Wok room ws) (n : Int) : Wok room (dropW room ws n) := by
  unfold dropW
  split
  · rename_i hn; exact h.drop (by unfold inR at hn; omega)
  · exact h
theorem Wok.fold {room : Nat} {ws : List Nat} (h : Wok room ws) (l : List Int) : Wok room (l.foldl (addW room) ws) := by
  induction l generalizing ws with
  | nil => exact h
  | cons n l ih => exact ih (h.add n)
theorem bit_add {room : Nat} {ws : List Nat} (h : Wok room ws) (n : Int) (k : Nat) : bitAt (addW room ws n) k = (bitAt ws k || decide (inR room n ∧ (k : Int) = n)) := by
  unfold addW
  by_cases hn : inR room n
  · rw [if_pos hn, bit_put ws n.toNat k (h.place (by unfold inR at hn; omega))]
    congr 1
    unfold inR at hn
    by_cases hk : k = n.toNat
    · rw [decide_eq_true hk, decide_eq_true (by unfold inR; omega)]
    · rw [decide_eq_false hk, decide_eq_false (by omega)]
  · rw [if_neg hn, decide_eq_false (fun h => hn h.1), Bool.or_false]
theorem bit_less {room : Nat} {ws : List Nat} (h : Wok room ws) (n : Int) (k : Nat) : bitAt (dropW room ws n) k = (bitAt ws k && !decide ((k : Int) = n)) := by
  unfold dropW
  by_cases hn : inR room n
  · rw [if_pos hn, bit_drop ws n.toNat k (h.place (by unfold inR at hn; omega))]
    congr 2
    unfold inR at hn
    by_cases hk : k = n.toNat
    · rw [decide_eq_true hk, decide_eq_true (by omega)]
    · rw [decide_eq_false hk, decide_eq_false (by omega)]
  · rw [if_neg hn]
    by_cases hk : (k : Int) = n
    · rw [h.top k (by unfold inR at hn; omega)]; rfl
    · rw [decide_eq_false hk, Bool.not_false, Bool.and_true]
theorem out_of {room : Nat} {n : Int} (h : ¬ inR room n) : outR room n := by unfold inR at h; unfold outR; omega
theorem add_calls (A : Option Addr) (c g room : Nat) (n : Int) (ws : List Nat) (w : World) (hK : Wok room ws) (hW : Wd w A g ws) :
    Calls Tryd.prog 21 #[.agg #[.slice A ws.length c, .int .i64 room], .int .i64 n] w fun e w' => e = .returned (.bool (addO room ws n)) ∧ Fr (fun k => k = g ∧ ws ≠ []) w w' ∧ Wd w' A g (addW room ws n) := by
  by_cases hn : inR room n
  · have hO : addO room ws n = (!bitAt ws n.toNat) := by unfold addO; rw [decide_eq_true hn, Bool.true_and]
    have hWW : addW room ws n = putB ws n.toNat := by unfold addW; exact if_pos hn
    rw [hO, hWW]
    obtain ⟨k, rfl⟩ : ∃ k : Nat, n = (k : Int) := ⟨n.toNat, by unfold inR at hn; omega⟩
    have hk : k < room := by unfold inR at hn; omega
    rw [Int.toNat_natCast]
    cases hb : bitAt ws k with
    | true =>
      refine Calls.mono (add_old A c g room k ws w hk hK hW hb) ?_
      rintro e w' ⟨rfl, h⟩
      exact ⟨rfl, Fr.of_below h, by rw [putB_old hb]; exact hW.below h⟩
    | _ =>
      refine Calls.mono (add_new A c g room k ws w hk hK hW hb) ?_
      rintro e w' ⟨rfl, h, h2⟩
      exact ⟨rfl, h.mono fun b hb => ⟨hb, fun h0 => by have := hK.place hk; rw [h0] at this; simp at this⟩, h2⟩
  · have hO : addO room ws n = false := by unfold addO; rw [decide_eq_false hn, Bool.false_and]
    have hWW : addW room ws n = ws := by unfold addW; exact if_neg hn
    rw [hO, hWW]
    refine Calls.mono (add_out A ws.length c room n w (out_of hn) hK.small) ?_
    rintro e w' ⟨rfl, h⟩
    exact ⟨rfl, Fr.of_below h, hW.below h⟩
theorem less_calls (A : Option Addr) (c g room : Nat) (n : Int) (ws : List Nat) (w : World) (hK : Wok room ws) (hW : Wd w A g ws) :
    Calls Tryd.prog 22 #[.agg #[.slice A ws.length c, .int .i64 room], .int .i64 n] w fun e w' => e = .returned (.bool (dropO room ws n)) ∧ Fr (fun k => k = g ∧ ws ≠ []) w w' ∧ Wd w' A g (dropW room ws n) := by
  by_cases hn : inR room n
  · have hO : dropO room ws n = (bitAt ws n.toNat) := by unfold dropO; rw [decide_eq_true hn, Bool.true_and]
    have hWW : dropW room ws n = dropB ws n.toNat := by unfold dropW; exact if_pos hn
    rw [hO, hWW]
    obtain ⟨k, rfl⟩ : ∃ k : Nat, n = (k : Int) := ⟨n.toNat, by unfold inR at hn; omega⟩
    have hk : k < room := by unfold inR at hn; omega
    rw [Int.toNat_natCast]
    cases hb : bitAt ws k with
    | false =>
      refine Calls.mono (drop_no A c g room k ws w hk hK hW hb) ?_
      rintro e w' ⟨rfl, h⟩
      exact ⟨rfl, Fr.of_below h, by rw [dropB_no hK.lt hb]; exact hW.below h⟩
    | _ =>
      refine Calls.mono (drop_yes A c g room k ws w hk hK hW hb) ?_
      rintro e w' ⟨rfl, h, h2⟩
      exact ⟨rfl, h.mono fun b hb => ⟨hb, fun h0 => by have := hK.place hk; rw [h0] at this; simp at this⟩, h2⟩
  · have hO : dropO room ws n = false := by unfold dropO; rw [decide_eq_false hn, Bool.false_and]
    have hWW : dropW room ws n = ws := by unfold dropW; exact if_neg hn
    rw [hO, hWW]
    refine Calls.mono (drop_out A ws.length c room n w (out_of hn) hK.small) ?_
    rintro e w' ⟨rfl, h⟩
    exact ⟨rfl, Fr.of_below h, hW.below h⟩
theorem in_calls (A : Option Addr) (c g room : Nat) (n : Int) (ws : List Nat) (w : World) (hK : Wok room ws) (hW : Wd w A g ws) :
    Calls Tryd.prog 24 #[.agg #[.slice A ws.length c, .int .i64 room], .int .i64 n] w fun e w' => e = .returned (.bool (hasO room ws n)) ∧ Below w.heap.size w w' := by
  by_cases hn : inR room n
  · have hO : hasO room ws n = bitAt ws n.toNat := by unfold hasO; rw [decide_eq_true hn, Bool.true_and]
    rw [hO]
    obtain ⟨k, rfl⟩ : ∃ k : Nat, n = (k : Int) := ⟨n.toNat, by unfold inR at hn; omega⟩
    have hk : k < room := by unfold inR at hn; omega
    rw [Int.toNat_natCast]
    exact has_calls A c g room k ws _ w hk hK hW rfl
  · have hO : hasO room ws n = false := by unfold hasO; rw [decide_eq_false hn, Bool.false_and]
    rw [hO]
    exact has_out A ws.length c room n w (out_of hn) hK.small
theorem addW_len (room : Nat) (ws : List Nat) (n : Int) : (addW room ws n).length = ws.length := by
  unfold addW putB; split <;> simp
theorem foldW_len (room : Nat) (l : List Int) (ws : List Nat) : (l.foldl (addW room) ws).length = ws.length := by
  induction l generalizing ws with
  | nil => rfl
  | cons n l ih => rw [List.foldl_cons, ih, addW_len]
/-- The words of a set of these numbers. -/
def ofW (room : Nat) (l : List Int) : List Nat := l.foldl (addW room) (List.replicate ((room + 63) / 64) 0)
theorem ofW_ok {room : Nat} (h : room ≤ 65536) (l : List Int) : Wok room (ofW room l) := (Wok.made h).fold l
theorem ofW_len (room : Nat) (l : List Int) : (ofW room l).length = (room + 63) / 64 := by unfold ofW; rw [foldW_len, List.length_replicate]
theorem ofW_snoc (room : Nat) (l : List Int) (n : Int) : ofW room (l ++ [n]) = addW room (ofW room l) n := by simp [ofW]
set_option maxHeartbeats 1000000 in
theorem of_calls (r : Int) (A : Option Addr) (n c : Nat) (L : List Int) (S : Nat → Prop) (w : World) (hS : ∀ k, S k → k < w.heap.size) (hC : Row I w S A n L) :
    Calls Tryd.prog 15 #[.int .i64 r, .slice A n c] w fun e w' => ∃ g, e = .returned (.agg #[.slice (some ⟨g, 0, none⟩) ((roomR r + 63) / 64) ((roomR r + 63) / 64), .int .i64 (roomR r)]) ∧ w.heap.size ≤ g ∧ g < w'.heap.size ∧ Wd w' (some ⟨g, 0, none⟩) g (ofW (roomR r) L) ∧ Below w.heap.size w w' := by
  have hm6 := roomR_le r
  have hn := hC.le
  obtain ⟨m, hm⟩ : ∃ m, roomR r = m := ⟨_, rfl⟩
  have h7 := new_calls r
  rw [hm] at hm6 h7 ⊢
  obtain ⟨K, hK⟩ : ∃ K, (m + 63) / 64 = K := ⟨_, rfl⟩
  rw [hK] at h7 ⊢
  have H7 := Hd.mk h7; have HK := Hd.mk hK; have HS := Hd.mk hS; have HC := Hd.mk hC; have HM := Hd.mk hm6
  clear h7 hK hm hS hC hm6
  go_enter Tryd.func15, Tryd.ntmps15
  go_wp2_with (go_at_call 27; go_must (refine Calls.mono (H7.out _) ?_; rintro e w1 ⟨g, rfl, hg, hgl, hwd, hb1⟩; have he4 := blk_below (blk_new w (.cells #[.slice none 0 0, .int .i64 0] 28) _ rfl) hb1))
  have hz1 := hb1.size
  rw [size_alloc] at hg hz1
  have hbw := below_seq (below_alloc (Below.refl w.heap.size w) (.cells #[.slice none 0 0, .int .i64 0] 28)) hb1
  generalize hV : World.alloc w1 _ = V
  have hv4 : V.heap[w.heap.size]? = some (.cells #[.slice none 0 0, .int .i64 0] 28 (0, 0)) := by rw [← hV]; exact blk_alloc he4 _
  have hv5 : V.heap[w1.heap.size]? = some (.cells #[.slice (some ⟨g, 0, none⟩) K K, .int .i64 m] 28 (0, 0)) := by rw [← hV]; exact blk_new _ _ _ rfl
  have HWd : Hd (Wd V (some ⟨g, 0, none⟩) g (ofW m (L.take 0))) := ⟨by rw [← hV]; unfold ofW; rw [HK.out]; exact hwd.below (below_alloc (Below.refl _ _) _)⟩
  have HBV : Hd (Below w.heap.size w V) := ⟨by rw [← hV]; exact below_alloc hbw _⟩
  have hne4 : ¬ w.heap.size = g := by omega
  have hg1 : ¬ w1.heap.size = g := by omega
  have hgp : w.heap.size ≤ g := by omega
  have hwp : w.heap.size ≤ w1.heap.size := by omega
  have hw5 : ¬ w.heap.size = w1.heap.size := by omega
  have hgV : g < V.heap.size := by rw [← hV, size_alloc]; omega
  have HV4 := Hd.mk hv4; have HV5 := Hd.mk hv5
  clear hV he4 hwd hb1 hbw hv4 hv5 hgl hg hz1
  generalize w1.heap.size = p5 at *
  go_loopw [12] (fun i wr => ∃ k : Nat, k ≤ n ∧ i = .int .i64 k ∧ Hd (Wd wr (some ⟨g, 0, none⟩) g (ofW m (L.take k))) ∧ Hd (Fr (fun b => b = g) V wr)) (fun i _ => n - (intOf i).toNat)
  case atStart => exact ⟨0, Nat.zero_le _, rfl, HWd, ⟨Fr.refl _ _⟩⟩
  case round =>
    clear HWd
    obtain ⟨k, hk, rfl, HW, HF⟩ := hrel
    have hq5 := HF.out.blk HV5.out hg1
    by_cases hlt : k < n
    · obtain ⟨b, off, x, rfl, _, hb, hx, hcell⟩ := (HC.out.below HS.out (HBV.out.trans (HF.out.below HBV.out.size (fun b hb hx => by have hx' : b = g := hx; omega)))).get_int k hlt
      have HT : Hd (L.take (k + 1) = L.take k ++ [x]) := ⟨by rw [List.take_add_one, hx]; rfl⟩
      have HWK : Hd (Wok m (ofW m (L.take k)) ∧ (ofW m (L.take k)).length = K) := ⟨ofW_ok HM.out _, by rw [ofW_len, HK.out]⟩
      clear hx
      have hq5c0 := blk_cell hq5 0 _ rfl; have hq5f0 := blk_frozen hq5 0; have hq5c1 := blk_cell hq5 1 _ rfl; have hq5f1 := blk_frozen hq5 1; have hq5l := blk_lt hq5
      go_wp2_with (go_at_call 21; go_must (have h9 := add_calls (some ⟨g, 0, none⟩) K g m x (ofW m (L.take k)) wr HWK.out.1 HW.out; rw [HWK.out.2] at h9; refine Calls.mono h9 ?_; clear h9; rintro e w2 ⟨rfl, hf2, hw2⟩; have HF2 := Hd.mk (hf2.mono (Y := fun k => k = g) (fun _ h => h.1)); have HW2 := Hd.mk hw2; clear hf2 hw2))
      go_roundw
      case rel => exact ⟨k + 1, by omega, by go_num, ⟨by rw [HT.out, ofW_snoc]; exact HW2.out⟩, ⟨HF.out.trans HF2.out⟩⟩
      case measure => simp [intOf]; omega
    · obtain rfl : k = n := by omega
      have hq4 := HF.out.blk HV4.out hne4
      have HT : Hd (L.take k = L) := ⟨by rw [← HC.out.1, List.take_length]⟩
      have hq5c0 := blk_cell hq5 0 _ rfl; have hq5f0 := blk_frozen hq5 0; have hq5c1 := blk_cell hq5 1 _ rfl; have hq5f1 := blk_frozen hq5 1; have hq5l := blk_lt hq5
      have hq4c0 := blk_cell hq4 0 _ rfl; have hq4f0 := blk_frozen hq4 0; have hq4c1 := blk_cell hq4 1 _ rfl; have hq4f1 := blk_frozen hq4 1; have hq4l := blk_lt hq4
      go_wp2
      refine bodyPost_ret (results_cell_row rfl _ _ w.heap.size 28 #[.slice (some ⟨g, 0, none⟩) K K, .int .i64 m] (0, 0) _ rfl (blk_set (blk_set hq4 0 _ _ rfl) 1 _ _ rfl) Tryd.underlying28 rfl (by kernel_rfl)) rfl ?_
      have hW := HW.out
      rw [HT.out] at hW
      have hfr := Fr.set (X := fun b => b = w.heap.size) (Fr.set (X := fun b => b = w.heap.size) (Fr.refl _ wr) (.inl rfl) 0 (.slice (some ⟨g, 0, none⟩) K K)) (.inl rfl) 1 (.int .i64 m)
      refine ⟨g, rfl, hgp, by have := HF.out.size; have := hfr.size; omega, hW.fr hfr (Ne.symm hne4), ?_⟩
      exact (HBV.out.trans (HF.out.below HBV.out.size (fun b hb hx => by have hx' : b = g := hx; omega))).trans (hfr.below (by have := HF.out.size; have := HBV.out.size; omega) (fun b hb hx => by have hx' : b = w.heap.size := hx; omega))
end Go.Proofs.YtbmpaokicphdjaaDoor.Fn

/- math/bits: TrailingZeros64, OnesCount64. -/
namespace Go.Proofs.YtbmpaokicphdjaaDoor.Fn
open Go Go.RowKit Go.Proofs.YtbmpaokicphdjaaDoor.Can Go.Proofs.YtbmpaokicphdjaaDoor.Base
attribute [local go_sem] clsB AB.cell

theorem tz_core (x k idx : Nat) (w : World) (hx0 : ((x : Int) == 0) = false)
    (key : IntKind.u64.wrap (bits BinOp.and IntKind.u64 (x : Int) (IntKind.u64.wrap (-(x : Int))) * 285870213051353865) / 288230376151711744 = (idx : Int))
    (hi : idx < 64) (hk : k < 64) (hcell : w.cell? ⟨0, idx, none⟩ = some (.int .u8 k)) :
    Calls Tryd.prog 105 #[.int .u64 x] w fun e w' => e = .returned (.int .i64 k) ∧ w' = w := by
  go_enter Tryd.func105, Tryd.ntmps105
  go_wp2_with (simp only [key])
  go_ret
  exact ⟨rfl, rfl⟩
theorem tz_calls (x : Nat) (hx : x < 18446744073709551616) (w : World) (hx0 : x ≠ 0) (hT : TabAt 0 Lib.deBruijn64tab w) :
    Calls Tryd.prog 105 #[.int .u64 x] w fun e w' => e = .returned (.int .i64 (Lib.ctz 64 x)) ∧ w' = w := by
  obtain ⟨hlow, hk⟩ := Lib.lowest_bit 64 x hx0 hx
  obtain ⟨hi, htab⟩ := Lib.deBruijn64_at _ hk
  have hcell := hT _ hi
  rw [htab] at hcell
  exact tz_core x _ _ w (by simp; omega) (tz64_key x _ hx hx0 hlow) hi hk hcell
end Go.Proofs.YtbmpaokicphdjaaDoor.Fn

/- The numbers of a set, rising; a word's lowest bit. -/
namespace Go.Proofs.YtbmpaokicphdjaaDoor.Fn
open Go Go.RowKit Go.Proofs.YtbmpaokicphdjaaDoor.Can Go.Proofs.YtbmpaokicphdjaaDoor.Base

theorem filter_first {p q : Nat → Bool} {n c : Nat} (hc : c < n) (h0 : ∀ j, j < c → p j = false) (h1 : p c = true) (hq : ∀ j, q j = (p j && !decide (j = c))) : (List.range n).filter p = c :: (List.range n).filter q := by
  obtain ⟨d, rfl⟩ : ∃ d, n = c + (1 + d) := ⟨n - c - 1, by omega⟩
  have e : List.range (c + (1 + d)) = List.range c ++ (c :: (List.range d).map (c + 1 + ·)) := by
    rw [List.range_add, List.range_add, List.map_append]
    simp [List.range_one, Nat.add_assoc]
  have hp0 : (List.range c).filter p = [] := List.filter_eq_nil_iff.2 fun j hj => by rw [h0 j (List.mem_range.1 hj)]; exact Bool.false_ne_true
  have hq0 : (List.range c).filter q = [] := List.filter_eq_nil_iff.2 fun j hj => by rw [hq, h0 j (List.mem_range.1 hj), Bool.false_and]; exact Bool.false_ne_true
  rw [e, List.filter_append, List.filter_append, hp0, hq0, List.nil_append, List.nil_append, List.filter_cons_of_pos h1, List.filter_cons_of_neg (by rw [hq]; simp)]
  congr 1
  apply List.filter_congr
  intro j hj
  obtain ⟨i, _, rfl⟩ := List.mem_map.1 hj
  rw [hq, decide_eq_false (by omega), Bool.not_false, Bool.and_true]
theorem low_bit {x : Nat} (h0 : x ≠ 0) (hx : x < 18446744073709551616) :
    Lib.ctz 64 x < 64 ∧ (∀ j, j < Lib.ctz 64 x → x.testBit j = false) ∧ x.testBit (Lib.ctz 64 x) = true ∧ ∀ j, (x &&& (x - 1)).testBit j = (x.testBit j && !decide (j = Lib.ctz 64 x)) := by
  obtain ⟨m, hm, hk⟩ := Lib.ctzFrom_spec 64 x (by omega) hx
  have e : Lib.ctz 64 x = Lib.ctzFrom 64 x := by simp [Lib.ctz, h0]
  rw [e]
  obtain ⟨c, hc⟩ : ∃ c, Lib.ctzFrom 64 x = c := ⟨_, rfl⟩
  rw [hc] at hm hk ⊢
  have hp : 0 < 2 ^ c := Nat.two_pow_pos c
  have e1 : x - 1 = 2 ^ c * (2 * m) + (2 ^ c - 1) := by rw [hm, Nat.mul_add]; omega
  have hb : ∀ j, x.testBit j = (decide (c ≤ j) && (2 * m + 1).testBit (j - c)) := fun j => by rw [hm, Nat.mul_comm, Nat.testBit_mul_two_pow]
  have hb1 : ∀ j, (x - 1).testBit j = if j < c then (2 ^ c - 1).testBit j else (2 * m).testBit (j - c) := fun j => by
    rw [e1, Nat.testBit_two_pow_mul_add _ (by omega)]
  refine ⟨hk, fun j hj => ?_, ?_, fun j => ?_⟩
  · rw [hb, decide_eq_false (by omega), Bool.false_and]
  · rw [hb, decide_eq_true (Nat.le_refl _), Bool.true_and, Nat.sub_self, Nat.testBit_zero]
    simp
  · rw [Nat.testBit_and, hb, hb1]
    by_cases hj : j < c
    · rw [decide_eq_false (by omega)]; simp
    · rw [decide_eq_true (by omega), if_neg hj, Bool.true_and]
      by_cases hjc : j = c
      · subst hjc
        rw [Nat.sub_self, Nat.testBit_zero, Nat.testBit_zero]
        simp
      · obtain ⟨i, rfl⟩ : ∃ i, j = c + (i + 1) := ⟨j - c - 1, by omega⟩
        have e3 : c + (i + 1) - c = i + 1 := by omega
        have d1 : (2 * m + 1) / 2 = m := by omega
        have d2 : (2 * m) / 2 = m := by omega
        rw [e3, Nat.testBit_succ, Nat.testBit_succ, d1, d2, decide_eq_false (by omega)]
        simp
def wordBits (x : Nat) : List Nat := (List.range 64).filter fun j => x.testBit j
theorem wordBits_zero : wordBits 0 = [] := by decide +kernel
theorem wordBits_cons {x : Nat} (h0 : x ≠ 0) (hx : x < 18446744073709551616) : wordBits x = Lib.ctz 64 x :: wordBits (x &&& (x - 1)) := by
  obtain ⟨h1, h2, h3, h4⟩ := low_bit h0 hx
  exact filter_first h1 h2 h3 h4
/-- The numbers of the first k words. -/
def elemsK (ws : List Nat) (k : Nat) : List Nat := (List.range (64 * k)).filter (bitAt ws)
def elems (ws : List Nat) : List Nat := elemsK ws ws.length
theorem elemsK_succ (ws : List Nat) (k : Nat) : elemsK ws (k + 1) = elemsK ws k ++ (wordBits (ws.getD k 0)).map (k * 64 + ·) := by
  unfold elemsK wordBits
  rw [Nat.mul_add, List.range_add, List.filter_append]
  congr 1
  rw [List.filter_map, Nat.mul_one, Nat.mul_comm 64 k]
  congr 1
  apply List.filter_congr
  intro j hj
  have := List.mem_range.1 hj
  simp only [Function.comp, bitAt]
  rw [show (k * 64 + j) / 64 = k by omega, show (k * 64 + j) % 64 = j by omega]
theorem mem_elems {room : Nat} {ws : List Nat} (h : Wok room ws) (n : Nat) : n ∈ elems ws ↔ bitAt ws n = true := by
  unfold elems elemsK
  rw [List.mem_filter, List.mem_range]
  constructor
  · exact fun h => h.2
  · intro hb
    refine ⟨?_, hb⟩
    rw [h.len]
    rcases Nat.lt_or_ge n room with h1 | h1
    · omega
    · rw [h.top n h1] at hb; cases hb
theorem elems_sorted (ws : List Nat) : (elems ws).Pairwise (· < ·) := List.Pairwise.filter _ List.pairwise_lt_range
theorem elems_lt {ws : List Nat} {n : Nat} (h : n ∈ elems ws) : n < 64 * ws.length := by
  unfold elems elemsK at h
  exact List.mem_range.1 (List.mem_filter.1 h).1
end Go.Proofs.YtbmpaokicphdjaaDoor.Fn
