/- Has, Add, Drop. -/
import Derived.Test.YtbmpaokicphdjaaDoorB1
namespace Go.Proofs.YtbmpaokicphdjaaDoor.Fn
open Go Go.RowKit Go.Proofs.YtbmpaokicphdjaaDoor.Can Go.Proofs.YtbmpaokicphdjaaDoor.Base
attribute [local go_sem] clsB AB.cell

/-- A number's word, with its bit, and without it. -/
def putB (ws : List Nat) (n : Nat) : List Nat := ws.set (n / 64) (ws.getD (n / 64) 0 ||| 2 ^ (n % 64))
def dropB (ws : List Nat) (n : Nat) : List Nat := ws.set (n / 64) (ws.getD (n / 64) 0 &&& (18446744073709551615 - 2 ^ (n % 64)))
theorem pow_lt (n : Nat) : 2 ^ (n % 64) < 18446744073709551616 := by
  have h : 2 ^ (n % 64) < 2 ^ 64 := Nat.pow_lt_pow_right (by decide) (Nat.mod_lt _ (by decide))
  simpa using h
theorem and_bit (x r : Nat) : x &&& 2 ^ r = if x.testBit r then 2 ^ r else 0 := by
  apply Nat.eq_of_testBit_eq
  intro i
  rw [Nat.testBit_and, Nat.testBit_two_pow]
  by_cases h : r = i
  · subst h
    cases hx : x.testBit r <;> simp
  · rw [decide_eq_false h, Bool.and_false]
    cases hx : x.testBit r
    · simp
    · rw [if_pos rfl, Nat.testBit_two_pow, decide_eq_false h]
theorem getD_set (ws : List Nat) (i j y : Nat) (hi : i < ws.length) : (ws.set i y).getD j 0 = if j = i then y else ws.getD j 0 := by
  rw [List.getD_eq_getElem?_getD, List.getElem?_set, List.getD_eq_getElem?_getD]
  by_cases h : i = j
  · subst h; simp [hi]
  · rw [if_neg h, if_neg (Ne.symm h)]
theorem bit_put (ws : List Nat) (n k : Nat) (hn : n / 64 < ws.length) : bitAt (putB ws n) k = (bitAt ws k || decide (k = n)) := by
  unfold bitAt putB
  rw [getD_set _ _ _ _ hn]
  by_cases h : k / 64 = n / 64
  · rw [if_pos h, Nat.testBit_or, Nat.testBit_two_pow, h]
    congr 1
    by_cases hk : k = n
    · subst hk; simp
    · rw [decide_eq_false (by omega), decide_eq_false hk]
  · rw [if_neg h, decide_eq_false (by rintro rfl; exact h rfl), Bool.or_false]
theorem bit_drop (ws : List Nat) (n k : Nat) (hn : n / 64 < ws.length) : bitAt (dropB ws n) k = (bitAt ws k && !decide (k = n)) := by
  unfold bitAt dropB
  rw [getD_set _ _ _ _ hn]
  by_cases h : k / 64 = n / 64
  · have e : 18446744073709551615 - 2 ^ (n % 64) = 2 ^ 64 - (2 ^ (n % 64) + 1) := by omega
    have hp := pow_lt n
    rw [if_pos h, Nat.testBit_and, e, Nat.testBit_two_pow_sub_succ (by omega), Nat.testBit_two_pow, h, decide_eq_true (Nat.mod_lt k (by decide)), Bool.true_and]
    congr 2
    by_cases hk : k = n
    · subst hk; simp
    · rw [decide_eq_false (by omega), decide_eq_false hk]
  · rw [if_neg h, decide_eq_false (by rintro rfl; exact h rfl), Bool.not_false, Bool.and_true]
theorem getD_lt {room : Nat} {ws : List Nat} (h : Wok room ws) (i : Nat) : ws.getD i 0 < 18446744073709551616 := by
  rw [List.getD_eq_getElem?_getD]
  cases hx : ws[i]? with
  | none => simp
  | some x => exact h.lt x (List.mem_of_getElem? hx)
theorem Wok.set {room : Nat} {ws ws' : List Nat} (h : Wok room ws) (i y : Nat) (hy : y < 18446744073709551616) (he : ws' = ws.set i y) (ht : ∀ n, room ≤ n → bitAt ws' n = false) : Wok room ws' := by
  subst he
  refine ⟨by rw [List.length_set]; exact h.len, fun x hx => ?_, ht, h.small⟩
  rcases List.mem_or_eq_of_mem_set hx with hx | rfl
  · exact h.lt x hx
  · exact hy
theorem Wok.place {room : Nat} {ws : List Nat} (h : Wok room ws) {n : Nat} (hn : n < room) : n / 64 < ws.length := by rw [h.len]; omega
theorem Wok.put {room : Nat} {ws : List Nat} (h : Wok room ws) {n : Nat} (hn : n < room) : Wok room (putB ws n) := by
  refine h.set _ _ ?_ rfl fun k hk => ?_
  · have := Nat.or_lt_two_pow (n := 64) (show ws.getD (n / 64) 0 < 2 ^ 64 from getD_lt h _) (show 2 ^ (n % 64) < 2 ^ 64 from pow_lt n)
    exact this
  · rw [bit_put ws n k (h.place hn), h.top k hk, decide_eq_false (by omega)]; rfl
theorem Wok.drop {room : Nat} {ws : List Nat} (h : Wok room ws) {n : Nat} (hn : n < room) : Wok room (dropB ws n) := by
  refine h.set _ _ ?_ rfl fun k hk => ?_
  · exact Nat.lt_of_le_of_lt Nat.and_le_left (getD_lt h _)
  · rw [bit_drop ws n k (h.place hn), h.top k hk]; rfl

theorem Wd.at_ {w : World} {A : Option Addr} {g : Nat} {ws : List Nat} {q x : Nat} (h : Wd w A g ws) (hx : ws[q]? = some x) : A = some ⟨g, 0, none⟩ ∧ Blk wE w 33 g ws := by
  rcases h with h | h
  · rw [h] at hx; simp at hx
  · exact h
theorem Wd.set {w : World} {A : Option Addr} {g : Nat} {ws : List Nat} {q x y : Nat} (h : Wd w A g ws) (hx : ws[q]? = some x) : Wd (w.setCell ⟨g, q, none⟩ (.int .u64 y)) A g (ws.set q y) := by
  obtain ⟨h1, h2⟩ := h.at_ hx
  refine .inr ⟨h1, ?_⟩
  have := h2.set0 w_len hx (by decide) (v := .int .u64 y) (y := y) rfl
  rwa [Nat.mul_one] at this
theorem Wd.cell {w : World} {A : Option Addr} {g : Nat} {ws : List Nat} {q x : Nat} (h : Wd w A g ws) (hx : ws[q]? = some x) : w.cell? ⟨g, q, none⟩ = some (.int .u64 x) := by
  obtain ⟨h1, h2⟩ := h.at_ hx
  have := h2.cell0 w_len hx (v := .int .u64 x) rfl
  rwa [Nat.mul_one] at this
/-- What the walk knows of a number's word. -/
theorem has_calls (A : Option Addr) (c g room : Nat) (n : Nat) (ws : List Nat) (bv : Bool) (w : World) (hn : n < room) (hK : Wok room ws) (hW : Wd w A g ws) (hbv : bitAt ws n = bv) :
    Calls Tryd.prog 24 #[.agg #[.slice A ws.length c, .int .i64 room], .int .i64 n] w fun e w' => e = .returned (.bool bv) ∧ Below w.heap.size w w' := by
  obtain ⟨x, hx, hx64, hbit⟩ := hK.at_ hn
  have hc0 := hW.cell hx
  obtain ⟨rfl, hblk⟩ := hW.at_ hx
  have hgl := hblk.lt
  have hfz := hblk.frozen (n / 64)
  have hlen := hK.place hn
  have hgetD : ws.getD (n / 64) 0 = x := by rw [List.getD_eq_getElem?_getD, hx]; rfl
  have hr6 := hK.small
  have hll := hK.len
  obtain ⟨q, hq⟩ : ∃ q, n / 64 = q := ⟨_, rfl⟩
  obtain ⟨b, hb⟩ : ∃ b, 2 ^ (n % 64) = b := ⟨_, rfl⟩
  have hb64 : b < 18446744073709551616 := by rw [← hb]; exact pow_lt n
  have hand := bits_and_u64_nat x b hx64 hb64
  obtain ⟨v, hv⟩ : ∃ v, x &&& b = v := ⟨_, rfl⟩
  rw [hv] at hand
  have hv2 : v = if x.testBit (n % 64) then b else 0 := by rw [← hv, ← hb]; exact and_bit x _
  rw [← hbit, hbv] at hv2
  obtain ⟨m, hm⟩ : ∃ m, ws.length = m := ⟨_, rfl⟩
  rw [hq] at hx hc0 hfz hlen
  rw [hm] at hlen ⊢
  have hm9 : m ≤ 2000 := by omega
  have HW := Hd.mk hW; have HK := Hd.mk hK; have HX := Hd.mk hx; have HQ := Hd.mk hq; have HB := Hd.mk hb; have HM := Hd.mk hm; have HGD := Hd.mk hgetD; have HBIT := Hd.mk hbit
  clear hW hK hx hq hb hm hgetD hbit hblk hbv hv hll
  cases bv with
  | true =>
    have hvb : ((v : Int) != 0) = true := by rw [if_pos rfl] at hv2; have := Nat.two_pow_pos (n % 64); have := HB.out; simp; omega
    clear hv2
    go_enter Tryd.func24, Tryd.ntmps24
    go_wp2_with (go_at_call 71; go_must (refine Calls.mono (bit_calls (some ⟨g, 0, none⟩) m c room n q b _ hn hr6 HQ.out HB.out) ?_; rintro e w2 ⟨rfl, hb2⟩; have hB2 := below_seq (below_alloc (Below.refl _ _) _) hb2; have hc2 := (Below.cell hB2 (p := ⟨g, q, none⟩) hgl).trans hc0; have hf2 : w2.frozen? ⟨g, q, none⟩ = false := (World.frozen?_of_block (hB2.block g hgl)).trans hfz; have hg2 : g < w2.heap.size := Nat.lt_of_lt_of_le hgl hB2.size; have he2 := blk_below (blk_new w (.cells #[.slice (some ⟨g, 0, none⟩) m c, .int .i64 room] 28) _ rfl) hb2; have he2c0 := blk_cell he2 0 _ rfl; have he2f0 := blk_frozen he2 0; have he2c1 := blk_cell he2 1 _ rfl; have he2f1 := blk_frozen he2 1; have he2l := blk_lt he2))
    go_ret
    exact ⟨rfl, hB2⟩
  | false =>
    have hvb : ((v : Int) != 0) = false := by rw [if_neg (by decide)] at hv2; subst hv2; rfl
    clear hv2
    go_enter Tryd.func24, Tryd.ntmps24
    go_wp2_with (go_at_call 71; go_must (refine Calls.mono (bit_calls (some ⟨g, 0, none⟩) m c room n q b _ hn hr6 HQ.out HB.out) ?_; rintro e w2 ⟨rfl, hb2⟩; have hB2 := below_seq (below_alloc (Below.refl _ _) _) hb2; have hc2 := (Below.cell hB2 (p := ⟨g, q, none⟩) hgl).trans hc0; have hf2 : w2.frozen? ⟨g, q, none⟩ = false := (World.frozen?_of_block (hB2.block g hgl)).trans hfz; have hg2 : g < w2.heap.size := Nat.lt_of_lt_of_le hgl hB2.size; have he2 := blk_below (blk_new w (.cells #[.slice (some ⟨g, 0, none⟩) m c, .int .i64 room] 28) _ rfl) hb2; have he2c0 := blk_cell he2 0 _ rfl; have he2f0 := blk_frozen he2 0; have he2c1 := blk_cell he2 1 _ rfl; have he2f1 := blk_frozen he2 1; have he2l := blk_lt he2))
    go_ret
    exact ⟨rfl, hB2⟩
/-- A number out of room. -/
def outR (room : Nat) (n : Int) : Prop := n < 0 ∨ (¬ n < 0 ∧ (room : Int) ≤ n)
theorem has_out (A : Option Addr) (m c room : Nat) (n : Int) (w : World) (hn : outR room n) (hr : room ≤ 65536) :
    Calls Tryd.prog 24 #[.agg #[.slice A m c, .int .i64 room], .int .i64 n] w fun e w' => e = .returned (.bool false) ∧ Below w.heap.size w w' := by
  go_enter Tryd.func24, Tryd.ntmps24
  go_wp2_with (go_at_call 71; go_must (refine Calls.mono (bit_not A m c room n _ hn hr) ?_; rintro e w2 ⟨rfl, hb2⟩; have hB2 := below_seq (below_alloc (Below.refl _ _) _) hb2))
  go_ret
  exact ⟨rfl, hB2⟩
theorem add_out (A : Option Addr) (m c room : Nat) (n : Int) (w : World) (hn : outR room n) (hr : room ≤ 65536) :
    Calls Tryd.prog 21 #[.agg #[.slice A m c, .int .i64 room], .int .i64 n] w fun e w' => e = .returned (.bool false) ∧ Below w.heap.size w w' := by
  go_enter Tryd.func21, Tryd.ntmps21
  go_wp2_with (go_at_call 71; go_must (refine Calls.mono (bit_not A m c room n _ hn hr) ?_; rintro e w2 ⟨rfl, hb2⟩; have hB2 := below_seq (below_alloc (Below.refl _ _) _) hb2))
  go_ret
  exact ⟨rfl, hB2⟩
theorem drop_out (A : Option Addr) (m c room : Nat) (n : Int) (w : World) (hn : outR room n) (hr : room ≤ 65536) :
    Calls Tryd.prog 22 #[.agg #[.slice A m c, .int .i64 room], .int .i64 n] w fun e w' => e = .returned (.bool false) ∧ Below w.heap.size w w' := by
  go_enter Tryd.func22, Tryd.ntmps22
  go_wp2_with (go_at_call 71; go_must (refine Calls.mono (bit_not A m c room n _ hn hr) ?_; rintro e w2 ⟨rfl, hb2⟩; have hB2 := below_seq (below_alloc (Below.refl _ _) _) hb2))
  go_ret
  exact ⟨rfl, hB2⟩
theorem add_old (A : Option Addr) (c g room : Nat) (n : Nat) (ws : List Nat) (w : World) (hn : n < room) (hK : Wok room ws) (hW : Wd w A g ws) (hbv : bitAt ws n = true) :
    Calls Tryd.prog 21 #[.agg #[.slice A ws.length c, .int .i64 room], .int .i64 n] w fun e w' => e = .returned (.bool false) ∧ Below w.heap.size w w' := by
  obtain ⟨x, hx, hx64, hbit⟩ := hK.at_ hn
  have hc0 := hW.cell hx
  obtain ⟨rfl, hblk⟩ := hW.at_ hx
  have hgl := hblk.lt
  have hfz := hblk.frozen (n / 64)
  have hlen := hK.place hn
  have hgetD : ws.getD (n / 64) 0 = x := by rw [List.getD_eq_getElem?_getD, hx]; rfl
  have hr6 := hK.small
  have hll := hK.len
  obtain ⟨q, hq⟩ : ∃ q, n / 64 = q := ⟨_, rfl⟩
  obtain ⟨b, hb⟩ : ∃ b, 2 ^ (n % 64) = b := ⟨_, rfl⟩
  have hb64 : b < 18446744073709551616 := by rw [← hb]; exact pow_lt n
  have hand := bits_and_u64_nat x b hx64 hb64
  obtain ⟨v, hv⟩ : ∃ v, x &&& b = v := ⟨_, rfl⟩
  rw [hv] at hand
  have hv2 : v = if x.testBit (n % 64) then b else 0 := by rw [← hv, ← hb]; exact and_bit x _
  rw [← hbit, hbv] at hv2
  obtain ⟨m, hm⟩ : ∃ m, ws.length = m := ⟨_, rfl⟩
  rw [hq] at hx hc0 hfz hlen
  rw [hm] at hlen ⊢
  have hm9 : m ≤ 2000 := by omega
  have HW := Hd.mk hW; have HK := Hd.mk hK; have HX := Hd.mk hx; have HQ := Hd.mk hq; have HB := Hd.mk hb; have HM := Hd.mk hm; have HGD := Hd.mk hgetD; have HBIT := Hd.mk hbit
  clear hW hK hx hq hb hm hgetD hbit hblk hbv hv hll
  have hvb : ((v : Int) != 0) = true := by rw [if_pos rfl] at hv2; have := Nat.two_pow_pos (n % 64); have := HB.out; simp; omega
  clear hv2
  go_enter Tryd.func21, Tryd.ntmps21
  go_wp2_with (go_at_call 71; go_must (refine Calls.mono (bit_calls (some ⟨g, 0, none⟩) m c room n q b _ hn hr6 HQ.out HB.out) ?_; rintro e w2 ⟨rfl, hb2⟩; have hB2 := below_seq (below_alloc (Below.refl _ _) _) hb2; have hc2 := (Below.cell hB2 (p := ⟨g, q, none⟩) hgl).trans hc0; have hf2 : w2.frozen? ⟨g, q, none⟩ = false := (World.frozen?_of_block (hB2.block g hgl)).trans hfz; have hg2 : g < w2.heap.size := Nat.lt_of_lt_of_le hgl hB2.size; have he2 := blk_below (blk_new w (.cells #[.slice (some ⟨g, 0, none⟩) m c, .int .i64 room] 28) _ rfl) hb2; have he2c0 := blk_cell he2 0 _ rfl; have he2f0 := blk_frozen he2 0; have he2c1 := blk_cell he2 1 _ rfl; have he2f1 := blk_frozen he2 1; have he2l := blk_lt he2))
  go_ret
  exact ⟨rfl, hB2⟩
theorem drop_no (A : Option Addr) (c g room : Nat) (n : Nat) (ws : List Nat) (w : World) (hn : n < room) (hK : Wok room ws) (hW : Wd w A g ws) (hbv : bitAt ws n = false) :
    Calls Tryd.prog 22 #[.agg #[.slice A ws.length c, .int .i64 room], .int .i64 n] w fun e w' => e = .returned (.bool false) ∧ Below w.heap.size w w' := by
  obtain ⟨x, hx, hx64, hbit⟩ := hK.at_ hn
  have hc0 := hW.cell hx
  obtain ⟨rfl, hblk⟩ := hW.at_ hx
  have hgl := hblk.lt
  have hfz := hblk.frozen (n / 64)
  have hlen := hK.place hn
  have hgetD : ws.getD (n / 64) 0 = x := by rw [List.getD_eq_getElem?_getD, hx]; rfl
  have hr6 := hK.small
  have hll := hK.len
  obtain ⟨q, hq⟩ : ∃ q, n / 64 = q := ⟨_, rfl⟩
  obtain ⟨b, hb⟩ : ∃ b, 2 ^ (n % 64) = b := ⟨_, rfl⟩
  have hb64 : b < 18446744073709551616 := by rw [← hb]; exact pow_lt n
  have hand := bits_and_u64_nat x b hx64 hb64
  obtain ⟨v, hv⟩ : ∃ v, x &&& b = v := ⟨_, rfl⟩
  rw [hv] at hand
  have hv2 : v = if x.testBit (n % 64) then b else 0 := by rw [← hv, ← hb]; exact and_bit x _
  rw [← hbit, hbv] at hv2
  obtain ⟨m, hm⟩ : ∃ m, ws.length = m := ⟨_, rfl⟩
  rw [hq] at hx hc0 hfz hlen
  rw [hm] at hlen ⊢
  have hm9 : m ≤ 2000 := by omega
  have HW := Hd.mk hW; have HK := Hd.mk hK; have HX := Hd.mk hx; have HQ := Hd.mk hq; have HB := Hd.mk hb; have HM := Hd.mk hm; have HGD := Hd.mk hgetD; have HBIT := Hd.mk hbit
  clear hW hK hx hq hb hm hgetD hbit hblk hbv hv hll
  have hvb : ((v : Int) == 0) = true := by rw [if_neg (by decide)] at hv2; subst hv2; rfl
  clear hv2
  go_enter Tryd.func22, Tryd.ntmps22
  go_wp2_with (go_at_call 71; go_must (refine Calls.mono (bit_calls (some ⟨g, 0, none⟩) m c room n q b _ hn hr6 HQ.out HB.out) ?_; rintro e w2 ⟨rfl, hb2⟩; have hB2 := below_seq (below_alloc (Below.refl _ _) _) hb2; have hc2 := (Below.cell hB2 (p := ⟨g, q, none⟩) hgl).trans hc0; have hf2 : w2.frozen? ⟨g, q, none⟩ = false := (World.frozen?_of_block (hB2.block g hgl)).trans hfz; have hg2 : g < w2.heap.size := Nat.lt_of_lt_of_le hgl hB2.size; have he2 := blk_below (blk_new w (.cells #[.slice (some ⟨g, 0, none⟩) m c, .int .i64 room] 28) _ rfl) hb2; have he2c0 := blk_cell he2 0 _ rfl; have he2f0 := blk_frozen he2 0; have he2c1 := blk_cell he2 1 _ rfl; have he2f1 := blk_frozen he2 1; have he2l := blk_lt he2))
  go_ret
  exact ⟨rfl, hB2⟩
theorem add_new (A : Option Addr) (c g room : Nat) (n : Nat) (ws : List Nat) (w : World) (hn : n < room) (hK : Wok room ws) (hW : Wd w A g ws) (hbv : bitAt ws n = false) :
    Calls Tryd.prog 21 #[.agg #[.slice A ws.length c, .int .i64 room], .int .i64 n] w fun e w' => e = .returned (.bool true) ∧ Fr (fun k => k = g) w w' ∧ Wd w' A g (putB ws n) := by
  obtain ⟨x, hx, hx64, hbit⟩ := hK.at_ hn
  have hc0 := hW.cell hx
  obtain ⟨rfl, hblk⟩ := hW.at_ hx
  have hgl := hblk.lt
  have hfz := hblk.frozen (n / 64)
  have hlen := hK.place hn
  have hgetD : ws.getD (n / 64) 0 = x := by rw [List.getD_eq_getElem?_getD, hx]; rfl
  have hr6 := hK.small
  have hll := hK.len
  obtain ⟨q, hq⟩ : ∃ q, n / 64 = q := ⟨_, rfl⟩
  obtain ⟨b, hb⟩ : ∃ b, 2 ^ (n % 64) = b := ⟨_, rfl⟩
  have hb64 : b < 18446744073709551616 := by rw [← hb]; exact pow_lt n
  have hand := bits_and_u64_nat x b hx64 hb64
  obtain ⟨v, hv⟩ : ∃ v, x &&& b = v := ⟨_, rfl⟩
  rw [hv] at hand
  have hv2 : v = if x.testBit (n % 64) then b else 0 := by rw [← hv, ← hb]; exact and_bit x _
  rw [← hbit, hbv] at hv2
  obtain ⟨m, hm⟩ : ∃ m, ws.length = m := ⟨_, rfl⟩
  rw [hq] at hx hc0 hfz hlen
  rw [hm] at hlen ⊢
  have hm9 : m ≤ 2000 := by omega
  have HW := Hd.mk hW; have HK := Hd.mk hK; have HX := Hd.mk hx; have HQ := Hd.mk hq; have HB := Hd.mk hb; have HM := Hd.mk hm; have HGD := Hd.mk hgetD; have HBIT := Hd.mk hbit
  clear hW hK hx hq hb hm hgetD hbit hblk hbv hv hll
  have hvb : ((v : Int) != 0) = false := by rw [if_neg (by decide)] at hv2; subst hv2; rfl
  have hor := bits_or_u64_nat x b hx64 hb64
  obtain ⟨y, hy⟩ : ∃ y, x ||| b = y := ⟨_, rfl⟩
  rw [hy] at hor
  have HY := Hd.mk hy
  clear hv2 hy
  go_enter Tryd.func21, Tryd.ntmps21
  go_wp2_with (go_at_call 71; go_must (refine Calls.mono (bit_calls (some ⟨g, 0, none⟩) m c room n q b _ hn hr6 HQ.out HB.out) ?_; rintro e w2 ⟨rfl, hb2⟩; have hB2 := below_seq (below_alloc (Below.refl _ _) _) hb2; have hc2 := (Below.cell hB2 (p := ⟨g, q, none⟩) hgl).trans hc0; have hf2 : w2.frozen? ⟨g, q, none⟩ = false := (World.frozen?_of_block (hB2.block g hgl)).trans hfz; have hg2 : g < w2.heap.size := Nat.lt_of_lt_of_le hgl hB2.size; have he2 := blk_below (blk_new w (.cells #[.slice (some ⟨g, 0, none⟩) m c, .int .i64 room] 28) _ rfl) hb2; have he2c0 := blk_cell he2 0 _ rfl; have he2f0 := blk_frozen he2 0; have he2c1 := blk_cell he2 1 _ rfl; have he2f1 := blk_frozen he2 1; have he2l := blk_lt he2))
  go_ret
  refine ⟨rfl, Fr.set (X := fun k => k = g) (Fr.of_below hB2) (.inl rfl) q _, ?_⟩
  have := (HW.out.move (hB2.block g hgl)).set (y := y) HX.out
  unfold putB
  rwa [HGD.out, HB.out, HY.out, HQ.out]
theorem drop_yes (A : Option Addr) (c g room : Nat) (n : Nat) (ws : List Nat) (w : World) (hn : n < room) (hK : Wok room ws) (hW : Wd w A g ws) (hbv : bitAt ws n = true) :
    Calls Tryd.prog 22 #[.agg #[.slice A ws.length c, .int .i64 room], .int .i64 n] w fun e w' => e = .returned (.bool true) ∧ Fr (fun k => k = g) w w' ∧ Wd w' A g (dropB ws n) := by
  obtain ⟨x, hx, hx64, hbit⟩ := hK.at_ hn
  have hc0 := hW.cell hx
  obtain ⟨rfl, hblk⟩ := hW.at_ hx
  have hgl := hblk.lt
  have hfz := hblk.frozen (n / 64)
  have hlen := hK.place hn
  have hgetD : ws.getD (n / 64) 0 = x := by rw [List.getD_eq_getElem?_getD, hx]; rfl
  have hr6 := hK.small
  have hll := hK.len
  obtain ⟨q, hq⟩ : ∃ q, n / 64 = q := ⟨_, rfl⟩
  obtain ⟨b, hb⟩ : ∃ b, 2 ^ (n % 64) = b := ⟨_, rfl⟩
  have hb64 : b < 18446744073709551616 := by rw [← hb]; exact pow_lt n
  have hand := bits_and_u64_nat x b hx64 hb64
  obtain ⟨v, hv⟩ : ∃ v, x &&& b = v := ⟨_, rfl⟩
  rw [hv] at hand
  have hv2 : v = if x.testBit (n % 64) then b else 0 := by rw [← hv, ← hb]; exact and_bit x _
  rw [← hbit, hbv] at hv2
  obtain ⟨m, hm⟩ : ∃ m, ws.length = m := ⟨_, rfl⟩
  rw [hq] at hx hc0 hfz hlen
  rw [hm] at hlen ⊢
  have hm9 : m ≤ 2000 := by omega
  have HW := Hd.mk hW; have HK := Hd.mk hK; have HX := Hd.mk hx; have HQ := Hd.mk hq; have HB := Hd.mk hb; have HM := Hd.mk hm; have HGD := Hd.mk hgetD; have HBIT := Hd.mk hbit
  clear hW hK hx hq hb hm hgetD hbit hblk hbv hv hll
  have hvb : ((v : Int) == 0) = false := by rw [if_pos rfl] at hv2; have := Nat.two_pow_pos (n % 64); have := HB.out; simp; omega
  have hor := u64_andNot_nat x b hx64 hb64
  obtain ⟨y, hy⟩ : ∃ y, x &&& (18446744073709551615 - b) = y := ⟨_, rfl⟩
  rw [hy] at hor
  have HY := Hd.mk hy
  clear hv2 hy
  go_enter Tryd.func22, Tryd.ntmps22
  go_wp2_with (go_at_call 71; go_must (refine Calls.mono (bit_calls (some ⟨g, 0, none⟩) m c room n q b _ hn hr6 HQ.out HB.out) ?_; rintro e w2 ⟨rfl, hb2⟩; have hB2 := below_seq (below_alloc (Below.refl _ _) _) hb2; have hc2 := (Below.cell hB2 (p := ⟨g, q, none⟩) hgl).trans hc0; have hf2 : w2.frozen? ⟨g, q, none⟩ = false := (World.frozen?_of_block (hB2.block g hgl)).trans hfz; have hg2 : g < w2.heap.size := Nat.lt_of_lt_of_le hgl hB2.size; have he2 := blk_below (blk_new w (.cells #[.slice (some ⟨g, 0, none⟩) m c, .int .i64 room] 28) _ rfl) hb2; have he2c0 := blk_cell he2 0 _ rfl; have he2f0 := blk_frozen he2 0; have he2c1 := blk_cell he2 1 _ rfl; have he2f1 := blk_frozen he2 1; have he2l := blk_lt he2))
  go_ret
  refine ⟨rfl, Fr.set (X := fun k => k = g) (Fr.of_below hB2) (.inl rfl) q _, ?_⟩
  have := (HW.out.move (hB2.block g hgl)).set (y := y) HX.out
  unfold dropB
  rwa [HGD.out, HB.out, HY.out, HQ.out]
end Go.Proofs.YtbmpaokicphdjaaDoor.Fn
