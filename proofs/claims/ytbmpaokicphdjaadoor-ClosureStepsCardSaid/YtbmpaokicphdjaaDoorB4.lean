/- Add at any number; Of. -/
import Derived.Test.YtbmpaokicphdjaaDoorB3
namespace Go.Proofs.YtbmpaokicphdjaaDoor.Fn
open Go Go.RowKit Go.Proofs.YtbmpaokicphdjaaDoor.Can Go.Proofs.YtbmpaokicphdjaaDoor.Base
attribute [local go_sem] clsB AB.cell
abbrev I := Ty.int .i64

theorem Wd.below {w w' : World} {A : Option Addr} {g : Nat} {ws : List Nat} (h : Wd w A g ws) (hb : Below w.heap.size w w') : Wd w' A g ws := by
  rcases h with h | ⟨h1, h2⟩
  · exact .inl h
  · exact .inr ⟨h1, h2.below hb⟩
theorem Wd.fr {w w' : World} {A : Option Addr} {g : Nat} {ws : List Nat} {X : Nat → Prop} (h : Wd w A g ws) (hf : Fr X w w') (hX : ¬ X g) : Wd w' A g ws := by
  rcases h with h | ⟨h1, h2⟩
  · exact .inl h
  · exact .inr ⟨h1, h2.fr hf hX⟩
def inR (room : Nat) (n : Int) : Prop := 0 ≤ n ∧ n < room
instance (room : Nat) (n : Int) : Decidable (inR room n) := by unfold inR; infer_instance
def addW (room : Nat) (ws : List Nat) (n : Int) : List Nat := if inR room n then putB ws n.toNat else ws
def addO (room : Nat) (ws : List Nat) (n : Int) : Bool := decide (inR room n) && !bitAt ws n.toNat
def dropW (room : Nat) (ws : List Nat) (n : Int) : List Nat := if inR room n then dropB ws n.toNat else ws
def dropO (room : Nat) (ws : List Nat) (n : Int) : Bool := decide (inR room n) && bitAt ws n.toNat
def hasO (room : Nat) (ws : List Nat) (n : Int) : Bool := decide (inR room n) && bitAt ws n.toNat
theorem putB_old {ws : List Nat} {n : Nat} (h : bitAt ws n = true) : putB ws n = ws := by
  unfold putB
  apply List.ext_getElem?
  intro i
  rw [List.getElem?_set]
  split
  · rename_i h1
    subst h1
    split
    · rename_i h2
      have hg : ws.getD (n / 64) 0 = ws[n / 64] := by rw [List.getD_eq_getElem?_getD, List.getElem?_eq_getElem h2]; rfl
      rw [List.getElem?_eq_getElem h2, ← hg]
      congr 1
      apply Nat.eq_of_testBit_eq
      intro j
      rw [Nat.testBit_or, Nat.testBit_two_pow]
      by_cases hj : n % 64 = j
      · subst hj
        have : (ws.getD (n / 64) 0).testBit (n % 64) = true := h
        rw [this]; rfl
      · rw [decide_eq_false hj, Bool.or_false]
    · rename_i h2
      rw [List.getElem?_eq_none (by omega)]
  · rfl
theorem dropB_no {ws : List Nat} {n : Nat} (hl : ∀ x ∈ ws, x < 18446744073709551616) (h : bitAt ws n = false) : dropB ws n = ws := by
  unfold dropB
  apply List.ext_getElem?
  intro i
  rw [List.getElem?_set]
  split
  · rename_i h1
    subst h1
    split
    · rename_i h2
      have hg : ws.getD (n / 64) 0 = ws[n / 64] := by rw [List.getD_eq_getElem?_getD, List.getElem?_eq_getElem h2]; rfl
      have hx := hl _ (List.getElem_mem h2)
      rw [List.getElem?_eq_getElem h2, ← hg]
      rw [← hg] at hx
      congr 1
      apply Nat.eq_of_testBit_eq
      intro j
      have hp := pow_lt n
      have e : 18446744073709551615 - 2 ^ (n % 64) = 2 ^ 64 - (2 ^ (n % 64) + 1) := by omega
      rw [Nat.testBit_and, e, Nat.testBit_two_pow_sub_succ (by omega), Nat.testBit_two_pow]
      by_cases hj : n % 64 = j
      · subst hj
        have : (ws.getD (n / 64) 0).testBit (n % 64) = false := h
        rw [this]; rfl
      · rw [decide_eq_false hj, Bool.not_false, Bool.and_true]
        by_cases hj2 : j < 64
        · rw [decide_eq_true hj2, Bool.and_true]
        · rw [decide_eq_false hj2, Bool.and_false]
          exact (Nat.testBit_lt_two_pow (Nat.lt_of_lt_of_le hx (by have : (2 : Nat) ^ 64 ≤ 2 ^ j := Nat.pow_le_pow_right (by decide) (by omega); simpa using this))).symm
    · rename_i h2
      rw [List.getElem?_eq_none (by omega)]
  · rfl
theorem Wok.add {room : Nat} {ws : List Nat} (h : Wok room ws) (n : Int) : Wok room (addW room ws n) := by
  unfold addW
  split
  · rename_i hn; exact h.put (by unfold inR at hn; omega)
  · exact h
theorem Wok.less {room : Nat} {ws : List Nat} (h : Wok room ws) (n : Int) : Wok room (dropW room ws n) := by
  unfold dropW
  split
  · rename_i hn; exact h.drop (by unfold inR at hn; omega)
  · exact h
theorem Wok.fold {room : Nat} {ws : List Nat} (h : Wok room ws) (l : List Int) : Wok room (l.foldl (addW room) ws) := by
  induction l generalizing ws with
  | nil => exact h
  | cons n l ih => exact ih (h.add n)
theorem bit_add {room : Nat} {ws : List Nat} (h : Wok room ws) (n : Int) (k : Nat) : bitAt (addW room ws n) k = (bitAt ws k || decide (inR room n ∧ (k : Int) = n)) := by
  unfold addW
  by_cases hn : inR room n
  · rw [if_pos hn, bit_put ws n.toNat k (h.place (by unfold inR at hn; omega))]
    congr 1
    unfold inR at hn
    by_cases hk : k = n.toNat
    · rw [decide_eq_true hk, decide_eq_true (by unfold inR; omega)]
    · rw [decide_eq_false hk, decide_eq_false (by omega)]
  · rw [if_neg hn, decide_eq_false (fun h => hn h.1), Bool.or_false]
theorem bit_less {room : Nat} {ws : List Nat} (h : Wok room ws) (n : Int) (k : Nat) : bitAt (dropW room ws n) k = (bitAt ws k && !decide ((k : Int) = n)) := by
  unfold dropW
  by_cases hn : inR room n
  · rw [if_pos hn, bit_drop ws n.toNat k (h.place (by unfold inR at hn; omega))]
    congr 2
    unfold inR at hn
    by_cases hk : k = n.toNat
    · rw [decide_eq_true hk, decide_eq_true (by omega)]
    · rw [decide_eq_false hk, decide_eq_false (by omega)]
  · rw [if_neg hn]
    by_cases hk : (k : Int) = n
    · rw [h.top k (by unfold inR at hn; omega)]; rfl
    · rw [decide_eq_false hk, Bool.not_false, Bool.and_true]
theorem out_of {room : Nat} {n : Int} (h : ¬ inR room n) : outR room n := by unfold inR at h; unfold outR; omega
theorem add_calls (A : Option Addr) (c g room : Nat) (n : Int) (ws : List Nat) (w : World) (hK : Wok room ws) (hW : Wd w A g ws) :
    Calls Tryd.prog 21 #[.agg #[.slice A ws.length c, .int .i64 room], .int .i64 n] w fun e w' => e = .returned (.bool (addO room ws n)) ∧ Fr (fun k => k = g ∧ ws ≠ []) w w' ∧ Wd w' A g (addW room ws n) := by
  by_cases hn : inR room n
  · have hO : addO room ws n = (!bitAt ws n.toNat) := by unfold addO; rw [decide_eq_true hn, Bool.true_and]
    have hWW : addW room ws n = putB ws n.toNat := by unfold addW; exact if_pos hn
    rw [hO, hWW]
    obtain ⟨k, rfl⟩ : ∃ k : Nat, n = (k : Int) := ⟨n.toNat, by unfold inR at hn; omega⟩
    have hk : k < room := by unfold inR at hn; omega
    rw [Int.toNat_natCast]
    cases hb : bitAt ws k with
    | true =>
      refine Calls.mono (add_old A c g room k ws w hk hK hW hb) ?_
      rintro e w' ⟨rfl, h⟩
      exact ⟨rfl, Fr.of_below h, by rw [putB_old hb]; exact hW.below h⟩
    | _ =>
      refine Calls.mono (add_new A c g room k ws w hk hK hW hb) ?_
      rintro e w' ⟨rfl, h, h2⟩
      exact ⟨rfl, h.mono fun b hb => ⟨hb, fun h0 => by have := hK.place hk; rw [h0] at this; simp at this⟩, h2⟩
  · have hO : addO room ws n = false := by unfold addO; rw [decide_eq_false hn, Bool.false_and]
    have hWW : addW room ws n = ws := by unfold addW; exact if_neg hn
    rw [hO, hWW]
    refine Calls.mono (add_out A ws.length c room n w (out_of hn) hK.small) ?_
    rintro e w' ⟨rfl, h⟩
    exact ⟨rfl, Fr.of_below h, hW.below h⟩
theorem less_calls (A : Option Addr) (c g room : Nat) (n : Int) (ws : List Nat) (w : World) (hK : Wok room ws) (hW : Wd w A g ws) :
    Calls Tryd.prog 22 #[.agg #[.slice A ws.length c, .int .i64 room], .int .i64 n] w fun e w' => e = .returned (.bool (dropO room ws n)) ∧ Fr (fun k => k = g ∧ ws ≠ []) w w' ∧ Wd w' A g (dropW room ws n) := by
  by_cases hn : inR room n
  · have hO : dropO room ws n = (bitAt ws n.toNat) := by unfold dropO; rw [decide_eq_true hn, Bool.true_and]
    have hWW : dropW room ws n = dropB ws n.toNat := by unfold dropW; exact if_pos hn
    rw [hO, hWW]
    obtain ⟨k, rfl⟩ : ∃ k : Nat, n = (k : Int) := ⟨n.toNat, by unfold inR at hn; omega⟩
    have hk : k < room := by unfold inR at hn; omega
    rw [Int.toNat_natCast]
    cases hb : bitAt ws k with
    | false =>
      refine Calls.mono (drop_no A c g room k ws w hk hK hW hb) ?_
      rintro e w' ⟨rfl, h⟩
      exact ⟨rfl, Fr.of_below h, by rw [dropB_no hK.lt hb]; exact hW.below h⟩
    | _ =>
      refine Calls.mono (drop_yes A c g room k ws w hk hK hW hb) ?_
      rintro e w' ⟨rfl, h, h2⟩
      exact ⟨rfl, h.mono fun b hb => ⟨hb, fun h0 => by have := hK.place hk; rw [h0] at this; simp at this⟩, h2⟩
  · have hO : dropO room ws n = false := by unfold dropO; rw [decide_eq_false hn, Bool.false_and]
    have hWW : dropW room ws n = ws := by unfold dropW; exact if_neg hn
    rw [hO, hWW]
    refine Calls.mono (drop_out A ws.length c room n w (out_of hn) hK.small) ?_
    rintro e w' ⟨rfl, h⟩
    exact ⟨rfl, Fr.of_below h, hW.below h⟩
theorem in_calls (A : Option Addr) (c g room : Nat) (n : Int) (ws : List Nat) (w : World) (hK : Wok room ws) (hW : Wd w A g ws) :
    Calls Tryd.prog 24 #[.agg #[.slice A ws.length c, .int .i64 room], .int .i64 n] w fun e w' => e = .returned (.bool (hasO room ws n)) ∧ Below w.heap.size w w' := by
  by_cases hn : inR room n
  · have hO : hasO room ws n = bitAt ws n.toNat := by unfold hasO; rw [decide_eq_true hn, Bool.true_and]
    rw [hO]
    obtain ⟨k, rfl⟩ : ∃ k : Nat, n = (k : Int) := ⟨n.toNat, by unfold inR at hn; omega⟩
    have hk : k < room := by unfold inR at hn; omega
    rw [Int.toNat_natCast]
    exact has_calls A c g room k ws _ w hk hK hW rfl
  · have hO : hasO room ws n = false := by unfold hasO; rw [decide_eq_false hn, Bool.false_and]
    rw [hO]
    exact has_out A ws.length c room n w (out_of hn) hK.small
theorem addW_len (room : Nat) (ws : List Nat) (n : Int) : (addW room ws n).length = ws.length := by
  unfold addW putB; split <;> simp
theorem foldW_len (room : Nat) (l : List Int) (ws : List Nat) : (l.foldl (addW room) ws).length = ws.length := by
  induction l generalizing ws with
  | nil => rfl
  | cons n l ih => rw [List.foldl_cons, ih, addW_len]
/-- The words of a set of these numbers. -/
def ofW (room : Nat) (l : List Int) : List Nat := l.foldl (addW room) (List.replicate ((room + 63) / 64) 0)
theorem ofW_ok {room : Nat} (h : room ≤ 65536) (l : List Int) : Wok room (ofW room l) := (Wok.made h).fold l
theorem ofW_len (room : Nat) (l : List Int) : (ofW room l).length = (room + 63) / 64 := by unfold ofW; rw [foldW_len, List.length_replicate]
theorem ofW_snoc (room : Nat) (l : List Int) (n : Int) : ofW room (l ++ [n]) = addW room (ofW room l) n := by simp [ofW]
set_option maxHeartbeats 1000000 in
theorem of_calls (r : Int) (A : Option Addr) (n c : Nat) (L : List Int) (S : Nat → Prop) (w : World) (hS : ∀ k, S k → k < w.heap.size) (hC : Row I w S A n L) :
    Calls Tryd.prog 15 #[.int .i64 r, .slice A n c] w fun e w' => ∃ g, e = .returned (.agg #[.slice (some ⟨g, 0, none⟩) ((roomR r + 63) / 64) ((roomR r + 63) / 64), .int .i64 (roomR r)]) ∧ w.heap.size ≤ g ∧ g < w'.heap.size ∧ Wd w' (some ⟨g, 0, none⟩) g (ofW (roomR r) L) ∧ Below w.heap.size w w' := by
  have hm6 := roomR_le r
  have hn := hC.le
  obtain ⟨m, hm⟩ : ∃ m, roomR r = m := ⟨_, rfl⟩
  have h7 := new_calls r
  rw [hm] at hm6 h7 ⊢
  obtain ⟨K, hK⟩ : ∃ K, (m + 63) / 64 = K := ⟨_, rfl⟩
  rw [hK] at h7 ⊢
  have H7 := Hd.mk h7; have HK := Hd.mk hK; have HS := Hd.mk hS; have HC := Hd.mk hC; have HM := Hd.mk hm6
  clear h7 hK hm hS hC hm6
  go_enter Tryd.func15, Tryd.ntmps15
  go_wp2_with (go_at_call 27; go_must (refine Calls.mono (H7.out _) ?_; rintro e w1 ⟨g, rfl, hg, hgl, hwd, hb1⟩; have he4 := blk_below (blk_new w (.cells #[.slice none 0 0, .int .i64 0] 28) _ rfl) hb1))
  have hz1 := hb1.size
  rw [size_alloc] at hg hz1
  have hbw := below_seq (below_alloc (Below.refl w.heap.size w) (.cells #[.slice none 0 0, .int .i64 0] 28)) hb1
  generalize hV : World.alloc w1 _ = V
  have hv4 : V.heap[w.heap.size]? = some (.cells #[.slice none 0 0, .int .i64 0] 28 (0, 0)) := by rw [← hV]; exact blk_alloc he4 _
  have hv5 : V.heap[w1.heap.size]? = some (.cells #[.slice (some ⟨g, 0, none⟩) K K, .int .i64 m] 28 (0, 0)) := by rw [← hV]; exact blk_new _ _ _ rfl
  have HWd : Hd (Wd V (some ⟨g, 0, none⟩) g (ofW m (L.take 0))) := ⟨by rw [← hV]; unfold ofW; rw [HK.out]; exact hwd.below (below_alloc (Below.refl _ _) _)⟩
  have HBV : Hd (Below w.heap.size w V) := ⟨by rw [← hV]; exact below_alloc hbw _⟩
  have hne4 : ¬ w.heap.size = g := by omega
  have hg1 : ¬ w1.heap.size = g := by omega
  have hgp : w.heap.size ≤ g := by omega
  have hwp : w.heap.size ≤ w1.heap.size := by omega
  have hw5 : ¬ w.heap.size = w1.heap.size := by omega
  have hgV : g < V.heap.size := by rw [← hV, size_alloc]; omega
  have HV4 := Hd.mk hv4; have HV5 := Hd.mk hv5
  clear hV he4 hwd hb1 hbw hv4 hv5 hgl hg hz1
  generalize w1.heap.size = p5 at *
  go_loopw [12] (fun i wr => ∃ k : Nat, k ≤ n ∧ i = .int .i64 k ∧ Hd (Wd wr (some ⟨g, 0, none⟩) g (ofW m (L.take k))) ∧ Hd (Fr (fun b => b = g) V wr)) (fun i _ => n - (intOf i).toNat)
  case atStart => exact ⟨0, Nat.zero_le _, rfl, HWd, ⟨Fr.refl _ _⟩⟩
  case round =>
    clear HWd
    obtain ⟨k, hk, rfl, HW, HF⟩ := hrel
    have hq5 := HF.out.blk HV5.out hg1
    by_cases hlt : k < n
    · obtain ⟨b, off, x, rfl, _, hb, hx, hcell⟩ := (HC.out.below HS.out (HBV.out.trans (HF.out.below HBV.out.size (fun b hb hx => by have hx' : b = g := hx; omega)))).get_int k hlt
      have HT : Hd (L.take (k + 1) = L.take k ++ [x]) := ⟨by rw [List.take_add_one, hx]; rfl⟩
      have HWK : Hd (Wok m (ofW m (L.take k)) ∧ (ofW m (L.take k)).length = K) := ⟨ofW_ok HM.out _, by rw [ofW_len, HK.out]⟩
      clear hx
      have hq5c0 := blk_cell hq5 0 _ rfl; have hq5f0 := blk_frozen hq5 0; have hq5c1 := blk_cell hq5 1 _ rfl; have hq5f1 := blk_frozen hq5 1; have hq5l := blk_lt hq5
      go_wp2_with (go_at_call 21; go_must (have h9 := add_calls (some ⟨g, 0, none⟩) K g m x (ofW m (L.take k)) wr HWK.out.1 HW.out; rw [HWK.out.2] at h9; refine Calls.mono h9 ?_; clear h9; rintro e w2 ⟨rfl, hf2, hw2⟩; have HF2 := Hd.mk (hf2.mono (Y := fun k => k = g) (fun _ h => h.1)); have HW2 := Hd.mk hw2; clear hf2 hw2))
      go_roundw
      case rel => exact ⟨k + 1, by omega, by go_num, ⟨by rw [HT.out, ofW_snoc]; exact HW2.out⟩, ⟨HF.out.trans HF2.out⟩⟩
      case measure => simp [intOf]; omega
    · obtain rfl : k = n := by omega
      have hq4 := HF.out.blk HV4.out hne4
      have HT : Hd (L.take k = L) := ⟨by rw [← HC.out.1, List.take_length]⟩
      have hq5c0 := blk_cell hq5 0 _ rfl; have hq5f0 := blk_frozen hq5 0; have hq5c1 := blk_cell hq5 1 _ rfl; have hq5f1 := blk_frozen hq5 1; have hq5l := blk_lt hq5
      have hq4c0 := blk_cell hq4 0 _ rfl; have hq4f0 := blk_frozen hq4 0; have hq4c1 := blk_cell hq4 1 _ rfl; have hq4f1 := blk_frozen hq4 1; have hq4l := blk_lt hq4
      go_wp2
      refine bodyPost_ret (results_cell_row rfl _ _ w.heap.size 28 #[.slice (some ⟨g, 0, none⟩) K K, .int .i64 m] (0, 0) _ rfl (blk_set (blk_set hq4 0 _ _ rfl) 1 _ _ rfl) Tryd.underlying28 rfl (by kernel_rfl)) rfl ?_
      have hW := HW.out
      rw [HT.out] at hW
      have hfr := Fr.set (X := fun b => b = w.heap.size) (Fr.set (X := fun b => b = w.heap.size) (Fr.refl _ wr) (.inl rfl) 0 (.slice (some ⟨g, 0, none⟩) K K)) (.inl rfl) 1 (.int .i64 m)
      refine ⟨g, rfl, hgp, by have := HF.out.size; have := hfr.size; omega, hW.fr hfr (Ne.symm hne4), ?_⟩
      exact (HBV.out.trans (HF.out.below HBV.out.size (fun b hb hx => by have hx' : b = g := hx; omega))).trans (hfr.below (by have := HF.out.size; have := HBV.out.size; omega) (fun b hb hx => by have hx' : b = w.heap.size := hx; omega))
end Go.Proofs.YtbmpaokicphdjaaDoor.Fn
