/- Names among names; modes. -/
import Derived.Test.YtpcnekdilecakaaDoorW3
set_option linter.unusedVariables false
set_option linter.unusedSimpArgs false
namespace Go.Proofs.YtpcnekdilecakaaDoor.Tb
open Go Go.RowKit Go.Proofs.YtpcnekdilecakaaDoor.Can Go.Proofs.YtpcnekdilecakaaDoor.Base
attribute [local go_sem] clsB AB.cell

theorem cell_keep {w w1 : World} {b o : Nat} {v : Value} (h : w.cell? ⟨b, o, none⟩ = some v) (hb : Below w.heap.size w w1) (hl : b < w.heap.size) : w1.cell? ⟨b, o, none⟩ = some v := (World.cell?_of_block (w := w) (hb.block b hl)).trans h
theorem str_get {w : World} {S : Nat → Prop} {A : Option Addr} {n : Nat} {xs : List ByteArray} (h : Row Ty.str w S A n xs) (k : Nat) (hk : k < n) :
    ∃ b off s, A = some ⟨b, off, none⟩ ∧ b < w.heap.size ∧ S b ∧ xs[k]? = some s ∧ w.cell? ⟨b, off + k, none⟩ = some (.string s) := by
  obtain ⟨b, off, cs, he, hs, hr, hcell⟩ := h.get k hk
  have hr' : cs = [.string _] := hr
  subst hr'
  have h0 := hcell 0 _ rfl
  rw [show off + k * Ty.str.sz + 0 = off + k by show off + k * 1 + 0 = _; omega] at h0
  exact ⟨b, off, _, he, World.block_lt_of_cell? w _ h0, hs, List.getElem?_eq_getElem _, h0⟩
theorem str_beq (a b : ByteArray) : (a.toList == b.toList) = decide (a = b) := by
  rw [← Go.beq_toListBytes, Bool.eq_iff_iff, beq_iff_eq, decide_eq_true_eq]
/-- A name's place; below 0: nowhere. -/
def placeN (l : List ByteArray) (s : ByteArray) : Int := if s ∈ l then (l.idxOf s : Nat) else -1
set_option maxHeartbeats 1000000 in
theorem r17place_calls (A : Option Addr) (n c : Nat) (l : List ByteArray) (s : ByteArray) (S : Nat → Prop) (w : World) (hS : ∀ k, S k → k < w.heap.size) (hC : Row Ty.str w S A n l) :
    Calls Tryd.prog 52 #[.slice A n c, .string s] w fun e w' => e = .returned (.int .i64 (placeN l s)) ∧ Below w.heap.size w w' := by
  have hn := hC.le
  have HN := Hd.mk hC.1
  have HC := Hd.mk hC
  have HS := Hd.mk hS
  clear hC hS
  obtain ⟨x, hx⟩ : ∃ x, placeN l s = x := ⟨_, rfl⟩
  have HX := Hd.mk hx
  rw [hx]
  clear hx
  go_enter Tryd.func52, Tryd.ntmps52
  go_wp2
  go_loopw [5] (fun i wr => ∃ k : Nat, k ≤ n ∧ i = .int .i64 k ∧ Hd (s ∉ l.take k) ∧ Hd (Below w.heap.size w wr)) (fun i _ => n - (intOf i).toNat)
  case atStart => exact ⟨0, Nat.zero_le _, rfl, ⟨by simp⟩, ⟨Below.refl _ _⟩⟩
  case round =>
    obtain ⟨k, hk, rfl, HK, HB⟩ := hrel
    by_cases hlt : k < n
    · obtain ⟨b, off, t, rfl, hb, -, ht, hc⟩ := str_get (HC.out.below HS.out HB.out) k hlt
      have HT := Hd.mk ht
      clear ht
      by_cases he : t = s
      · subst he
        have h1 : (t.toList == t.toList) = true := by rw [str_beq]; exact decide_eq_true rfl
        obtain rfl : (k : Int) = x := by rw [← HX.out]; unfold placeN; rw [if_pos (List.mem_of_getElem? HT.out), idx_at HK.out HT.out]
        go_wp2
        go_ret
        exact ⟨rfl, HB.out⟩
      · have h1 : (t.toList == s.toList) = false := by rw [str_beq]; exact decide_eq_false he
        have h2 : (s.toList == t.toList) = false := by rw [str_beq]; exact decide_eq_false (Ne.symm he)
        have HE := Hd.mk he
        clear he
        go_wp2
        go_roundw
        case rel => exact ⟨k + 1, by omega, by go_num, ⟨by rw [Df.take_snoc HT.out, List.mem_append, List.mem_singleton]; exact fun h => h.elim HK.out fun h => HE.out h.symm⟩, HB⟩
        case measure => simp [intOf]; omega
    · obtain rfl : k = n := by omega
      obtain rfl : (-1 : Int) = x := by rw [← HX.out]; unfold placeN; rw [if_neg (by have := HK.out; rwa [Df.take_all HN.out] at this)]
      go_wp2
      go_ret
      exact ⟨rfl, HB.out⟩
set_option maxHeartbeats 1000000 in
theorem IxS_calls (A : Option Addr) (n c : Nat) (l : List ByteArray) (s : ByteArray) (S : Nat → Prop) (w : World) (hS : ∀ k, S k → k < w.heap.size) (hC : Row Ty.str w S A n l) :
    Calls Tryd.prog 56 #[.slice A n c, .string s] w fun e w' => e = .returned (.int .i64 (placeN l s)) ∧ Below w.heap.size w w' := by
  have hn := hC.le
  have HN := Hd.mk hC.1
  have HC := Hd.mk hC
  have HS := Hd.mk hS
  clear hC hS
  obtain ⟨x, hx⟩ : ∃ x, placeN l s = x := ⟨_, rfl⟩
  have HX := Hd.mk hx
  rw [hx]
  clear hx
  go_enter Tryd.func56, Tryd.ntmps56
  go_wp2
  go_loopw [8] (fun i wr => ∃ k : Nat, k ≤ n ∧ i = .int .i64 k ∧ Hd (s ∉ l.take k) ∧ Hd (Below w.heap.size w wr)) (fun i _ => n - (intOf i).toNat)
  case atStart => exact ⟨0, Nat.zero_le _, rfl, ⟨by simp⟩, ⟨Below.refl _ _⟩⟩
  case round =>
    obtain ⟨k, hk, rfl, HK, HB⟩ := hrel
    by_cases hlt : k < n
    · obtain ⟨b, off, t, rfl, hb, -, ht, hc⟩ := str_get (HC.out.below HS.out HB.out) k hlt
      have HT := Hd.mk ht
      clear ht
      by_cases he : t = s
      · subst he
        have h1 : (t.toList == t.toList) = true := by rw [str_beq]; exact decide_eq_true rfl
        obtain rfl : (k : Int) = x := by rw [← HX.out]; unfold placeN; rw [if_pos (List.mem_of_getElem? HT.out), idx_at HK.out HT.out]
        go_wp2
        go_ret
        exact ⟨rfl, HB.out⟩
      · have h1 : (t.toList == s.toList) = false := by rw [str_beq]; exact decide_eq_false he
        have h2 : (s.toList == t.toList) = false := by rw [str_beq]; exact decide_eq_false (Ne.symm he)
        have HE := Hd.mk he
        clear he
        go_wp2
        go_roundw
        case rel => exact ⟨k + 1, by omega, by go_num, ⟨by rw [Df.take_snoc HT.out, List.mem_append, List.mem_singleton]; exact fun h => h.elim HK.out fun h => HE.out h.symm⟩, HB⟩
        case measure => simp [intOf]; omega
    · obtain rfl : k = n := by omega
      obtain rfl : (-1 : Int) = x := by rw [← HX.out]; unfold placeN; rw [if_neg (by have := HK.out; rwa [Df.take_all HN.out] at this)]
      go_wp2
      go_ret
      exact ⟨rfl, HB.out⟩
theorem place_ne {l : List ByteArray} {k : Nat} {s : ByteArray} (h : l[k]? = some s) : (placeN l s == (k : Int)) = decide (l.idxOf s = k) := by
  unfold placeN
  rw [if_pos (List.mem_of_getElem? h), Bool.eq_iff_iff, decide_eq_true_eq, beq_iff_eq]
  omega

set_option maxHeartbeats 2000000 in
theorem rmodes_calls (A : Option Addr) (n c : Nat) (l : List ByteArray) (b : Bool) (S : Nat → Prop) (w : World) (hS : ∀ k, S k → k < w.heap.size) (hsz : ∀ s ∈ l, s.size ≤ 9223372036854775807) (hC : Row Ty.str w S A n l) (hb : modesB l = b) :
    Calls Tryd.prog 21 #[.slice A n c] w fun e w' => e = .returned (.bool b) ∧ Below w.heap.size w w' := by
  have hn := hC.le
  have HN := Hd.mk hC.1
  have HC := Hd.mk hC
  have HS := Hd.mk hS
  have HBb := Hd.mk hb
  clear hC hS hb
  go_enter Tryd.func21, Tryd.ntmps21
  go_wp2
  go_loopw [3] (fun i wr => ∃ k : Nat, k ≤ n ∧ i = .int .i64 k ∧ Hd (modesK l k) ∧ Hd (Below w.heap.size w wr)) (fun i _ => n - (intOf i).toNat)
  case atStart => exact ⟨0, Nat.zero_le _, rfl, ⟨modesK_zero _⟩, ⟨Below.refl _ _⟩⟩
  case round =>
    obtain ⟨k, hk, rfl, HK, HB⟩ := hrel
    by_cases hlt : k < n
    · obtain ⟨b9, off, t, rfl, hb9, -, ht, hc⟩ := str_get (HC.out.below HS.out HB.out) k hlt
      have HT := Hd.mk ht
      have HSZ : Hd (t.size ≤ 9223372036854775807) := ⟨hsz t (List.mem_of_getElem? ht)⟩
      have HP := Hd.mk (place_ne ht)
      clear ht
      cases hnm : nameB t with
      | false =>
        have HJ := Hd.mk (r04Name_calls wr t false hnm HSZ.out)
        obtain rfl : b = false := by rw [← HBb.out]; exact modes_no HT.out fun h => by rw [hnm] at h; exact absurd h.1 (by decide)
        clear hnm
        go_wp2_with (go_at_call 51; go_must (refine Calls.mono HJ.out ?_; rintro e w1 ⟨rfl, hb_⟩; have HB1 := Hd.mk (below_seq HB.out hb_); clear hb_))
        go_ret
        exact ⟨rfl, HB1.out⟩
      | true =>
        have HJ := Hd.mk (r04Name_calls wr t true hnm HSZ.out)
        have HNM := Hd.mk hnm
        clear hnm
        have HI : Hd (∀ w1, Below w.heap.size w w1 → Calls Tryd.prog 52 _ w1 _) := ⟨fun w1 hb => r17place_calls _ n c l t S w1 (fun k hk => Nat.lt_of_lt_of_le (HS.out k hk) hb.size) (HC.out.below HS.out hb)⟩
        obtain ⟨z, hz⟩ : ∃ z, placeN l t = z := ⟨_, rfl⟩
        rw [hz] at HP HI
        clear hz
        by_cases hi : l.idxOf t = k
        · have h1 : (z == (k : Int)) = true := by rw [HP.out]; exact decide_eq_true hi
          have h2 : (z != (k : Int)) = false := by show (!(z == (k : Int))) = false; rw [h1]; rfl
          have HI2 := Hd.mk hi
          clear hi
          go_wp2_with (first | (go_at_call 51; go_must (refine Calls.mono HJ.out ?_; rintro e w1 ⟨rfl, hb_⟩; have HB1 := Hd.mk (below_seq HB.out hb_); have hc := (cell_keep hc hb_ hb9); clear hb_)) | (go_at_call 52; go_must (refine Calls.mono (HI.out _ HB1.out) ?_; rintro e w2 ⟨rfl, hb_⟩; have HB2 := Hd.mk (below_seq HB1.out hb_); clear hb_)))
          go_roundw
          case rel => exact ⟨k + 1, by omega, by go_num, ⟨modesK_succ HK.out HT.out HNM.out HI2.out⟩, HB2⟩
          case measure => simp [intOf]; omega
        · have h1 : (z == (k : Int)) = false := by rw [HP.out]; exact decide_eq_false hi
          have h2 : (z != (k : Int)) = true := by show (!(z == (k : Int))) = true; rw [h1]; rfl
          obtain rfl : b = false := by rw [← HBb.out]; exact modes_no HT.out fun h => hi h.2
          clear hi
          go_wp2_with (first | (go_at_call 51; go_must (refine Calls.mono HJ.out ?_; rintro e w1 ⟨rfl, hb_⟩; have HB1 := Hd.mk (below_seq HB.out hb_); have hc := (cell_keep hc hb_ hb9); clear hb_)) | (go_at_call 52; go_must (refine Calls.mono (HI.out _ HB1.out) ?_; rintro e w2 ⟨rfl, hb_⟩; have HB2 := Hd.mk (below_seq HB1.out hb_); clear hb_)))
          go_ret
          exact ⟨rfl, HB2.out⟩
    · obtain rfl : k = n := by omega
      obtain rfl : b = true := by rw [← HBb.out]; exact (modes_iff l).2 (by rw [HN.out]; exact HK.out)
      go_wp2
      go_ret
      exact ⟨rfl, HB.out⟩
set_option maxHeartbeats 2000000 in
theorem modes_calls (A : Option Addr) (n c : Nat) (l : List ByteArray) (b : Bool) (S : Nat → Prop) (w : World) (hS : ∀ k, S k → k < w.heap.size) (hsz : ∀ s ∈ l, s.size ≤ 9223372036854775807) (hC : Row Ty.str w S A n l) (hb : (decide (1 ≤ l.length) && decide (l.length ≤ 16) && modesB l) = b) :
    Calls Tryd.prog 25 #[.slice A n c] w fun e w' => e = .returned (.bool b) ∧ Below w.heap.size w w' := by
  have hn := hC.le
  have HN := Hd.mk hC.1
  have HC := Hd.mk hC
  have HS := Hd.mk hS
  rw [hC.1] at hb
  clear hC hS
  by_cases h1 : 1 ≤ n
  · by_cases h2 : n ≤ 16
    · rw [decide_eq_true h1, decide_eq_true h2, Bool.true_and, Bool.true_and] at hb
      have HBb := Hd.mk hb
      clear hb
      go_enter Tryd.func25, Tryd.ntmps25
      go_wp2
      go_loopw [15] (fun i wr => ∃ k : Nat, k ≤ n ∧ i = .int .i64 k ∧ Hd (modesK l k) ∧ Hd (Below w.heap.size w wr)) (fun i _ => n - (intOf i).toNat)
      case atStart => exact ⟨0, Nat.zero_le _, rfl, ⟨modesK_zero _⟩, ⟨Below.refl _ _⟩⟩
      case round =>
        obtain ⟨k, hk, rfl, HK, HB⟩ := hrel
        by_cases hlt : k < n
        · obtain ⟨b9, off, t, rfl, hb9, -, ht, hc⟩ := str_get (HC.out.below HS.out HB.out) k hlt
          have HT := Hd.mk ht
          have HSZ : Hd (t.size ≤ 9223372036854775807) := ⟨hsz t (List.mem_of_getElem? ht)⟩
          have HP := Hd.mk (place_ne ht)
          clear ht
          cases hnm : nameB t with
          | false =>
            have HJ := Hd.mk (wName_calls wr t false hnm HSZ.out)
            obtain rfl : b = false := by rw [← HBb.out]; exact modes_no HT.out fun h => by rw [hnm] at h; exact absurd h.1 (by decide)
            clear hnm
            go_wp2_with (go_at_call 55; go_must (refine Calls.mono HJ.out ?_; rintro e w1 ⟨rfl, hb_⟩; have HB1 := Hd.mk (below_seq HB.out hb_); clear hb_))
            go_ret
            exact ⟨rfl, HB1.out⟩
          | true =>
            have HJ := Hd.mk (wName_calls wr t true hnm HSZ.out)
            have HNM := Hd.mk hnm
            clear hnm
            have HI : Hd (∀ w1, Below w.heap.size w w1 → Calls Tryd.prog 56 _ w1 _) := ⟨fun w1 hb => IxS_calls _ n c l t S w1 (fun k hk => Nat.lt_of_lt_of_le (HS.out k hk) hb.size) (HC.out.below HS.out hb)⟩
            obtain ⟨z, hz⟩ : ∃ z, placeN l t = z := ⟨_, rfl⟩
            rw [hz] at HP HI
            clear hz
            by_cases hi : l.idxOf t = k
            · have h1 : (z == (k : Int)) = true := by rw [HP.out]; exact decide_eq_true hi
              have h2 : (z != (k : Int)) = false := by show (!(z == (k : Int))) = false; rw [h1]; rfl
              have HI2 := Hd.mk hi
              clear hi
              go_wp2_with (first | (go_at_call 55; go_must (refine Calls.mono HJ.out ?_; rintro e w1 ⟨rfl, hb_⟩; have HB1 := Hd.mk (below_seq HB.out hb_); have hc := (cell_keep hc hb_ hb9); clear hb_)) | (go_at_call 56; go_must (refine Calls.mono (HI.out _ HB1.out) ?_; rintro e w2 ⟨rfl, hb_⟩; have HB2 := Hd.mk (below_seq HB1.out hb_); clear hb_)))
              go_roundw
              case rel => exact ⟨k + 1, by omega, by go_num, ⟨modesK_succ HK.out HT.out HNM.out HI2.out⟩, HB2⟩
              case measure => simp [intOf]; omega
            · have h1 : (z == (k : Int)) = false := by rw [HP.out]; exact decide_eq_false hi
              have h2 : (z != (k : Int)) = true := by show (!(z == (k : Int))) = true; rw [h1]; rfl
              obtain rfl : b = false := by rw [← HBb.out]; exact modes_no HT.out fun h => hi h.2
              clear hi
              go_wp2_with (first | (go_at_call 55; go_must (refine Calls.mono HJ.out ?_; rintro e w1 ⟨rfl, hb_⟩; have HB1 := Hd.mk (below_seq HB.out hb_); have hc := (cell_keep hc hb_ hb9); clear hb_)) | (go_at_call 56; go_must (refine Calls.mono (HI.out _ HB1.out) ?_; rintro e w2 ⟨rfl, hb_⟩; have HB2 := Hd.mk (below_seq HB1.out hb_); clear hb_)))
              go_ret
              exact ⟨rfl, HB2.out⟩
        · obtain rfl : k = n := by omega
          obtain rfl : b = true := by rw [← HBb.out]; exact (modes_iff l).2 (by rw [HN.out]; exact HK.out)
          go_wp2
          go_ret
          exact ⟨rfl, HB.out⟩
    · obtain rfl : b = false := by rw [← hb, decide_eq_false h2]; simp
      clear hb
      go_enter Tryd.func25, Tryd.ntmps25
      go_wp2
      go_ret
      exact ⟨rfl, Below.refl _ _⟩
  · obtain rfl : b = false := by rw [← hb, decide_eq_false h1]; simp
    clear hb
    go_enter Tryd.func25, Tryd.ntmps25
    go_wp2
    go_ret
    exact ⟨rfl, Below.refl _ _⟩
end Go.Proofs.YtpcnekdilecakaaDoor.Tb
