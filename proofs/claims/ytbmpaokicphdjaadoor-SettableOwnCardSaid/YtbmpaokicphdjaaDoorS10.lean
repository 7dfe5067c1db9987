/- The law's numbers; the reference's Find and Room. -/
import Derived.Test.YtbmpaokicphdjaaDoorS9
namespace Go.Proofs.YtbmpaokicphdjaaDoor.Fn
open Go Go.RowKit Go.Proofs.YtbmpaokicphdjaaDoor.Can Go.Proofs.YtbmpaokicphdjaaDoor.Base
attribute [local go_sem] clsB AB.cell

theorem rroomS_calls (n : Int) (w : World) : Calls Tryd.prog 37 #[.int .i64 n] w fun e w' => e = .returned (.int .i64 (roomS n)) ∧ w' = w := by
  obtain ⟨m, hm⟩ : ∃ m, roomS n = m := ⟨_, rfl⟩
  have HM := Hd.mk hm
  rw [hm]
  clear hm
  by_cases h0 : n < 1
  · obtain rfl : m = 1 := by rw [← HM.out]; unfold roomS; rw [if_pos h0]
    go_enter Tryd.func37, Tryd.ntmps37
    go_wp2
    go_ret
    exact ⟨rfl, rfl⟩
  · by_cases h1 : 65536 < n
    · obtain rfl : m = 65536 := by rw [← HM.out]; unfold roomS; rw [if_neg h0, if_pos h1]
      go_enter Tryd.func37, Tryd.ntmps37
      go_wp2
      go_ret
      exact ⟨rfl, rfl⟩
    · obtain rfl : n = (m : Int) := by rw [← HM.out]; unfold roomS; rw [if_neg h0, if_neg h1]; omega
      go_enter Tryd.func37, Tryd.ntmps37
      go_wp2
      go_ret
      exact ⟨rfl, rfl⟩
theorem of_nil (r : Nat) (hr : r ≤ 65536) : elemsI (ofW r []) = [] := by
  refine List.eq_nil_iff_forall_not_mem.2 fun x hx => ?_
  have := ((mem_elemsI (ofW_ok hr []) x).1 hx).2
  unfold ofW at this
  rw [List.foldl_nil, made_bit _ _ hr] at this
  cases this
theorem numbers_calls (r : Nat) (hr : r ≤ 255) (A : Option Addr) (n c : Nat) (L : List Int) (S : Nat → Prop) (w : World) (hS : ∀ k, S k → k < w.heap.size) (hC : Row I w S A n L) :
    Calls Tryd.prog 34 #[.int .u8 r, .slice A n c] w fun e w' => ∃ A' n' c', e = .returned (.slice A' n' c') ∧ Lst w' (fun q => w.heap.size ≤ q ∧ q < w'.heap.size) A' n' c' (elemsI (ofW r L)) ∧ Below w.heap.size w w' := by
  have hn := hC.le
  have HS := Hd.mk hS; have HC := Hd.mk hC
  clear hS hC
  go_enter Tryd.func34, Tryd.ntmps34
  go_wp2
  go_loopw [5, 10] (fun v i wr => ∃ (k n9 c9 : Nat) (A9 : Option Addr), k ≤ n ∧ i = .int .i64 k ∧ v = .slice A9 n9 c9 ∧ Hd (Below w.heap.size w wr) ∧ Hd (Lst wr (fun q => w.heap.size ≤ q ∧ q < wr.heap.size) A9 n9 c9 (elemsI (ofW r (L.take k))))) (fun _ i _ => n - (intOf i).toNat)
  case atStart => exact ⟨0, 0, 0, none, Nat.zero_le _, rfl, rfl, ⟨Below.refl _ _⟩, ⟨by rw [List.take_zero, of_nil r (by omega)]; exact ⟨Row.nil _ _ _ _, Nat.le_refl _, fun _ => rfl⟩⟩⟩
  case round =>
    obtain ⟨k, n9, c9, A9, hk, rfl, rfl, HB, HL⟩ := hrel
    by_cases hlt : k < n
    · obtain ⟨b, off, x, rfl, _, hb, hx, hcell⟩ := (HC.out.below HS.out HB.out).get_int k hlt
      have HT : Hd (L.take (k + 1) = L.take k ++ [x]) := ⟨by rw [List.take_add_one, hx]; rfl⟩
      have HK9 : Hd (Wok r (ofW r (L.take k))) := ⟨ofW_ok (by omega) _⟩
      clear hx
      go_wp2_with (go_at_call 16; go_must (refine Calls.mono (radd_calls A9 n9 c9 r (ofW r (L.take k)) x _ wr (fun q hq => hq.2) HL.out HK9.out) ?_; rintro e w2 ⟨A4, n4, c4, rfl, hl4, hb4⟩; have HL4 := Hd.mk hl4; have HB4 := Hd.mk hb4; clear hl4 hb4))
      go_roundw
      case rel =>
        exact ⟨k + 1, n4, c4, A4, by omega, by go_num, rfl, ⟨below_seq HB.out HB4.out⟩, ⟨by
          rw [HT.out, ofW_snoc]
          exact HL4.out.mono fun q hq => by
            have := HB4.out.size; have := HB.out.size
            rcases hq with hq | hq
            · exact ⟨hq.1, by omega⟩
            · exact ⟨by omega, hq.2⟩⟩⟩
      case measure => simp [intOf]; omega
    · obtain rfl : k = n := by omega
      go_wp2
      go_ret
      refine ⟨A9, n9, c9, rfl, ?_, HB.out⟩
      have := HL.out
      rwa [← HC.out.1, List.take_length] at this
abbrev rowT : Ty (List Int) := Ty.slice I (by decide)
theorem row_get {w : World} {S : Nat → Prop} {A : Option Addr} {n : Nat} {l : List (List Int)} (h : Row rowT w S A n l) (k : Nat) (hk : k < n) :
    ∃ b off x A' c', A = some ⟨b, off, none⟩ ∧ b < w.heap.size ∧ l[k]? = some x ∧ w.cell? ⟨b, off + k, none⟩ = some (.slice A' x.length c') ∧ Row I w S A' x.length x := by
  obtain ⟨b, off, cs, he, hs, ⟨A', c', rfl, _, _, hr⟩, hcell⟩ := h.get k hk
  have q0 := hcell 0 _ rfl
  have h1 : off + k * rowT.sz + 0 = off + k := by show off + k * 1 + 0 = _; omega
  rw [h1] at q0
  exact ⟨b, off, _, A', c', he, World.block_lt_of_cell? w _ q0, List.getElem?_eq_getElem _, q0, hr⟩
theorem rfind_some (A : Option Addr) (n c : Nat) (L : List (List Int)) (A2 : Option Addr) (n2 c2 : Nat) (x : List Int) (m : Nat) (S S2 : Nat → Prop) (w : World) (hS : ∀ k, S k → k < w.heap.size) (hS2 : ∀ k, S2 k → k < w.heap.size) (hC : Row rowT w S A n L) (h2 : Row I w S2 A2 n2 x) (hm : L[m]? = some x) (hnd : ∀ j, j < m → L[j]? ≠ some x) :
    Calls Tryd.prog 35 #[.slice A n c, .slice A2 n2 c2] w fun e w' => e = .returned (.int .i64 m) ∧ Below w.heap.size w w' := by
  have hn := hC.le
  have hmn : m < n := by rw [← hC.1]; exact (List.getElem?_eq_some_iff.1 hm).1
  have HS := Hd.mk hS; have HC := Hd.mk hC; have HS2 := Hd.mk hS2; have H2 := Hd.mk h2; have HM := Hd.mk hm; have HND := Hd.mk hnd
  clear hS hC hS2 h2 hm hnd
  go_enter Tryd.func35, Tryd.ntmps35
  go_wp2
  go_loopw [5] (fun i wr => ∃ k : Nat, k ≤ m ∧ i = .int .i64 k ∧ Hd (Below w.heap.size w wr)) (fun i _ => n - (intOf i).toNat)
  case atStart => exact ⟨0, Nat.zero_le _, rfl, ⟨Below.refl _ _⟩⟩
  case round =>
    obtain ⟨k, hk, rfl, HB⟩ := hrel
    have hkn : k < n := by omega
    obtain ⟨b, off, y, A', c', rfl, hb, hy, hcy, hry⟩ := row_get (HC.out.below HS.out HB.out) k hkn
    have HY := Hd.mk hy; have HRY := Hd.mk hry
    obtain ⟨ny, hny⟩ : ∃ n, y.length = n := ⟨_, rfl⟩
    rw [hny] at hcy HRY
    clear hy hry hny
    by_cases hkm : k = m
    · subst hkm
      have HE : Hd (decide (y = x) = true) := ⟨decide_eq_true (by have := HY.out; rw [HM.out] at this; exact (Option.some.inj this).symm)⟩
      go_wp2_with (go_at_call 17; go_must (refine Calls.mono (same_calls A' A2 ny n2 c' c2 y x true S S2 wr (fun q hq => by have := HS.out q hq; have := HB.out.size; omega) (fun q hq => by have := HS2.out q hq; have := HB.out.size; omega) HRY.out (H2.out.below HS2.out HB.out) HE.out) ?_; rintro e w2 ⟨rfl, hb2⟩; have HB2 := Hd.mk hb2; clear hb2))
      go_ret
      exact ⟨rfl, below_seq HB.out HB2.out⟩
    · have hkl : k < m := by omega
      have HE : Hd (decide (y = x) = false) := ⟨decide_eq_false (fun e => HND.out k hkl (by rw [HY.out, e]))⟩
      clear hkm
      go_wp2_with (go_at_call 17; go_must (refine Calls.mono (same_calls A' A2 ny n2 c' c2 y x false S S2 wr (fun q hq => by have := HS.out q hq; have := HB.out.size; omega) (fun q hq => by have := HS2.out q hq; have := HB.out.size; omega) HRY.out (H2.out.below HS2.out HB.out) HE.out) ?_; rintro e w2 ⟨rfl, hb2⟩; have HB2 := Hd.mk hb2; clear hb2))
      go_roundw
      case rel => exact ⟨k + 1, by omega, by go_num, ⟨below_seq HB.out HB2.out⟩⟩
      case measure => simp [intOf]; omega
theorem rfind_none (A : Option Addr) (n c : Nat) (L : List (List Int)) (A2 : Option Addr) (n2 c2 : Nat) (x : List Int) (S S2 : Nat → Prop) (w : World) (hS : ∀ k, S k → k < w.heap.size) (hS2 : ∀ k, S2 k → k < w.heap.size) (hC : Row rowT w S A n L) (h2 : Row I w S2 A2 n2 x) (hm : x ∉ L) :
    Calls Tryd.prog 35 #[.slice A n c, .slice A2 n2 c2] w fun e w' => e = .returned (.int .i64 (-1)) ∧ Below w.heap.size w w' := by
  have hn := hC.le
  have HS := Hd.mk hS; have HC := Hd.mk hC; have HS2 := Hd.mk hS2; have H2 := Hd.mk h2; have HM := Hd.mk hm
  clear hS hC hS2 h2 hm
  go_enter Tryd.func35, Tryd.ntmps35
  go_wp2
  go_loopw [5] (fun i wr => ∃ k : Nat, k ≤ n ∧ i = .int .i64 k ∧ Hd (Below w.heap.size w wr)) (fun i _ => n - (intOf i).toNat)
  case atStart => exact ⟨0, Nat.zero_le _, rfl, ⟨Below.refl _ _⟩⟩
  case round =>
    obtain ⟨k, hk, rfl, HB⟩ := hrel
    by_cases hkn : k < n
    · obtain ⟨b, off, y, A', c', rfl, hb, hy, hcy, hry⟩ := row_get (HC.out.below HS.out HB.out) k hkn
      have HY := Hd.mk hy; have HRY := Hd.mk hry
      obtain ⟨ny, hny⟩ : ∃ n, y.length = n := ⟨_, rfl⟩
      rw [hny] at hcy HRY
      clear hy hry hny
      have HE : Hd (decide (y = x) = false) := ⟨decide_eq_false (fun e => HM.out (by rw [← e]; exact List.mem_of_getElem? HY.out))⟩
      go_wp2_with (go_at_call 17; go_must (refine Calls.mono (same_calls A' A2 ny n2 c' c2 y x false S S2 wr (fun q hq => by have := HS.out q hq; have := HB.out.size; omega) (fun q hq => by have := HS2.out q hq; have := HB.out.size; omega) HRY.out (H2.out.below HS2.out HB.out) HE.out) ?_; rintro e w2 ⟨rfl, hb2⟩; have HB2 := Hd.mk hb2; clear hb2))
      go_roundw
      case rel => exact ⟨k + 1, by omega, by go_num, ⟨below_seq HB.out HB2.out⟩⟩
      case measure => simp [intOf]; omega
    · obtain rfl : k = n := by omega
      go_wp2
      go_ret
      exact ⟨rfl, HB.out⟩
end Go.Proofs.YtbmpaokicphdjaaDoor.Fn
