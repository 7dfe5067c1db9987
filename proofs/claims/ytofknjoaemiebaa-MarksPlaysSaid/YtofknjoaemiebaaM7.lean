/- The reference's New, Ids, Low, Same. -/
import Derived.Test.YtofknjoaemiebaaM6
namespace Go.Proofs.Ytofknjoaemiebaa.Fn
open Go Go.RowKit Go.Proofs.Ytofknjoaemiebaa.Can Go.Proofs.Ytofknjoaemiebaa.Base
attribute [local go_sem] clsB AB.cell clsX AX.cell

theorem same_calls (A1 A2 : Option Addr) (c1 c2 n : Nat) (L : List Int) (S1 S2 : Nat → Prop) (w : World) (hS1 : ∀ k, S1 k → k < w.heap.size) (hS2 : ∀ k, S2 k → k < w.heap.size) (h1 : Row I w S1 A1 n L) (h2 : Row I w S2 A2 n L) :
    Calls Try.prog 15 #[.slice A1 n c1, .slice A2 n c2] w fun e w' => e = .returned (.bool true) ∧ Below w.heap.size w w' := by
  have hm1 := h1.le
  have H1 := Hd.mk h1; have H2 := Hd.mk h2; clear h1 h2
  have HS1 := Hd.mk hS1; have HS2 := Hd.mk hS2; clear hS1 hS2
  go_enter Try.func15, Try.ntmps15
  go_wp2
  go_loopw [5] (fun i wr => ∃ k : Nat, k ≤ n ∧ i = .int .i64 k ∧ Hd (Below w.heap.size w wr)) (fun i _ => n - (intOf i).toNat)
  case atStart => exact ⟨0, Nat.zero_le _, rfl, ⟨Below.refl _ _⟩⟩
  case round =>
    obtain ⟨k, hk, rfl, hb⟩ := hrel
    by_cases hlt : k < n
    · obtain ⟨b1, o1, x, rfl, _, hb1, hx1, hy1⟩ := (H1.out.below HS1.out hb.out).get_int k hlt
      obtain ⟨b2, o2, y, rfl, _, hb2, hx2, hy2⟩ := (H2.out.below HS2.out hb.out).get_int k hlt
      obtain rfl : x = y := by rw [hx1] at hx2; exact Option.some.inj hx2
      clear hx1 hx2
      go_wp2
      refine wp_region_can (.q [0, 1, 2, 3, 4, 5, 6, 7, 8] (.done)) (clsB _) (by kernel_rfl) (by kernel_rfl) (by intro _ _ d _ _ h; cases d <;> exact h) (clsB_drew _) ?_
      refine can_q (l := [⟨_,_,_,_,_,_⟩, ⟨_,_,_,_,_,_⟩, ⟨_,_,_,_,_,_⟩, ⟨_,_,_,_,_,_⟩, ⟨_,_,_,_,_,_⟩, ⟨_,_,_,_,_,_⟩, ⟨_,_,_,_,_,_⟩, ⟨_,_,_,_,_,_⟩, ⟨_,_,_,_,_,_⟩]) rfl ?_
      repeat (go_big_quiet_step (fail))
      refine wpQuiet_nil ?_
      refine can_done ?_
      go_wp2
      go_roundw
      case rel => exact ⟨k + 1, by omega, by go_num, ⟨by have := hb.out; exact (by repeat (first | (with_reducible assumption) | (with_reducible exact Below.refl _ _) | (with_reducible apply below_drewL) | (with_reducible apply below_alloc) | (with_reducible apply below_drew1) | (with_reducible apply below_drewN) | (refine below_set ?_ (by first | omega | (simp only [size_alloc, size_drew, size_set]; omega)) _ _)))⟩⟩
      case measure => simp [intOf]; omega
    · obtain rfl : k = n := by omega
      go_wp2
      go_ret
      exact ⟨rfl, hb.out⟩

theorem rlow_calls {q b1 b2 m c1 c2 B : Nat} {L} (or : Int) {w : World} (h : RefT w q b1 b2 m c1 c2 B L) : Calls Try.prog 20 #[.pointer (some ⟨q, 0, none⟩), .int .i64 or] w fun e w' => e = .returned (.int .i64 (lowUpto L or m)) ∧ Below w.heap.size w w' := by
  have h1 := h.max
  have hs := h.str
  have hsc0 := blk_cell hs 0 _ rfl; have hsf0 := blk_frozen hs 0; have hsc1 := blk_cell hs 1 _ rfl; have hsf1 := blk_frozen hs 1; have hsl := blk_lt hs
  have H := Hd.mk h; clear h hs
  have hl1 := H.out.ms.lt
  go_enter Try.func20, Try.ntmps20
  go_wp2
  go_loopw [1, 5] (fun o i wr => ∃ k : Nat, k ≤ m ∧ i = .int .i64 k ∧ (∃ x, o = .int .i64 x ∧ Hd (x = lowUpto L or k)) ∧ wr = w) (fun _ i _ => m - (intOf i).toNat)
  case atStart => exact ⟨0, Nat.zero_le _, rfl, ⟨_, rfl, ⟨rfl⟩⟩, rfl⟩
  case round =>
    obtain ⟨k, hk, rfl, ⟨x, rfl, HX⟩, rfl⟩ := hrel
    by_cases hlt : k < m
    · obtain ⟨s, hx⟩ : ∃ s, L[k]? = some s := ⟨_, List.getElem?_eq_getElem (by rw [H.out.len]; exact hlt)⟩
      have hstep : lowUpto L or (k + 1) = if s.taken then (if s.low < x then s.low else x) else x := by
        rw [HX.out]; simp only [lowUpto, hx]
      cases ht : s.taken with
      | false =>
        obtain ⟨hm0, -, -⟩ := H.out.free hx ht
        have HS : Hd (x = lowUpto L or (k + 1)) := ⟨by rw [hstep, ht]; rfl⟩
        clear hstep hx ht
        go_wp2
        go_roundw
        case rel => exact ⟨k + 1, by omega, by go_num, ⟨_, rfl, HS⟩, trivial⟩
        case measure => simp [intOf]; omega
      | true =>
        obtain ⟨hm0, hm1, hm2⟩ := H.out.taken hx ht
        have hne : 0 ≤ (numb m k s : Int) := by omega
        by_cases hlo : s.low < x
        · have HS : Hd (s.low = lowUpto L or (k + 1)) := ⟨by rw [hstep, ht, if_pos rfl, if_pos hlo]⟩
          clear hstep hx ht
          go_wp2
          go_roundw
          case rel => exact ⟨k + 1, by omega, by go_num, ⟨_, rfl, HS⟩, trivial⟩
          case measure => simp [intOf]; omega
        · have HS : Hd (x = lowUpto L or (k + 1)) := ⟨by rw [hstep, ht, if_pos rfl, if_neg hlo]⟩
          clear hstep hx ht
          go_wp2
          go_roundw
          case rel => exact ⟨k + 1, by omega, by go_num, ⟨_, rfl, HS⟩, trivial⟩
          case measure => simp [intOf]; omega
    · obtain rfl : k = m := by omega
      go_wp2
      go_ret
      exact ⟨ret_int HX.out, (by repeat (first | (with_reducible assumption) | (with_reducible exact Below.refl _ _) | (with_reducible apply below_drewL) | (with_reducible apply below_alloc) | (with_reducible apply below_drew1) | (with_reducible apply below_drewN) | (refine below_set ?_ (by first | omega | (simp only [size_alloc, size_drew, size_set]; omega)) _ _)))⟩

theorem rids_calls {q b1 b2 m c1 c2 B : Nat} {L} {w : World} (h : RefT w q b1 b2 m c1 c2 B L) : Calls Try.prog 17 #[.pointer (some ⟨q, 0, none⟩)] w fun e w' =>
    ∃ A c', e = .returned (.slice A (idsUpto L m).length c') ∧ (idsUpto L m).length ≤ c' ∧ (A = none → c' = 0) ∧ Row I w' (fun k => w.heap.size ≤ k ∧ k < w'.heap.size) A (idsUpto L m).length (idsUpto L m) ∧ Below w.heap.size w w' := by
  have h1 := h.max
  have H := Hd.mk h; clear h
  go_enter Try.func17, Try.ntmps17
  go_wp2
  go_loopw [3, 4] (fun v i wr => ∃ k : Nat, k ≤ m ∧ i = .int .i64 k ∧ Hd (Mine I wr w.heap.size 3 v (idsUpto L k)) ∧ Hd (Below w.heap.size w wr)) (fun _ i _ => m - (intOf i).toNat)
  case atStart => exact ⟨0, Nat.zero_le _, rfl, ⟨Mine.nil _ _ _ _⟩, ⟨Below.refl _ _⟩⟩
  case round =>
    obtain ⟨k, hk, rfl, HM, hb⟩ := hrel
    have hkl := idsUpto_len L k
    have H1 := Hd.mk (H.out.below hb.out)
    have hs := H1.out.str
    have hl1 := H1.out.ms.lt
    have hsc0 := blk_cell hs 0 _ rfl; have hsf0 := blk_frozen hs 0; have hsc1 := blk_cell hs 1 _ rfl; have hsf1 := blk_frozen hs 1; have hsl := blk_lt hs
    clear hs
    by_cases hlt : k < m
    · obtain ⟨A, c', hv, hc', hA, hR⟩ := HM.out.form
      obtain ⟨n, hn⟩ : ∃ n, (idsUpto L k).length = n := ⟨_, rfl⟩
      rw [hn] at hv hc' hR hkl
      subst hv
      have HN := Hd.mk hn; clear hn hR
      obtain ⟨s, hx⟩ : ∃ s, L[k]? = some s := ⟨_, List.getElem?_eq_getElem (by rw [H.out.len]; exact hlt)⟩
      have hstep : idsUpto L (k + 1) = idsUpto L k ++ if s.taken then [(numb m k s : Int)] else [] := by
        simp only [idsUpto, hx, H.out.len]
      cases ht : s.taken with
      | false =>
        obtain ⟨hm0, -, -⟩ := H1.out.free hx ht
        have HS : Hd (idsUpto L k = idsUpto L (k + 1)) := ⟨by rw [hstep, ht]; simp⟩
        clear hstep hx ht
        go_wp2
        go_roundw
        case rel => exact ⟨k + 1, by omega, by go_num, ⟨by rw [← HS.out]; exact HM.out⟩, hb⟩
        case measure => simp [intOf]; omega
      | true =>
        obtain ⟨hm0, -, -⟩ := H1.out.taken hx ht
        obtain ⟨y, hy⟩ : ∃ y : Nat, numb m k s = y := ⟨_, rfl⟩
        have HS : Hd (idsUpto L k ++ [(y : Int)] = idsUpto L (k + 1)) := ⟨by rw [hstep, ht, hy]; rfl⟩
        rw [hy] at hm0
        clear hstep hx ht hy
        go_wp2_with (at_builtin; go_must (refine append_snoc I (Ty.int_flat _) rfl (.tmp 23) (.tmp 32) 39 3 _ 8 rfl Try.underlying39 info3 rfl (by decide) (by decide) w.heap.size (.slice A n c') (idsUpto L k) y [.int .i64 y] wr.heap.size rfl rfl (blk_new _ _ _ rfl) rfl (HM.out.below (by repeat (first | (with_reducible assumption) | (with_reducible exact Below.refl _ _) | (with_reducible apply below_drewL) | (with_reducible apply below_alloc) | (with_reducible apply below_drew1) | (with_reducible apply below_drewN) | (refine below_set ?_ (by first | omega | (simp only [size_alloc, size_drew, size_set]; omega)) _ _)))) (HM.out.ne_new (Nat.le_refl _)) (by simp only [size_alloc, size_drew]; have := hb.out.size; omega) (by rw [HN.out]; omega) ?_; intro v4 w4 hM4 hb4 hk4 hat4; have HB4 := Hd.mk (Below.trans (hb.out.alloc hb.out.size _) hb4); have HM4 := Hd.mk hM4; clear hM4 hk4 hat4 hb4))
        go_roundw
        case rel => exact ⟨k + 1, by omega, by go_num, ⟨by rw [← HS.out]; exact HM4.out⟩, HB4⟩
        case measure => simp [intOf]; omega
    · obtain rfl : k = m := by omega
      obtain ⟨A, c', hv, hc', hA, hR⟩ := HM.out.form
      subst hv
      go_wp2
      go_ret
      exact ⟨A, c', rfl, hc', hA, hR, hb.out⟩
end Go.Proofs.Ytofknjoaemiebaa.Fn
