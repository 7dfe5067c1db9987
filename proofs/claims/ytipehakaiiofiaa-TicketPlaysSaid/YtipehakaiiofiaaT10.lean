/- What All and the reference's Same compute. -/
import Derived.Test.YtipehakaiiofiaaT9
namespace Go.Proofs.Ytipehakaiiofiaa.Fn
open Go Go.RowKit Go.Proofs.Ytipehakaiiofiaa.Can Go.Proofs.Ytipehakaiiofiaa.Base
attribute [local go_sem] clsB AB.cell

theorem same_calls (A1 A2 : Option Addr) (c1 c2 n : Nat) (L : List Int) (S1 S2 : Nat → Prop) (w : World) (hS1 : ∀ k, S1 k → k < w.heap.size) (hS2 : ∀ k, S2 k → k < w.heap.size) (h1 : Row I w S1 A1 n L) (h2 : Row I w S2 A2 n L) :
    Calls Try.prog 21 #[.slice A1 n c1, .slice A2 n c2] w fun e w' => e = .returned (.bool true) ∧ Below w.heap.size w w' := by
  have hm1 := h1.le
  have H1 := Hd.mk h1; have H2 := Hd.mk h2; clear h1 h2
  have HS1 := Hd.mk hS1; have HS2 := Hd.mk hS2; clear hS1 hS2
  go_enter Try.func21, Try.ntmps21
  go_wp2
  go_loopw [5] (fun i wr => ∃ k : Nat, k ≤ n ∧ i = .int .i64 k ∧ Hd (Below w.heap.size w wr)) (fun i _ => n - (intOf i).toNat)
  case atStart => exact ⟨0, Nat.zero_le _, rfl, ⟨Below.refl _ _⟩⟩
  case round =>
    obtain ⟨k, hk, rfl, hb⟩ := hrel
    by_cases hlt : k < n
    · obtain ⟨b1, o1, x, rfl, _, hb1, hx1, hy1⟩ := (H1.out.below HS1.out hb.out).get_int k hlt
      obtain ⟨b2, o2, y, rfl, _, hb2, hx2, hy2⟩ := (H2.out.below HS2.out hb.out).get_int k hlt
      obtain rfl : x = y := by rw [hx1] at hx2; exact Option.some.inj hx2
      clear hx1 hx2
      go_wp2
      refine wp_region_can (.q [0, 1, 2, 3, 4, 5, 6, 7, 8] (.done)) (clsB _) (by kernel_rfl) (by kernel_rfl) (by intro _ _ d _ _ h; cases d <;> exact h) (clsB_drew _) ?_
      refine can_q (l := [⟨_,_,_,_,_,_⟩, ⟨_,_,_,_,_,_⟩, ⟨_,_,_,_,_,_⟩, ⟨_,_,_,_,_,_⟩, ⟨_,_,_,_,_,_⟩, ⟨_,_,_,_,_,_⟩, ⟨_,_,_,_,_,_⟩, ⟨_,_,_,_,_,_⟩, ⟨_,_,_,_,_,_⟩]) rfl ?_
      repeat (go_big_quiet_step (fail))
      refine wpQuiet_nil ?_
      refine can_done ?_
      go_wp2
      go_roundw
      case rel => exact ⟨k + 1, by omega, by go_num, ⟨by have := hb.out; exact (by repeat (first | (with_reducible assumption) | (with_reducible exact Below.refl _ _) | (with_reducible apply below_drewL) | (with_reducible apply below_alloc) | (with_reducible apply below_drew1) | (with_reducible apply below_drewN) | (refine below_set ?_ (by first | omega | (simp only [size_alloc, size_drew, size_set]; omega)) _ _)))⟩⟩
      case measure => simp [intOf]; omega
    · obtain rfl : k = n := by omega
      go_wp2
      go_ret
      exact ⟨rfl, hb.out⟩

theorem all_calls {p r m held a : Nat} {L rs} {w : World} (h : Desk (Value.int .i64) 42 3 w p r m held L rs a) : Calls Try.prog 22 #[.pointer (some ⟨p, 0, none⟩)] w fun e w' =>
    ∃ A c, e = .returned (.slice A L.length c) ∧ L.length ≤ c ∧ (A = none → c = 0) ∧ Row I w' (fun k => w.heap.size ≤ k ∧ k < w'.heap.size) A L.length L ∧ Below w.heap.size w w' := by
  have hm1 := h.m1
  have hm0 := h.m0
  have hh := h.held_
  have hin := h.in_
  have hla := h.lt
  have H := Hd.mk h; clear h
  obtain ⟨n, hn⟩ : ∃ n, L.length = n := ⟨_, rfl⟩
  have HN := Hd.mk hn
  rw [hn] at hin ⊢
  clear hn
  go_enter Try.func22, Try.ntmps22
  go_wp2_with (go_at_call 13; go_must (refine Calls.mono (waiting_int H.out) ?_; rintro e w1 ⟨he, hw⟩; obtain rfl : e = .returned (.int .i64 n) := (by rw [he, HN.out]); subst hw; have H1 := H; clear H))
  go_loopw [3, 7] (fun v i wr => ∃ k : Nat, k ≤ n ∧ i = .int .i64 k ∧ Hd (Mine I wr w1.heap.size 3 v (L.take k)) ∧ Hd (Below w1.heap.size w1 wr)) (fun _ i _ => n - (intOf i).toNat)
  case atStart => exact ⟨0, Nat.zero_le _, rfl, ⟨Mine.nil _ _ _ _⟩, ⟨Below.refl _ _⟩⟩
  case round =>
    obtain ⟨k, hk, rfl, HM, hb⟩ := hrel
    obtain ⟨A, c, hv, hc, hA, hR⟩ := HM.out.form
    subst hv
    have hlen : (L.take k).length = k := by rw [List.length_take, HN.out]; omega
    rw [hlen] at hc hR HM ⊢
    have HL := Hd.mk hlen; clear hlen
    have HR := Hd.mk hR; clear hR
    by_cases hlt : k < n
    · obtain ⟨i, hi⟩ : ∃ i, (a + k) % m = i := ⟨_, rfl⟩
      have him : i < m := by rw [← hi]; exact Nat.mod_lt _ (by omega)
      have hiI : ((a : Int) + k) % m = (i : Int) := by rw [← hi]; simp
      have HD := Hd.mk (H1.out.below hb.out)
      have hx := HD.out.ring k (by rw [HN.out]; exact hlt)
      obtain ⟨x, hLx⟩ : ∃ x, L[k]? = some x := ⟨_, List.getElem?_eq_getElem (by rw [HN.out]; exact hlt)⟩
      rw [HD.out.len, hi, hLx] at hx
      have hcell : wr.cell? ⟨r, i, none⟩ = some (.int .i64 x) := blk_cell HD.out.row i _ (by simp [hx])
      have htk : L.take (k + 1) = L.take k ++ [x] := by rw [List.take_add_one, hLx]; rfl
      have HT := Hd.mk htk
      clear htk hx hi hLx he
      have hrl := blk_lt HD.out.row
      have hs := HD.out.str
      have hsc0 := blk_cell hs 0 _ rfl; have hsf0 := blk_frozen hs 0; have hsc1 := blk_cell hs 1 _ rfl; have hsf1 := blk_frozen hs 1; have hsc2 := blk_cell hs 2 _ rfl; have hsf2 := blk_frozen hs 2; have hsc3 := blk_cell hs 3 _ rfl; have hsf3 := blk_frozen hs 3; have hsl := blk_lt hs
      clear hs
      go_wp2
      refine wp_region_can (.q [0, 1, 2, 3, 4, 5, 6, 7, 8, 9, 10, 11, 12, 13, 14, 15, 16, 17, 18] (.e 19 false (.e 20 false (.q [21] (.done))))) (clsB _) (by kernel_rfl) (by kernel_rfl) (by intro _ _ d _ _ h; cases d <;> exact h) (clsB_drew _) ?_
      refine can_q (l := [⟨_,_,_,_,_,_⟩, ⟨_,_,_,_,_,_⟩, ⟨_,_,_,_,_,_⟩, ⟨_,_,_,_,_,_⟩, ⟨_,_,_,_,_,_⟩, ⟨_,_,_,_,_,_⟩, ⟨_,_,_,_,_,_⟩, ⟨_,_,_,_,_,_⟩, ⟨_,_,_,_,_,_⟩, ⟨_,_,_,_,_,_⟩, ⟨_,_,_,_,_,_⟩, ⟨_,_,_,_,_,_⟩, ⟨_,_,_,_,_,_⟩, ⟨_,_,_,_,_,_⟩, ⟨_,_,_,_,_,_⟩, ⟨_,_,_,_,_,_⟩, ⟨_,_,_,_,_,_⟩, ⟨_,_,_,_,_,_⟩, ⟨_,_,_,_,_,_⟩]) rfl ?_
      repeat (go_big_quiet_step (fail))
      refine wpQuiet_nil ?_
      refine can_e (o := ⟨_,_,_,_,_,_⟩) rfl (fun K hK => ?_)
      go_wp2_with fail
      refine onK_normal (hK _ _ ⟨clsB _, (by first | exact clsB_drew _ | exact clsB_self _), fun _ => clsB_next (by first | exact ((by repeat (first | (with_reducible assumption) | (with_reducible exact Below.refl _ _) | (with_reducible apply below_drewL) | (with_reducible apply below_alloc) | (with_reducible apply below_drew1) | (with_reducible apply below_drewN) | (refine below_set ?_ (by first | omega | (simp only [size_alloc, size_drew, size_set]; omega)) _ _)))) | exact below_undrew ((by repeat (first | (with_reducible assumption) | (with_reducible exact Below.refl _ _) | (with_reducible apply below_drewL) | (with_reducible apply below_alloc) | (with_reducible apply below_drew1) | (with_reducible apply below_drewN) | (refine below_set ?_ (by first | omega | (simp only [size_alloc, size_drew, size_set]; omega)) _ _))))), ?_⟩)
      clear hK K
      refine can_e (o := ⟨_,_,_,_,_,_⟩) rfl (fun K hK => ?_)
      go_wp2_with (at_builtin; go_must (refine append_snoc I (Ty.int_flat _) rfl (.tmp 10) (.tmp 29) 36 3 _ 8 rfl Try.underlying36 info3 rfl (by decide) (by decide) w1.heap.size (.slice A k c) (L.take k) x [.int .i64 x] wr.heap.size rfl rfl (blk_new _ _ _ rfl) rfl (HM.out.below (by repeat (first | (with_reducible assumption) | (with_reducible exact Below.refl _ _) | (with_reducible apply below_drewL) | (with_reducible apply below_alloc) | (with_reducible apply below_drew1) | (with_reducible apply below_drewN) | (refine below_set ?_ (by first | omega | (simp only [size_alloc, size_drew, size_set]; omega)) _ _)))) (HM.out.ne_new (Nat.le_refl _)) (by simp only [size_alloc, size_drew]; have := hb.out.size; omega) (by rw [HL.out]; omega) ?_; intro v2 w2 hM2 hb2 hk2 hat2; replace hb2 := Hd.mk (Below.trans ((below_drew1 hb.out).alloc hb.out.size _) hb2); have HM2 := Hd.mk hM2; clear hM2 hk2 hat2))
      refine onK_normal (hK _ _ ⟨fun _ => True, trivial, (fun h => by cases h), ?_⟩)
      clear hK K
      refine can_q (l := [⟨_,_,_,_,_,_⟩]) rfl ?_
      repeat (go_big_quiet_step (fail))
      refine wpQuiet_nil ?_
      refine can_done ?_
      go_wp2
      go_roundw
      case rel => exact ⟨k + 1, by omega, by go_num, ⟨by rw [HT.out]; exact HM2.out⟩, hb2⟩
      case measure => simp [intOf]; omega
    · obtain rfl : k = n := by omega
      go_wp2
      go_ret
      have hR := HR.out
      rw [List.take_of_length_le (by rw [HN.out]; exact Nat.le_refl _)] at hR
      exact ⟨A, c, rfl, hc, hA, hR, hb.out⟩
end Go.Proofs.Ytipehakaiiofiaa.Fn
