/- TrailUndo. -/
import Derived.Test.YtefkhjgckdphnaaF7
namespace Go.Proofs.Ytefkhjgckdphnaa.Fn
open Go Go.RowKit Go.Proofs.Ytefkhjgckdphnaa.Can Go.Proofs.Ytefkhjgckdphnaa.Base
attribute [local go_sem] clsB AB.cell nil22
attribute [local go_sem high] eq28

/-- The last D of a list. -/
def lastL (D : Nat) (xs : List Spot) : List Spot := xs.drop (xs.length - D)
theorem lastL_nil (D : Nat) : lastL D [] = [] := by simp [lastL]
theorem lastL_len (D : Nat) (xs : List Spot) : (lastL D xs).length = min xs.length D := by simp [lastL]; omega
theorem lastL_push (D : Nat) (hD : 0 < D) (xs : List Spot) (p : Spot) : pushL (lastL D xs) p (D : Int) = lastL D (xs ++ [p]) := by
  have hl := lastL_len D xs
  unfold pushL
  rw [if_neg (by omega)]
  by_cases h : (D : Int) ≤ ((lastL D xs).length : Int)
  · rw [if_pos h]
    have h1 : D ≤ xs.length := by omega
    simp only [lastL, List.length_append, List.length_cons, List.length_nil, List.drop_drop]
    rw [show xs.length + (0 + 1) - D = xs.length - D + 1 by omega, List.drop_append_of_le_length (by omega)]
  · rw [if_neg h]
    simp only [lastL, List.length_append, List.length_cons, List.length_nil]
    rw [show xs.length - D = 0 by omega, show xs.length + (0 + 1) - D = 0 by omega]
    rfl
theorem lastL_get (D : Nat) (xs : List Spot) (k m j : Nat) (hm : m = min xs.length D) (hk : k < m) (hj : xs.length = j + 1 + k) (hjl : j < xs.length) :
    (lastL D xs).take (m - k) = (lastL D xs).take (m - k - 1) ++ [xs[j]] := by
  have hl := lastL_len D xs
  have h1 : m - k - 1 < (lastL D xs).length := by omega
  have h2 := List.take_succ_eq_append_getElem h1
  rw [show m - k - 1 + 1 = m - k by omega] at h2
  rw [h2]
  congr 2
  simp only [lastL, List.getElem_drop]
  congr 1
  omega

theorem newD_nat (d : Nat) (h : d ≤ 255) : newD (d : Int) = ((max d 1 : Nat) : Int) := by
  unfold newD
  by_cases h1 : d = 0
  · subst h1; rfl
  · rw [if_neg (by omega), if_neg (by omega), Nat.max_eq_left (by omega)]

set_option maxHeartbeats 1000000 in
theorem undo_calls (d : Nat) (hd : d ≤ 255) (A : Option Addr) (c : Nat) (xs : List Spot) (S : Nat → Prop) (w : World) (hS : ∀ k, S k → k < w.heap.size) (hC : Row spotT w S A xs.length xs) (hc : xs.length ≤ 9223372036854775807) :
    Calls Try.prog 3 #[.int .u8 d, .slice A xs.length c] w fun e w' => e = .returned (.bool true) ∧ Below w.heap.size w w' := by
  have HS := Hd.mk hS; clear hS
  have HC := Hd.mk hC; clear hC
  by_cases hlong : 300 < xs.length
  · go_enter Try.func3, Try.ntmps3
    go_wp2_with (go_at_call 6; refine (alive_calls _).mono ?_; rintro e w1 ⟨rfl, hb1⟩)
    go_ret
    exact ⟨rfl, hb1⟩
  · obtain ⟨D, hD⟩ : ∃ D, D = max d 1 := ⟨_, rfl⟩
    have hN := newD_nat d hd
    rw [← hD] at hN
    have HN := Hd.mk hN; clear hN
    have hD1 : 0 < D := by omega
    have HD := Hd.mk hD; clear hD
    obtain ⟨m, hm⟩ : ∃ m, m = min xs.length D := ⟨_, rfl⟩
    have HM := Hd.mk hm; clear hm
    go_enter Try.func3, Try.ntmps3
    go_wp2_with (go_at_call 7; refine (new_calls d w).mono ?_; rintro e w1 ⟨he, hb1⟩; rw [HN.out] at he; subst he)
    generalize hV : World.alloc _ _ = V
    have HBV : Below w1.heap.size w1 V := below_of hV (by repeat (first | (with_reducible assumption) | (with_reducible exact Below.refl _ _) | (with_reducible apply below_drewL) | (with_reducible apply below_alloc) | (with_reducible apply below_drew1) | (with_reducible apply below_drewN) | (refine below_set ?_ (by first | omega | (simp only [size_alloc, size_drew, size_set]; omega)) _ _)))
    have zV : Hd (V.heap.size = w1.heap.size + 1) := ⟨by rw [← hV]; simp only [size_alloc]⟩
    have V0 := at_of hV (blk_new _ _ _ rfl)
    have V0l := blk_lt V0
    clear hV
    replace HBV := below_seq hb1 HBV
    have hg : w.heap.size ≤ w1.heap.size := hb1.size
    generalize w1.heap.size = g at *
    go_loopw [23] (fun i wr => ∃ k : Nat, k ≤ xs.length ∧ i = .int .i64 k ∧ ∃ A' c', wr.heap[g]? = some (.cells #[.int .i64 D, .slice A' (lastL D (xs.take k)).length c'] 25 (0, 0)) ∧ (lastL D (xs.take k)).length ≤ c' ∧ (A' = none → c' = 0) ∧ Hd (Row spotT wr (fun b => b ≠ g ∧ b < wr.heap.size) A' (lastL D (xs.take k)).length (lastL D (xs.take k))) ∧ Hd (Below w.heap.size w wr)) (fun i _ => xs.length - (intOf i).toNat)
    case atStart => exact ⟨0, Nat.zero_le _, rfl, none, 0, by rw [List.take_zero, lastL_nil]; exact V0, by rw [List.take_zero, lastL_nil]; decide, fun _ => rfl, ⟨by rw [List.take_zero, lastL_nil]; exact Row.nil _ _ _ _⟩, ⟨HBV⟩⟩
    case round =>
      obtain ⟨k, hk, rfl, A', c', hx, hlc, hA', hrow, hb⟩ := hrel
      have hll : (lastL D (xs.take k)).length ≤ 300 := by rw [lastL_len, List.length_take]; omega
      have hxc0 := blk_cell hx 0 _ rfl; have hxf0 := blk_frozen hx 0; have hxc1 := blk_cell hx 1 _ rfl; have hxf1 := blk_frozen hx 1; have hxl := blk_lt hx
      have HX := Hd.mk hx; clear hx
      by_cases hlt : k < xs.length
      · obtain ⟨b, o, rfl, _, hb1, hx, hy⟩ := spot_get (HC.out.below HS.out hb.out) k hlt
        have htk : xs.take (k + 1) = xs.take k ++ [xs[k]] := List.take_succ_eq_append_getElem hlt
        have hpush := lastL_push D hD1 (xs.take k) xs[k]
        rw [← htk] at hpush
        have HP := Hd.mk hpush; clear hpush htk
        have HA := Hd.mk hA'; clear hA'
        generalize lastL D (xs.take k) = l0 at *
        generalize hl1 : lastL D (xs.take (k + 1)) = l1 at *
        have HL1 := Hd.mk hl1; clear hl1
        go_wp2_with (go_at_call 8; go_must (refine (push_to A' c' l0 l0.length D xs[k] HP.out rfl (fun b => b ≠ g ∧ b < wr.heap.size) _ (fun k hk => by simp only [size_alloc]; omega) (hrow.out.below (fun _ h => h.2) (by repeat (first | (with_reducible assumption) | (with_reducible exact Below.refl _ _) | (with_reducible apply below_drewL) | (with_reducible apply below_alloc) | (with_reducible apply below_drew1) | (with_reducible apply below_drewN) | (refine below_set ?_ (by first | omega | (simp only [size_alloc, size_drew, size_set]; omega)) _ _)))) (by omega) (by omega) hlc HA.out).mono ?_; rintro e w2 ⟨A2, c2, rfl, hc2, hA2, hR2, hb2⟩; have hv := blk_below (blk_alloc HX.out _) hb2; have hvc0 := blk_cell hv 0 _ rfl; have hvf0 := blk_frozen hv 0; have hvc1 := blk_cell hv 1 _ rfl; have hvf1 := blk_frozen hv 1; have hvl := blk_lt hv))
        go_roundw
        case rel =>
          have hz2 := hb2.size
          simp only [size_alloc] at hz2
          refine ⟨k + 1, by omega, by go_num, A2, c2, by rw [HL1.out]; exact blk_set (blk_set hv 0 _ _ rfl) 1 _ _ rfl, by rw [HL1.out]; exact hc2, hA2, ⟨?_⟩, ⟨?_⟩⟩
          · rw [HL1.out]
            refine ((hR2.mono (S' := fun b => b ≠ g ∧ b < w2.heap.size) (fun b hbb => ?_)).set (fun b hbb => hbb.1) _ |>.set (fun b hbb => hbb.1) _).mono (fun b hbb => by simp only [size_set]; exact hbb)
            rcases hbb with hbb | hbb
            · omega
            · simp only [size_alloc] at hbb; omega
          · have hb' := hb.out
            have hb3 := below_seq (a := w) (by repeat (first | (with_reducible assumption) | (with_reducible exact Below.refl _ _) | (with_reducible apply below_drewL) | (with_reducible apply below_alloc) | (with_reducible apply below_drew1) | (with_reducible apply below_drewN) | (refine below_set ?_ (by first | omega | (simp only [size_alloc, size_drew, size_set]; omega)) _ _))) hb2
            exact (by repeat (first | (with_reducible assumption) | (with_reducible exact Below.refl _ _) | (with_reducible apply below_drewL) | (with_reducible apply below_alloc) | (with_reducible apply below_drew1) | (with_reducible apply below_drewN) | (refine below_set ?_ (by first | omega | (simp only [size_alloc, size_drew, size_set]; omega)) _ _)))
        case measure => simp [intOf]; omega
      · obtain rfl : k = xs.length := by omega
        rw [List.take_length] at *
        have hlm := lastL_len D xs
        rw [← HM.out] at hlm
        rw [hlm] at HX hlc hrow hxc1
        have hmx := HM.out; have hDx := HD.out
        have hm300 : m ≤ 300 := by omega
        have HLM := Hd.mk hlm; clear hlm hll
        have hz := hb.out.size
        clear V0 V0l zV HBV hlt hk hb1 hmx hDx
        go_wp2_with (first | (refine max_int rfl (.tmp 34) (.const (.int .i64 1)) _ rfl .i64 d 1 D (by rfl) (by rfl) (by have := HD.out; split <;> omega) ?_) | (refine min_int rfl (.tmp 32) (.tmp 35) _ rfl .i64 xs.length D m (by rfl) (by rfl) (by have := HM.out; split <;> omega) ?_))
        go_loopw [38] (fun i wr => ∃ k : Nat, k ≤ m ∧ i = .int .i64 k ∧ ∃ c', wr.heap[g]? = some (.cells #[.int .i64 D, .slice A' (m - k) c'] 25 (0, 0)) ∧ m - k ≤ c' ∧ Hd (Row spotT wr (fun b => b ≠ g ∧ b < wr.heap.size) A' (m - k) ((lastL D xs).take (m - k))) ∧ Hd (Below w.heap.size w wr)) (fun i _ => m - (intOf i).toNat)
        case atStart => exact ⟨0, Nat.zero_le _, rfl, c', HX.out, by omega, ⟨hrow.out.take _ (by omega)⟩, hb⟩
        case round =>
          clear hxc0 hxc1 hxf0 hxf1 hxl HX hlc hrow hb hz
          obtain ⟨k, hk, rfl, c', hgx, hlc, hrow, hb⟩ := hrel
          have hgxc0 := blk_cell hgx 0 _ rfl; have hgxf0 := blk_frozen hgx 0; have hgxc1 := blk_cell hgx 1 _ rfl; have hgxf1 := blk_frozen hgx 1; have hgxl := blk_lt hgx
          have HX := Hd.mk hgx; clear hgx
          by_cases hlt : k < m
          · have hmn : m ≤ xs.length := by have := HM.out; omega
            obtain ⟨j, hj⟩ : ∃ j, xs.length = j + 1 + k := ⟨xs.length - 1 - k, by omega⟩
            have hjl : j < xs.length := by omega
            obtain ⟨b, o, rfl, _, hb1, hx, hy⟩ := spot_get (HC.out.below HS.out hb.out) j hjl
            obtain ⟨q, hq⟩ : ∃ q, m - k = q + 1 := ⟨m - k - 1, by omega⟩
            have hrow := hrow.out
            rw [lastL_get D xs k m j HM.out hlt hj hjl] at hrow
            rw [hq] at HX hlc hrow hgxc1
            have HR := Hd.mk hrow; clear hrow
            have hi : (xs.length : Int) - 1 - k = j := by omega
            have HJ := Hd.mk hj; clear hj
            go_wp2_with (go_at_call 9; go_must (refine (pop_to A' c' q _ D xs[j] (fun b => b ≠ g ∧ b < wr.heap.size) _ (fun k hk => hk.2) HR.out (by omega) (by omega)).mono ?_; rintro e w2 ⟨rfl, hb2⟩; have hv := blk_below HX.out hb2; have hvc0 := blk_cell hv 0 _ rfl; have hvf0 := blk_frozen hv 0; have hvc1 := blk_cell hv 1 _ rfl; have hvf1 := blk_frozen hv 1; have hvl := blk_lt hv))
            generalize hU : World.alloc _ _ = U
            have HBU : Below w2.heap.size w2 U := below_of hU (by repeat (first | (with_reducible assumption) | (with_reducible exact Below.refl _ _) | (with_reducible apply below_drewL) | (with_reducible apply below_alloc) | (with_reducible apply below_drew1) | (with_reducible apply below_drewN) | (refine below_set ?_ (by first | omega | (simp only [size_alloc, size_drew, size_set]; omega)) _ _)))
            have zU : Hd (U.heap.size = w2.heap.size + 1 + 1) := ⟨by rw [← hU]; simp only [size_alloc]⟩
            have U0 := at_of hU (blk_alloc (blk_new _ _ _ rfl) _)
            have U0l := blk_lt U0
            have U1 := at_of hU (blk_new _ _ _ rfl)
            simp only [size_alloc] at U1
            have U1l := blk_lt U1
            clear hU
            have hu := blk_below hv HBU
            have hb3 := below_seq hb2 HBU
            replace hx := (hb3.cell (p := ⟨b, o + j * 2, none⟩) hb1).trans hx
            replace hy := (hb3.cell (p := ⟨b, o + j * 2 + 1, none⟩) hb1).trans hy
            have hbU : b < U.heap.size := by have := hb3.size; omega
            have hbelow := below_seq hb.out hb3
            have HRU := Hd.mk (HR.out.below (fun _ h => h.2) hb3)
            have hzU := hb3.size
            clear hvc0 hvf0 hvc1 hvf1 hvl
            clear hgxc0 hgxf0 hgxc1 hgxf1 hgxl
            have HV := Hd.mk hu
            have huc0 := blk_cell hu 0 _ rfl; have huf0 := blk_frozen hu 0; have huc1 := blk_cell hu 1 _ rfl; have huf1 := blk_frozen hu 1; have hul := blk_lt hu
            clear hu hv HBU hb3 hb2 HR HX
            have U0c0 := blk_cell U0 0 _ rfl
            have U0f0 := blk_frozen U0 0
            have U0c1 := blk_cell U0 1 _ rfl
            have U0f1 := blk_frozen U0 1
            have U1c0 := blk_cell U1 0 _ rfl
            have U1f0 := blk_frozen U1 0
            have U1c1 := blk_cell U1 1 _ rfl
            have U1f1 := blk_frozen U1 1
            refine wp_region_can (.q [0, 1, 2, 3, 4, 5, 6, 7, 8, 9, 10, 11, 12, 13] (.done)) (clsB _) (by kernel_rfl) (by kernel_rfl) (by intro _ _ d _ _ h; cases d <;> exact h) (clsB_drew _) ?_
            refine can_q (l := [⟨_,_,_,_,_,_⟩, ⟨_,_,_,_,_,_⟩, ⟨_,_,_,_,_,_⟩, ⟨_,_,_,_,_,_⟩, ⟨_,_,_,_,_,_⟩, ⟨_,_,_,_,_,_⟩, ⟨_,_,_,_,_,_⟩, ⟨_,_,_,_,_,_⟩, ⟨_,_,_,_,_,_⟩, ⟨_,_,_,_,_,_⟩, ⟨_,_,_,_,_,_⟩, ⟨_,_,_,_,_,_⟩, ⟨_,_,_,_,_,_⟩, ⟨_,_,_,_,_,_⟩]) rfl ?_
            repeat (go_big_quiet_step (fail))
            refine wpQuiet_nil ?_
            refine can_done ?_
            go_wp2
            go_roundw
            case rel =>
              have hq' : m - (k + 1) = q := by omega
              refine ⟨k + 1, by omega, by go_num, q, by rw [hq']; exact blk_drew (blk_set (blk_set HV.out 0 _ _ rfl) 1 _ _ rfl), by omega, ⟨?_⟩, ⟨?_⟩⟩
              · have h1 := HRU.out.take q (by omega)
                have h2 := HRU.out.1
                rw [List.take_left' (by simpa using h2)] at h1
                rw [hq']
                exact (((h1.set (fun b hbb => hbb.1) _).set (fun b hbb => hbb.1) _).move (w' := (World.setCell _ _ _).drew) (fun b _ => rfl)).mono (fun b hbb => ⟨hbb.1, by rw [size_drew, size_set, size_set]; omega⟩)
              · exact (by repeat (first | (with_reducible assumption) | (with_reducible exact Below.refl _ _) | (with_reducible apply below_drewL) | (with_reducible apply below_alloc) | (with_reducible apply below_drew1) | (with_reducible apply below_drewN) | (refine below_set ?_ (by first | omega | (simp only [size_alloc, size_drew, size_set]; omega)) _ _)))
            case measure => simp [intOf]; omega
          · obtain rfl : k = m := by omega
            have hbo := hb.out
            rw [Nat.sub_self] at *
            go_wp2_with (first | (go_at_call 6; refine (alive_calls _).mono ?_; rintro e w6 ⟨rfl, hb6⟩; replace hb6 := below_seq hb5 hb6) | (go_at_call 11; refine (low_calls 0 none 0 [] 3 (fun _ => False) _ (fun _ h => h.elim) (Row.nil _ _ _ _)).mono ?_; rintro e w5 ⟨rfl, hb5⟩; replace hb5 := below_seq hb4 hb5) | (go_at_call 10; have hq_ := hb3; clear hq_; refine (len_calls 0 none 0 0 _ (by decide)).mono ?_; rintro e w4 ⟨rfl, hb4⟩; have hz4 := blk_below hz3 hb4; replace hb4 := below_seq hb3 hb4; have hz4c0 := blk_cell hz4 0 _ rfl; have hz4f0 := blk_frozen hz4 0; have hz4c1 := blk_cell hz4 1 _ rfl; have hz4f1 := blk_frozen hz4 1; have hz4l := blk_lt hz4) | (go_at_call 8; refine (push_zero none 0 0 ⟨5, 0⟩ _).mono ?_; rintro e w3 ⟨rfl, hb3⟩; have hz3 := blk_below hz2 hb3; replace hb3 := below_seq hb2 hb3; have hz3c0 := blk_cell hz3 0 _ rfl; have hz3f0 := blk_frozen hz3 0; have hz3c1 := blk_cell hz3 1 _ rfl; have hz3f1 := blk_frozen hz3 1; have hz3l := blk_lt hz3) | (go_at_call 10; refine (len_calls D A' 0 c' _ (by decide)).mono ?_; rintro e w2 ⟨rfl, hb2⟩; have hz2 := blk_below (blk_new _ _ _ rfl) hb2; replace hb2 := below_seq (a := w) (by repeat (first | (with_reducible assumption) | (with_reducible exact Below.refl _ _) | (with_reducible apply below_drewL) | (with_reducible apply below_alloc) | (with_reducible apply below_drew1) | (with_reducible apply below_drewN) | (refine below_set ?_ (by first | omega | (simp only [size_alloc, size_drew, size_set]; omega)) _ _))) hb2; have hz2c0 := blk_cell hz2 0 _ rfl; have hz2f0 := blk_frozen hz2 0; have hz2c1 := blk_cell hz2 1 _ rfl; have hz2f1 := blk_frozen hz2 1; have hz2l := blk_lt hz2))
            go_ret
            exact ⟨rfl, hb6⟩
end Go.Proofs.Ytefkhjgckdphnaa.Fn
