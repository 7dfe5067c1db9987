/- What the reference's Right, Bytes and First compute. -/
import Derived.Test.YtpcjidbhkffncaaA10
namespace Go.Proofs.Ytpcjidbhkffncaa.Fn
open Go Go.RowKit Go.Proofs.Ytpcjidbhkffncaa.Can Go.Proofs.Ytpcjidbhkffncaa.Base
attribute [local go_sem] clsB AB.cell

set_option maxRecDepth 20000 in
theorem rright_calls (A : Option Addr) (n c : Nat) (L : List Int) (S : Nat → Prop) (w : World) (hS : ∀ k, S k → k < w.heap.size) (hC : Row I w S A n L) :
    Calls Try.prog 14 #[.slice A n c] w fun e w' => e = .returned (.bool (rightB L)) ∧ Below w.heap.size w w' := by
  have hn := hC.le
  have HL := Hd.mk hC.1
  obtain ⟨bb, hbb⟩ : ∃ bb, rightB L = bb := ⟨_, rfl⟩
  rw [hbb]
  have HB := Hd.mk hbb; clear hbb
  have HC := Hd.mk hC; have HS := Hd.mk hS; clear hC hS
  by_cases hlen : n = 256
  · subst hlen
    go_enter Try.func14, Try.ntmps14
    go_wp2_with (go_at_call 13; go_must (refine Calls.mono (rjoin_calls A none 256 c 0 0 L [] S (fun _ => False) w HS.out (fun _ h => h.elim) HC.out (Row.nil _ _ _ _)) ?_; rintro e w1 ⟨A1, n1, c1, rfl, hr1, hb1⟩; have HR1 := Hd.mk hr1; have HB1 := Hd.mk hb1; have hn1 : n1 = 256 := (by rw [← hr1.1, clsL_len]); subst hn1; clear hr1 hb1))
    have HC1 := Hd.mk (HC.out.below HS.out HB1.out)
    go_loopw [5] (fun i wr => ∃ k : Nat, k ≤ 256 ∧ i = .int .i64 k ∧ Hd (∀ j, j < k → L[j]? = some (cls (oneF L) j : Int)) ∧ Hd (Below w.heap.size w wr) ∧ Hd (Below w1.heap.size w1 wr)) (fun i _ => 256 - (intOf i).toNat)
    case atStart => exact ⟨0, Nat.zero_le _, rfl, ⟨fun j hj => absurd hj (Nat.not_lt_zero j)⟩, HB1, ⟨Below.refl _ _⟩⟩
    case round =>
      obtain ⟨k, hk, rfl, HR, HBr, HBs⟩ := hrel
      by_cases hlt : k < 256
      · obtain ⟨b, off, x, rfl, _, hb1, hx, hcell⟩ := (HC1.out.below (fun k hk => Nat.lt_of_lt_of_le (HS.out k hk) HB1.out.size) HBs.out).get_int k hlt
        obtain ⟨b2, off2, y, rfl, _, hb2, hy, hcell2⟩ := (HR1.out.below (fun k hk => hk.2) HBs.out).get_int k hlt
        have hy2 : y = (cls (oneF L) k : Int) := by have := clsL_get (f := oneF L) hlt; rw [show oneF L = pairF L [] from rfl, hy] at this; exact Option.some.inj this
        have HX := Hd.mk hx; have HY := Hd.mk hy2; clear hx hy hy2
        by_cases hxy : y = x
        · have hJ : (y == x) = true := by simpa using hxy
          have HR2 : Hd (∀ j, j < k + 1 → L[j]? = some (cls (oneF L) j : Int)) := ⟨fun j hj => by
            rcases Nat.lt_or_ge j k with h | h
            · exact HR.out j h
            · obtain rfl : j = k := by omega
              rw [HX.out, ← HY.out, hxy]⟩
          go_wp2
          refine wp_region_can (.q [0, 1, 2, 3, 4, 5, 6, 7, 8] (.done)) (clsB _) (by kernel_rfl) (by kernel_rfl) (by intro _ _ d _ _ h; cases d <;> exact h) (clsB_drew _) ?_
          refine can_q (l := [⟨_,_,_,_,_,_⟩, ⟨_,_,_,_,_,_⟩, ⟨_,_,_,_,_,_⟩, ⟨_,_,_,_,_,_⟩, ⟨_,_,_,_,_,_⟩, ⟨_,_,_,_,_,_⟩, ⟨_,_,_,_,_,_⟩, ⟨_,_,_,_,_,_⟩, ⟨_,_,_,_,_,_⟩]) rfl ?_
          repeat (go_big_quiet_step (fail))
          refine wpQuiet_nil ?_
          refine can_done ?_
          go_wp2
          go_roundw
          case rel => exact ⟨k + 1, by omega, by go_num, HR2, ⟨by have := HBr.out; exact (by repeat (first | (with_reducible assumption) | (with_reducible exact Below.refl _ _) | (with_reducible apply below_drewL) | (with_reducible apply below_alloc) | (with_reducible apply below_drew1) | (with_reducible apply below_drewN) | (refine below_set ?_ (by first | omega | (simp only [size_alloc, size_drew, size_set]; omega)) _ _)))⟩, ⟨by have := HBs.out; exact (by repeat (first | (with_reducible assumption) | (with_reducible exact Below.refl _ _) | (with_reducible apply below_drewL) | (with_reducible apply below_alloc) | (with_reducible apply below_drew1) | (with_reducible apply below_drewN) | (refine below_set ?_ (by first | omega | (simp only [size_alloc, size_drew, size_set]; omega)) _ _)))⟩⟩
          case measure => simp [intOf]; omega
        · have hJ : (y == x) = false := by simpa using hxy
          obtain rfl : bb = false := by rw [← HB.out]; exact right_no hlt HX.out (fun he => hxy (by rw [he, HY.out]))
          go_wp2
          refine wp_region_can (.q [0, 1, 2, 3, 4, 5, 6, 7, 8] (.done)) (clsB _) (by kernel_rfl) (by kernel_rfl) (by intro _ _ d _ _ h; cases d <;> exact h) (clsB_drew _) ?_
          refine can_q (l := [⟨_,_,_,_,_,_⟩, ⟨_,_,_,_,_,_⟩, ⟨_,_,_,_,_,_⟩, ⟨_,_,_,_,_,_⟩, ⟨_,_,_,_,_,_⟩, ⟨_,_,_,_,_,_⟩, ⟨_,_,_,_,_,_⟩, ⟨_,_,_,_,_,_⟩, ⟨_,_,_,_,_,_⟩]) rfl ?_
          repeat (go_big_quiet_step (fail))
          refine wpQuiet_nil ?_
          refine can_done ?_
          go_wp2
          go_ret
          exact ⟨rfl, by have := HBr.out; exact (by repeat (first | (with_reducible assumption) | (with_reducible exact Below.refl _ _) | (with_reducible apply below_drewL) | (with_reducible apply below_alloc) | (with_reducible apply below_drew1) | (with_reducible apply below_drewN) | (refine below_set ?_ (by first | omega | (simp only [size_alloc, size_drew, size_set]; omega)) _ _)))⟩
      · obtain rfl : k = 256 := by omega
        obtain rfl : bb = true := by rw [← HB.out]; exact right_yes HL.out HR.out
        go_wp2
        go_ret
        exact ⟨rfl, HBr.out⟩
  · obtain rfl : bb = false := by rw [← HB.out]; exact right_len (by rw [HL.out]; exact hlen)
    have hI : ¬ (n : Int) = 256 := by omega
    go_enter Try.func14, Try.ntmps14
    go_wp2
    go_ret
    exact ⟨rfl, Below.refl _ _⟩
set_option maxRecDepth 20000 in
theorem rbytes_calls (A : Option Addr) (n c : Nat) (L : List Int) (q : Int) (S : Nat → Prop) (w : World) (hS : ∀ k, S k → k < w.heap.size) (hC : Row I w S A n L) :
    Calls Try.prog 18 #[.slice A n c, .int .i64 q] w fun e w' => ∃ A' n' c', e = .returned (.slice A' n' c') ∧ Row I w' (fun k => w.heap.size ≤ k ∧ k < w'.heap.size) A' n' (asI (bytesU L q (mn n))) ∧ Below w.heap.size w w' := by
  have hn := hC.le
  obtain ⟨m, hm⟩ : ∃ m, mn n = m := ⟨_, rfl⟩
  have hmn : m ≤ n ∧ m ≤ 256 ∧ (m = n ∨ m = 256) := by rw [← hm]; unfold mn; split <;> omega
  rw [hm]
  clear hm
  have HS := Hd.mk hS; have HC := Hd.mk hC
  clear hS hC
  go_enter Try.func18, Try.ntmps18
  go_wp2
  go_loopw [5, 6] (fun v i wr => ∃ (k : Nat), k ≤ m ∧ i = .int .i64 k ∧ Hd (Mine I wr w.heap.size 3 v (asI (bytesU L q k))) ∧ Hd (Below w.heap.size w wr)) (fun _ i _ => m - (intOf i).toNat)
  case atStart => exact ⟨0, Nat.zero_le _, rfl, ⟨Mine.nil _ _ _ _⟩, ⟨Below.refl _ _⟩⟩
  case round =>
    obtain ⟨k, hk, rfl, HM, HB⟩ := hrel
    obtain ⟨A2, z, c2, rfl, hz, hc2, hA2, hR2⟩ := HM.out.formN
    have hlen : z ≤ k := by rw [hz, asI_len]; exact filt_len _ _
    have HZ := Hd.mk hz; have HR2 := Hd.mk hR2; clear hz hR2 hA2
    by_cases hlt : k < m
    · obtain ⟨b, off, x, rfl, _, hb1, hx, hcell⟩ := (HC.out.below HS.out HB.out).get_int k (by omega)
      have HX := Hd.mk hx; clear hx
      have hk1 : k < n := by omega
      have hk2 : k < 256 := by omega
      by_cases hxq : x = q
      · have hJ : (x == q) = true := by simpa using hxq
        have HT : Hd (asI (bytesU L q (k + 1)) = asI (bytesU L q k) ++ [(k : Int)]) := ⟨by rw [bytesU_succ, if_pos (by rw [HX.out, hxq]), asI_snoc]⟩
        go_wp2_with (at_builtin; go_must (refine append_snoc I (Ty.int_flat _) rfl (.tmp 23) (.tmp 25) 24 3 _ 8 rfl Try.underlying24 info3 rfl (by decide) (by decide) w.heap.size (.slice A2 z c2) (asI (bytesU L q k)) (k : Int) [.int .i64 (k : Int)] wr.heap.size rfl rfl (blk_new _ _ _ rfl) rfl (HM.out.below (by repeat (first | (with_reducible assumption) | (with_reducible exact Below.refl _ _) | (with_reducible apply below_drewL) | (with_reducible apply below_alloc) | (with_reducible apply below_drew1) | (with_reducible apply below_drewN) | (refine below_set ?_ (by first | omega | (simp only [size_alloc, size_drew, size_set]; omega)) _ _)))) (HM.out.ne_new (Nat.le_refl _)) (by simp only [size_alloc, size_drew]; have := HB.out.size; omega) (by rw [← HZ.out]; omega) ?_; intro v2 w2 hM2 hb2 hk2 hat2; replace hb2 := Hd.mk (Below.trans (HB.out.alloc HB.out.size _) hb2); have HM2 := Hd.mk hM2; clear hM2 hk2 hat2))
        go_roundw
        case rel => exact ⟨k + 1, by omega, by go_num, ⟨by rw [HT.out]; exact HM2.out⟩, hb2⟩
        case measure => simp [intOf]; omega
      · have hJ : (x == q) = false := by simpa using hxq
        have HT : Hd (asI (bytesU L q (k + 1)) = asI (bytesU L q k)) := ⟨by rw [bytesU_succ, if_neg (by rw [HX.out]; intro h; exact hxq (Option.some.inj h))]⟩
        go_wp2
        go_roundw
        case rel => exact ⟨k + 1, by omega, by go_num, ⟨by rw [HT.out]; exact HM.out⟩, HB⟩
        case measure => simp [intOf]; omega
    · obtain rfl : k = m := by omega
      by_cases hkn : k < n
      · have h2 : ¬ k < 256 := by omega
        go_wp2
        go_ret
        exact ⟨A2, z, c2, rfl, HR2.out, HB.out⟩
      · go_wp2
        go_ret
        exact ⟨A2, z, c2, rfl, HR2.out, HB.out⟩
theorem fstV_len (L : List Int) (N : Nat) : (fstV L N).length ≤ N := Nat.le_trans (List.length_filterMap_le _ _) (by simp)
set_option maxRecDepth 20000 in
theorem rfirst_calls (A : Option Addr) (n c : Nat) (L : List Int) (S : Nat → Prop) (w : World) (hS : ∀ k, S k → k < w.heap.size) (hC : Row I w S A n L) :
    Calls Try.prog 16 #[.slice A n c] w fun e w' => ∃ A' n' c', e = .returned (.slice A' n' c') ∧ Row I w' (fun k => w.heap.size ≤ k ∧ k < w'.heap.size) A' n' (firstL L) ∧ Below w.heap.size w w' := by
  have hn := hC.le
  have HL := Hd.mk hC.1
  have HC := Hd.mk hC; have HS := Hd.mk hS; clear hC hS
  cases hb : rightB L with
  | false =>
    have HF : Hd (firstL L = []) := ⟨by unfold firstL; rw [hb]; rfl⟩
    have HB := Hd.mk hb; clear hb
    go_enter Try.func16, Try.ntmps16
    go_wp2_with (go_at_call 14; go_must (refine Calls.mono (rright_calls A n c L S w HS.out HC.out) ?_; rintro e w1 ⟨he, hb1⟩; rw [HB.out] at he; subst he))
    go_ret
    exact ⟨none, 0, 0, rfl, by rw [HF.out]; exact Row.nil _ _ _ _, hb1⟩
  | true =>
    have HE : Hd (L = clsL (oneF L) 256) := ⟨rightB_iff.1 hb⟩
    have HF : Hd (firstL L = asI (fstV L 256)) := ⟨by unfold firstL; rw [hb, fstV_eq HE.out]; rfl⟩
    have hn2 : n = 256 := by rw [← HL.out, HE.out, clsL_len]
    subst hn2
    have HB := Hd.mk hb; clear hb
    go_enter Try.func16, Try.ntmps16
    go_wp2_with (go_at_call 14; go_must (refine Calls.mono (rright_calls A 256 c L S w HS.out HC.out) ?_; rintro e w1 ⟨he, hb1⟩; rw [HB.out] at he; subst he; have HB1 := Hd.mk hb1; clear hb1))
    go_loopw [3, 4] (fun v i wr => ∃ (k : Nat), k ≤ 256 ∧ i = .int .i64 k ∧ Hd (Mine I wr w.heap.size 3 v (asI (fstV L k))) ∧ Hd (Below w.heap.size w wr)) (fun _ i _ => 256 - (intOf i).toNat)
    case atStart => exact ⟨0, Nat.zero_le _, rfl, ⟨Mine.nil _ _ _ _⟩, HB1⟩
    case round =>
      clear HB1
      obtain ⟨k, hk, rfl, HM, HB1⟩ := hrel
      obtain ⟨A2, z, c2, rfl, hz, hc2, hA2, hR2⟩ := HM.out.formN
      rw [asI_len] at hz
      have hlen : z ≤ k := by rw [hz]; exact fstV_len _ _
      have HZ := Hd.mk hz; have HR2 := Hd.mk hR2; clear hz hR2 hA2
      by_cases hlt : k < 256
      · have HMN : Hd (mn 256 = 256) := ⟨rfl⟩
        cases hh : bytesU L (k : Int) 256 with
        | nil =>
          have HT : Hd (asI (fstV L (k + 1)) = asI (fstV L k)) := ⟨by rw [fstV_succ, hh]; rfl⟩
          have HH := Hd.mk hh; clear hh
          go_wp2_with (go_at_call 18; go_must (refine Calls.mono (rbytes_calls A 256 c L k S _ (fun k hk => Nat.lt_of_lt_of_le (HS.out k hk) HB1.out.size) (HC.out.below HS.out HB1.out)) ?_; rintro e w3 ⟨A3, n3, c3, rfl, hr3, hb3⟩; rw [HMN.out, HH.out] at hr3; have hn3 : n3 = 0 := hr3.1.symm; subst hn3; have HB3 := Hd.mk (below_seq HB1.out hb3); have HM3 := Hd.mk (HM.out.below hb3); clear hr3 hb3))
          go_roundw
          case rel => exact ⟨k + 1, by omega, by go_num, ⟨by rw [HT.out]; exact HM3.out⟩, HB3⟩
          case measure => simp [intOf]; omega
        | cons j t =>
          have HT : Hd (asI (fstV L (k + 1)) = asI (fstV L k) ++ [(j : Int)]) := ⟨by rw [fstV_succ, hh]; exact asI_snoc _ _⟩
          have HH := Hd.mk hh; clear hh
          go_wp2_with (first
            | (at_builtin; have hq_ := HB3; clear hq_; go_must (refine append_snoc I (Ty.int_flat _) rfl (.tmp 20) (.tmp 24) 24 3 _ 8 rfl Try.underlying24 info3 rfl (by decide) (by decide) w.heap.size (.slice A2 z c2) (asI (fstV L k)) (j : Int) [.int .i64 (j : Int)] w3.heap.size rfl rfl (blk_new _ _ _ rfl) rfl (HM3.out.below (by repeat (first | (with_reducible assumption) | (with_reducible exact Below.refl _ _) | (with_reducible apply below_drewL) | (with_reducible apply below_alloc) | (with_reducible apply below_drew1) | (with_reducible apply below_drewN) | (refine below_set ?_ (by first | omega | (simp only [size_alloc, size_drew, size_set]; omega)) _ _)))) (HM3.out.ne_new (Nat.le_refl _)) (by simp only [size_alloc, size_drew]; have := HB3.out.size; omega) (by rw [asI_len, ← HZ.out]; omega) ?_; intro v2 w2 hM2 hb2 hk2 hat2; replace hb2 := Hd.mk (Below.trans (HB3.out.alloc HB3.out.size _) hb2); have HM2 := Hd.mk hM2; clear hM2 hk2 hat2))
            | (go_at_call 18; go_must (refine Calls.mono (rbytes_calls A 256 c L k S _ (fun k hk => Nat.lt_of_lt_of_le (HS.out k hk) HB1.out.size) (HC.out.below HS.out HB1.out)) ?_; rintro e w3 ⟨A3, n3, c3, rfl, hr3, hb3⟩; rw [HMN.out, HH.out] at hr3; have hn3 : 0 < n3 := (by have := hr3.1; simp [asI] at this; omega); have hnm3 := hr3.le; obtain ⟨b3, off3, x3, rfl, _, hl3, hx3, hcell3⟩ := hr3.get_int 0 hn3; have hx3' : x3 = (j : Int) := (by simpa [asI] using hx3.symm); subst hx3'; rw [Nat.add_zero] at hcell3; have hn3I : (0 : Int) < n3 := (by omega); have HB3 := Hd.mk (below_seq HB1.out hb3); have HM3 := Hd.mk (HM.out.below hb3); clear hr3 hb3 hx3)))
          go_roundw
          case rel => exact ⟨k + 1, by omega, by go_num, ⟨by rw [HT.out]; exact HM2.out⟩, hb2⟩
          case measure => simp [intOf]; omega
      · obtain rfl : k = 256 := by omega
        go_wp2
        go_ret
        exact ⟨A2, z, c2, rfl, by rw [HF.out]; exact HR2.out, HB1.out⟩
end Go.Proofs.Ytpcjidbhkffncaa.Fn
