/- What the reference's Of and Join compute. -/
import Derived.Test.YtpcjidbhkffncaaA9
namespace Go.Proofs.Ytpcjidbhkffncaa.Fn
open Go Go.RowKit Go.Proofs.Ytpcjidbhkffncaa.Can Go.Proofs.Ytpcjidbhkffncaa.Base
attribute [local go_sem] clsB AB.cell

set_option maxRecDepth 20000 in
set_option maxHeartbeats 1000000 in
theorem rof_calls (A : Option Addr) (n c : Nat) (L : List Rg) (S : Nat → Prop) (w : World) (hS : ∀ k, S k → k < w.heap.size) (hC : Row rT w S A n L) :
    Calls Try.prog 8 #[.slice A n c] w fun e w' => ∃ A' n' c', e = .returned (.tuple #[.slice A' n' c', .int .i64 ((met (keyF L) 256).length : Nat)]) ∧ Row I w' (fun k => w.heap.size ≤ k ∧ k < w'.heap.size) A' n' (clsL (keyF L) 256) ∧ Below w.heap.size w w' := by
  have HS := Hd.mk hS; have HC := Hd.mk hC; clear hS hC
  go_enter Try.func8, Try.ntmps8
  go_wp2
  go_loopw [4, 5, 6] (fun v mm i wr => ∃ q m : Nat, q ≤ 256 ∧ m ≤ q ∧ i = .int .i64 q ∧ mm = .int .i64 m ∧ Hd (m = (met (keyF L) q).length) ∧ Hd (Mine I wr w.heap.size 3 v (clsL (keyF L) q)) ∧ Hd (Below w.heap.size w wr)) (fun _ _ i _ => 256 - (intOf i).toNat)
  case atStart => exact ⟨0, 0, Nat.zero_le _, Nat.le_refl _, rfl, rfl, ⟨rfl⟩, ⟨Mine.nil _ _ _ _⟩, ⟨Below.refl _ _⟩⟩
  case round =>
    obtain ⟨q, m, hq, hm, rfl, rfl, HM, HO, HB⟩ := hrel
    obtain ⟨A2, z, c2, rfl, hz, hc2, hA2, hR2⟩ := HO.out.formN
    rw [clsL_len] at hz
    obtain rfl := hz.symm
    have HR2 := Hd.mk hR2; clear hR2 hA2
    by_cases hlt : q < 256
    · have HK0 : Hd (Like (keyF L) q 0 m) := ⟨by rw [HM.out]; exact Like.zero _ _⟩
      have HCr := Hd.mk (HC.out.below HS.out HB.out)
      go_wp2
      go_loopw [7, 8] (fun kv d wx => ∃ d' kk : Nat, d' ≤ q ∧ d = .int .i64 d' ∧ kv = .int .i64 kk ∧ Hd (Like (keyF L) q d' kk) ∧ wx = wr) (fun _ d _ => q - (intOf d).toNat)
      case atStart => exact ⟨0, m, Nat.zero_le _, rfl, rfl, HK0, rfl⟩
      case round =>
        clear HK0
        obtain ⟨d, kk, hd, rfl, rfl, HK, rfl⟩ := hrel
        by_cases hdl : d < q
        · by_cases hlike : keyF L q = keyF L d
          · have HT : Hd (apB L (q : Nat) (d : Nat) = false) := ⟨by unfold apB; simpa [keyF] using hlike⟩
            have HK2 := Hd.mk (Like.hit (f := keyF L) (c := q) (d := d) hlike.symm)
            obtain ⟨b, off, x, rfl, _, hb1, hx, hcell⟩ := HR2.out.get_int d hdl
            have hx2 : x = (cls (keyF L) d : Int) := by have := clsL_get (f := keyF L) hdl; rw [hx] at this; exact Option.some.inj this
            subst hx2
            clear hlike hx
            go_wp2_with (go_at_call 11; go_must (refine Calls.mono (apart_calls A n c L q d S _ (by omega) (by omega) HCr.out) ?_; rintro e w3 ⟨he, rfl⟩; rw [HT.out] at he; subst he))
            go_roundw
            case rel => exact ⟨d + 1, _, by omega, by go_num, rfl, HK2, trivial⟩
            case measure => simp [intOf]; omega
          · have HT : Hd (apB L (q : Nat) (d : Nat) = true) := ⟨by unfold apB; simpa [keyF] using hlike⟩
            have HK2 := Hd.mk (Like.miss HK.out (fun h => hlike h.symm))
            clear hlike
            go_wp2_with (go_at_call 11; go_must (refine Calls.mono (apart_calls A n c L q d S _ (by omega) (by omega) HCr.out) ?_; rintro e w3 ⟨he, rfl⟩; rw [HT.out] at he; subst he))
            go_roundw
            case rel => exact ⟨d + 1, kk, by omega, by go_num, rfl, HK2, trivial⟩
            case measure => simp [intOf]; omega
        · obtain rfl : q = d := by omega
          have hkc := HK.out.all
          have HKC := Hd.mk hkc; clear hkc
          have hkk : kk ≤ 256 := by rw [HKC.out]; have := cls_le (keyF L) q; have := met_len (keyF L) q; omega
          have HSS := Hd.mk (clsL_succ (keyF L) q)
          rw [← HKC.out] at HSS
          by_cases hnew : kk = m
          · have hnJ : ((kk : Int) == (m : Int)) = true := by simp; omega
            have HM2 : Hd (m + 1 = (met (keyF L) (q + 1)).length) := ⟨by rw [met_len_succ, ← HM.out, if_pos (by rw [← HKC.out]; exact hnew)]⟩
            clear hnew
            go_wp2_with (at_builtin; go_must (refine append_snoc I (Ty.int_flat _) rfl (.tmp 33) (.tmp 35) 24 3 _ 8 rfl Try.underlying24 info3 rfl (by decide) (by decide) w.heap.size (.slice A2 q c2) (clsL (keyF L) q) (kk : Int) [.int .i64 (kk : Int)] wr.heap.size rfl rfl (blk_new _ _ _ rfl) rfl (HO.out.below (by repeat (first | (with_reducible assumption) | (with_reducible exact Below.refl _ _) | (with_reducible apply below_drewL) | (with_reducible apply below_alloc) | (with_reducible apply below_drew1) | (with_reducible apply below_drewN) | (refine below_set ?_ (by first | omega | (simp only [size_alloc, size_drew, size_set]; omega)) _ _)))) (HO.out.ne_new (Nat.le_refl _)) (by simp only [size_alloc, size_drew]; have := HB.out.size; omega) (by rw [clsL_len]; omega) ?_; intro v2 w2 hM2 hb2 hk2 hat2; replace hb2 := Hd.mk (Below.trans (HB.out.alloc HB.out.size _) hb2); have HO2 := Hd.mk hM2; clear hM2 hk2 hat2))
            go_roundw
            case rel => exact ⟨q + 1, m + 1, by omega, by omega, by go_num, by go_num, HM2, ⟨by rw [HSS.out]; exact HO2.out⟩, hb2⟩
            case measure => simp [intOf]; omega
          · have hnJ : ((kk : Int) == (m : Int)) = false := by simp; omega
            have HM2 : Hd (m = (met (keyF L) (q + 1)).length) := ⟨by rw [met_len_succ, ← HM.out, if_neg (by rw [← HKC.out]; exact hnew)]⟩
            clear hnew
            go_wp2_with (at_builtin; go_must (refine append_snoc I (Ty.int_flat _) rfl (.tmp 33) (.tmp 35) 24 3 _ 8 rfl Try.underlying24 info3 rfl (by decide) (by decide) w.heap.size (.slice A2 q c2) (clsL (keyF L) q) (kk : Int) [.int .i64 (kk : Int)] wr.heap.size rfl rfl (blk_new _ _ _ rfl) rfl (HO.out.below (by repeat (first | (with_reducible assumption) | (with_reducible exact Below.refl _ _) | (with_reducible apply below_drewL) | (with_reducible apply below_alloc) | (with_reducible apply below_drew1) | (with_reducible apply below_drewN) | (refine below_set ?_ (by first | omega | (simp only [size_alloc, size_drew, size_set]; omega)) _ _)))) (HO.out.ne_new (Nat.le_refl _)) (by simp only [size_alloc, size_drew]; have := HB.out.size; omega) (by rw [clsL_len]; omega) ?_; intro v2 w2 hM2 hb2 hk2 hat2; replace hb2 := Hd.mk (Below.trans (HB.out.alloc HB.out.size _) hb2); have HO2 := Hd.mk hM2; clear hM2 hk2 hat2))
            go_roundw
            case rel => exact ⟨q + 1, m, by omega, by omega, by go_num, rfl, HM2, ⟨by rw [HSS.out]; exact HO2.out⟩, hb2⟩
            case measure => simp [intOf]; omega
    ·
      obtain rfl : q = 256 := by omega
      go_wp2
      go_ret2
      exact ⟨A2, 256, ⟨c2, by rw [← HM.out]; rfl⟩, HR2.out, HB.out⟩
set_option maxRecDepth 20000 in
set_option maxHeartbeats 1000000 in
theorem rjoin_calls (A1 A2 : Option Addr) (n1 c1 n2 c2 : Nat) (L1 L2 : List Int) (S1 S2 : Nat → Prop) (w : World) (hS1 : ∀ k, S1 k → k < w.heap.size) (hS2 : ∀ k, S2 k → k < w.heap.size) (h1 : Row I w S1 A1 n1 L1) (h2 : Row I w S2 A2 n2 L2) :
    Calls Try.prog 13 #[.slice A1 n1 c1, .slice A2 n2 c2] w fun e w' => ∃ A' n' c', e = .returned (.tuple #[.slice A' n' c', .int .i64 ((met (pairF L1 L2) 256).length : Nat)]) ∧ Row I w' (fun k => w.heap.size ≤ k ∧ k < w'.heap.size) A' n' (clsL (pairF L1 L2) 256) ∧ Below w.heap.size w w' := by
  have HS1 := Hd.mk hS1; have HS2 := Hd.mk hS2; have H1 := Hd.mk h1; have H2 := Hd.mk h2; clear hS1 hS2 h1 h2
  obtain ⟨f, hf⟩ : ∃ f, pairF L1 L2 = f := ⟨_, rfl⟩
  have HF : Hd (∀ c d, f c = f d ↔ (atN L1 c = atN L1 d ∧ atN L2 c = atN L2 d)) := ⟨fun c d => by rw [← hf]; simp [pairF]⟩
  rw [hf]
  clear hf
  go_enter Try.func13, Try.ntmps13
  go_wp2
  go_loopw [6, 7, 8] (fun v mm i wr => ∃ q m : Nat, q ≤ 256 ∧ m ≤ q ∧ i = .int .i64 q ∧ mm = .int .i64 m ∧ Hd (m = (met f q).length) ∧ Hd (Mine I wr w.heap.size 3 v (clsL f q)) ∧ Hd (Below w.heap.size w wr)) (fun _ _ i _ => 256 - (intOf i).toNat)
  case atStart => exact ⟨0, 0, Nat.zero_le _, Nat.le_refl _, rfl, rfl, ⟨rfl⟩, ⟨Mine.nil _ _ _ _⟩, ⟨Below.refl _ _⟩⟩
  case round =>
    obtain ⟨q, m, hq, hm, rfl, rfl, HM, HO, HB⟩ := hrel
    obtain ⟨A3, z, c3, rfl, hz, hc3, hA3, hR2⟩ := HO.out.formN
    rw [clsL_len] at hz
    obtain rfl := hz.symm
    have HR2 := Hd.mk hR2; clear hR2 hA3
    by_cases hlt : q < 256
    · have HK0 : Hd (Like f q 0 m) := ⟨by rw [HM.out]; exact Like.zero _ _⟩
      have H1r := Hd.mk (H1.out.below HS1.out HB.out); have H2r := Hd.mk (H2.out.below HS2.out HB.out)
      obtain ⟨x1, hx1⟩ : ∃ x, atN L1 q = x := ⟨_, rfl⟩
      obtain ⟨x2, hx2⟩ : ∃ x, atN L2 q = x := ⟨_, rfl⟩
      have HX1 := Hd.mk hx1; have HX2 := Hd.mk hx2; clear hx1 hx2
      go_wp2
      go_loopw [9, 10] (fun kv d wx => ∃ d' kk : Nat, d' ≤ q ∧ d = .int .i64 d' ∧ kv = .int .i64 kk ∧ Hd (Like f q d' kk) ∧ wx = wr) (fun _ d _ => q - (intOf d).toNat)
      case atStart => exact ⟨0, m, Nat.zero_le _, rfl, rfl, HK0, rfl⟩
      case round =>
        clear HK0
        obtain ⟨d, kk, hd, rfl, rfl, HK, rfl⟩ := hrel
        by_cases hdl : d < q
        · obtain ⟨y1, hy1⟩ : ∃ x, atN L1 d = x := ⟨_, rfl⟩
          obtain ⟨y2, hy2⟩ : ∃ x, atN L2 d = x := ⟨_, rfl⟩
          have HY1 := Hd.mk hy1; have HY2 := Hd.mk hy2; clear hy1 hy2
          have hff := HF.out d q
          rw [HX1.out, HX2.out, HY1.out, HY2.out] at hff
          have HFF := Hd.mk hff; clear hff
          by_cases e1 : x1 = y1
          · by_cases e2 : x2 = y2
            · have HK2 := Hd.mk (Like.hit (f := f) (c := q) (d := d) (HFF.out.2 ⟨e1.symm, e2.symm⟩))
              have e1J : (x1 == y1) = true := by simpa using e1
              have e2J : (x2 == y2) = true := by simpa using e2
              obtain ⟨b, off, x, rfl, _, hb1, hx, hcell⟩ := HR2.out.get_int d hdl
              have hx3 : x = (cls f d : Int) := by have := clsL_get (f := f) hdl; rw [hx] at this; exact Option.some.inj this
              subst hx3
              clear hx e1 e2
              go_wp2_with (first
                | (go_at_call 21; have hq_ := HQ3; clear hq_; go_must (refine Calls.mono (number_calls A2 n2 c2 L2 d S2 _ H2r.out (by omega)) ?_; rintro e w3 ⟨he, rfl⟩; rw [HY2.out] at he; subst he))
                | (go_at_call 21; have hq_ := HQ2; clear hq_; go_must (refine Calls.mono (number_calls A2 n2 c2 L2 q S2 _ H2r.out (by omega)) ?_; rintro e w3 ⟨he, rfl⟩; rw [HX2.out] at he; subst he; have HQ3 := Hd.mk True.intro))
                | (go_at_call 21; have hq_ := HQ1; clear hq_; go_must (refine Calls.mono (number_calls A1 n1 c1 L1 d S1 _ H1r.out (by omega)) ?_; rintro e w3 ⟨he, rfl⟩; rw [HY1.out] at he; subst he; have HQ2 := Hd.mk True.intro))
                | (go_at_call 21; go_must (refine Calls.mono (number_calls A1 n1 c1 L1 q S1 _ H1r.out (by omega)) ?_; rintro e w3 ⟨he, rfl⟩; rw [HX1.out] at he; subst he; have HQ1 := Hd.mk True.intro)))
              go_roundw
              case rel => exact ⟨d + 1, _, by omega, by go_num, rfl, HK2, trivial⟩
              case measure => simp [intOf]; omega
            · have HK2 := Hd.mk (Like.miss HK.out (fun h => e2 (HFF.out.1 h).2.symm))
              have e1J : (x1 == y1) = true := by simpa using e1
              have e2J : (x2 == y2) = false := by simpa using e2
              clear e1 e2
              go_wp2_with (first
                | (go_at_call 21; have hq_ := HQ3; clear hq_; go_must (refine Calls.mono (number_calls A2 n2 c2 L2 d S2 _ H2r.out (by omega)) ?_; rintro e w3 ⟨he, rfl⟩; rw [HY2.out] at he; subst he))
                | (go_at_call 21; have hq_ := HQ2; clear hq_; go_must (refine Calls.mono (number_calls A2 n2 c2 L2 q S2 _ H2r.out (by omega)) ?_; rintro e w3 ⟨he, rfl⟩; rw [HX2.out] at he; subst he; have HQ3 := Hd.mk True.intro))
                | (go_at_call 21; have hq_ := HQ1; clear hq_; go_must (refine Calls.mono (number_calls A1 n1 c1 L1 d S1 _ H1r.out (by omega)) ?_; rintro e w3 ⟨he, rfl⟩; rw [HY1.out] at he; subst he; have HQ2 := Hd.mk True.intro))
                | (go_at_call 21; go_must (refine Calls.mono (number_calls A1 n1 c1 L1 q S1 _ H1r.out (by omega)) ?_; rintro e w3 ⟨he, rfl⟩; rw [HX1.out] at he; subst he; have HQ1 := Hd.mk True.intro)))
              go_roundw
              case rel => exact ⟨d + 1, kk, by omega, by go_num, rfl, HK2, trivial⟩
              case measure => simp [intOf]; omega
          · have HK2 := Hd.mk (Like.miss HK.out (fun h => e1 (HFF.out.1 h).1.symm))
            have e1J : (x1 == y1) = false := by simpa using e1
            clear e1
            go_wp2_with (first
                | (go_at_call 21; have hq_ := HQ3; clear hq_; go_must (refine Calls.mono (number_calls A2 n2 c2 L2 d S2 _ H2r.out (by omega)) ?_; rintro e w3 ⟨he, rfl⟩; rw [HY2.out] at he; subst he))
                | (go_at_call 21; have hq_ := HQ2; clear hq_; go_must (refine Calls.mono (number_calls A2 n2 c2 L2 q S2 _ H2r.out (by omega)) ?_; rintro e w3 ⟨he, rfl⟩; rw [HX2.out] at he; subst he; have HQ3 := Hd.mk True.intro))
                | (go_at_call 21; have hq_ := HQ1; clear hq_; go_must (refine Calls.mono (number_calls A1 n1 c1 L1 d S1 _ H1r.out (by omega)) ?_; rintro e w3 ⟨he, rfl⟩; rw [HY1.out] at he; subst he; have HQ2 := Hd.mk True.intro))
                | (go_at_call 21; go_must (refine Calls.mono (number_calls A1 n1 c1 L1 q S1 _ H1r.out (by omega)) ?_; rintro e w3 ⟨he, rfl⟩; rw [HX1.out] at he; subst he; have HQ1 := Hd.mk True.intro)))
            go_roundw
            case rel => exact ⟨d + 1, kk, by omega, by go_num, rfl, HK2, trivial⟩
            case measure => simp [intOf]; omega
        · obtain rfl : q = d := by omega
          have hkc := HK.out.all
          have HKC := Hd.mk hkc; clear hkc
          have hkk : kk ≤ 256 := by rw [HKC.out]; have := cls_le f q; have := met_len f q; omega
          have HSS := Hd.mk (clsL_succ f q)
          rw [← HKC.out] at HSS
          by_cases hnew : kk = m
          · have hnJ : ((kk : Int) == (m : Int)) = true := by simp; omega
            have HM2 : Hd (m + 1 = (met f (q + 1)).length) := ⟨by rw [met_len_succ, ← HM.out, if_pos (by rw [← HKC.out]; exact hnew)]⟩
            clear hnew
            go_wp2_with (at_builtin; go_must (refine append_snoc I (Ty.int_flat _) rfl (.tmp 46) (.tmp 48) 24 3 _ 8 rfl Try.underlying24 info3 rfl (by decide) (by decide) w.heap.size (.slice A3 q c3) (clsL f q) (kk : Int) [.int .i64 (kk : Int)] wr.heap.size rfl rfl (blk_new _ _ _ rfl) rfl (HO.out.below (by repeat (first | (with_reducible assumption) | (with_reducible exact Below.refl _ _) | (with_reducible apply below_drewL) | (with_reducible apply below_alloc) | (with_reducible apply below_drew1) | (with_reducible apply below_drewN) | (refine below_set ?_ (by first | omega | (simp only [size_alloc, size_drew, size_set]; omega)) _ _)))) (HO.out.ne_new (Nat.le_refl _)) (by simp only [size_alloc, size_drew]; have := HB.out.size; omega) (by rw [clsL_len]; omega) ?_; intro v2 w2 hM2 hb2 hk2 hat2; replace hb2 := Hd.mk (Below.trans (HB.out.alloc HB.out.size _) hb2); have HO2 := Hd.mk hM2; clear hM2 hk2 hat2))
            go_roundw
            case rel => exact ⟨q + 1, m + 1, by omega, by omega, by go_num, by go_num, HM2, ⟨by rw [HSS.out]; exact HO2.out⟩, hb2⟩
            case measure => simp [intOf]; omega
          · have hnJ : ((kk : Int) == (m : Int)) = false := by simp; omega
            have HM2 : Hd (m = (met f (q + 1)).length) := ⟨by rw [met_len_succ, ← HM.out, if_neg (by rw [← HKC.out]; exact hnew)]⟩
            clear hnew
            go_wp2_with (at_builtin; go_must (refine append_snoc I (Ty.int_flat _) rfl (.tmp 46) (.tmp 48) 24 3 _ 8 rfl Try.underlying24 info3 rfl (by decide) (by decide) w.heap.size (.slice A3 q c3) (clsL f q) (kk : Int) [.int .i64 (kk : Int)] wr.heap.size rfl rfl (blk_new _ _ _ rfl) rfl (HO.out.below (by repeat (first | (with_reducible assumption) | (with_reducible exact Below.refl _ _) | (with_reducible apply below_drewL) | (with_reducible apply below_alloc) | (with_reducible apply below_drew1) | (with_reducible apply below_drewN) | (refine below_set ?_ (by first | omega | (simp only [size_alloc, size_drew, size_set]; omega)) _ _)))) (HO.out.ne_new (Nat.le_refl _)) (by simp only [size_alloc, size_drew]; have := HB.out.size; omega) (by rw [clsL_len]; omega) ?_; intro v2 w2 hM2 hb2 hk2 hat2; replace hb2 := Hd.mk (Below.trans (HB.out.alloc HB.out.size _) hb2); have HO2 := Hd.mk hM2; clear hM2 hk2 hat2))
            go_roundw
            case rel => exact ⟨q + 1, m, by omega, by omega, by go_num, rfl, HM2, ⟨by rw [HSS.out]; exact HO2.out⟩, hb2⟩
            case measure => simp [intOf]; omega
    · obtain rfl : q = 256 := by omega
      go_wp2
      go_ret2
      exact ⟨A3, 256, ⟨c3, by rw [← HM.out]; rfl⟩, HR2.out, HB.out⟩
end Go.Proofs.Ytpcjidbhkffncaa.Fn
