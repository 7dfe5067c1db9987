/- Same, Hash, Copy of sets. -/
import Derived.Test.YtbmpaokicphdjaaDoorBC
import Derived.Laws.CopyOwn
set_option linter.unusedVariables false
set_option linter.unusedSimpArgs false
namespace Go.Proofs.YtbmpaokicphdjaaDoor.Fn
open Go Go.RowKit Go.Proofs.YtbmpaokicphdjaaDoor.Can Go.Proofs.YtbmpaokicphdjaaDoor.Base
attribute [local go_sem] clsB AB.cell

/-- The same words, but for words of nothing behind them. -/
def SameW (a b : List Nat) : Prop := ∀ j, a.getD j 0 = b.getD j 0
theorem bitAt_word (ws : List Nat) (j i : Nat) (hi : i < 64) : bitAt ws (64 * j + i) = (ws.getD j 0).testBit i := by
  unfold bitAt
  rw [show (64 * j + i) / 64 = j by omega, show (64 * j + i) % 64 = i by omega]
theorem word_ext {x y : Nat} (hx : x < 18446744073709551616) (hy : y < 18446744073709551616) (h : ∀ i, i < 64 → x.testBit i = y.testBit i) : x = y := by
  apply Nat.eq_of_testBit_eq
  intro i
  by_cases hi : i < 64
  · exact h i hi
  · have hp : (18446744073709551616 : Nat) ≤ 2 ^ i := by have : (2 : Nat) ^ 64 ≤ 2 ^ i := Nat.pow_le_pow_right (by decide) (by omega); simpa using this
    rw [Nat.testBit_lt_two_pow (Nat.lt_of_lt_of_le hx hp), Nat.testBit_lt_two_pow (Nat.lt_of_lt_of_le hy hp)]
theorem sameW_iff {r1 r2 : Nat} {a b : List Nat} (h1 : Wok r1 a) (h2 : Wok r2 b) : SameW a b ↔ elemsI a = elemsI b := by
  constructor
  · intro h
    refine sorted_ext (elemsI_sorted _) (elemsI_sorted _) fun y => ?_
    have hb : bitAt a y.toNat = bitAt b y.toNat := by unfold bitAt; rw [h]
    rw [mem_elemsI h1, mem_elemsI h2, hb]
    constructor
    · rintro ⟨p, q⟩
      refine ⟨⟨p.1, ?_⟩, q⟩
      rcases Nat.lt_or_ge y.toNat r2 with h3 | h3
      · have := p.1; omega
      · rw [h2.top _ h3] at q; cases q
    · rintro ⟨p, q⟩
      refine ⟨⟨p.1, ?_⟩, q⟩
      rcases Nat.lt_or_ge y.toNat r1 with h3 | h3
      · have := p.1; omega
      · rw [← hb, h1.top _ h3] at q; cases q
  · intro h j
    have key : ∀ k, bitAt a k = bitAt b k := fun k => by
      have e : bitAt a k = true ↔ bitAt b k = true := by
        have q1 : bitAt a k = true ↔ (k : Int) ∈ elemsI a := by
          rw [mem_elemsI h1, Int.toNat_natCast]
          constructor
          · intro hb
            refine ⟨⟨by omega, ?_⟩, hb⟩
            rcases Nat.lt_or_ge k r1 with h3 | h3
            · omega
            · rw [h1.top _ h3] at hb; cases hb
          · exact fun h => h.2
        have q2 : bitAt b k = true ↔ (k : Int) ∈ elemsI b := by
          rw [mem_elemsI h2, Int.toNat_natCast]
          constructor
          · intro hb
            refine ⟨⟨by omega, ?_⟩, hb⟩
            rcases Nat.lt_or_ge k r2 with h3 | h3
            · omega
            · rw [h2.top _ h3] at hb; cases hb
          · exact fun h => h.2
        rw [q1, q2, h]
      cases ha : bitAt a k <;> cases hb : bitAt b k <;> simp_all
    refine word_ext (getD_lt h1 j) (getD_lt h2 j) fun i hi => ?_
    rw [← bitAt_word a j i hi, ← bitAt_word b j i hi]
    exact key _
theorem sameW_comm {a b : List Nat} : SameW a b ↔ SameW b a := ⟨fun h j => (h j).symm, fun h j => (h j).symm⟩
theorem getD_out {ws : List Nat} {j : Nat} (h : ws.length ≤ j) : ws.getD j 0 = 0 := by rw [List.getD_eq_getElem?_getD, List.getElem?_eq_none h]; rfl
theorem sameW_end {a b : List Nat} {n1 n2 : Nat} (h1 : a.length = n1) (h2 : b.length = n2) (h : n1 ≤ n2) (hp : ∀ j, j < n2 → a.getD j 0 = b.getD j 0) : SameW a b := by
  intro j
  rcases Nat.lt_or_ge j n2 with hj | hj
  · exact hp j hj
  · rw [getD_out (by omega), getD_out (by omega)]

set_option maxHeartbeats 1000000 in
theorem setsame_le (A1 A2 : Option Addr) (c1 c2 g1 g2 r1 r2 : Nat) (ws1 ws2 : List Nat) (b : Bool) (w : World) (hK1 : Wok r1 ws1) (hK2 : Wok r2 ws2) (h1 : Wd w A1 g1 ws1) (h2 : Wd w A2 g2 ws2) (hle : ws1.length ≤ ws2.length) (hb : SameW ws1 ws2 ↔ b = true) :
    Calls Tryd.prog 18 #[.agg #[.slice A1 ws1.length c1, .int .i64 r1], .agg #[.slice A2 ws2.length c2, .int .i64 r2]] w fun e w' => e = .returned (.bool b) ∧ Below w.heap.size w w' := by
  have hm1 : ws1.length ≤ 1100 := by have := hK1.len; have := hK1.small; omega
  have hm2 : ws2.length ≤ 1100 := by have := hK2.len; have := hK2.small; omega
  obtain ⟨n1, hm1e⟩ : ∃ m, ws1.length = m := ⟨_, rfl⟩
  obtain ⟨n2, hm2e⟩ : ∃ m, ws2.length = m := ⟨_, rfl⟩
  have HBB := Hd.mk hb; have HM1 := Hd.mk hm1e; have HM2 := Hd.mk hm2e
  rw [hm1e] at hm1 hle ⊢
  rw [hm2e] at hm2 hle ⊢
  have HLE := Hd.mk hle
  clear hb hm1e hm2e
  go_enter Tryd.func18, Tryd.ntmps18
  go_wp2
  rw [show decide (n2 < n1) = false from decide_eq_false (by omega)]
  generalize hV : World.alloc (World.alloc w _) _ = V
  have hv1 : V.heap[w.heap.size]? = some (.cells #[.slice A1 n1 c1, .int .i64 r1] 28 (0, 0)) := by rw [← hV]; exact blk_alloc (blk_new _ _ _ rfl) _
  have hv2 : V.heap[w.heap.size + 1]? = some (.cells #[.slice A2 n2 c2, .int .i64 r2] 28 (0, 0)) := by rw [← hV]; exact blk_new _ _ _ (by rw [size_alloc])
  have HBV : Hd (Below w.heap.size w V) := ⟨by rw [← hV]; exact below_alloc (below_alloc (Below.refl _ _) _) _⟩
  have H1 := Hd.mk (h1.below HBV.out); have H2 := Hd.mk (h2.below HBV.out)
  have hv1c0 := blk_cell hv1 0 _ rfl; have hv1f0 := blk_frozen hv1 0; have hv1c1 := blk_cell hv1 1 _ rfl; have hv1f1 := blk_frozen hv1 1; have hv1l := blk_lt hv1
  have hv2c0 := blk_cell hv2 0 _ rfl; have hv2f0 := blk_frozen hv2 0; have hv2c1 := blk_cell hv2 1 _ rfl; have hv2f1 := blk_frozen hv2 1; have hv2l := blk_lt hv2
  clear hV h1 h2 hv1 hv2 hK1 hK2
  go_loopw [19] (fun i wr => ∃ k : Nat, k ≤ n2 ∧ i = .int .i64 k ∧ Hd (∀ j, j < k → ws1.getD j 0 = ws2.getD j 0) ∧ wr = V) (fun i _ => n2 - (intOf i).toNat)
  case atStart => exact ⟨0, Nat.zero_le _, rfl, ⟨fun j hj => absurd hj (Nat.not_lt_zero j)⟩, rfl⟩
  case round =>
    obtain ⟨k, hk, rfl, HP, rfl⟩ := hrel
    by_cases hlt : k < n2
    · obtain ⟨y, hy⟩ : ∃ y, ws2[k]? = some y := ⟨_, List.getElem?_eq_getElem (by rw [HM2.out]; exact hlt)⟩
      have hyD : ws2.getD k 0 = y := by rw [List.getD_eq_getElem?_getD, hy]; rfl
      have hcy := H2.out.cell hy
      obtain ⟨rfl, hbk2⟩ := H2.out.at_ hy
      have hg2 := hbk2.lt
      have HYD := Hd.mk hyD
      clear hy hyD hbk2
      by_cases hlt1 : k < n1
      · obtain ⟨x, hx⟩ : ∃ x, ws1[k]? = some x := ⟨_, List.getElem?_eq_getElem (by rw [HM1.out]; exact hlt1)⟩
        have hxD : ws1.getD k 0 = x := by rw [List.getD_eq_getElem?_getD, hx]; rfl
        have hcx := H1.out.cell hx
        obtain ⟨rfl, hbk1⟩ := H1.out.at_ hx
        have hg1 := hbk1.lt
        have HXD := Hd.mk hxD
        clear hx hxD hbk1
        by_cases hxy : x = y
        · have HP2 : Hd (∀ j, j < k + 1 → ws1.getD j 0 = ws2.getD j 0) := ⟨fun j hj => by
            rcases Nat.lt_or_ge j k with h | h
            · exact HP.out j h
            · obtain rfl : j = k := by omega
              rw [HXD.out, HYD.out, hxy]⟩
          subst hxy
          have hj : ((x : Int) != (x : Int)) = false := by simp
          go_wp2
          go_roundw
          case rel => exact ⟨k + 1, by omega, by go_num, HP2, (by first | trivial | rfl)⟩
          case measure => simp [intOf]; omega
        · have hj : ((x : Int) != (y : Int)) = true := by simp; omega
          obtain rfl : b = false := by
            rw [← Bool.not_eq_true]
            intro hb
            exact hxy (by rw [← HXD.out, ← HYD.out]; exact HBB.out.2 hb k)
          clear hxy
          go_wp2
          go_ret
          exact ⟨rfl, HBV.out⟩
      · have HX0 : Hd (ws1.getD k 0 = 0) := ⟨getD_out (by rw [HM1.out]; omega)⟩
        by_cases hy0 : y = 0
        · subst hy0
          have hj : (((0 : Nat) : Int) != 0) = false := by simp
          have HP2 : Hd (∀ j, j < k + 1 → ws1.getD j 0 = ws2.getD j 0) := ⟨fun j hj => by
            rcases Nat.lt_or_ge j k with h | h
            · exact HP.out j h
            · obtain rfl : j = k := by omega
              rw [HX0.out, HYD.out]⟩
          go_wp2
          go_roundw
          case rel => exact ⟨k + 1, by omega, by go_num, HP2, (by first | trivial | rfl)⟩
          case measure => simp [intOf]; omega
        · have hj : ((y : Int) != 0) = true := by simp; omega
          obtain rfl : b = false := by
            rw [← Bool.not_eq_true]
            intro hb
            exact hy0 (HYD.out.symm.trans ((HBB.out.2 hb k).symm.trans HX0.out))
          clear hy0
          go_wp2
          go_ret
          exact ⟨rfl, HBV.out⟩
    · obtain rfl : k = n2 := by omega
      obtain rfl : b = true := HBB.out.1 (sameW_end HM1.out HM2.out HLE.out HP.out)
      go_wp2
      go_ret
      exact ⟨rfl, HBV.out⟩
set_option maxHeartbeats 1000000 in
theorem setsame_gt (A1 A2 : Option Addr) (c1 c2 g1 g2 r1 r2 : Nat) (ws1 ws2 : List Nat) (b : Bool) (w : World) (hK1 : Wok r1 ws1) (hK2 : Wok r2 ws2) (h1 : Wd w A1 g1 ws1) (h2 : Wd w A2 g2 ws2) (hle : ws1.length < ws2.length) (hb : SameW ws1 ws2 ↔ b = true) :
    Calls Tryd.prog 18 #[.agg #[.slice A2 ws2.length c2, .int .i64 r2], .agg #[.slice A1 ws1.length c1, .int .i64 r1]] w fun e w' => e = .returned (.bool b) ∧ Below w.heap.size w w' := by
  have hm1 : ws1.length ≤ 1100 := by have := hK1.len; have := hK1.small; omega
  have hm2 : ws2.length ≤ 1100 := by have := hK2.len; have := hK2.small; omega
  obtain ⟨n1, hm1e⟩ : ∃ m, ws1.length = m := ⟨_, rfl⟩
  obtain ⟨n2, hm2e⟩ : ∃ m, ws2.length = m := ⟨_, rfl⟩
  have HBB := Hd.mk hb; have HM1 := Hd.mk hm1e; have HM2 := Hd.mk hm2e
  rw [hm1e] at hm1 hle ⊢
  rw [hm2e] at hm2 hle ⊢
  have HLE : Hd (n1 ≤ n2) := ⟨by omega⟩
  clear hb hm1e hm2e
  go_enter Tryd.func18, Tryd.ntmps18
  go_wp2
  generalize hV : World.alloc (World.alloc w _) _ = V
  have hv1 : V.heap[w.heap.size]? = some (.cells #[.slice A1 n1 c1, .int .i64 r1] 28 (0, 0)) := by rw [← hV]; exact blk_alloc (blk_new _ _ _ rfl) _
  have hv2 : V.heap[w.heap.size + 1]? = some (.cells #[.slice A2 n2 c2, .int .i64 r2] 28 (0, 0)) := by rw [← hV]; exact blk_new _ _ _ (by rw [size_alloc])
  have HBV : Hd (Below w.heap.size w V) := ⟨by rw [← hV]; exact below_alloc (below_alloc (Below.refl _ _) _) _⟩
  have H1 := Hd.mk (h1.below HBV.out); have H2 := Hd.mk (h2.below HBV.out)
  have hv1c0 := blk_cell hv1 0 _ rfl; have hv1f0 := blk_frozen hv1 0; have hv1c1 := blk_cell hv1 1 _ rfl; have hv1f1 := blk_frozen hv1 1; have hv1l := blk_lt hv1
  have hv2c0 := blk_cell hv2 0 _ rfl; have hv2f0 := blk_frozen hv2 0; have hv2c1 := blk_cell hv2 1 _ rfl; have hv2f1 := blk_frozen hv2 1; have hv2l := blk_lt hv2
  clear hV h1 h2 hv1 hv2 hK1 hK2
  go_loopw [19] (fun i wr => ∃ k : Nat, k ≤ n2 ∧ i = .int .i64 k ∧ Hd (∀ j, j < k → ws1.getD j 0 = ws2.getD j 0) ∧ wr = V) (fun i _ => n2 - (intOf i).toNat)
  case atStart => exact ⟨0, Nat.zero_le _, rfl, ⟨fun j hj => absurd hj (Nat.not_lt_zero j)⟩, rfl⟩
  case round =>
    obtain ⟨k, hk, rfl, HP, rfl⟩ := hrel
    by_cases hlt : k < n2
    · obtain ⟨y, hy⟩ : ∃ y, ws2[k]? = some y := ⟨_, List.getElem?_eq_getElem (by rw [HM2.out]; exact hlt)⟩
      have hyD : ws2.getD k 0 = y := by rw [List.getD_eq_getElem?_getD, hy]; rfl
      have hcy := H2.out.cell hy
      obtain ⟨rfl, hbk2⟩ := H2.out.at_ hy
      have hg2 := hbk2.lt
      have HYD := Hd.mk hyD
      clear hy hyD hbk2
      by_cases hlt1 : k < n1
      · obtain ⟨x, hx⟩ : ∃ x, ws1[k]? = some x := ⟨_, List.getElem?_eq_getElem (by rw [HM1.out]; exact hlt1)⟩
        have hxD : ws1.getD k 0 = x := by rw [List.getD_eq_getElem?_getD, hx]; rfl
        have hcx := H1.out.cell hx
        obtain ⟨rfl, hbk1⟩ := H1.out.at_ hx
        have hg1 := hbk1.lt
        have HXD := Hd.mk hxD
        clear hx hxD hbk1
        by_cases hxy : x = y
        · have HP2 : Hd (∀ j, j < k + 1 → ws1.getD j 0 = ws2.getD j 0) := ⟨fun j hj => by
            rcases Nat.lt_or_ge j k with h | h
            · exact HP.out j h
            · obtain rfl : j = k := by omega
              rw [HXD.out, HYD.out, hxy]⟩
          subst hxy
          have hj : ((x : Int) != (x : Int)) = false := by simp
          go_wp2
          go_roundw
          case rel => exact ⟨k + 1, by omega, by go_num, HP2, (by first | trivial | rfl)⟩
          case measure => simp [intOf]; omega
        · have hj : ((x : Int) != (y : Int)) = true := by simp; omega
          obtain rfl : b = false := by
            rw [← Bool.not_eq_true]
            intro hb
            exact hxy (by rw [← HXD.out, ← HYD.out]; exact HBB.out.2 hb k)
          clear hxy
          go_wp2
          go_ret
          exact ⟨rfl, HBV.out⟩
      · have HX0 : Hd (ws1.getD k 0 = 0) := ⟨getD_out (by rw [HM1.out]; omega)⟩
        by_cases hy0 : y = 0
        · subst hy0
          have hj : (((0 : Nat) : Int) != 0) = false := by simp
          have HP2 : Hd (∀ j, j < k + 1 → ws1.getD j 0 = ws2.getD j 0) := ⟨fun j hj => by
            rcases Nat.lt_or_ge j k with h | h
            · exact HP.out j h
            · obtain rfl : j = k := by omega
              rw [HX0.out, HYD.out]⟩
          go_wp2
          go_roundw
          case rel => exact ⟨k + 1, by omega, by go_num, HP2, (by first | trivial | rfl)⟩
          case measure => simp [intOf]; omega
        · have hj : ((y : Int) != 0) = true := by simp; omega
          obtain rfl : b = false := by
            rw [← Bool.not_eq_true]
            intro hb
            exact hy0 (HYD.out.symm.trans ((HBB.out.2 hb k).symm.trans HX0.out))
          clear hy0
          go_wp2
          go_ret
          exact ⟨rfl, HBV.out⟩
    · obtain rfl : k = n2 := by omega
      obtain rfl : b = true := HBB.out.1 (sameW_end HM1.out HM2.out HLE.out HP.out)
      go_wp2
      go_ret
      exact ⟨rfl, HBV.out⟩
theorem setsame_calls (A1 A2 : Option Addr) (c1 c2 g1 g2 r1 r2 : Nat) (ws1 ws2 : List Nat) (w : World) (hK1 : Wok r1 ws1) (hK2 : Wok r2 ws2) (h1 : Wd w A1 g1 ws1) (h2 : Wd w A2 g2 ws2) :
    Calls Tryd.prog 18 #[.agg #[.slice A1 ws1.length c1, .int .i64 r1], .agg #[.slice A2 ws2.length c2, .int .i64 r2]] w fun e w' => e = .returned (.bool (decide (elemsI ws1 = elemsI ws2))) ∧ Below w.heap.size w w' := by
  rcases Nat.lt_or_ge ws2.length ws1.length with h | h
  · exact setsame_gt A2 A1 c2 c1 g2 g1 r2 r1 ws2 ws1 _ w hK2 hK1 h2 h1 h (by rw [sameW_comm, sameW_iff hK1 hK2, decide_eq_true_iff])
  · exact setsame_le A1 A2 c1 c2 g1 g2 r1 r2 ws1 ws2 _ w hK1 hK2 h1 h2 h (by rw [sameW_iff hK1 hK2, decide_eq_true_iff])
end Go.Proofs.YtbmpaokicphdjaaDoor.Fn
