/- Texts: B7, B8, B9, B10, B11, B12. -/
import Derived.RangeFuncNested
import Derived.RangeFuncBound
import Derived.RangeFuncCalls
import Derived.RangeFuncLeaves
import Derived.Shelf.Abstract
import Derived.Shelf.RegionOpen
import Derived.WalkKit
import Derived.OwnWalkIn
import Derived.TacticsInMore
import Derived.LoopNIn
import Derived.LoopIn
import Derived.Test.YtbmpaokicphdjaaDoorBA
import Derived.RangeFuncFrom
import Derived.RangeFuncBox
import Derived.Maps.AppendAt
import Derived.Test.YtbmpaokicphdjaaDoorCut
set_option linter.unusedVariables false
set_option linter.unusedSimpArgs false
/- The iterator over a set's numbers. -/
namespace Go.Proofs.YtbmpaokicphdjaaDoor.Fn
open Go Go.RowKit Go.Shelf Go.Proofs.YtbmpaokicphdjaaDoor.Can Go.Proofs.YtbmpaokicphdjaaDoor.Base
attribute [local go_sem] Oper.semAt_some

/-- What a round keeps: these blocks. -/
def Kept (K : Nat → Prop) (W W' : World) : Prop := ∀ k, K k → W'.heap[k]? = W.heap[k]?
theorem Kept.refl (K : Nat → Prop) (W : World) : Kept K W W := fun _ _ => rfl
theorem Kept.trans {K : Nat → Prop} {A B C : World} (h : Kept K A B) (k : Kept K B C) : Kept K A C := fun i hi => (k i hi).trans (h i hi)
theorem Kept.cell {K : Nat → Prop} {A B : World} (h : Kept K A B) {b i : Nat} (hb : K b) : B.cell? ⟨b, i, none⟩ = A.cell? ⟨b, i, none⟩ := World.cell?_of_block (w := A) (h b hb)
theorem Kept.tab {K : Nat → Prop} {A B : World} (h : Kept K A B) (h0 : K 0) {l : List Nat} (hT : TabAt 0 l A) : TabAt 0 l B := fun j hj => (h.cell h0).trans (hT j hj)
theorem elemsK_len (ws : List Nat) (k : Nat) : (elemsK ws k).length ≤ 64 * k := by
  unfold elemsK
  exact Nat.le_trans (List.length_filter_le _ _) (by rw [List.length_range]; exact Nat.le_refl _)
set_option maxRecDepth 100000 in
set_option maxHeartbeats 4000000 in
theorem each_in (n : Nat) (hn : 1 ≤ n) (l Bx g c : Nat) (A : Option Addr) (ws : List Nat) (hlt : ∀ x ∈ ws, x < 18446744073709551616) (hlen : ws.length ≤ 2000) (J Jx : List Nat → World → Prop)
    (hY : ∀ (pre : List Nat) (x : Nat) W, J pre W → pre.length < 64 * ws.length → YieldAt Fence.wide (n - 1) Tryd.prog l #[.int .i64 (x : Int)] W fun e W' =>
      (e = .returned (.bool true) ∧ J (pre ++ [x]) W' ∧ Kept (fun k => k = g ∨ k = Bx ∨ k = 0) W W') ∨ (e = .returned (.bool false) ∧ Jx (pre ++ [x]) W'))
    (W : World) (hB : W.cell? ⟨Bx, 0, none⟩ = some (.slice A ws.length c)) (hW : Wd W A g ws) (hT : TabAt 0 Lib.deBruijn64tab W) (h0 : J [] W) :
    CallsIn Fence.wide n Tryd.prog 104 #[.func (.yield l) #[] #[], .pointer (some ⟨Bx, 0, none⟩)] W fun e W' => (∃ v, e = .returned v) ∧
      ((∃ ys, ys = elems ws ∧ J ys W') ∨ (∃ pre, True ∧ Jx pre W')) := by
  refine callsIn_of_wp Tryd.func104 rfl trivial ?_ rfl
  simp only [Tryd.ntmps104, List.size_toArray, List.length_cons, List.length_nil, Nat.reduceAdd, Nat.reduceSub, Array.replicate_succ, Array.replicate_zero, List.push_toArray, List.append_toArray, List.nil_append, List.cons_append]
  obtain ⟨m, hm⟩ : ∃ m, ws.length = m := ⟨_, rfl⟩
  rw [hm] at hB hlen
  have HM := Hd.mk hm; have HT := Hd.mk hT; have HW := Hd.mk hW; have H0 := Hd.mk h0; have HY := Hd.mk hY; have HL := Hd.mk hlt
  clear hm hT hW h0 hY hlt
  gi_wp2
  gi_loopw [8] (fun i wr => ∃ k : Nat, k ≤ m ∧ i = .int .i64 k ∧ Hd (J (elemsK ws k) wr) ∧ Hd (Kept (fun k => k = g ∨ k = Bx ∨ k = 0) W wr)) (fun i _ => m - (intOf i).toNat)
  case atStart => exact ⟨0, Nat.zero_le _, rfl, H0, ⟨Kept.refl _ _⟩⟩
  case round =>
    obtain ⟨k, hk, rfl, HJ, HK⟩ := hrel
    by_cases hlt : k < m
    · obtain ⟨x, hx⟩ : ∃ x, ws[k]? = some x := ⟨_, List.getElem?_eq_getElem (by rw [HM.out]; exact hlt)⟩
      have hx64 : x < 18446744073709551616 := HL.out x (List.mem_of_getElem? hx)
      have hxD : ws.getD k 0 = x := by rw [List.getD_eq_getElem?_getD, hx]; rfl
      have hWr := HW.out.move (HK.out g (.inl rfl))
      have hcx := hWr.cell hx
      obtain ⟨rfl, _⟩ := hWr.at_ hx
      have HS : Hd (elemsK ws (k + 1) = elemsK ws k ++ (wordBits x).map (k * 64 + ·)) := ⟨by rw [elemsK_succ, hxD]⟩
      clear hx hxD hWr
      gi_wp2
      gi_loopw [4] (fun v wx => ∃ (y : Nat) (pre : List Nat), v = .int .u64 y ∧ y < 18446744073709551616 ∧ Hd (elemsK ws (k + 1) = pre ++ (wordBits y).map (k * 64 + ·)) ∧ Hd (J pre wx) ∧ Hd (Kept (fun k => k = g ∨ k = Bx ∨ k = 0) W wx)) (fun v _ => (wordBits (intOf v).toNat).length)
      case atStart => exact ⟨x, _, rfl, hx64, HS, HJ, HK⟩
      case round =>
        clear HS HJ HK
        obtain ⟨y, pre, rfl, hy64, HS, HJ, HK⟩ := hrel
        by_cases hy0 : y = 0
        · subst hy0
          have HE : Hd (elemsK ws (k + 1) = pre) := ⟨by rw [HS.out, wordBits_zero, List.map_nil, List.append_nil]⟩
          gi_wp2
          go_roundw
          case rel => exact ⟨k + 1, by omega, by go_num, ⟨by rw [HE.out]; exact HJ.out⟩, HK⟩
          case measure => simp [intOf]; omega
        · have hb := wordBits_cons hy0 hy64
          obtain ⟨ct, hct⟩ : ∃ ct, Lib.ctz 64 y = ct := ⟨_, rfl⟩
          have hc64 : ct < 64 := by rw [← hct]; exact (low_bit hy0 hy64).1
          have hne : ((y : Int) != 0) = true := by simpa using hy0
          obtain ⟨z, hz⟩ : ∃ z : Nat, k * 64 + ct = z := ⟨_, rfl⟩
          have hzI : (k : Int) * 64 + (ct : Int) = (z : Int) := by omega
          obtain ⟨y1, hy1⟩ : ∃ y1, y - 1 = y1 := ⟨_, rfl⟩
          have hsub : IntKind.u64.wrap ((y : Int) - 1) = (y1 : Int) := by rw [IntKind.wrap_u64]; omega
          have hand := bits_and_u64_nat y y1 hy64 (by omega)
          obtain ⟨y2, hy2⟩ : ∃ y2, y &&& y1 = y2 := ⟨_, rfl⟩
          have hy264 : y2 < 18446744073709551616 := by rw [← hy2]; exact Nat.lt_of_le_of_lt Nat.and_le_left hy64
          rw [hy2] at hand
          rw [hct, hy1, hy2] at hb
          have HS2 : Hd (elemsK ws (k + 1) = (pre ++ [z]) ++ (wordBits y2).map (k * 64 + ·)) := ⟨by rw [HS.out, hb, List.map_cons, hz]; simp⟩
          have HPL : Hd (pre.length < 64 * ws.length) := ⟨by have h1 := elemsK_len ws (k + 1); rw [HS2.out] at h1; simp at h1; rw [HM.out]; omega⟩
          have HB := Hd.mk hb; have HCT := Hd.mk hct; have HY0 := Hd.mk hy0
          obtain ⟨fn, tmps, assign, body, hy, hR⟩ := HY.out pre z wr HJ.out HPL.out
          have HTx := Hd.mk (HK.out.tab (.inr (.inr rfl)) HT.out)
          clear hb hct hz hy1 hy2 hy0
          gi_wp2_with (refine ⟨trivial, ?_⟩; gi_at_call 105; refine (callsIn_wide.2 (tz_calls y hy64 _ HY0.out HTx.out)).mono ?_; rintro e w' ⟨he, rfl⟩; rw [HCT.out] at he; subst he)
          refine hR.mono ?_
          rintro e W3 (⟨rfl, hJ3, hk3⟩ | ⟨rfl, hJx3⟩)
          · have HJ3 := Hd.mk hJ3; have HK3 := Hd.mk hk3
            clear hJ3 hk3 hy hR
            gi_wp2
            go_roundw
            case rel => exact ⟨y2, pre ++ [z], rfl, hy264, HS2, HJ3, ⟨HK.out.trans HK3.out⟩⟩
            case measure => simp only [intOf, Int.toNat_natCast]; rw [HB.out]; simp
          · gi_wp2
            refine bodyPost_ret (results_none rfl _ _ _) rfl ?_
            exact ⟨⟨_, rfl⟩, .inr ⟨_, trivial, hJx3⟩⟩
    · obtain rfl : k = m := by omega
      gi_wp2
      go_end0
      exact ⟨⟨_, rfl⟩, .inl ⟨_, by unfold elems; rw [HM.out], HJ.out⟩⟩
end Go.Proofs.YtbmpaokicphdjaaDoor.Fn

/- Join: all of a set's numbers, added to another one. -/
namespace Go.Proofs.YtbmpaokicphdjaaDoor.Fn
open Go Go.RowKit Go.Shelf Go.Proofs.YtbmpaokicphdjaaDoor.Can Go.Proofs.YtbmpaokicphdjaaDoor.Base
attribute [local go_sem] Oper.semAt_some

theorem each_calls (A : Option Addr) (m c room : Nat) (w : World) :
    Calls Tryd.prog 72 #[.agg #[.slice A m c, .int .i64 room]] w fun e w' => e = .returned (.func (.func 104) #[] #[.pointer (some ⟨w.heap.size, 0, none⟩)]) ∧ w' = w.alloc (.cells #[.slice A m c, .int .i64 room] 28) := by
  go_enter Tryd.func72, Tryd.ntmps72
  go_wp2
  go_ret
  exact ⟨rfl, rfl⟩
theorem each_stops (n : Nat) (hn : 1 ≤ n) (Bx g c : Nat) (A : Option Addr) (ws : List Nat) (hlt : ∀ x ∈ ws, x < 18446744073709551616) (hlen : ws.length ≤ 2000) (w : World) (hBx : Bx < w.heap.size) (hB : w.cell? ⟨Bx, 0, none⟩ = some (.slice A ws.length c)) (hW : Wd w A g ws) (hT : TabAt 0 Lib.deBruijn64tab w) (h0 : 0 < w.heap.size) :
    SeqStopsK Fence.wide n Tryd.prog 104 #[.pointer (some ⟨Bx, 0, none⟩)] (fun x : Nat => #[Value.int .i64 (x : Int)]) (Kept (fun k => k = g ∨ k = Bx ∨ k = 0)) (fun ys => ys = elems ws) (fun _ => True) (64 * ws.length) w := fun l J Jx W hW' _ _ hY hJ => by
  refine each_in n hn l Bx g c A ws hlt hlen J Jx hY W ((hW'.cell (p := ⟨Bx, 0, none⟩) hBx).trans hB) (hW.below hW') (fun j hj => (hW'.cell (p := ⟨0, j, none⟩) h0).trans (hT j hj)) hJ
theorem kept_b {K : Nat → Prop} {w : World} (hK : ∀ k, K k → k < w.heap.size) (W : World) (l : Nat) (o o' : Obj) (hl : w.heap.size ≤ l) (_ : W.heap[l]? = some o) (_ : o.isCells = false) (_ : o.isWalk = false) : Kept K W (W.putObj l o') := fun k hk =>
  World.putObj_heap_other (by have := hK k hk; omega)
theorem Fr.put {X : Nat → Prop} {w W : World} {D : Nat} (h : Fr X w W) (hD : w.heap.size ≤ D) (o : Obj) : Fr X w (W.putObj D o) :=
  ⟨h.zero.grown (grownBy_putObj' W D o) (Nat.zero_le _) (fun _ _ => Nat.zero_le _), fun b hb hx => (World.putObj_heap_other (by omega)).trans (h.same b hb hx)⟩
/-- Blocks below B abide what the law turns. -/
theorem turn_keeps {W W' : World} {row : Option Nat} {B k : Nat} (hg : W.grownBy W' row) (hr : ∀ r, row = some r → B ≤ r ∧ ∃ o : Obj, W.heap[r]? = some o ∧ o.isCells = false) (hk : k < B) (hkW : k < W.heap.size) : W'.heap[k]? = W.heap[k]? :=
  hg.block k hkW (fun h => by have := (hr k h.symm).1; omega)
def joinB (room : Nat) (ws : List Nat) (l : List Nat) : List Nat × Bool := l.foldl (fun (s : List Nat × Bool) (n : Nat) => (addW room s.1 (n : Int), s.2 || addO room s.1 (n : Int))) (ws, false)
theorem joinB_snoc (room : Nat) (ws : List Nat) (l : List Nat) (n : Nat) : joinB room ws (l ++ [n]) = (addW room (joinB room ws l).1 n, (joinB room ws l).2 || addO room (joinB room ws l).1 n) := by simp [joinB]
theorem fold_ok {room n : Nat} (l : List Nat) (s : List Nat × Bool) (h : Wok room s.1 ∧ s.1.length = n) : Wok room (l.foldl (fun (s : List Nat × Bool) (n : Nat) => (addW room s.1 (n : Int), s.2 || addO room s.1 (n : Int))) s).1 ∧ (l.foldl (fun (s : List Nat × Bool) (n : Nat) => (addW room s.1 (n : Int), s.2 || addO room s.1 (n : Int))) s).1.length = n := by
  induction l generalizing s with
  | nil => exact h
  | cons x l ih => exact ih _ ⟨h.1.add _, by rw [addW_len]; exact h.2⟩
theorem joinB_ok {room : Nat} {ws : List Nat} (h : Wok room ws) (l : List Nat) : Wok room (joinB room ws l).1 ∧ (joinB room ws l).1.length = ws.length := fold_ok l (ws, false) ⟨h, rfl⟩
theorem keepsO_fr {X : Nat → Prop} {W W' : World} (h : Fr X W W') (hX : ∀ k o, X k → W.heap[k]? = some o → o.isCells = true) : KeepsOthers W W' :=
  ⟨h.size, fun k o hk ho => (h.same k (blk_lt hk) (fun hx => by rw [hX k o hx hk] at ho; cases ho)).trans hk⟩
theorem Wd.isCells {w : World} {A : Option Addr} {g : Nat} {ws : List Nat} (h : Wd w A g ws) : ∀ k o, (k = g ∧ ws ≠ []) → w.heap[k]? = some o → o.isCells = true := by
  rintro k o ⟨rfl, hne⟩ ho
  rcases h with h | ⟨_, r, h⟩
  · exact absurd h hne
  · rw [h] at ho; cases ho; rfl
set_option maxRecDepth 100000 in
set_option maxHeartbeats 4000000 in
theorem join_calls (A1 A2 : Option Addr) (c1 c2 g1 g2 r1 r2 : Nat) (ws1 ws2 : List Nat) (w : World) (hK1 : Wok r1 ws1) (hK2 : Wok r2 ws2) (h1 : Wd w A1 g1 ws1) (h2 : Wd w A2 g2 ws2) (hg1 : g1 < w.heap.size) (hg2 : g2 < w.heap.size) (hne : g1 ≠ g2) (hT : TabAt 0 Lib.deBruijn64tab w) (h0 : 0 < w.heap.size) (hg0 : g1 ≠ 0) :
    Calls Tryd.prog 28 #[.agg #[.slice A1 ws1.length c1, .int .i64 r1], .agg #[.slice A2 ws2.length c2, .int .i64 r2]] w fun e w' => e = .returned (.bool (joinB r1 ws1 (elems ws2)).2) ∧ Fr (fun k => k = g1 ∧ ws1 ≠ []) w w' ∧ Wd w' A1 g1 (joinB r1 ws1 (elems ws2)).1 := by
  refine (callsIn_wide (n := 6)).1 ?_
  refine callsIn_of_wp_marks Tryd.func28 rfl trivial ?_ rfl
  simp only [Tryd.ntmps28, List.size_toArray, List.length_cons, List.length_nil, Nat.reduceAdd, Nat.reduceSub, Array.replicate_succ, Array.replicate_zero, List.push_toArray, List.append_toArray, List.nil_append, List.cons_append]
  have hm1 : ws1.length ≤ 1100 := by have := hK1.len; have := hK1.small; omega
  have hm2 : ws2.length ≤ 1100 := by have := hK2.len; have := hK2.small; omega
  obtain ⟨m1, hm1e⟩ : ∃ m, ws1.length = m := ⟨_, rfl⟩
  obtain ⟨m2, hm2e⟩ : ∃ m, ws2.length = m := ⟨_, rfl⟩
  have HK1 := Hd.mk hK1; have HK2 := Hd.mk hK2; have H1 := Hd.mk h1; have H2 := Hd.mk h2; have HT := Hd.mk hT; have HM1 := Hd.mk hm1e; have HM2 := Hd.mk hm2e; have HNE := Hd.mk hne; have HG0 := Hd.mk hg0
  rw [hm1e] at hm1 ⊢
  rw [hm2e] at hm2 ⊢
  clear hK1 hK2 h1 h2 hT hm1e hm2e hne hg0
  gi_wp2_with (refine ⟨trivial, ?_⟩; gi_at_call 72; refine (callsIn_wide.2 (each_calls A2 m2 c2 r2 _)).mono ?_; rintro e w' ⟨rfl, rfl⟩)
  generalize hV : World.alloc _ _ = V
  have HBV : Below w.heap.size w V := below_of hV (by repeat (first | (with_reducible assumption) | (with_reducible exact Below.refl _ _) | (with_reducible apply below_drewL) | (with_reducible apply below_alloc) | (with_reducible apply below_drew1) | (with_reducible apply below_drewN) | (refine below_set ?_ (by first | omega | (simp only [size_alloc, size_drew, size_set]; omega)) _ _)))
  have zV : Hd (V.heap.size = w.heap.size + 1 + 1 + 1 + 1) := ⟨by rw [← hV]; simp only [size_alloc]⟩
  have V0 := at_of hV (blk_alloc (blk_alloc (blk_alloc (blk_new _ _ _ rfl) _) _) _)
  have V0l := blk_lt V0
  have V1 := at_of hV (blk_alloc (blk_alloc (blk_new _ _ _ rfl) _) _)
  simp only [size_alloc] at V1
  have V1l := blk_lt V1
  have V2 := at_of hV (blk_alloc (blk_new _ _ _ rfl) _)
  simp only [size_alloc] at V2
  have V2l := blk_lt V2
  have V3 := at_of hV (blk_new _ _ _ rfl)
  simp only [size_alloc] at V3
  have V3l := blk_lt V3
  clear hV
  have hzV : V.heap.size = w.heap.size + 4 := by rw [zV.out]
  have HV := Hd.mk HBV
  obtain ⟨Bx, hBx⟩ : ∃ Bx, w.heap.size + 1 + 1 + 1 = Bx := ⟨_, rfl⟩
  rw [hBx] at V3 V3l ⊢
  have hV3c : V.cell? ⟨Bx, 0, none⟩ = some (.slice A2 ws2.length c2) := by rw [HM2.out]; exact blk_cell V3 0 _ rfl
  have HTV : Hd (TabAt 0 Lib.deBruijn64tab V) := ⟨fun j hj => (HBV.cell (p := ⟨0, j, none⟩) h0).trans (HT.out j hj)⟩
  have HI0 := And.intro (H1.out.below HBV) (And.intro V0 (And.intro V2 (And.intro (Fr.of_below (X := fun k => k = g1 ∧ ws1 ≠ []) HBV) (Nat.le_refl V.heap.size))))
  have HSEQ := each_stops 5 (by omega) Bx g2 c2 A2 ws2 HK2.out.lt (by rw [HM2.out]; omega) V V3l hV3c (H2.out.below HBV) HTV.out (by omega)
  have hJ : ∀ pre, (joinB r1 ws1 pre).1.length = m1 := fun pre => by rw [(joinB_ok HK1.out pre).2, HM1.out]
  have HJ := Hd.mk hJ
  clear V0 V1 V2 V3 V0l V1l V2l V3l zV HBV hV3c hJ
  refine wpIn_rangeFunc_ownF rfl (by omega) (gf := 104) (lb := #[.pointer (some ⟨Bx, 0, none⟩)]) rfl trivial (enters_of Tryd.func104 (by kernel_rfl) rfl)
    HSEQ (fun h k => h.trans k) (kept_b (fun k hk => by rcases hk with rfl | rfl | rfl <;> omega)) (Below.refl _ _) (fun _ => rfl)
    (fun pre W => Wd W A1 g1 (joinB r1 ws1 pre).1 ∧ W.heap[w.heap.size]? = some (.cells #[.slice A1 m1 c1, .int .i64 r1] 28 (0, 0)) ∧ W.heap[w.heap.size + 1 + 1]? = some (.cells #[.bool (joinB r1 ws1 pre).2] 4 (0, 0)) ∧ Fr (fun k => k = g1 ∧ ws1 ≠ []) w W ∧ V.heap.size ≤ W.heap.size)
    (fun _ _ _ => False)
    (fun s A B row hs hg hr => ⟨hs.1.move (turn_keeps hg hr (by omega) (by have := hs.2.2.2.2; omega)), (turn_keeps hg hr (by omega) (blk_lt hs.2.1)).trans hs.2.1, (turn_keeps hg hr (by omega) (blk_lt hs.2.2.1)).trans hs.2.2.1, ⟨hs.2.2.2.1.zero.grown hg (Nat.zero_le _) (fun _ _ => Nat.zero_le _), fun b hb hx => (turn_keeps hg hr (by omega) (by have := hs.2.2.2.2; omega)).trans (hs.2.2.2.1.same b hb hx)⟩, Nat.le_trans hs.2.2.2.2 hg.size⟩)
    (fun _ _ _ _ _ hs _ _ => hs)
    HI0
    (fun x => { tmps := #[.agg #[.slice A1 m1 c1, .int .i64 r1], .agg #[.slice A2 m2 c2, .int .i64 r2], .pointer (some ⟨w.heap.size, 0, none⟩), .pointer (some ⟨w.heap.size + 1, 0, none⟩), .bool false, .pointer (some ⟨w.heap.size + 1 + 1, 0, none⟩), .int .i64 x, .agg #[.slice A2 m2 c2, .int .i64 r2], .func (.func 104) #[] #[.pointer (some ⟨Bx, 0, none⟩)], .int .i64 x, undef, undef, undef, undef], defers := [] }) ?assign ?body ?done ?stop
  case assign =>
    intro l x W K hK
    gi_wp2
    exact hK
  case body =>
    clear HI0 HSEQ
    rintro l pre x W ⟨hWd, hs, hb, hf, hVW⟩ _
    have HWd := Hd.mk hWd; have HS := Hd.mk hs; have HB := Hd.mk hb; have HF := Hd.mk hf
    have HE := Hd.mk (joinB_snoc r1 ws1 pre x)
    have HOK := Hd.mk (joinB_ok HK1.out pre)
    clear hWd hb hf
    have hsc0 := blk_cell hs 0 _ rfl; have hsf0 := blk_frozen hs 0; have hsc1 := blk_cell hs 1 _ rfl; have hsf1 := blk_frozen hs 1; have hsl := blk_lt hs
    have hne2 : ¬ w.heap.size + 1 + 1 = g1 := by omega
    cases hO : addO r1 (joinB r1 ws1 pre).1 x with
    | true =>
      have HO := Hd.mk hO; clear hO
      gi_wp2_with (refine ⟨trivial, ?_⟩; gi_at_call 21; have h9 := add_calls A1 c1 g1 r1 x (joinB r1 ws1 pre).1 W HOK.out.1 HWd.out; rw [HJ.out, HO.out] at h9; refine (CallsIn.inRound l (callsIn_wide.2 h9)).mono ?_; clear h9; rintro e w2 ⟨rfl, hf2, hw2⟩; have hq2 := hf2.blk HB.out (fun h => hne2 h.1); have HF2 := Hd.mk hf2; have HW2 := Hd.mk hw2; clear hf2 hw2; have hq2c0 := blk_cell hq2 0 _ rfl; have hq2f0 := blk_frozen hq2 0; have hq2l := blk_lt hq2)
      have hs2 := HF2.out.blk HS.out (fun h => by have := h.1; omega)
      have hfs := Fr.set (X := fun k => k = w.heap.size + 1 + 1) (Fr.refl _ w2) (.inl rfl) 0 (.bool true)
      have hz2 := HF2.out.size
      refine ⟨(keepsO_fr HF2.out HWd.out.isCells).trans (KeepsOthers.setCell _ _ _), ?_, ?_⟩
      · intro k hk
        have hk1 : k < W.heap.size ∧ ¬ k = g1 ∧ ¬ k = w.heap.size + 1 + 1 := by have := HNE.out; have := HG0.out; rcases hk with rfl | rfl | rfl <;> omega
        exact (hfs.same k (by omega) hk1.2.2).trans (HF2.out.same k hk1.1 (fun h => hk1.2.1 h.1))
      · dsimp only
        rw [HE.out, HO.out, Bool.or_true]
        refine ⟨HW2.out.move (hfs.same g1 (by omega) (fun h => hne2 h.symm)), blk_far hs2 (by show ¬ w.heap.size = w.heap.size + 1 + 1; omega) _, blk_set hq2 0 _ _ rfl, ?_, by rw [size_set]; omega⟩
        exact (HF.out.trans (HF2.out.mono fun b hb => ⟨hb.1, fun h => hb.2 (List.eq_nil_of_length_eq_zero (by rw [HJ.out, ← HM1.out, h]; rfl))⟩)).set (.inr (by omega)) 0 _
    | false =>
      have HO := Hd.mk hO; clear hO
      gi_wp2_with (refine ⟨trivial, ?_⟩; gi_at_call 21; have h9 := add_calls A1 c1 g1 r1 x (joinB r1 ws1 pre).1 W HOK.out.1 HWd.out; rw [HJ.out, HO.out] at h9; refine (CallsIn.inRound l (callsIn_wide.2 h9)).mono ?_; clear h9; rintro e w2 ⟨rfl, hf2, hw2⟩; have hq2 := hf2.blk HB.out (fun h => hne2 h.1); have HF2 := Hd.mk hf2; have HW2 := Hd.mk hw2; clear hf2 hw2; have hq2c0 := blk_cell hq2 0 _ rfl; have hq2f0 := blk_frozen hq2 0; have hq2l := blk_lt hq2)
      have hs2 := HF2.out.blk HS.out (fun h => by have := h.1; omega)
      have hz2 := HF2.out.size
      refine ⟨keepsO_fr HF2.out HWd.out.isCells, ?_, ?_⟩
      · intro k hk
        have hk1 : k < W.heap.size ∧ ¬ k = g1 := by have := HNE.out; have := HG0.out; rcases hk with rfl | rfl | rfl <;> omega
        exact HF2.out.same k hk1.1 (fun h => hk1.2 h.1)
      · dsimp only
        rw [HE.out, HO.out, Bool.or_false]
        refine ⟨HW2.out, hs2, hq2, ?_, by omega⟩
        exact HF.out.trans (HF2.out.mono fun b hb => ⟨hb.1, fun h => hb.2 (List.eq_nil_of_length_eq_zero (by rw [HJ.out, ← HM1.out, h]; rfl))⟩)
  case done =>
    clear HSEQ HI0
    rintro D ys W hD rfl ⟨hWd, hs, hb, hf, hVW⟩ hK
    have hz := hf.size
    have hbc0 := blk_cell hb 0 _ rfl; have hbf0 := blk_frozen hb 0; have hbl := blk_lt hb
    gi_wp2
    refine ⟨by simp, .inl ⟨_, _, rfl, run_takeDeferred hK, ?_⟩⟩
    refine ⟨_, results_tmp rfl _ _ _, rfl, ?_, ?_⟩
    · exact Fr.put hf (by omega) _
    · exact hWd.move (World.putObj_heap_other (by omega))
  case stop =>
    rintro D c pre W _ _ h _
    exact h.elim
end Go.Proofs.YtbmpaokicphdjaaDoor.Fn

/- All: a set's numbers, in a row. -/
namespace Go.Proofs.YtbmpaokicphdjaaDoor.Fn
open Go Go.RowKit Go.Shelf Go.Proofs.YtbmpaokicphdjaaDoor.Can Go.Proofs.YtbmpaokicphdjaaDoor.Base
attribute [local go_sem] Oper.semAt_some
theorem info3 : (Tryd.prog.info? 3).map (fun i => (i.zero, i.size, i.bytes)) = some (some (.int .i64 0), 1, 8) := by kernel_rfl
def iN (x : Nat) : Value := .int .i64 (x : Int)
theorem cells_int (w : World) (S : Nat → Prop) (l : List Int) : Cells I w S l (l.map (Value.int .i64)) := by
  refine ⟨by show _ = l.length * 1; rw [List.length_map, Nat.mul_one], fun j p hj => ?_⟩
  show ((l.map (Value.int .i64)).drop (j * 1)).take 1 = [.int .i64 p]
  rw [Nat.mul_one]
  apply List.ext_getElem?
  intro i
  rw [List.getElem?_take]
  split
  · obtain rfl : i = 0 := by omega
    rw [List.getElem?_drop, Nat.add_zero, List.getElem?_map, hj]
    rfl
  · rw [List.getElem?_eq_none (by simp; omega)]
theorem row_low {W : World} {b b' : Nat} {e : TypeId} {sz : Nat} {v : Value} {k : Nat} {xs : List Value} (h : W.ownsRow b e sz v k xs) (hb : b' ≤ b) : W.ownsRow b' e sz v k xs := by
  refine ⟨h.1, ?_⟩
  rcases h.2 with h0 | ⟨g, cap, cur, h1, h2, h3⟩
  · exact .inl h0
  · exact .inr ⟨g, cap, cur, h1, Nat.le_trans hb h2, h3⟩
set_option maxRecDepth 100000 in
set_option maxHeartbeats 4000000 in
theorem all_calls (A : Option Addr) (c g r : Nat) (ws : List Nat) (w : World) (hK : Wok r ws) (h1 : Wd w A g ws) (hg : g < w.heap.size) (hT : TabAt 0 Lib.deBruijn64tab w) (h0 : 0 < w.heap.size) :
    Calls Tryd.prog 23 #[.agg #[.slice A ws.length c, .int .i64 r]] w fun e w' => ∃ A' n' c', e = .returned (.slice A' n' c') ∧ Row I w' (fun k => w.heap.size ≤ k ∧ k < w'.heap.size) A' n' ((elems ws).map fun x : Nat => (x : Int)) ∧ Below w.heap.size w w' := by
  obtain ⟨i0, hi, hz0, hz1, hz2⟩ := info_parts info3
  refine (callsIn_wide (n := 6)).1 ?_
  refine callsIn_of_wp_marks Tryd.func23 rfl trivial ?_ rfl
  simp only [Tryd.ntmps23, List.size_toArray, List.length_cons, List.length_nil, Nat.reduceAdd, Nat.reduceSub, Array.replicate_succ, Array.replicate_zero, List.push_toArray, List.append_toArray, List.nil_append, List.cons_append]
  have hm1 : ws.length ≤ 1100 := by have := hK.len; have := hK.small; omega
  obtain ⟨m, hme⟩ : ∃ m, ws.length = m := ⟨_, rfl⟩
  have HK := Hd.mk hK; have H1 := Hd.mk h1; have HT := Hd.mk hT; have HM := Hd.mk hme; have HI := Hd.mk (And.intro hi (And.intro hz0 (And.intro hz1 hz2)))
  rw [hme] at hm1 ⊢
  clear hK h1 hT hme hi hz0 hz1 hz2
  gi_wp2_with (refine ⟨trivial, ?_⟩; gi_at_call 72; refine (callsIn_wide.2 (each_calls A m c r _)).mono ?_; rintro e w' ⟨rfl, rfl⟩)
  generalize hV : World.alloc _ _ = V
  have HBV : Below w.heap.size w V := below_of hV (by repeat (first | (with_reducible assumption) | (with_reducible exact Below.refl _ _) | (with_reducible apply below_drewL) | (with_reducible apply below_alloc) | (with_reducible apply below_drew1) | (with_reducible apply below_drewN) | (refine below_set ?_ (by first | omega | (simp only [size_alloc, size_drew, size_set]; omega)) _ _)))
  have zV : Hd (V.heap.size = w.heap.size + 1 + 1 + 1) := ⟨by rw [← hV]; simp only [size_alloc]⟩
  have V0 := at_of hV (blk_alloc (blk_alloc (blk_new _ _ _ rfl) _) _)
  have V0l := blk_lt V0
  have V1 := at_of hV (blk_alloc (blk_new _ _ _ rfl) _)
  simp only [size_alloc] at V1
  have V1l := blk_lt V1
  have V2 := at_of hV (blk_new _ _ _ rfl)
  simp only [size_alloc] at V2
  have V2l := blk_lt V2
  clear hV
  have hzV : V.heap.size = w.heap.size + 3 := by rw [zV.out]
  obtain ⟨Bx, hBx⟩ : ∃ Bx, w.heap.size + 1 + 1 = Bx := ⟨_, rfl⟩
  rw [hBx] at V2 V2l ⊢
  obtain ⟨Bo, hBo⟩ : ∃ Bo, w.heap.size + 1 = Bo := ⟨_, rfl⟩
  rw [hBo] at V1 V1l ⊢
  have hV2c : V.cell? ⟨Bx, 0, none⟩ = some (.slice A ws.length c) := by rw [HM.out]; exact blk_cell V2 0 _ rfl
  have HTV : Hd (TabAt 0 Lib.deBruijn64tab V) := ⟨fun j hj => (HBV.cell (p := ⟨0, j, none⟩) h0).trans (HT.out j hj)⟩
  have HSEQ := each_stops 5 (by omega) Bx g c A ws HK.out.lt (by rw [HM.out]; omega) V V2l hV2c (H1.out.below HBV) HTV.out (by omega)
  have hBox : Boxed V Bo 24 (.slice none 0 0) := V1
  have HBV' := Hd.mk HBV
  clear V0 V1 V2 V0l V1l V2l zV HBV hV2c
  refine wpIn_rangeFunc_ownF rfl (by omega) (gf := 104) (lb := #[.pointer (some ⟨Bx, 0, none⟩)]) rfl trivial (enters_of Tryd.func104 (by kernel_rfl) rfl)
    HSEQ (fun h k => h.trans k) (kept_b (fun k hk => by rcases hk with rfl | rfl | rfl <;> omega)) (Below.refl _ _) (fun _ => rfl)
    (fun pre W => (∃ v, Boxed W Bo 24 v ∧ W.ownsRow V.heap.size 3 1 v pre.length (pre.map iN) ∧ True) ∧ (Below w.heap.size w W ∧ V.heap.size ≤ W.heap.size))
    (fun _ _ _ => False)
    (OwnFrom.and (Own.from (holdsRow_own V.heap.size Bo 24 3 1 (fun pre : List Nat => pre.length) (fun pre => pre.map iN) (fun _ _ => True)) _) (fun s A B row hs hg hr => ⟨hs.1.grown hg hs.1.size (fun k hk => by have := (hr k hk).1; omega), Nat.le_trans hs.2 hg.size⟩))
    (fun _ _ _ _ _ hs _ _ => hs)
    ⟨⟨_, hBox, World.ownsRow_nil _ _ _ _, trivial⟩, HBV'.out, Nat.le_refl _⟩
    (fun x => { tmps := #[.agg #[.slice A m c, .int .i64 r], .pointer (some ⟨w.heap.size, 0, none⟩), .slice none 0 0, .pointer (some ⟨Bo, 0, none⟩), .int .i64 x, .agg #[.slice A m c, .int .i64 r], .func (.func 104) #[] #[.pointer (some ⟨Bx, 0, none⟩)], .int .i64 x, undef, undef, undef, undef, undef], defers := [] }) ?assign ?body ?done ?stop
  case assign =>
    intro l x W K hK
    gi_wp2
    exact hK
  case body =>
    clear HSEQ hBox
    rintro l pre x W ⟨⟨v, hv, hrow, _⟩, hB, hVW⟩ hlt
    have hc := hv.cell
    have HB := Hd.mk hB; have HR := Hd.mk hrow; have HV := Hd.mk hv
    have hpl : pre.length < 70400 := by have := HM.out; omega
    clear hB hrow hlt
    gi_wp2_with (gi_at_builtin; refine wpListIn_append_own _ rfl _ _ 24 rfl V.heap.size 3 i0 (.int .i64 0) 1 8 Tryd.underlying24 HI.out.1 HI.out.2.1 HI.out.2.2.1 HI.out.2.2.2 rfl (by decide) _ _ _ rfl (HR.out.alloc _) ⟨W.heap.size, 0, none⟩ 1 1 [iN x] rfl rfl (cell_one_new _ _ _) (by simp [iN, Value.oneCell']) (by simp only [maxLen]; omega) (by omega) (by simp; omega) ?_; intro v' w1 hown' hgrow _; obtain ⟨g', cap', rfl⟩ := ownsRow_succ hown'; obtain ⟨hv1, hv2, hr2, hk2, hb2⟩ := HV.out.appended (by decide) (row_low HR.out (Nat.zero_le _)) (Nat.zero_le _) (Nat.zero_le _) (row_low hown' (Nat.zero_le _)) hgrow; have hr3 := hown'.kept (grownBy_setCell' w1 Bo (.slice (some ⟨g', 0, none⟩) (pre.length + 1) cap')) (.inr (hv1.not_row (by decide) hown').symm); have hc1 := hv1.cell; have hf1 := hv1.frozen; have HK2 := Hd.mk hk2; have HV2 := Hd.mk hv2; have HR3 := Hd.mk hr3; have HG := Hd.mk hgrow; clear hk2 hv2 hr2 hb2 hr3 hown' hgrow hv1)
    have hown : ∀ k, v.ownBlock = some k → V.heap.size ≤ k := fun k hk => by
      rcases HR.out.2 with ⟨rfl, _⟩ | ⟨g9, _, _, rfl, h9, _⟩
      · cases hk
      · have := ownBlock_eq hk; omega
    refine ⟨HK2.out, ?_, ⟨_, HV2.out, by rw [List.length_append, List.map_append]; exact HR3.out, trivial⟩, ?_, ?_⟩
    · intro k hk
      have hk1 : k < V.heap.size ∧ ¬ k = Bo := by rcases hk with rfl | rfl | rfl <;> omega
      exact (Below.heap_setCell w1 ⟨Bo, 0, none⟩ _ k hk1.2).trans ((HG.out.block k (by simp; omega) (fun h => by have := hown k h.symm; omega)).trans (Below.heap_alloc W _ k (by omega)))
    · exact ((HB.out.alloc HB.out.size _).grown HG.out (by simp; have := HB.out.size; omega) (fun k hk => by have := hown k hk; omega)).setCell (p := ⟨Bo, 0, none⟩) (by show _ ≤ Bo; omega) _
    · have := HG.out.size
      rw [size_alloc] at this
      rw [size_set]; omega
  case done =>
    clear HSEQ hBox
    rintro D ys W hD rfl ⟨⟨v, hv, hrow, _⟩, hB, hVW⟩ hK
    have hc := hv.cell
    gi_wp2
    refine ⟨by simp, .inl ⟨_, _, rfl, run_takeDeferred hK, ?_⟩⟩
    have hrow' := ownsRow_putObj hrow (.deferred none) hK rfl
    refine ⟨_, results_tmp rfl _ _ _, ?_⟩
    have hM : Mine I (W.putObj D (.deferred none)) V.heap.size 3 v ((elems ws).map fun x : Nat => (x : Int)) := ⟨((elems ws).map fun x : Nat => (x : Int)).map (Value.int .i64), by rw [List.length_map, List.map_map]; exact hrow', cells_int _ _ _, fun _ h => h.elim⟩
    obtain ⟨A', n', c', rfl, _, _, _, hrow9⟩ := hM.formN
    exact ⟨A', n', c', rfl, hrow9.mono (fun k hk => ⟨by have := hk.1; omega, hk.2⟩), hB.trans (belowK_b (w := w) (Nat.le_refl _) W D _ _ (by omega) hK rfl rfl)⟩
  case stop =>
    rintro D c pre W _ _ h _
    exact h.elim
end Go.Proofs.YtbmpaokicphdjaaDoor.Fn

/- OnesCount64: the plain law. -/
namespace Go.Proofs.YtbmpaokicphdjaaDoor.Fn
open Go Go.RowKit Go.Proofs.YtbmpaokicphdjaaDoor.Can Go.Proofs.YtbmpaokicphdjaaDoor.Base

def val : List Nat → Nat
  | [] => 0
  | b :: bs => 256 * val bs + b
theorem bit_cons (y c j : Nat) (hc : c < 256) : (256 * y + c).testBit j = if j < 8 then c.testBit j else y.testBit (j - 8) := Nat.testBit_two_pow_mul_add (i := 8) y hc j
theorem and_cons (y c M l : Nat) (hc : c < 256) (hl : l < 256) : (256 * y + c) &&& (256 * M + l) = 256 * (y &&& M) + (c &&& l) := by
  have hcl : c &&& l < 256 := Nat.lt_of_le_of_lt Nat.and_le_left hc
  apply Nat.eq_of_testBit_eq
  intro j
  rw [Nat.testBit_and, bit_cons _ _ _ hc, bit_cons _ _ _ hl, bit_cons _ _ _ hcl]
  split <;> rw [Nat.testBit_and]
theorem shr_cons (s y c M l : Nat) (hs : s ≤ 8) (hc : c < 256) (hl : l < 2 ^ (8 - s)) : ((256 * y + c) / 2 ^ s) &&& (256 * M + l) = 256 * ((y / 2 ^ s) &&& M) + ((c / 2 ^ s) &&& l) := by
  have hl2 : l < 256 := Nat.lt_of_lt_of_le hl (by have : (2 : Nat) ^ (8 - s) ≤ 2 ^ 8 := Nat.pow_le_pow_right (by decide) (by omega); simpa using this)
  have hcl : (c / 2 ^ s) &&& l < 256 := Nat.lt_of_le_of_lt Nat.and_le_right hl2
  apply Nat.eq_of_testBit_eq
  intro j
  rw [Nat.testBit_and, Nat.testBit_div_two_pow, bit_cons _ _ _ hc, bit_cons _ _ _ hl2, bit_cons _ _ _ hcl]
  by_cases hj : j < 8
  · rw [if_pos hj, if_pos hj, Nat.testBit_and, Nat.testBit_div_two_pow]
    by_cases hsj : s + j < 8
    · rw [if_pos (by omega)]
    · have hlj : l.testBit j = false := Nat.testBit_lt_two_pow (Nat.lt_of_lt_of_le hl (Nat.pow_le_pow_right (by decide) (by omega)))
      rw [hlj, Bool.and_false, Bool.and_false]
  · rw [if_neg hj, if_neg hj, if_neg (by omega), Nat.testBit_and, Nat.testBit_div_two_pow]
    congr 2
    omega
def mk (m : Nat) (bs : List Nat) : Nat := val (bs.map fun _ => m)
theorem step_val (s m : Nat) (f : Nat → Nat) (hs : s ≤ 8) (hm : m < 2 ^ (8 - s)) (hf : ∀ c, c < 256 → ((c / 2 ^ s) &&& m) + (c &&& m) = f c) (bs : List Nat) (hb : ∀ b ∈ bs, b < 256) :
    ((val bs / 2 ^ s) &&& mk m bs) + (val bs &&& mk m bs) = val (bs.map f) := by
  have hm2 : m < 256 := Nat.lt_of_lt_of_le hm (by have : (2 : Nat) ^ (8 - s) ≤ 2 ^ 8 := Nat.pow_le_pow_right (by decide) (by omega); simpa using this)
  induction bs with
  | nil => simp [val, mk]
  | cons b bs ih =>
    have h1 := ih (fun x hx => hb x (List.mem_cons_of_mem _ hx))
    have h2 := hf b (hb b (List.mem_cons_self ..))
    show ((256 * val bs + b) / 2 ^ s &&& (256 * mk m bs + m)) + ((256 * val bs + b) &&& (256 * mk m bs + m)) = 256 * val (bs.map f) + f b
    rw [shr_cons s _ _ _ _ hs (hb b (List.mem_cons_self ..)) hm, and_cons _ _ _ _ (hb b (List.mem_cons_self ..)) hm2, ← h1, ← h2]
    omega
theorem and15 : ∀ c, c < 256 → c &&& 15 = c % 16 := by decide +kernel
theorem step3_val (bs : List Nat) (hb : ∀ b ∈ bs, b / 16 ≤ 4 ∧ b % 16 ≤ 4) : (val bs / 16 + val bs) &&& mk 15 bs = val (bs.map fun b => b / 16 + b % 16) := by
  induction bs with
  | nil => simp [val, mk]
  | cons b bs ih =>
    have h1 := ih (fun x hx => hb x (List.mem_cons_of_mem _ hx))
    have h2 := hb b (List.mem_cons_self ..)
    have h3 : val bs % 16 ≤ 4 := by
      cases bs with
      | nil => simp [val]
      | cons x xs =>
        have := (hb x (by simp)).2
        show (256 * val xs + x) % 16 ≤ 4
        omega
    have e : (256 * val bs + b) / 16 + (256 * val bs + b) = 256 * (val bs / 16 + val bs) + (b / 16 + b + 16 * (val bs % 16)) := by omega
    show ((256 * val bs + b) / 16 + (256 * val bs + b)) &&& (256 * mk 15 bs + 15) = 256 * val (bs.map fun b => b / 16 + b % 16) + (b / 16 + b % 16)
    rw [e, and_cons _ _ _ _ (by omega) (by decide), h1, and15 _ (by omega)]
    omega
def f1 (c : Nat) : Nat := ((c / 2) &&& 85) + (c &&& 85)
def f2 (c : Nat) : Nat := ((c / 4) &&& 51) + (c &&& 51)
def popB (b : Nat) : Nat := ((List.range 8).filter fun j => b.testBit j).length
theorem byte_law : ∀ c, c < 256 → f1 c < 256 ∧ f2 (f1 c) / 16 ≤ 4 ∧ f2 (f1 c) % 16 ≤ 4 ∧ f2 (f1 c) / 16 + f2 (f1 c) % 16 = popB c ∧ popB c ≤ 8 := by decide +kernel
theorem pop_val (bs : List Nat) (hb : ∀ b ∈ bs, b < 256) : ((List.range (8 * bs.length)).filter fun j => (val bs).testBit j).length = (bs.map popB).sum := by
  induction bs with
  | nil => rfl
  | cons b bs ih =>
    have h1 := ih (fun x hx => hb x (List.mem_cons_of_mem _ hx))
    have hbb := hb b (List.mem_cons_self ..)
    rw [List.length_cons, Nat.mul_add, Nat.add_comm (8 * bs.length), List.range_add, List.filter_append, List.length_append, List.filter_map, List.length_map, List.map_cons, List.sum_cons, ← h1]
    congr 2
    · apply List.filter_congr
      intro j hj
      have := List.mem_range.1 hj
      show (256 * val bs + b).testBit j = b.testBit j
      rw [bit_cons _ _ _ hbb, if_pos (by omega)]
    · apply List.filter_congr
      intro j hj
      show (256 * val bs + b).testBit (8 * 1 + j) = (val bs).testBit j
      rw [bit_cons _ _ _ hbb, if_neg (by omega)]
      congr 1
      omega
set_option maxRecDepth 20000 in
theorem val_le (M : Nat) (bs : List Nat) (h : ∀ b ∈ bs, b ≤ M) : val bs * 255 + M ≤ M * 256 ^ bs.length := by
  induction bs with
  | nil => simp [val]
  | cons b bs ih =>
    have h1 := ih (fun x hx => h x (List.mem_cons_of_mem _ hx))
    have h2 := h b (List.mem_cons_self ..)
    have e : val (b :: bs) = 256 * val bs + b := rfl
    have e2 : M * 256 ^ (bs.length + 1) = 256 * (M * 256 ^ bs.length) := by rw [Nat.pow_succ, ← Nat.mul_assoc, Nat.mul_comm]
    rw [e, List.length_cons, e2]
    revert h1
    generalize M * 256 ^ bs.length = P
    generalize val bs = V
    intro h1
    clear e e2 ih h
    omega
theorem byte_two : ∀ c, c < 256 → f2 (f1 c) ≤ 68 := by decide +kernel
theorem div_of {x c q r : Nat} (h : x = c * q + r) (hr : r < c) : x / c = q := by
  subst h
  rw [Nat.mul_add_div (by omega), Nat.div_eq_of_lt hr, Nat.add_zero]
theorem mod_of {x c q r : Nat} (h : x = c * q + r) (hr : r < c) : x % c = r := by
  subst h
  rw [Nat.mul_add_mod, Nat.mod_eq_of_lt hr]
theorem digits (p0 p1 p2 p3 p4 p5 p6 p7 x3 : Nat) (r0 : p0 ≤ 8) (r1 : p1 ≤ 8) (r2 : p2 ≤ 8) (r3 : p3 ≤ 8) (r4 : p4 ≤ 8) (r5 : p5 ≤ 8) (r6 : p6 ≤ 8) (r7 : p7 ≤ 8)
    (hx3 : x3 = 256 * (256 * (256 * (256 * (256 * (256 * (256 * (256 * 0 + p7) + p6) + p5) + p4) + p3) + p2) + p1) + p0) :
    ∀ x4 x5 x6, x3 + x3 / 256 = x4 → x4 + x4 / 65536 = x5 → x5 + x5 / 4294967296 = x6 → x6 % 128 = p0 + (p1 + (p2 + (p3 + (p4 + (p5 + (p6 + (p7 + 0))))))) := by
  have b0 : p0 < 256 := by clear hx3; omega
  have b1 : 256 * (p1 + p2) + (p0 + p1) < 65536 := by clear hx3; omega
  have b2 : 16777216 * (p3 + p4 + p5 + p6) + 65536 * (p2 + p3 + p4 + p5) + 256 * (p1 + p2 + p3 + p4) + (p0 + p1 + p2 + p3) < 4294967296 := by clear hx3; omega
  have b3 : p0 + (p1 + (p2 + (p3 + (p4 + (p5 + (p6 + (p7 + 0))))))) < 128 := by clear hx3; omega
  clear r0 r1 r2 r3 r4 r5 r6 r7
  intro x4 x5 x6 h4
  have a1 := div_of hx3 b0
  rw [a1, hx3] at h4
  clear a1 hx3 b0
  have e4 : x4 = 65536 * (256 * (256 * (256 * (256 * (256 * p7 + (p6 + p7)) + (p5 + p6)) + (p4 + p5)) + (p3 + p4)) + (p2 + p3)) + (256 * (p1 + p2) + (p0 + p1)) := by clear b1 b2 b3; omega
  clear h4
  intro h5
  have a2 := div_of e4 b1
  rw [a2, e4] at h5
  clear a2 e4 b1
  have e5 : x5 = 4294967296 * (256 * (256 * (256 * p7 + (p6 + p7)) + (p5 + p6 + p7)) + (p4 + p5 + p6 + p7)) + (16777216 * (p3 + p4 + p5 + p6) + 65536 * (p2 + p3 + p4 + p5) + 256 * (p1 + p2 + p3 + p4) + (p0 + p1 + p2 + p3)) := by clear b2 b3; omega
  clear h5
  intro h6
  have a3 := div_of e5 b2
  rw [a3, e5] at h6
  clear a3 e5 b2
  refine mod_of (q := 33554432 * (256 * (256 * (256 * p7 + (p6 + p7)) + (p5 + p6 + p7)) + (p4 + p5 + p6 + p7)) + 131072 * (p3 + p4 + p5 + p6) + 512 * (p2 + p3 + p4 + p5) + 2 * (p1 + p2 + p3 + p4) + 2 * (256 * (256 * p7 + (p6 + p7)) + (p5 + p6 + p7))) ?_ b3
  clear b3
  omega
theorem bound1 {x : Nat} (h : x * 255 + 255 ≤ 255 * 18446744073709551616) : x < 18446744073709551616 := by omega
theorem bound2 {x : Nat} (h : x * 255 + 68 ≤ 68 * 18446744073709551616) : x < 4919131752989213765 := by omega
theorem bound3 {x : Nat} (h : x * 255 + 8 ≤ 8 * 18446744073709551616) : x ≤ 578721382704613384 := by omega
theorem bound6 {x3 x4 x5 x6 : Nat} (h : x3 ≤ 578721382704613384) (h4 : x3 + x3 / 256 = x4) (h5 : x4 + x4 / 65536 = x5) (h6 : x5 + x5 / 4294967296 = x6) : x6 < 9223372036854775807 := by
  have a4 : x4 ≤ 2 * x3 := by rw [← h4]; have := Nat.div_le_self x3 256; clear h h4 h5 h6; omega
  have a5 : x5 ≤ 2 * x4 := by rw [← h5]; have := Nat.div_le_self x4 65536; clear h h4 h5 h6; omega
  have a6 : x6 ≤ 2 * x5 := by rw [← h6]; have := Nat.div_le_self x5 4294967296; clear h h4 h5 h6; omega
  clear h4 h5 h6
  omega
theorem pop_law (x x1 x2 x3 x4 x5 x6 : Nat) (hx : x < 18446744073709551616) (h1 : ((x / 2) &&& 6148914691236517205) + (x &&& 6148914691236517205) = x1) (h2 : ((x1 / 4) &&& 3689348814741910323) + (x1 &&& 3689348814741910323) = x2) (h3 : (x2 / 16 + x2) &&& 1085102592571150095 = x3)
    (h4 : x3 + x3 / 256 = x4) (h5 : x4 + x4 / 65536 = x5) (h6 : x5 + x5 / 4294967296 = x6) : x6 % 128 = (wordBits x).length ∧ x1 < 18446744073709551616 ∧ x2 < 4919131752989213765 ∧ x6 < 9223372036854775807 := by
  obtain ⟨bs, hl, hb, rfl⟩ : ∃ bs : List Nat, bs.length = 8 ∧ (∀ b ∈ bs, b < 256) ∧ x = val bs := by
    refine ⟨[x % 256, x / 256 % 256, x / 65536 % 256, x / 16777216 % 256, x / 4294967296 % 256, x / 1099511627776 % 256, x / 281474976710656 % 256, x / 72057594037927936 % 256], rfl, fun b hb => ?_, ?_⟩
    · simp at hb; rcases hb with h | h | h | h | h | h | h | h <;> omega
    · simp only [val]; omega
  have hp := pop_val bs hb
  rw [hl] at hp
  have e5 : mk 85 bs = 6148914691236517205 := by
    match bs, hl with
    | [_, _, _, _, _, _, _, _], _ => simp only [mk, List.map_cons, List.map_nil, val]
  have e3 : mk 51 (bs.map f1) = 3689348814741910323 := by
    match bs, hl with
    | [_, _, _, _, _, _, _, _], _ => simp only [mk, List.map_cons, List.map_nil, val]
  have ef : mk 15 ((bs.map f1).map f2) = 1085102592571150095 := by
    match bs, hl with
    | [_, _, _, _, _, _, _, _], _ => simp only [mk, List.map_cons, List.map_nil, val]
  have s1 := step_val 1 85 f1 (by decide) (by decide) (fun c _ => rfl) bs hb
  rw [e5] at s1
  have s2 := step_val 2 51 f2 (by decide) (by decide) (fun c _ => rfl) (bs.map f1) (fun b hbm => by obtain ⟨c, hc, rfl⟩ := List.mem_map.1 hbm; exact (byte_law c (hb c hc)).1)
  rw [e3] at s2
  have s3 := step3_val ((bs.map f1).map f2) (fun b hbm => by
    obtain ⟨c, hc, rfl⟩ := List.mem_map.1 hbm
    obtain ⟨d, hd, rfl⟩ := List.mem_map.1 hc
    exact ⟨(byte_law d (hb d hd)).2.1, (byte_law d (hb d hd)).2.2.1⟩)
  rw [ef] at s3
  have hx1 : x1 = val (bs.map f1) := by rw [← h1]; exact s1
  have hx2 : x2 = val ((bs.map f1).map f2) := by rw [← h2, hx1]; exact s2
  have hx3 : x3 = val (bs.map popB) := by
    rw [← h3, hx2]
    rw [s3, List.map_map, List.map_map]
    congr 1
    apply List.map_congr_left
    intro c hc
    exact (byte_law c (hb c hc)).2.2.2.1
  have hw : (wordBits (val bs)).length = (bs.map popB).sum := hp
  rw [hw]
  have b1 := val_le 255 (bs.map f1) (fun b hbm => by obtain ⟨c, hc, rfl⟩ := List.mem_map.1 hbm; have := (byte_law c (hb c hc)).1; omega)
  have b2 := val_le 68 ((bs.map f1).map f2) (fun b hbm => by
    obtain ⟨c, hc, rfl⟩ := List.mem_map.1 hbm
    obtain ⟨d, hd, rfl⟩ := List.mem_map.1 hc
    exact byte_two d (hb d hd))
  have b3 := val_le 8 (bs.map popB) (fun b hbm => by obtain ⟨c, hc, rfl⟩ := List.mem_map.1 hbm; exact (byte_law c (hb c hc)).2.2.2.2)
  simp only [List.length_map, hl] at b1 b2 b3
  rw [← hx1] at b1
  rw [← hx2] at b2
  rw [← hx3] at b3
  have e8 : (256 : Nat) ^ 8 = 18446744073709551616 := by decide
  rw [e8] at b1 b2 b3
  refine ⟨?_, bound1 b1, bound2 b2, bound6 (bound3 b3) h4 h5 h6⟩
  have hpop : ∀ b ∈ bs, popB b ≤ 8 := fun b hbm => (byte_law b (hb b hbm)).2.2.2.2
  clear b1 b2 b3 hx1 hx2 s1 s2 s3 h1 h2 h3 hp hw e5 e3 ef hx hb
  match bs, hl with
  | [b0, b1, b2, b3, b4, b5, b6, b7], _ =>
    exact digits _ _ _ _ _ _ _ _ x3 (hpop _ (by simp)) (hpop _ (by simp)) (hpop _ (by simp)) (hpop _ (by simp)) (hpop _ (by simp)) (hpop _ (by simp)) (hpop _ (by simp)) (hpop _ (by simp)) hx3 x4 x5 x6 h4 h5 h6
end Go.Proofs.YtbmpaokicphdjaaDoor.Fn

/- OnesCount64, Count. -/
namespace Go.Proofs.YtbmpaokicphdjaaDoor.Fn
open Go Go.RowKit Go.Proofs.YtbmpaokicphdjaaDoor.Can Go.Proofs.YtbmpaokicphdjaaDoor.Base
attribute [local go_sem] clsB AB.cell

theorem and_127 (x : Nat) (hx : x < 9223372036854775807) : bits .and .i64 (x : Int) 127 = ((x % 128 : Nat) : Int) := by
  have h1 : (BitVec.ofInt 64 (x : Int)).toNat = x := by
    rw [BitVec.ofInt_natCast, BitVec.toNat_ofNat]; exact Nat.mod_eq_of_lt (by omega)
  have h2 : (BitVec.ofInt 64 (127 : Int)).toNat = 127 := by decide
  show IntKind.i64.wrap ((BitVec.ofInt 64 (x : Int) &&& BitVec.ofInt 64 127).toNat : Int) = _
  have h3 : x &&& 127 = x % 128 := Nat.and_two_pow_sub_one_eq_mod x 7
  rw [BitVec.toNat_and, h1, h2, h3]
  have : x % 128 < 128 := Nat.mod_lt _ (by decide)
  simp [IntKind.wrap, IntKind.signed, IntKind.bits]
  omega
set_option maxRecDepth 20000 in
set_option maxHeartbeats 2000000 in
theorem pop_calls (x n : Nat) (w : World) (hx : x < 18446744073709551616) (hn : (wordBits x).length = n) :
    Calls Tryd.prog 73 #[.int .u64 x] w fun e w' => e = .returned (.int .i64 n) ∧ w' = w := by
  obtain ⟨a, ha⟩ : ∃ a, x / 2 = a := ⟨_, rfl⟩
  obtain ⟨b, hb⟩ : ∃ b, a &&& 6148914691236517205 = b := ⟨_, rfl⟩
  obtain ⟨c, hc⟩ : ∃ c, x &&& 6148914691236517205 = c := ⟨_, rfl⟩
  obtain ⟨x1, h1⟩ : ∃ y, b + c = y := ⟨_, rfl⟩
  obtain ⟨a2, ha2⟩ : ∃ a, x1 / 4 = a := ⟨_, rfl⟩
  obtain ⟨b2, hb2⟩ : ∃ b, a2 &&& 3689348814741910323 = b := ⟨_, rfl⟩
  obtain ⟨c2, hc2⟩ : ∃ c, x1 &&& 3689348814741910323 = c := ⟨_, rfl⟩
  obtain ⟨x2, h2⟩ : ∃ y, b2 + c2 = y := ⟨_, rfl⟩
  obtain ⟨a3, ha3⟩ : ∃ a, x2 / 16 = a := ⟨_, rfl⟩
  obtain ⟨s3, hs3⟩ : ∃ s, a3 + x2 = s := ⟨_, rfl⟩
  obtain ⟨x3, h3⟩ : ∃ y, s3 &&& 1085102592571150095 = y := ⟨_, rfl⟩
  obtain ⟨a4, ha4⟩ : ∃ a, x3 / 256 = a := ⟨_, rfl⟩
  obtain ⟨x4, h4⟩ : ∃ y, x3 + a4 = y := ⟨_, rfl⟩
  obtain ⟨a5, ha5⟩ : ∃ a, x4 / 65536 = a := ⟨_, rfl⟩
  obtain ⟨x5, h5⟩ : ∃ y, x4 + a5 = y := ⟨_, rfl⟩
  obtain ⟨a6, ha6⟩ : ∃ a, x5 / 4294967296 = a := ⟨_, rfl⟩
  obtain ⟨x6, h6⟩ : ∃ y, x5 + a6 = y := ⟨_, rfl⟩
  obtain ⟨hlaw, k1, k2, k6⟩ := pop_law x x1 x2 x3 x4 x5 x6 hx (by rw [ha, hb, hc]; exact h1) (by rw [ha2, hb2, hc2]; exact h2) (by rw [ha3, hs3]; exact h3) (by rw [ha4]; exact h4) (by rw [ha5]; exact h5) (by rw [ha6]; exact h6)
  rw [hn] at hlaw
  have wr : ∀ {p q r : Nat}, p + q = r → r < 18446744073709551616 → IntKind.u64.wrap ((p : Int) + (q : Int)) = (r : Int) := fun h hr => by rw [IntKind.wrap_u64]; omega
  have d1 : (x : Int) / 2 = (a : Int) := by rw [← ha]; rfl
  have e1 : bits .and .u64 (a : Int) 6148914691236517205 = ((a &&& 6148914691236517205 : Nat) : Int) := bits_and_u64_nat a 6148914691236517205 (by rw [← ha]; exact Nat.lt_of_le_of_lt (Nat.div_le_self _ _) hx) (by decide)
  have e2 : bits .and .u64 (x : Int) 6148914691236517205 = ((x &&& 6148914691236517205 : Nat) : Int) := bits_and_u64_nat x 6148914691236517205 hx (by decide)
  have e3 := wr h1 k1
  have d2 : (x1 : Int) / 4 = (a2 : Int) := by rw [← ha2]; rfl
  have e4 : bits .and .u64 (a2 : Int) 3689348814741910323 = ((a2 &&& 3689348814741910323 : Nat) : Int) := bits_and_u64_nat a2 3689348814741910323 (by rw [← ha2]; exact Nat.lt_of_le_of_lt (Nat.div_le_self _ _) k1) (by decide)
  have e5 : bits .and .u64 (x1 : Int) 3689348814741910323 = ((x1 &&& 3689348814741910323 : Nat) : Int) := bits_and_u64_nat x1 3689348814741910323 k1 (by decide)
  have e6 := wr h2 (by omega)
  have d3 : (x2 : Int) / 16 = (a3 : Int) := by rw [← ha3]; rfl
  have ks : s3 < 18446744073709551616 := by have := Nat.div_le_self x2 16; rw [ha3] at this; clear wr hlaw ha ha2 ha3 ha4 ha5 ha6 d1 d2 d3; omega
  have e7 := wr hs3 ks
  have e8 : bits .and .u64 (s3 : Int) 1085102592571150095 = ((s3 &&& 1085102592571150095 : Nat) : Int) := bits_and_u64_nat s3 1085102592571150095 ks (by decide)
  have q5 : x5 ≤ x6 := by rw [← h6]; exact Nat.le_add_right _ _
  have q4 : x4 ≤ x5 := by rw [← h5]; exact Nat.le_add_right _ _
  have d4 : (x3 : Int) / 256 = (a4 : Int) := by rw [← ha4]; rfl
  have e9 := wr h4 (by clear wr hlaw ha ha2 ha3 ha4 ha5 ha6 d1 d2 d3 d4; omega)
  have d5 : (x4 : Int) / 65536 = (a5 : Int) := by rw [← ha5]; rfl
  have e10 := wr h5 (by clear wr hlaw ha ha2 ha3 ha4 ha5 ha6 d1 d2 d3 d4 d5; omega)
  have d6 : (x5 : Int) / 4294967296 = (a6 : Int) := by rw [← ha6]; rfl
  have e11 := wr h6 (by clear wr hlaw ha ha2 ha3 ha4 ha5 ha6 d1 d2 d3 d4 d5 d6; omega)
  have e12 := and_127 x6 k6
  rw [hlaw] at e12
  have e13 : wrap64 (x6 : Int) = (x6 : Int) := by unfold wrap64; clear wr hlaw ha ha2 ha3 ha4 ha5 ha6 d1 d2 d3 d4 d5 d6; omega
  rw [hb] at e1
  rw [hc] at e2
  rw [hb2] at e4
  rw [hc2] at e5
  rw [h3] at e8
  clear ha hb hc h1 ha2 hb2 hc2 h2 ha3 hs3 h3 ha4 h4 ha5 h5 ha6 h6 hlaw hn wr q5 q4 k1 k2 ks hx
  go_enter Tryd.func73, Tryd.ntmps73
  go_wp2
  go_ret
  exact ⟨rfl, rfl⟩
end Go.Proofs.YtbmpaokicphdjaaDoor.Fn

/- Count; the reference's Has, Same, Drop. -/
namespace Go.Proofs.YtbmpaokicphdjaaDoor.Fn
open Go Go.RowKit Go.Proofs.YtbmpaokicphdjaaDoor.Can Go.Proofs.YtbmpaokicphdjaaDoor.Base
attribute [local go_sem] clsB AB.cell

theorem count_calls (A : Option Addr) (c g r : Nat) (ws : List Nat) (w : World) (hK : Wok r ws) (h1 : Wd w A g ws) :
    Calls Tryd.prog 25 #[.agg #[.slice A ws.length c, .int .i64 r]] w fun e w' => e = .returned (.int .i64 ((elems ws).length : Nat)) ∧ Below w.heap.size w w' := by
  have hm1 : ws.length ≤ 1100 := by have := hK.len; have := hK.small; omega
  obtain ⟨m, hme⟩ : ∃ m, ws.length = m := ⟨_, rfl⟩
  have HE : Hd ((elems ws).length = (elemsK ws m).length) := ⟨by unfold elems; rw [hme]⟩
  have HK := Hd.mk hK; have H1 := Hd.mk h1; have HM := Hd.mk hme
  rw [hme] at hm1 ⊢
  rw [HE.out]
  clear hK h1 hme HE
  go_enter Tryd.func25, Tryd.ntmps25
  go_wp2
  generalize hV : World.alloc _ _ = V
  have HBV : Hd (Below w.heap.size w V) := ⟨by rw [← hV]; exact below_alloc (Below.refl _ _) _⟩
  clear hV
  go_loopw [3, 9] (fun s i wr => ∃ k q : Nat, k ≤ m ∧ i = .int .i64 k ∧ s = .int .i64 q ∧ Hd (q = (elemsK ws k).length) ∧ Hd (Below V.heap.size V wr)) (fun _ i _ => m - (intOf i).toNat)
  case atStart => exact ⟨0, 0, Nat.zero_le _, rfl, rfl, ⟨rfl⟩, ⟨Below.refl _ _⟩⟩
  case round =>
    obtain ⟨k, q, hk, rfl, rfl, HQ, HB⟩ := hrel
    by_cases hlt : k < m
    · obtain ⟨x, hx⟩ : ∃ x, ws[k]? = some x := ⟨_, List.getElem?_eq_getElem (by rw [HM.out]; exact hlt)⟩
      have hx64 : x < 18446744073709551616 := HK.out.lt x (List.mem_of_getElem? hx)
      have hxD : ws.getD k 0 = x := by rw [List.getD_eq_getElem?_getD, hx]; rfl
      have hWr := (H1.out.below HBV.out).below HB.out
      have hcx := hWr.cell hx
      obtain ⟨rfl, _⟩ := hWr.at_ hx
      obtain ⟨z, hz⟩ : ∃ z, (wordBits x).length = z := ⟨_, rfl⟩
      have hq70 : q ≤ 70400 := by rw [HQ.out]; have := elemsK_len ws k; omega
      have hz64 : z ≤ 64 := by rw [← hz]; unfold wordBits; exact Nat.le_trans (List.length_filter_le _ _) (by rw [List.length_range]; exact Nat.le_refl _)
      have HS : Hd (q + z = (elemsK ws (k + 1)).length) := ⟨by rw [elemsK_succ, hxD, List.length_append, List.length_map, hz, HQ.out]⟩
      have HZ := Hd.mk hz
      clear hx hxD hWr hz
      go_wp2_with (go_at_call 73; go_must (refine Calls.mono (pop_calls x z wr hx64 HZ.out) ?_; rintro e w2 ⟨rfl, rfl⟩))
      go_roundw
      case rel => exact ⟨k + 1, q + z, by omega, by go_num, by go_num, HS, HB⟩
      case measure => simp [intOf]; omega
    · obtain rfl : k = m := by omega
      go_wp2
      go_ret
      rw [← HQ.out]
      exact ⟨rfl, below_seq HBV.out HB.out⟩
theorem rhas_calls (A : Option Addr) (n c : Nat) (L : List Int) (x : Int) (b : Bool) (S : Nat → Prop) (w : World) (hS : ∀ k, S k → k < w.heap.size) (hC : Row I w S A n L) (hb : decide (x ∈ L) = b) :
    Calls Tryd.prog 70 #[.slice A n c, .int .i64 x] w fun e w' => e = .returned (.bool b) ∧ Below w.heap.size w w' := by
  have hn := hC.le
  have HC := Hd.mk hC; have HS := Hd.mk hS; have HBb := Hd.mk hb
  clear hC hS hb
  go_enter Tryd.func70, Tryd.ntmps70
  go_wp2
  go_loopw [5] (fun i wr => ∃ k : Nat, k ≤ n ∧ i = .int .i64 k ∧ Hd (x ∉ L.take k) ∧ Hd (Below w.heap.size w wr)) (fun i _ => n - (intOf i).toNat)
  case atStart => exact ⟨0, Nat.zero_le _, rfl, ⟨by simp⟩, ⟨Below.refl _ _⟩⟩
  case round =>
    obtain ⟨k, hk, rfl, HP, HB⟩ := hrel
    by_cases hlt : k < n
    · obtain ⟨g, off, y, rfl, _, hg, hy, hcell⟩ := (HC.out.below HS.out HB.out).get_int k hlt
      have HY := Hd.mk hy; clear hy
      by_cases hxy : y = x
      · have hj : (y == x) = true := by simpa using hxy
        obtain rfl : b = true := by rw [← HBb.out]; exact decide_eq_true (by rw [← hxy]; exact List.mem_of_getElem? HY.out)
        clear hxy
        go_wp2
        go_ret
        exact ⟨rfl, HB.out⟩
      · have hj : (y == x) = false := by simpa using hxy
        have HP2 : Hd (x ∉ L.take (k + 1)) := ⟨by rw [List.take_add_one, HY.out]; simp only [Option.toList_some, List.mem_append, List.mem_singleton, not_or]; exact ⟨HP.out, fun h => hxy h.symm⟩⟩
        clear hxy
        go_wp2
        go_roundw
        case rel => exact ⟨k + 1, by omega, by go_num, HP2, HB⟩
        case measure => simp [intOf]; omega
    · obtain rfl : k = n := by omega
      obtain rfl : b = false := by rw [← HBb.out]; exact decide_eq_false (by have := HP.out; rwa [← HC.out.1, List.take_length] at this)
      go_wp2
      go_ret
      exact ⟨rfl, HB.out⟩
theorem same_calls (A1 A2 : Option Addr) (n1 n2 c1 c2 : Nat) (L1 L2 : List Int) (b : Bool) (S1 S2 : Nat → Prop) (w : World) (hS1 : ∀ k, S1 k → k < w.heap.size) (hS2 : ∀ k, S2 k → k < w.heap.size) (h1 : Row I w S1 A1 n1 L1) (h2 : Row I w S2 A2 n2 L2) (hb : decide (L1 = L2) = b) :
    Calls Tryd.prog 17 #[.slice A1 n1 c1, .slice A2 n2 c2] w fun e w' => e = .returned (.bool b) ∧ Below w.heap.size w w' := by
  have hm1 := h1.le
  have hm2 := h2.le
  have H1 := Hd.mk h1; have H2 := Hd.mk h2; have HBb := Hd.mk hb; clear h1 h2 hb
  have HS1 := Hd.mk hS1; have HS2 := Hd.mk hS2; clear hS1 hS2
  by_cases hne : n1 = n2
  · subst hne
    go_enter Tryd.func17, Tryd.ntmps17
    go_wp2
    go_loopw [5] (fun i wr => ∃ k : Nat, k ≤ n1 ∧ i = .int .i64 k ∧ Hd (L1.take k = L2.take k) ∧ Hd (Below w.heap.size w wr)) (fun i _ => n1 - (intOf i).toNat)
    case atStart => exact ⟨0, Nat.zero_le _, rfl, ⟨rfl⟩, ⟨Below.refl _ _⟩⟩
    case round =>
      obtain ⟨k, hk, rfl, HE, HB⟩ := hrel
      by_cases hlt : k < n1
      · obtain ⟨b1, o1, x, rfl, _, hb1, hx1, hy1⟩ := (H1.out.below HS1.out HB.out).get_int k hlt
        obtain ⟨b2, o2, y, rfl, _, hb2, hx2, hy2⟩ := (H2.out.below HS2.out HB.out).get_int k hlt
        have HX1 := Hd.mk hx1; have HX2 := Hd.mk hx2
        clear hx1 hx2
        by_cases hxy : x = y
        · have HE2 : Hd (L1.take (k + 1) = L2.take (k + 1)) := ⟨by rw [List.take_add_one, List.take_add_one, HX1.out, HX2.out, HE.out, hxy]⟩
          subst hxy
          have hj : (x != x) = false := by simp
          go_wp2
          refine wp_region_can (.q [0, 1, 2, 3, 4, 5, 6, 7, 8] (.done)) (clsB _) (by kernel_rfl) (by kernel_rfl) (by intro _ _ d _ _ h; cases d <;> exact h) (clsB_drew _) ?_
          refine can_q (l := [⟨_,_,_,_,_,_⟩, ⟨_,_,_,_,_,_⟩, ⟨_,_,_,_,_,_⟩, ⟨_,_,_,_,_,_⟩, ⟨_,_,_,_,_,_⟩, ⟨_,_,_,_,_,_⟩, ⟨_,_,_,_,_,_⟩, ⟨_,_,_,_,_,_⟩, ⟨_,_,_,_,_,_⟩]) rfl ?_
          repeat (go_big_quiet_step (fail))
          refine wpQuiet_nil ?_
          refine can_done ?_
          go_wp2
          go_roundw
          case rel => exact ⟨k + 1, by omega, by go_num, HE2, ⟨by have := HB.out; exact (by repeat (first | (with_reducible assumption) | (with_reducible exact Below.refl _ _) | (with_reducible apply below_drewL) | (with_reducible apply below_alloc) | (with_reducible apply below_drew1) | (with_reducible apply below_drewN) | (refine below_set ?_ (by first | omega | (simp only [size_alloc, size_drew, size_set]; omega)) _ _)))⟩⟩
          case measure => simp [intOf]; omega
        · have hj : (x != y) = true := by simpa using hxy
          obtain rfl : b = false := by rw [← HBb.out]; exact decide_eq_false fun h => hxy (by have a := HX1.out; rw [h, HX2.out] at a; exact (Option.some.inj a).symm)
          clear hxy
          go_wp2
          refine wp_region_can (.q [0, 1, 2, 3, 4, 5, 6, 7, 8] (.done)) (clsB _) (by kernel_rfl) (by kernel_rfl) (by intro _ _ d _ _ h; cases d <;> exact h) (clsB_drew _) ?_
          refine can_q (l := [⟨_,_,_,_,_,_⟩, ⟨_,_,_,_,_,_⟩, ⟨_,_,_,_,_,_⟩, ⟨_,_,_,_,_,_⟩, ⟨_,_,_,_,_,_⟩, ⟨_,_,_,_,_,_⟩, ⟨_,_,_,_,_,_⟩, ⟨_,_,_,_,_,_⟩, ⟨_,_,_,_,_,_⟩]) rfl ?_
          repeat (go_big_quiet_step (fail))
          refine wpQuiet_nil ?_
          refine can_done ?_
          go_wp2
          go_ret
          exact ⟨rfl, by have := HB.out; exact (by repeat (first | (with_reducible assumption) | (with_reducible exact Below.refl _ _) | (with_reducible apply below_drewL) | (with_reducible apply below_alloc) | (with_reducible apply below_drew1) | (with_reducible apply below_drewN) | (refine below_set ?_ (by first | omega | (simp only [size_alloc, size_drew, size_set]; omega)) _ _)))⟩
      · obtain rfl : k = n1 := by omega
        obtain rfl : b = true := by rw [← HBb.out]; exact decide_eq_true (by have a := HE.out; rwa [List.take_of_length_le (by rw [H1.out.1]; exact Nat.le_refl _), List.take_of_length_le (by rw [H2.out.1]; exact Nat.le_refl _)] at a)
        go_wp2
        go_ret
        exact ⟨rfl, HB.out⟩
  · obtain rfl : b = false := by rw [← HBb.out]; exact decide_eq_false fun h => hne (by rw [← H1.out.1, ← H2.out.1, h])
    go_enter Tryd.func17, Tryd.ntmps17
    go_wp2
    go_ret
    exact ⟨rfl, Below.refl _ _⟩
end Go.Proofs.YtbmpaokicphdjaaDoor.Fn
