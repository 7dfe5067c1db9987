/- The iterator over a set's numbers. -/
import Derived.RangeFuncNested
import Derived.RangeFuncBound
import Derived.RangeFuncCalls
import Derived.RangeFuncLeaves
import Derived.Shelf.Abstract
import Derived.Shelf.RegionOpen
import Derived.WalkKit
import Derived.OwnWalkIn
import Derived.TacticsInMore
import Derived.LoopNIn
import Derived.LoopIn
import Derived.Test.YtbmpaokicphdjaaDoorB6
namespace Go.Proofs.YtbmpaokicphdjaaDoor.Fn
open Go Go.RowKit Go.Shelf Go.Proofs.YtbmpaokicphdjaaDoor.Can Go.Proofs.YtbmpaokicphdjaaDoor.Base
attribute [local go_sem] Oper.semAt_some

/-- What a round keeps: these blocks. -/
def Kept (K : Nat → Prop) (W W' : World) : Prop := ∀ k, K k → W'.heap[k]? = W.heap[k]?
theorem Kept.refl (K : Nat → Prop) (W : World) : Kept K W W := fun _ _ => rfl
theorem Kept.trans {K : Nat → Prop} {A B C : World} (h : Kept K A B) (k : Kept K B C) : Kept K A C := fun i hi => (k i hi).trans (h i hi)
theorem Kept.cell {K : Nat → Prop} {A B : World} (h : Kept K A B) {b i : Nat} (hb : K b) : B.cell? ⟨b, i, none⟩ = A.cell? ⟨b, i, none⟩ := World.cell?_of_block (w := A) (h b hb)
theorem Kept.tab {K : Nat → Prop} {A B : World} (h : Kept K A B) (h0 : K 0) {l : List Nat} (hT : TabAt 0 l A) : TabAt 0 l B := fun j hj => (h.cell h0).trans (hT j hj)
theorem elemsK_len (ws : List Nat) (k : Nat) : (elemsK ws k).length ≤ 64 * k := by
  unfold elemsK
  exact Nat.le_trans (List.length_filter_le _ _) (by rw [List.length_range]; exact Nat.le_refl _)
set_option maxRecDepth 100000 in
set_option maxHeartbeats 4000000 in
theorem each_in (n : Nat) (hn : 1 ≤ n) (l Bx g c : Nat) (A : Option Addr) (ws : List Nat) (hlt : ∀ x ∈ ws, x < 18446744073709551616) (hlen : ws.length ≤ 2000) (J Jx : List Nat → World → Prop)
    (hY : ∀ (pre : List Nat) (x : Nat) W, J pre W → pre.length < 64 * ws.length → YieldAt Fence.wide (n - 1) Tryd.prog l #[.int .i64 (x : Int)] W fun e W' =>
      (e = .returned (.bool true) ∧ J (pre ++ [x]) W' ∧ Kept (fun k => k = g ∨ k = Bx ∨ k = 0) W W') ∨ (e = .returned (.bool false) ∧ Jx (pre ++ [x]) W'))
    (W : World) (hB : W.cell? ⟨Bx, 0, none⟩ = some (.slice A ws.length c)) (hW : Wd W A g ws) (hT : TabAt 0 Lib.deBruijn64tab W) (h0 : J [] W) :
    CallsIn Fence.wide n Tryd.prog 104 #[.func (.yield l) #[] #[], .pointer (some ⟨Bx, 0, none⟩)] W fun e W' => (∃ v, e = .returned v) ∧
      ((∃ ys, ys = elems ws ∧ J ys W') ∨ (∃ pre, True ∧ Jx pre W')) := by
  refine callsIn_of_wp Tryd.func104 rfl trivial ?_ rfl
  simp only [Tryd.ntmps104, List.size_toArray, List.length_cons, List.length_nil, Nat.reduceAdd, Nat.reduceSub, Array.replicate_succ, Array.replicate_zero, List.push_toArray, List.append_toArray, List.nil_append, List.cons_append]
  obtain ⟨m, hm⟩ : ∃ m, ws.length = m := ⟨_, rfl⟩
  rw [hm] at hB hlen
  have HM := Hd.mk hm; have HT := Hd.mk hT; have HW := Hd.mk hW; have H0 := Hd.mk h0; have HY := Hd.mk hY; have HL := Hd.mk hlt
  clear hm hT hW h0 hY hlt
  gi_wp2
  gi_loopw [8] (fun i wr => ∃ k : Nat, k ≤ m ∧ i = .int .i64 k ∧ Hd (J (elemsK ws k) wr) ∧ Hd (Kept (fun k => k = g ∨ k = Bx ∨ k = 0) W wr)) (fun i _ => m - (intOf i).toNat)
  case atStart => exact ⟨0, Nat.zero_le _, rfl, H0, ⟨Kept.refl _ _⟩⟩
  case round =>
    obtain ⟨k, hk, rfl, HJ, HK⟩ := hrel
    by_cases hlt : k < m
    · obtain ⟨x, hx⟩ : ∃ x, ws[k]? = some x := ⟨_, List.getElem?_eq_getElem (by rw [HM.out]; exact hlt)⟩
      have hx64 : x < 18446744073709551616 := HL.out x (List.mem_of_getElem? hx)
      have hxD : ws.getD k 0 = x := by rw [List.getD_eq_getElem?_getD, hx]; rfl
      have hWr := HW.out.move (HK.out g (.inl rfl))
      have hcx := hWr.cell hx
      obtain ⟨rfl, _⟩ := hWr.at_ hx
      have HS : Hd (elemsK ws (k + 1) = elemsK ws k ++ (wordBits x).map (k * 64 + ·)) := ⟨by rw [elemsK_succ, hxD]⟩
      clear hx hxD hWr
      gi_wp2
      gi_loopw [4] (fun v wx => ∃ (y : Nat) (pre : List Nat), v = .int .u64 y ∧ y < 18446744073709551616 ∧ Hd (elemsK ws (k + 1) = pre ++ (wordBits y).map (k * 64 + ·)) ∧ Hd (J pre wx) ∧ Hd (Kept (fun k => k = g ∨ k = Bx ∨ k = 0) W wx)) (fun v _ => (wordBits (intOf v).toNat).length)
      case atStart => exact ⟨x, _, rfl, hx64, HS, HJ, HK⟩
      case round =>
        clear HS HJ HK
        obtain ⟨y, pre, rfl, hy64, HS, HJ, HK⟩ := hrel
        by_cases hy0 : y = 0
        · subst hy0
          have HE : Hd (elemsK ws (k + 1) = pre) := ⟨by rw [HS.out, wordBits_zero, List.map_nil, List.append_nil]⟩
          gi_wp2
          go_roundw
          case rel => exact ⟨k + 1, by omega, by go_num, ⟨by rw [HE.out]; exact HJ.out⟩, HK⟩
          case measure => simp [intOf]; omega
        · have hb := wordBits_cons hy0 hy64
          obtain ⟨ct, hct⟩ : ∃ ct, Lib.ctz 64 y = ct := ⟨_, rfl⟩
          have hc64 : ct < 64 := by rw [← hct]; exact (low_bit hy0 hy64).1
          have hne : ((y : Int) != 0) = true := by simpa using hy0
          obtain ⟨z, hz⟩ : ∃ z : Nat, k * 64 + ct = z := ⟨_, rfl⟩
          have hzI : (k : Int) * 64 + (ct : Int) = (z : Int) := by omega
          obtain ⟨y1, hy1⟩ : ∃ y1, y - 1 = y1 := ⟨_, rfl⟩
          have hsub : IntKind.u64.wrap ((y : Int) - 1) = (y1 : Int) := by rw [IntKind.wrap_u64]; omega
          have hand := bits_and_u64_nat y y1 hy64 (by omega)
          obtain ⟨y2, hy2⟩ : ∃ y2, y &&& y1 = y2 := ⟨_, rfl⟩
          have hy264 : y2 < 18446744073709551616 := by rw [← hy2]; exact Nat.lt_of_le_of_lt Nat.and_le_left hy64
          rw [hy2] at hand
          rw [hct, hy1, hy2] at hb
          have HS2 : Hd (elemsK ws (k + 1) = (pre ++ [z]) ++ (wordBits y2).map (k * 64 + ·)) := ⟨by rw [HS.out, hb, List.map_cons, hz]; simp⟩
          have HPL : Hd (pre.length < 64 * ws.length) := ⟨by have h1 := elemsK_len ws (k + 1); rw [HS2.out] at h1; simp at h1; rw [HM.out]; omega⟩
          have HB := Hd.mk hb; have HCT := Hd.mk hct; have HY0 := Hd.mk hy0
          obtain ⟨fn, tmps, assign, body, hy, hR⟩ := HY.out pre z wr HJ.out HPL.out
          have HTx := Hd.mk (HK.out.tab (.inr (.inr rfl)) HT.out)
          clear hb hct hz hy1 hy2 hy0
          gi_wp2_with (refine ⟨trivial, ?_⟩; gi_at_call 105; refine (callsIn_wide.2 (tz_calls y hy64 _ HY0.out HTx.out)).mono ?_; rintro e w' ⟨he, rfl⟩; rw [HCT.out] at he; subst he)
          refine hR.mono ?_
          rintro e W3 (⟨rfl, hJ3, hk3⟩ | ⟨rfl, hJx3⟩)
          · have HJ3 := Hd.mk hJ3; have HK3 := Hd.mk hk3
            clear hJ3 hk3 hy hR
            gi_wp2
            go_roundw
            case rel => exact ⟨y2, pre ++ [z], rfl, hy264, HS2, HJ3, ⟨HK.out.trans HK3.out⟩⟩
            case measure => simp only [intOf, Int.toNat_natCast]; rw [HB.out]; simp
          · gi_wp2
            refine bodyPost_ret (results_none rfl _ _ _) rfl ?_
            exact ⟨⟨_, rfl⟩, .inr ⟨_, trivial, hJx3⟩⟩
    · obtain rfl : k = m := by omega
      gi_wp2
      go_end0
      exact ⟨⟨_, rfl⟩, .inl ⟨_, by unfold elems; rw [HM.out], HJ.out⟩⟩
end Go.Proofs.YtbmpaokicphdjaaDoor.Fn
