/- Acts and automata that may be. -/
import Derived.Test.YtpcnekdilecakaaDoorW4
import Derived.Test.YtpcnekdilecakaaDoorT4
set_option linter.unusedVariables false
set_option linter.unusedSimpArgs false
namespace Go.Proofs.YtpcnekdilecakaaDoor.Tb
open Go Go.RowKit Go.Proofs.YtpcnekdilecakaaDoor.Can Go.Proofs.YtpcnekdilecakaaDoor.Base
attribute [local go_sem] clsB AB.cell

set_option maxHeartbeats 1000000 in
theorem aRight_calls (A : Option Addr) (n c : Nat) (s : ByteArray) (g : Int) (b : Bool) (w : World) (hn : n ≤ 9223372036854775807) (hs : s.size ≤ 9223372036854775807) (hb : actB n (s, g) = b) :
    Calls Tryd.prog 27 #[.agg #[.string s, .int .i64 g], .slice A n c] w fun e w' => e = .returned (.bool b) ∧ Below w.heap.size w w' := by
  obtain ⟨W0, hW0⟩ : ∃ W0, w.alloc (.cells #[.string s, .int .i64 g] 42) = W0 := ⟨_, rfl⟩
  have hBW : Below w.heap.size w W0 := by rw [← hW0]; exact below_alloc (Below.refl _ _) _
  have hx : W0.heap[w.heap.size]? = some (.cells #[.string s, .int .i64 g] 42 (0, 0)) := by rw [← hW0]; exact blk_new _ _ _ rfl
  have HBW := Hd.mk hBW
  clear hBW
  unfold actB at hb
  dsimp only at hb
  by_cases h0 : s.size = 0
  · have he : s.toList.isEmpty = true := (empty_is s).2 h0
    rw [decide_eq_true h0, Bool.true_or, Bool.true_and] at hb
    go_enter Tryd.func27, Tryd.ntmps27
    go_upto_region 1 with fail
    clear hW0
    have hxc0 := blk_cell hx 0 _ rfl; have hxf0 := blk_frozen hx 0; have hxc1 := blk_cell hx 1 _ rfl; have hxf1 := blk_frozen hx 1; have hxl := blk_lt hx
    by_cases g1 : -1 ≤ g
    · by_cases g2 : g < n
      · obtain rfl : b = true := by rw [← hb, decide_eq_true g1, decide_eq_true g2]; rfl
        clear hb
        (go_wp2; go_ret; exact ⟨rfl, HBW.out⟩)
      · obtain rfl : b = false := by rw [← hb, decide_eq_true g1, decide_eq_false g2]; rfl
        clear hb
        (go_wp2; go_ret; exact ⟨rfl, HBW.out⟩)
    · obtain rfl : b = false := by rw [← hb, decide_eq_false g1]; rfl
      have g3 : decide (-1 ≤ g) = false := decide_eq_false g1
      have g4 : g < -1 := by omega
      clear g1
      clear hb
      (go_wp2; go_ret; exact ⟨rfl, HBW.out⟩)
  · have he : s.toList.isEmpty = false := by rw [Bool.eq_false_iff]; exact fun h => h0 ((empty_is s).1 h)
    rw [decide_eq_false h0, Bool.false_or] at hb
    cases hnm : nameB s with
    | true =>
      have HJ := Hd.mk (wName_calls W0 s true hnm hs)
      rw [hnm, Bool.true_and] at hb
      clear hnm
      go_enter Tryd.func27, Tryd.ntmps27
      go_upto_region 1 with fail
      clear hW0
      have hxc0 := blk_cell hx 0 _ rfl; have hxf0 := blk_frozen hx 0; have hxc1 := blk_cell hx 1 _ rfl; have hxf1 := blk_frozen hx 1; have hxl := blk_lt hx
      by_cases g1 : -1 ≤ g
      · by_cases g2 : g < n
        · obtain rfl : b = true := by rw [← hb, decide_eq_true g1, decide_eq_true g2]; rfl
          clear hb
          (go_wp2_with (go_at_call 55; go_must (refine Calls.mono HJ.out ?_; rintro e w1 ⟨rfl, hb_⟩; have HB1 := Hd.mk (below_seq HBW.out hb_); have hx1 := blk_below hx hb_; clear hxc0 hxf0 hxc1 hxf1 hxl; have hx1c0 := blk_cell hx1 0 _ rfl; have hx1f0 := blk_frozen hx1 0; have hx1c1 := blk_cell hx1 1 _ rfl; have hx1f1 := blk_frozen hx1 1; have hx1l := blk_lt hx1; clear hb_)); all_goals (first | (exfalso; omega) | (go_ret; exact ⟨(by first | rfl | exact ret_bool (decide_eq_false (by omega))), HB1.out⟩)))
        · obtain rfl : b = false := by rw [← hb, decide_eq_true g1, decide_eq_false g2]; rfl
          clear hb
          (go_wp2_with (go_at_call 55; go_must (refine Calls.mono HJ.out ?_; rintro e w1 ⟨rfl, hb_⟩; have HB1 := Hd.mk (below_seq HBW.out hb_); have hx1 := blk_below hx hb_; clear hxc0 hxf0 hxc1 hxf1 hxl; have hx1c0 := blk_cell hx1 0 _ rfl; have hx1f0 := blk_frozen hx1 0; have hx1c1 := blk_cell hx1 1 _ rfl; have hx1f1 := blk_frozen hx1 1; have hx1l := blk_lt hx1; clear hb_)); all_goals (first | (exfalso; omega) | (go_ret; exact ⟨(by first | rfl | exact ret_bool (decide_eq_false (by omega))), HB1.out⟩)))
      · obtain rfl : b = false := by rw [← hb, decide_eq_false g1]; rfl
        have g3 : decide (-1 ≤ g) = false := decide_eq_false g1
        have g4 : g < -1 := by omega
        clear g1
        clear hb
        (go_wp2_with (go_at_call 55; go_must (refine Calls.mono HJ.out ?_; rintro e w1 ⟨rfl, hb_⟩; have HB1 := Hd.mk (below_seq HBW.out hb_); have hx1 := blk_below hx hb_; clear hxc0 hxf0 hxc1 hxf1 hxl; have hx1c0 := blk_cell hx1 0 _ rfl; have hx1f0 := blk_frozen hx1 0; have hx1c1 := blk_cell hx1 1 _ rfl; have hx1f1 := blk_frozen hx1 1; have hx1l := blk_lt hx1; clear hb_)); all_goals (first | (exfalso; omega) | (go_ret; exact ⟨(by first | rfl | exact ret_bool (decide_eq_false (by omega))), HB1.out⟩)))
    | false =>
      have HJ := Hd.mk (wName_calls W0 s false hnm hs)
      obtain rfl : b = false := by rw [← hb, hnm]; rfl
      clear hnm hb
      go_enter Tryd.func27, Tryd.ntmps27
      go_upto_region 1 with fail
      clear hW0
      have hxc0 := blk_cell hx 0 _ rfl; have hxf0 := blk_frozen hx 0; have hxc1 := blk_cell hx 1 _ rfl; have hxf1 := blk_frozen hx 1; have hxl := blk_lt hx
      go_wp2_with (go_at_call 55; go_must (refine Calls.mono HJ.out ?_; rintro e w1 ⟨rfl, hb_⟩; have HB1 := Hd.mk (below_seq HBW.out hb_); have hx1 := blk_below hx hb_; clear hxc0 hxf0 hxc1 hxf1 hxl; have hx1c0 := blk_cell hx1 0 _ rfl; have hx1f0 := blk_frozen hx1 0; have hx1c1 := blk_cell hx1 1 _ rfl; have hx1f1 := blk_frozen hx1 1; have hx1l := blk_lt hx1; clear hb_))
      go_ret
      exact ⟨rfl, HB1.out⟩
set_option maxHeartbeats 1000000 in
theorem r17Right_calls (A : Option Addr) (n c : Nat) (s : ByteArray) (g : Int) (b : Bool) (w : World) (hn : n ≤ 9223372036854775807) (hs : s.size ≤ 9223372036854775807) (hb : actB n (s, g) = b) :
    Calls Tryd.prog 22 #[.agg #[.string s, .int .i64 g], .slice A n c] w fun e w' => e = .returned (.bool b) ∧ Below w.heap.size w w' := by
  obtain ⟨W0, hW0⟩ : ∃ W0, w.alloc (.cells #[.string s, .int .i64 g] 42) = W0 := ⟨_, rfl⟩
  have hBW : Below w.heap.size w W0 := by rw [← hW0]; exact below_alloc (Below.refl _ _) _
  have hx : W0.heap[w.heap.size]? = some (.cells #[.string s, .int .i64 g] 42 (0, 0)) := by rw [← hW0]; exact blk_new _ _ _ rfl
  have HBW := Hd.mk hBW
  clear hBW
  unfold actB at hb
  dsimp only at hb
  by_cases h0 : s.size = 0
  · have he : s.toList.isEmpty = true := (empty_is s).2 h0
    rw [decide_eq_true h0, Bool.true_or, Bool.true_and] at hb
    go_enter Tryd.func22, Tryd.ntmps22
    go_upto_region 1 with fail
    clear hW0
    have hxc0 := blk_cell hx 0 _ rfl; have hxf0 := blk_frozen hx 0; have hxc1 := blk_cell hx 1 _ rfl; have hxf1 := blk_frozen hx 1; have hxl := blk_lt hx
    by_cases g1 : -1 ≤ g
    · by_cases g2 : g < n
      · obtain rfl : b = true := by rw [← hb, decide_eq_true g1, decide_eq_true g2]; rfl
        clear hb
        (go_wp2; go_ret; exact ⟨rfl, HBW.out⟩)
      · obtain rfl : b = false := by rw [← hb, decide_eq_true g1, decide_eq_false g2]; rfl
        clear hb
        (go_wp2; go_ret; exact ⟨rfl, HBW.out⟩)
    · obtain rfl : b = false := by rw [← hb, decide_eq_false g1]; rfl
      have g3 : decide (-1 ≤ g) = false := decide_eq_false g1
      have g4 : g < -1 := by omega
      clear g1
      clear hb
      (go_wp2; go_ret; exact ⟨rfl, HBW.out⟩)
  · have he : s.toList.isEmpty = false := by rw [Bool.eq_false_iff]; exact fun h => h0 ((empty_is s).1 h)
    rw [decide_eq_false h0, Bool.false_or] at hb
    cases hnm : nameB s with
    | true =>
      have HJ := Hd.mk (r04Name_calls W0 s true hnm hs)
      rw [hnm, Bool.true_and] at hb
      clear hnm
      go_enter Tryd.func22, Tryd.ntmps22
      go_upto_region 1 with fail
      clear hW0
      have hxc0 := blk_cell hx 0 _ rfl; have hxf0 := blk_frozen hx 0; have hxc1 := blk_cell hx 1 _ rfl; have hxf1 := blk_frozen hx 1; have hxl := blk_lt hx
      by_cases g1 : -1 ≤ g
      · by_cases g2 : g < n
        · obtain rfl : b = true := by rw [← hb, decide_eq_true g1, decide_eq_true g2]; rfl
          clear hb
          (go_wp2_with (go_at_call 51; go_must (refine Calls.mono HJ.out ?_; rintro e w1 ⟨rfl, hb_⟩; have HB1 := Hd.mk (below_seq HBW.out hb_); have hx1 := blk_below hx hb_; clear hxc0 hxf0 hxc1 hxf1 hxl; have hx1c0 := blk_cell hx1 0 _ rfl; have hx1f0 := blk_frozen hx1 0; have hx1c1 := blk_cell hx1 1 _ rfl; have hx1f1 := blk_frozen hx1 1; have hx1l := blk_lt hx1; clear hb_)); all_goals (first | (exfalso; omega) | (go_ret; exact ⟨(by first | rfl | exact ret_bool (decide_eq_false (by omega))), HB1.out⟩)))
        · obtain rfl : b = false := by rw [← hb, decide_eq_true g1, decide_eq_false g2]; rfl
          clear hb
          (go_wp2_with (go_at_call 51; go_must (refine Calls.mono HJ.out ?_; rintro e w1 ⟨rfl, hb_⟩; have HB1 := Hd.mk (below_seq HBW.out hb_); have hx1 := blk_below hx hb_; clear hxc0 hxf0 hxc1 hxf1 hxl; have hx1c0 := blk_cell hx1 0 _ rfl; have hx1f0 := blk_frozen hx1 0; have hx1c1 := blk_cell hx1 1 _ rfl; have hx1f1 := blk_frozen hx1 1; have hx1l := blk_lt hx1; clear hb_)); all_goals (first | (exfalso; omega) | (go_ret; exact ⟨(by first | rfl | exact ret_bool (decide_eq_false (by omega))), HB1.out⟩)))
      · obtain rfl : b = false := by rw [← hb, decide_eq_false g1]; rfl
        have g3 : decide (-1 ≤ g) = false := decide_eq_false g1
        have g4 : g < -1 := by omega
        clear g1
        clear hb
        (go_wp2_with (go_at_call 51; go_must (refine Calls.mono HJ.out ?_; rintro e w1 ⟨rfl, hb_⟩; have HB1 := Hd.mk (below_seq HBW.out hb_); have hx1 := blk_below hx hb_; clear hxc0 hxf0 hxc1 hxf1 hxl; have hx1c0 := blk_cell hx1 0 _ rfl; have hx1f0 := blk_frozen hx1 0; have hx1c1 := blk_cell hx1 1 _ rfl; have hx1f1 := blk_frozen hx1 1; have hx1l := blk_lt hx1; clear hb_)); all_goals (first | (exfalso; omega) | (go_ret; exact ⟨(by first | rfl | exact ret_bool (decide_eq_false (by omega))), HB1.out⟩)))
    | false =>
      have HJ := Hd.mk (r04Name_calls W0 s false hnm hs)
      obtain rfl : b = false := by rw [← hb, hnm]; rfl
      clear hnm hb
      go_enter Tryd.func22, Tryd.ntmps22
      go_upto_region 1 with fail
      clear hW0
      have hxc0 := blk_cell hx 0 _ rfl; have hxf0 := blk_frozen hx 0; have hxc1 := blk_cell hx 1 _ rfl; have hxf1 := blk_frozen hx 1; have hxl := blk_lt hx
      go_wp2_with (go_at_call 51; go_must (refine Calls.mono HJ.out ?_; rintro e w1 ⟨rfl, hb_⟩; have HB1 := Hd.mk (below_seq HBW.out hb_); have hx1 := blk_below hx hb_; clear hxc0 hxf0 hxc1 hxf1 hxl; have hx1c0 := blk_cell hx1 0 _ rfl; have hx1f0 := blk_frozen hx1 0; have hx1c1 := blk_cell hx1 1 _ rfl; have hx1f1 := blk_frozen hx1 1; have hx1l := blk_lt hx1; clear hb_))
      go_ret
      exact ⟨rfl, HB1.out⟩
/-- Where something is found that is so; below 0: nowhere. -/
def Ixs {α : Type} (p : α → Bool) (l : List α) (x : Int) : Prop := (x = -1 ∧ l.any p = false) ∨ (0 ≤ x ∧ l.any p = true)
theorem ixs_any {α : Type} {p : α → Bool} {l : List α} {x : Int} {b : Bool} (h : Ixs p l x) (hb : l.any p = b) : decide (0 ≤ x) = b := by
  rcases h with ⟨rfl, h⟩ | ⟨h0, h⟩
  · rw [← hb, h]; rfl
  · rw [← hb, h]; exact decide_eq_true h0
theorem any_snoc {α : Type} {p : α → Bool} {l : List α} {k : Nat} {x : α} (h : l[k]? = some x) : (l.take (k + 1)).any p = ((l.take k).any p || p x) := by
  rw [Df.take_snoc h, List.any_append]; simp
theorem any_at {α : Type} {p : α → Bool} {l : List α} {k : Nat} {x : α} (h : l[k]? = some x) (hp : p x = true) : l.any p = true := List.any_eq_true.2 ⟨x, List.mem_of_getElem? h, hp⟩
theorem dfa1_calls (w : World) (g : Nat) (m x : Int) (hg : w.heap[g]? = some (.cells #[.int .i64 m] 3 (0, 0))) : Calls Tryd.prog 59 #[.int .i64 x, .pointer (some ⟨g, 0, none⟩)] w fun e w' => e = .returned (.bool (decide (m ≤ x))) ∧ w' = w := by
  have hgc0 := blk_cell hg 0 _ rfl; have hgf0 := blk_frozen hg 0; have hgl := blk_lt hg
  go_enter Tryd.func59, Tryd.ntmps59
  go_wp2
  go_ret
  exact ⟨rfl, rfl⟩
theorem act_get {w : World} {S : Nat → Prop} {A : Option Addr} {n : Nat} {xs : List (ByteArray × Int)} (h : Row aT w S A n xs) (k : Nat) (hk : k < n) :
    ∃ b off s g, A = some ⟨b, off, none⟩ ∧ b < w.heap.size ∧ S b ∧ xs[k]? = some (s, g) ∧ w.cell? ⟨b, off + k * 2, none⟩ = some (.string s) ∧ w.cell? ⟨b, off + k * 2 + 1, none⟩ = some (.int .i64 g) := by
  obtain ⟨b, off, cs, he, hs, ⟨c0, c1, rfl, h0, h1⟩, hcell⟩ := h.get k hk
  have h0' : c0 = [.string _] := h0
  have h1' : c1 = [.int .i64 _] := h1
  subst h0' h1'
  have q0 := hcell 0 _ rfl
  exact ⟨b, off, _, _, he, World.block_lt_of_cell? w _ q0, hs, List.getElem?_eq_getElem _, q0, hcell 1 _ rfl⟩
set_option maxHeartbeats 1000000 in
theorem ixi_calls (A : Option Addr) (n c g : Nat) (m : Int) (l : List Int) (p : Int → Bool) (hp : p = fun x => decide (m ≤ x)) (S : Nat → Prop) (w : World) (hS : ∀ k, S k → k < w.heap.size) (hC : Row I w S A n l) (hg : w.heap[g]? = some (.cells #[.int .i64 m] 3 (0, 0))) :
    Calls Tryd.prog 76 #[.slice A n c, .func (.func 59) #[] #[.pointer (some ⟨g, 0, none⟩)]] w fun e w' => (∃ x, e = .returned (.int .i64 x) ∧ Ixs p l x) ∧ Below w.heap.size w w' := by
  have hn := hC.le
  have HN := Hd.mk hC.1
  have HC := Hd.mk hC
  have HS := Hd.mk hS
  have HG := Hd.mk hg
  have HPD := Hd.mk hp
  clear hC hS hg hp
  go_enter Tryd.func76, Tryd.ntmps76
  go_wp2
  go_loopw [8] (fun i wr => ∃ k : Nat, k ≤ n ∧ i = .int .i64 k ∧ Hd ((l.take k).any p = false) ∧ Hd (Below w.heap.size w wr)) (fun i _ => n - (intOf i).toNat)
  case atStart => exact ⟨0, Nat.zero_le _, rfl, ⟨by simp⟩, ⟨Below.refl _ _⟩⟩
  case round =>
    obtain ⟨k, hk, rfl, HK, HB⟩ := hrel
    by_cases hlt : k < n
    · obtain ⟨b9, off, x, rfl, -, hb9, ht, hc⟩ := (HC.out.below HS.out HB.out).get_int k hlt; have HT := Hd.mk ht; clear ht; have HJ : Hd (Calls Tryd.prog 59 #[.int .i64 x, .pointer (some ⟨g, 0, none⟩)] wr fun e w' => e = .returned (.bool (p x)) ∧ Below wr.heap.size wr w') := ⟨(dfa1_calls wr g m x (blk_below HG.out HB.out)).mono (by rintro e w1 ⟨rfl, rfl⟩; exact ⟨by rw [HPD.out], Below.refl _ _⟩)⟩
      cases hp : p x with
      | true =>
        rw [hp] at HJ
        have HAN := Hd.mk (any_at (p := p) HT.out hp)
        clear hp
        go_wp2_with (go_at_call 59; go_must (refine Calls.mono HJ.out ?_; rintro e w1 ⟨rfl, hb_⟩; have HB1 := Hd.mk (below_seq HB.out hb_); clear hb_))
        go_ret
        exact ⟨⟨_, rfl, .inr ⟨by omega, HAN.out⟩⟩, HB1.out⟩
      | false =>
        rw [hp] at HJ
        have HAN : Hd ((l.take (k + 1)).any p = false) := ⟨by rw [any_snoc HT.out, HK.out, hp]; rfl⟩
        clear hp
        go_wp2_with (go_at_call 59; go_must (refine Calls.mono HJ.out ?_; rintro e w1 ⟨rfl, hb_⟩; have HB1 := Hd.mk (below_seq HB.out hb_); clear hb_))
        go_roundw
        case rel => exact ⟨k + 1, by omega, by go_num, HAN, HB1⟩
        case measure => simp [intOf]; omega
    · obtain rfl : k = n := by omega
      go_wp2
      go_ret
      exact ⟨⟨_, rfl, .inl ⟨rfl, by have := HK.out; rwa [Df.take_all HN.out] at this⟩⟩, HB.out⟩
theorem coi_calls (A : Option Addr) (n c g : Nat) (m : Int) (l : List Int) (b : Bool) (hb : l.any (fun x => decide (m ≤ x)) = b) (S : Nat → Prop) (w : World) (hS : ∀ k, S k → k < w.heap.size) (hC : Row I w S A n l) (hg : w.heap[g]? = some (.cells #[.int .i64 m] 3 (0, 0))) :
    Calls Tryd.prog 58 #[.slice A n c, .func (.func 59) #[] #[.pointer (some ⟨g, 0, none⟩)]] w fun e w' => e = .returned (.bool b) ∧ Below w.heap.size w w' := by
  have HJ := Hd.mk (ixi_calls A n c g m l _ rfl S w hS hC hg)
  have HP := Hd.mk hb
  clear hb hS hC hg
  go_enter Tryd.func58, Tryd.ntmps58
  go_wp2_with (go_at_call 76; go_must (refine Calls.mono HJ.out ?_; rintro e w1 ⟨⟨x, rfl, hp⟩, hb_⟩; have hxb := ixs_any hp HP.out; have HB1 := Hd.mk hb_; clear hb_ hp))
  go_ret
  exact ⟨by first | rfl | rw [hxb], HB1.out⟩
end Go.Proofs.YtpcnekdilecakaaDoor.Tb
