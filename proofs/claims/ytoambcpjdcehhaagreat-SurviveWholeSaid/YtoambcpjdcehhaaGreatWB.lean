/- Texts: W5, W6, W7, W8, W9, W10. -/
import Derived.Test.YtoambcpjdcehhaaGreatWA
import Derived.Test.YtoambcpjdcehhaaGreatTA
/- Acts and automata that may be. -/
set_option linter.unusedVariables false
set_option linter.unusedSimpArgs false
namespace Go.Proofs.YtoambcpjdcehhaaGreat.Tb
open Go Go.RowKit Go.Proofs.YtoambcpjdcehhaaGreat.Can Go.Proofs.YtoambcpjdcehhaaGreat.Base
attribute [local go_sem] clsB AB.cell

set_option maxHeartbeats 1000000 in
theorem aRight_calls (A : Option Addr) (n c : Nat) (s : ByteArray) (g : Int) (b : Bool) (w : World) (hn : n ≤ 9223372036854775807) (hs : s.size ≤ 9223372036854775807) (hb : actB n (s, g) = b) :
    Calls Tryz.prog 44 #[.agg #[.string s, .int .i64 g], .slice A n c] w fun e w' => e = .returned (.bool b) ∧ Below w.heap.size w w' := by
  obtain ⟨W0, hW0⟩ : ∃ W0, w.alloc (.cells #[.string s, .int .i64 g] 93) = W0 := ⟨_, rfl⟩
  have hBW : Below w.heap.size w W0 := by rw [← hW0]; exact below_alloc (Below.refl _ _) _
  have hx : W0.heap[w.heap.size]? = some (.cells #[.string s, .int .i64 g] 93 (0, 0)) := by rw [← hW0]; exact blk_new _ _ _ rfl
  have HBW := Hd.mk hBW
  clear hBW
  unfold actB at hb
  dsimp only at hb
  by_cases h0 : s.size = 0
  · have he : s.toList.isEmpty = true := (empty_is s).2 h0
    rw [decide_eq_true h0, Bool.true_or, Bool.true_and] at hb
    go_enter Tryz.func44, Tryz.ntmps44
    go_upto_region 1 with fail
    clear hW0
    have hxc0 := blk_cell hx 0 _ rfl; have hxf0 := blk_frozen hx 0; have hxc1 := blk_cell hx 1 _ rfl; have hxf1 := blk_frozen hx 1; have hxl := blk_lt hx
    by_cases g1 : -1 ≤ g
    · by_cases g2 : g < n
      · obtain rfl : b = true := by rw [← hb, decide_eq_true g1, decide_eq_true g2]; rfl
        clear hb
        (go_wp2; go_ret; exact ⟨rfl, HBW.out⟩)
      · obtain rfl : b = false := by rw [← hb, decide_eq_true g1, decide_eq_false g2]; rfl
        clear hb
        (go_wp2; go_ret; exact ⟨rfl, HBW.out⟩)
    · obtain rfl : b = false := by rw [← hb, decide_eq_false g1]; rfl
      have g3 : decide (-1 ≤ g) = false := decide_eq_false g1
      have g4 : g < -1 := by omega
      clear g1
      clear hb
      (go_wp2; go_ret; exact ⟨rfl, HBW.out⟩)
  · have he : s.toList.isEmpty = false := by rw [Bool.eq_false_iff]; exact fun h => h0 ((empty_is s).1 h)
    rw [decide_eq_false h0, Bool.false_or] at hb
    cases hnm : nameB s with
    | true =>
      have HJ := Hd.mk (wName_calls W0 s true hnm hs)
      rw [hnm, Bool.true_and] at hb
      clear hnm
      go_enter Tryz.func44, Tryz.ntmps44
      go_upto_region 1 with fail
      clear hW0
      have hxc0 := blk_cell hx 0 _ rfl; have hxf0 := blk_frozen hx 0; have hxc1 := blk_cell hx 1 _ rfl; have hxf1 := blk_frozen hx 1; have hxl := blk_lt hx
      by_cases g1 : -1 ≤ g
      · by_cases g2 : g < n
        · obtain rfl : b = true := by rw [← hb, decide_eq_true g1, decide_eq_true g2]; rfl
          clear hb
          (go_wp2_with (go_at_call 70; go_must (refine Calls.mono HJ.out ?_; rintro e w1 ⟨rfl, hb_⟩; have HB1 := Hd.mk (below_seq HBW.out hb_); have hx1 := blk_below hx hb_; clear hxc0 hxf0 hxc1 hxf1 hxl; have hx1c0 := blk_cell hx1 0 _ rfl; have hx1f0 := blk_frozen hx1 0; have hx1c1 := blk_cell hx1 1 _ rfl; have hx1f1 := blk_frozen hx1 1; have hx1l := blk_lt hx1; clear hb_)); all_goals (first | (exfalso; omega) | (go_ret; exact ⟨(by first | rfl | exact ret_bool (decide_eq_false (by omega))), HB1.out⟩)))
        · obtain rfl : b = false := by rw [← hb, decide_eq_true g1, decide_eq_false g2]; rfl
          clear hb
          (go_wp2_with (go_at_call 70; go_must (refine Calls.mono HJ.out ?_; rintro e w1 ⟨rfl, hb_⟩; have HB1 := Hd.mk (below_seq HBW.out hb_); have hx1 := blk_below hx hb_; clear hxc0 hxf0 hxc1 hxf1 hxl; have hx1c0 := blk_cell hx1 0 _ rfl; have hx1f0 := blk_frozen hx1 0; have hx1c1 := blk_cell hx1 1 _ rfl; have hx1f1 := blk_frozen hx1 1; have hx1l := blk_lt hx1; clear hb_)); all_goals (first | (exfalso; omega) | (go_ret; exact ⟨(by first | rfl | exact ret_bool (decide_eq_false (by omega))), HB1.out⟩)))
      · obtain rfl : b = false := by rw [← hb, decide_eq_false g1]; rfl
        have g3 : decide (-1 ≤ g) = false := decide_eq_false g1
        have g4 : g < -1 := by omega
        clear g1
        clear hb
        (go_wp2_with (go_at_call 70; go_must (refine Calls.mono HJ.out ?_; rintro e w1 ⟨rfl, hb_⟩; have HB1 := Hd.mk (below_seq HBW.out hb_); have hx1 := blk_below hx hb_; clear hxc0 hxf0 hxc1 hxf1 hxl; have hx1c0 := blk_cell hx1 0 _ rfl; have hx1f0 := blk_frozen hx1 0; have hx1c1 := blk_cell hx1 1 _ rfl; have hx1f1 := blk_frozen hx1 1; have hx1l := blk_lt hx1; clear hb_)); all_goals (first | (exfalso; omega) | (go_ret; exact ⟨(by first | rfl | exact ret_bool (decide_eq_false (by omega))), HB1.out⟩)))
    | false =>
      have HJ := Hd.mk (wName_calls W0 s false hnm hs)
      obtain rfl : b = false := by rw [← hb, hnm]; rfl
      clear hnm hb
      go_enter Tryz.func44, Tryz.ntmps44
      go_upto_region 1 with fail
      clear hW0
      have hxc0 := blk_cell hx 0 _ rfl; have hxf0 := blk_frozen hx 0; have hxc1 := blk_cell hx 1 _ rfl; have hxf1 := blk_frozen hx 1; have hxl := blk_lt hx
      go_wp2_with (go_at_call 70; go_must (refine Calls.mono HJ.out ?_; rintro e w1 ⟨rfl, hb_⟩; have HB1 := Hd.mk (below_seq HBW.out hb_); have hx1 := blk_below hx hb_; clear hxc0 hxf0 hxc1 hxf1 hxl; have hx1c0 := blk_cell hx1 0 _ rfl; have hx1f0 := blk_frozen hx1 0; have hx1c1 := blk_cell hx1 1 _ rfl; have hx1f1 := blk_frozen hx1 1; have hx1l := blk_lt hx1; clear hb_))
      go_ret
      exact ⟨rfl, HB1.out⟩
set_option maxHeartbeats 1000000 in
theorem r17Right_calls (A : Option Addr) (n c : Nat) (s : ByteArray) (g : Int) (b : Bool) (w : World) (hn : n ≤ 9223372036854775807) (hs : s.size ≤ 9223372036854775807) (hb : actB n (s, g) = b) :
    Calls Tryz.prog 64 #[.agg #[.string s, .int .i64 g], .slice A n c] w fun e w' => e = .returned (.bool b) ∧ Below w.heap.size w w' := by
  obtain ⟨W0, hW0⟩ : ∃ W0, w.alloc (.cells #[.string s, .int .i64 g] 93) = W0 := ⟨_, rfl⟩
  have hBW : Below w.heap.size w W0 := by rw [← hW0]; exact below_alloc (Below.refl _ _) _
  have hx : W0.heap[w.heap.size]? = some (.cells #[.string s, .int .i64 g] 93 (0, 0)) := by rw [← hW0]; exact blk_new _ _ _ rfl
  have HBW := Hd.mk hBW
  clear hBW
  unfold actB at hb
  dsimp only at hb
  by_cases h0 : s.size = 0
  · have he : s.toList.isEmpty = true := (empty_is s).2 h0
    rw [decide_eq_true h0, Bool.true_or, Bool.true_and] at hb
    go_enter Tryz.func64, Tryz.ntmps64
    go_upto_region 1 with fail
    clear hW0
    have hxc0 := blk_cell hx 0 _ rfl; have hxf0 := blk_frozen hx 0; have hxc1 := blk_cell hx 1 _ rfl; have hxf1 := blk_frozen hx 1; have hxl := blk_lt hx
    by_cases g1 : -1 ≤ g
    · by_cases g2 : g < n
      · obtain rfl : b = true := by rw [← hb, decide_eq_true g1, decide_eq_true g2]; rfl
        clear hb
        (go_wp2; go_ret; exact ⟨rfl, HBW.out⟩)
      · obtain rfl : b = false := by rw [← hb, decide_eq_true g1, decide_eq_false g2]; rfl
        clear hb
        (go_wp2; go_ret; exact ⟨rfl, HBW.out⟩)
    · obtain rfl : b = false := by rw [← hb, decide_eq_false g1]; rfl
      have g3 : decide (-1 ≤ g) = false := decide_eq_false g1
      have g4 : g < -1 := by omega
      clear g1
      clear hb
      (go_wp2; go_ret; exact ⟨rfl, HBW.out⟩)
  · have he : s.toList.isEmpty = false := by rw [Bool.eq_false_iff]; exact fun h => h0 ((empty_is s).1 h)
    rw [decide_eq_false h0, Bool.false_or] at hb
    cases hnm : nameB s with
    | true =>
      have HJ := Hd.mk (r04Name_calls W0 s true hnm hs)
      rw [hnm, Bool.true_and] at hb
      clear hnm
      go_enter Tryz.func64, Tryz.ntmps64
      go_upto_region 1 with fail
      clear hW0
      have hxc0 := blk_cell hx 0 _ rfl; have hxf0 := blk_frozen hx 0; have hxc1 := blk_cell hx 1 _ rfl; have hxf1 := blk_frozen hx 1; have hxl := blk_lt hx
      by_cases g1 : -1 ≤ g
      · by_cases g2 : g < n
        · obtain rfl : b = true := by rw [← hb, decide_eq_true g1, decide_eq_true g2]; rfl
          clear hb
          (go_wp2_with (go_at_call 87; go_must (refine Calls.mono HJ.out ?_; rintro e w1 ⟨rfl, hb_⟩; have HB1 := Hd.mk (below_seq HBW.out hb_); have hx1 := blk_below hx hb_; clear hxc0 hxf0 hxc1 hxf1 hxl; have hx1c0 := blk_cell hx1 0 _ rfl; have hx1f0 := blk_frozen hx1 0; have hx1c1 := blk_cell hx1 1 _ rfl; have hx1f1 := blk_frozen hx1 1; have hx1l := blk_lt hx1; clear hb_)); all_goals (first | (exfalso; omega) | (go_ret; exact ⟨(by first | rfl | exact ret_bool (decide_eq_false (by omega))), HB1.out⟩)))
        · obtain rfl : b = false := by rw [← hb, decide_eq_true g1, decide_eq_false g2]; rfl
          clear hb
          (go_wp2_with (go_at_call 87; go_must (refine Calls.mono HJ.out ?_; rintro e w1 ⟨rfl, hb_⟩; have HB1 := Hd.mk (below_seq HBW.out hb_); have hx1 := blk_below hx hb_; clear hxc0 hxf0 hxc1 hxf1 hxl; have hx1c0 := blk_cell hx1 0 _ rfl; have hx1f0 := blk_frozen hx1 0; have hx1c1 := blk_cell hx1 1 _ rfl; have hx1f1 := blk_frozen hx1 1; have hx1l := blk_lt hx1; clear hb_)); all_goals (first | (exfalso; omega) | (go_ret; exact ⟨(by first | rfl | exact ret_bool (decide_eq_false (by omega))), HB1.out⟩)))
      · obtain rfl : b = false := by rw [← hb, decide_eq_false g1]; rfl
        have g3 : decide (-1 ≤ g) = false := decide_eq_false g1
        have g4 : g < -1 := by omega
        clear g1
        clear hb
        (go_wp2_with (go_at_call 87; go_must (refine Calls.mono HJ.out ?_; rintro e w1 ⟨rfl, hb_⟩; have HB1 := Hd.mk (below_seq HBW.out hb_); have hx1 := blk_below hx hb_; clear hxc0 hxf0 hxc1 hxf1 hxl; have hx1c0 := blk_cell hx1 0 _ rfl; have hx1f0 := blk_frozen hx1 0; have hx1c1 := blk_cell hx1 1 _ rfl; have hx1f1 := blk_frozen hx1 1; have hx1l := blk_lt hx1; clear hb_)); all_goals (first | (exfalso; omega) | (go_ret; exact ⟨(by first | rfl | exact ret_bool (decide_eq_false (by omega))), HB1.out⟩)))
    | false =>
      have HJ := Hd.mk (r04Name_calls W0 s false hnm hs)
      obtain rfl : b = false := by rw [← hb, hnm]; rfl
      clear hnm hb
      go_enter Tryz.func64, Tryz.ntmps64
      go_upto_region 1 with fail
      clear hW0
      have hxc0 := blk_cell hx 0 _ rfl; have hxf0 := blk_frozen hx 0; have hxc1 := blk_cell hx 1 _ rfl; have hxf1 := blk_frozen hx 1; have hxl := blk_lt hx
      go_wp2_with (go_at_call 87; go_must (refine Calls.mono HJ.out ?_; rintro e w1 ⟨rfl, hb_⟩; have HB1 := Hd.mk (below_seq HBW.out hb_); have hx1 := blk_below hx hb_; clear hxc0 hxf0 hxc1 hxf1 hxl; have hx1c0 := blk_cell hx1 0 _ rfl; have hx1f0 := blk_frozen hx1 0; have hx1c1 := blk_cell hx1 1 _ rfl; have hx1f1 := blk_frozen hx1 1; have hx1l := blk_lt hx1; clear hb_))
      go_ret
      exact ⟨rfl, HB1.out⟩
/-- Where something is found that is so; below 0: nowhere. -/
def Ixs {α : Type} (p : α → Bool) (l : List α) (x : Int) : Prop := (x = -1 ∧ l.any p = false) ∨ (0 ≤ x ∧ l.any p = true)
theorem ixs_any {α : Type} {p : α → Bool} {l : List α} {x : Int} {b : Bool} (h : Ixs p l x) (hb : l.any p = b) : decide (0 ≤ x) = b := by
  rcases h with ⟨rfl, h⟩ | ⟨h0, h⟩
  · rw [← hb, h]; rfl
  · rw [← hb, h]; exact decide_eq_true h0
theorem any_snoc {α : Type} {p : α → Bool} {l : List α} {k : Nat} {x : α} (h : l[k]? = some x) : (l.take (k + 1)).any p = ((l.take k).any p || p x) := by
  rw [Df.take_snoc h, List.any_append]; simp
theorem any_at {α : Type} {p : α → Bool} {l : List α} {k : Nat} {x : α} (h : l[k]? = some x) (hp : p x = true) : l.any p = true := List.any_eq_true.2 ⟨x, List.mem_of_getElem? h, hp⟩
theorem dfa1_calls (w : World) (g : Nat) (m x : Int) (hg : w.heap[g]? = some (.cells #[.int .i64 m] 3 (0, 0))) : Calls Tryz.prog 74 #[.int .i64 x, .pointer (some ⟨g, 0, none⟩)] w fun e w' => e = .returned (.bool (decide (m ≤ x))) ∧ w' = w := by
  have hgc0 := blk_cell hg 0 _ rfl; have hgf0 := blk_frozen hg 0; have hgl := blk_lt hg
  go_enter Tryz.func74, Tryz.ntmps74
  go_wp2
  go_ret
  exact ⟨rfl, rfl⟩
theorem act_get {w : World} {S : Nat → Prop} {A : Option Addr} {n : Nat} {xs : List (ByteArray × Int)} (h : Row aT w S A n xs) (k : Nat) (hk : k < n) :
    ∃ b off s g, A = some ⟨b, off, none⟩ ∧ b < w.heap.size ∧ S b ∧ xs[k]? = some (s, g) ∧ w.cell? ⟨b, off + k * 2, none⟩ = some (.string s) ∧ w.cell? ⟨b, off + k * 2 + 1, none⟩ = some (.int .i64 g) := by
  obtain ⟨b, off, cs, he, hs, ⟨c0, c1, rfl, h0, h1⟩, hcell⟩ := h.get k hk
  have h0' : c0 = [.string _] := h0
  have h1' : c1 = [.int .i64 _] := h1
  subst h0' h1'
  have q0 := hcell 0 _ rfl
  exact ⟨b, off, _, _, he, World.block_lt_of_cell? w _ q0, hs, List.getElem?_eq_getElem _, q0, hcell 1 _ rfl⟩
set_option maxHeartbeats 1000000 in
theorem ixi_calls (A : Option Addr) (n c g : Nat) (m : Int) (l : List Int) (p : Int → Bool) (hp : p = fun x => decide (m ≤ x)) (S : Nat → Prop) (w : World) (hS : ∀ k, S k → k < w.heap.size) (hC : Row I w S A n l) (hg : w.heap[g]? = some (.cells #[.int .i64 m] 3 (0, 0))) :
    Calls Tryz.prog 101 #[.slice A n c, .func (.func 74) #[] #[.pointer (some ⟨g, 0, none⟩)]] w fun e w' => (∃ x, e = .returned (.int .i64 x) ∧ Ixs p l x) ∧ Below w.heap.size w w' := by
  have hn := hC.le
  have HN := Hd.mk hC.1
  have HC := Hd.mk hC
  have HS := Hd.mk hS
  have HG := Hd.mk hg
  have HPD := Hd.mk hp
  clear hC hS hg hp
  go_enter Tryz.func101, Tryz.ntmps101
  go_wp2
  go_loopw [8] (fun i wr => ∃ k : Nat, k ≤ n ∧ i = .int .i64 k ∧ Hd ((l.take k).any p = false) ∧ Hd (Below w.heap.size w wr)) (fun i _ => n - (intOf i).toNat)
  case atStart => exact ⟨0, Nat.zero_le _, rfl, ⟨by simp⟩, ⟨Below.refl _ _⟩⟩
  case round =>
    obtain ⟨k, hk, rfl, HK, HB⟩ := hrel
    by_cases hlt : k < n
    · obtain ⟨b9, off, x, rfl, -, hb9, ht, hc⟩ := (HC.out.below HS.out HB.out).get_int k hlt; have HT := Hd.mk ht; clear ht; have HJ : Hd (Calls Tryz.prog 74 #[.int .i64 x, .pointer (some ⟨g, 0, none⟩)] wr fun e w' => e = .returned (.bool (p x)) ∧ Below wr.heap.size wr w') := ⟨(dfa1_calls wr g m x (blk_below HG.out HB.out)).mono (by rintro e w1 ⟨rfl, rfl⟩; exact ⟨by rw [HPD.out], Below.refl _ _⟩)⟩
      cases hp : p x with
      | true =>
        rw [hp] at HJ
        have HAN := Hd.mk (any_at (p := p) HT.out hp)
        clear hp
        go_wp2_with (go_at_call 74; go_must (refine Calls.mono HJ.out ?_; rintro e w1 ⟨rfl, hb_⟩; have HB1 := Hd.mk (below_seq HB.out hb_); clear hb_))
        go_ret
        exact ⟨⟨_, rfl, .inr ⟨by omega, HAN.out⟩⟩, HB1.out⟩
      | false =>
        rw [hp] at HJ
        have HAN : Hd ((l.take (k + 1)).any p = false) := ⟨by rw [any_snoc HT.out, HK.out, hp]; rfl⟩
        clear hp
        go_wp2_with (go_at_call 74; go_must (refine Calls.mono HJ.out ?_; rintro e w1 ⟨rfl, hb_⟩; have HB1 := Hd.mk (below_seq HB.out hb_); clear hb_))
        go_roundw
        case rel => exact ⟨k + 1, by omega, by go_num, HAN, HB1⟩
        case measure => simp [intOf]; omega
    · obtain rfl : k = n := by omega
      go_wp2
      go_ret
      exact ⟨⟨_, rfl, .inl ⟨rfl, by have := HK.out; rwa [Df.take_all HN.out] at this⟩⟩, HB.out⟩
theorem coi_calls (A : Option Addr) (n c g : Nat) (m : Int) (l : List Int) (b : Bool) (hb : l.any (fun x => decide (m ≤ x)) = b) (S : Nat → Prop) (w : World) (hS : ∀ k, S k → k < w.heap.size) (hC : Row I w S A n l) (hg : w.heap[g]? = some (.cells #[.int .i64 m] 3 (0, 0))) :
    Calls Tryz.prog 73 #[.slice A n c, .func (.func 74) #[] #[.pointer (some ⟨g, 0, none⟩)]] w fun e w' => e = .returned (.bool b) ∧ Below w.heap.size w w' := by
  have HJ := Hd.mk (ixi_calls A n c g m l _ rfl S w hS hC hg)
  have HP := Hd.mk hb
  clear hb hS hC hg
  go_enter Tryz.func73, Tryz.ntmps73
  go_wp2_with (go_at_call 101; go_must (refine Calls.mono HJ.out ?_; rintro e w1 ⟨⟨x, rfl, hp⟩, hb_⟩; have hxb := ixs_any hp HP.out; have HB1 := Hd.mk hb_; clear hb_ hp))
  go_ret
  exact ⟨by first | rfl | rw [hxb], HB1.out⟩
end Go.Proofs.YtoambcpjdcehhaaGreat.Tb

/- Automata that may be, by the program; lexers that may be. -/
set_option linter.unusedVariables false
set_option linter.unusedSimpArgs false
namespace Go.Proofs.YtoambcpjdcehhaaGreat.Tb
open Go Go.RowKit Go.Proofs.YtoambcpjdcehhaaGreat.Can Go.Proofs.YtoambcpjdcehhaaGreat.Base
attribute [local go_sem] clsB AB.cell

theorem not_lt_any (l : List Int) (n : Nat) : (l.any fun x => decide ((n : Int) ≤ x)) = !(l.all fun t => decide (t < n)) := by
  rw [Bool.eq_iff_iff]
  simp [List.any_eq_true]
set_option maxRecDepth 20000 in
set_option maxHeartbeats 4000000 in
theorem tdfa_calls (A1 A2 A3 : Option Addr) (n1 n2 n3 c1 c2 c3 : Nat) (d : Df.Df) (n : Nat) (b : Bool) (hb : dfaB n d = b) (hn : n ≤ 9223372036854775807) (S : Nat → Prop) (w : World) (hD : Df.DF w S A1 A2 A3 n1 n2 n3 d) :
    Calls Tryz.prog 46 #[.agg #[.slice A1 n1 c1, .int .i64 d.wid, .slice A2 n2 c2, .slice A3 n3 c3, .int .i64 d.st], .int .i64 n] w fun e w' => e = .returned (.bool b) ∧ Below w.heap.size w w' := by
  have hm1 := hD.cls.le; have hm2 := hD.nxt.le; have hm3 := hD.tag.le
  have HN3 := Hd.mk hD.tag.1; have HN2 := Hd.mk hD.nxt.1
  obtain ⟨W0, hW0⟩ : ∃ W0, w.alloc (.cells #[.slice A1 n1 c1, .int .i64 d.wid, .slice A2 n2 c2, .slice A3 n3 c3, .int .i64 d.st] 98) = W0 := ⟨_, rfl⟩
  have hBW : Below w.heap.size w W0 := by rw [← hW0]; exact below_alloc (Below.refl _ _) _
  have hx : W0.heap[w.heap.size]? = some (.cells #[.slice A1 n1 c1, .int .i64 d.wid, .slice A2 n2 c2, .slice A3 n3 c3, .int .i64 d.st] 98 (0, 0)) := by rw [← hW0]; exact blk_new _ _ _ rfl
  obtain ⟨W1, hW1⟩ : ∃ W1, W0.alloc (.cells #[.int .i64 n] 3) = W1 := ⟨_, rfl⟩
  have hs0 : W0.heap.size = w.heap.size + 1 := by rw [← hW0, size_alloc]
  have hB1 : Below w.heap.size w W1 := by rw [← hW1]; exact below_alloc hBW _
  replace hx : W1.heap[w.heap.size]? = some (.cells #[.slice A1 n1 c1, .int .i64 d.wid, .slice A2 n2 c2, .slice A3 n3 c3, .int .i64 d.st] 98 (0, 0)) := by rw [← hW1]; exact blk_alloc hx _
  have hy : W1.heap[w.heap.size + 1]? = some (.cells #[.int .i64 n] 3 (0, 0)) := by rw [← hW1]; exact blk_new _ _ _ (by rw [hs0])
  have HDW := Hd.mk (hD.below hB1)
  have HBW := Hd.mk hB1
  have HR : Hd (∀ W : World, Below w.heap.size w W → _) := ⟨fun W hb => Df.dright_calls A1 A2 A3 n1 n2 n3 c1 c2 c3 d S W (hD.below hb)⟩
  have HCO : Hd (∀ (W : World) (bb : Bool), Below w.heap.size w W → W.heap[w.heap.size + 1]? = some (.cells #[.int .i64 n] 3 (0, 0)) → (d.tag.any fun x => decide ((n : Int) ≤ x)) = bb → _) := ⟨fun W bb hb hg he => coi_calls A3 n3 c3 (w.heap.size + 1) n d.tag bb he S W (fun k hk => Nat.lt_of_lt_of_le (hD.lt k hk) hb.size) (hD.below hb).tag hg⟩
  have hmf : ∀ (fn : Fn) (first cap : Array Value) (w : World), (Instr.makeFunc fn first cap).run Tryz.prog w = .ok (.func fn first cap) w := fun _ _ _ _ => rfl
  obtain ⟨wd, hwd⟩ : ∃ x, d.wid = x := ⟨_, rfl⟩
  obtain ⟨st, hst⟩ : ∃ x, d.st = x := ⟨_, rfl⟩
  have HWD := Hd.mk hwd; have HST := Hd.mk hst
  rw [hwd, hst] at hW0 hx HR ⊢
  have HBb := Hd.mk hb
  clear hD hwd hst hBW hB1 hb
  go_enter Tryz.func46, Tryz.ntmps46
  go_upto_region 1 with fail
  clear hW1 hW0 hs0 W0
  have hxc0 := blk_cell hx 0 _ rfl; have hxf0 := blk_frozen hx 0; have hxc1 := blk_cell hx 1 _ rfl; have hxf1 := blk_frozen hx 1; have hxc2 := blk_cell hx 2 _ rfl; have hxf2 := blk_frozen hx 2; have hxc3 := blk_cell hx 3 _ rfl; have hxf3 := blk_frozen hx 3; have hxc4 := blk_cell hx 4 _ rfl; have hxf4 := blk_frozen hx 4; have hxl := blk_lt hx
  have hyc0 := blk_cell hy 0 _ rfl; have hyf0 := blk_frozen hy 0; have hyl := blk_lt hy
  by_cases hok : Df.okD d
  · have HJ := Hd.mk (HR.out W1 HBW.out)
    rw [decide_eq_true hok] at HJ
    have hlt : st < n3 := by have := hok.1.2.2.2.1; have := hok.1.2.1; have := HN2.out; have := HN3.out; have := HST.out; omega
    by_cases h0 : st < 0
    · have HTG : Hd (Df.tagD d d.st < 0) := ⟨by rw [HST.out, Df.tagD_out (.inl h0)]; decide⟩
      have HBC : Hd (∃ bb, (d.tag.any fun x => decide ((n : Int) ≤ x)) = bb ∧ b = !bb) := ⟨_, rfl, by rw [← HBb.out, not_lt_any, Bool.not_not]; unfold dfaB; rw [decide_eq_true hok, decide_eq_true HTG.out]; rfl⟩
      obtain ⟨bb, hbb, rfl⟩ := HBC.out
      have HBB := Hd.mk hbb
      clear hbb hok HBC
      cases bb <;> (go_wp2_with (first
        | (go_at_call 72; go_must (refine Calls.mono HJ.out ?_; rintro e w1 ⟨rfl, hb_⟩; have HB1 := Hd.mk (below_seq HBW.out hb_); have hx1 := blk_below hx hb_; have hy1 := blk_below hy hb_; have HY1 := Hd.mk hy1; clear hxc0 hxf0 hxc1 hxf1 hxc2 hxf2 hxc3 hxf3 hxc4 hxf4 hxl; clear hyc0 hyf0 hyl; have hx1c0 := blk_cell hx1 0 _ rfl; have hx1f0 := blk_frozen hx1 0; have hx1c1 := blk_cell hx1 1 _ rfl; have hx1f1 := blk_frozen hx1 1; have hx1c2 := blk_cell hx1 2 _ rfl; have hx1f2 := blk_frozen hx1 2; have hx1c3 := blk_cell hx1 3 _ rfl; have hx1f3 := blk_frozen hx1 3; have hx1c4 := blk_cell hx1 4 _ rfl; have hx1f4 := blk_frozen hx1 4; have hx1l := blk_lt hx1; have hy1c0 := blk_cell hy1 0 _ rfl; have hy1f0 := blk_frozen hy1 0; have hy1l := blk_lt hy1; clear hb_))
        | (go_at_call 73; go_must (refine Calls.mono (HCO.out _ _ HB1.out HY1.out HBB.out) ?_; rintro e w2 ⟨rfl, hb_⟩; have HB2 := Hd.mk (below_seq HB1.out hb_); clear hb_))); go_ret; exact ⟨rfl, HB2.out⟩)
    · obtain ⟨s, rfl⟩ : ∃ k : Nat, st = k := ⟨st.toNat, by omega⟩
      obtain ⟨b2, o2, t, rfl, -, hb2, ht, hy2⟩ := HDW.out.tag.get_int s (by omega)
      have HTT : Hd (Df.tagD d d.st = t) := ⟨by rw [HST.out]; exact Df.tagD_at ht⟩
      clear ht
      by_cases ht : t < 0
      · have HTG : Hd (Df.tagD d d.st < 0) := ⟨by rw [HTT.out]; exact ht⟩
        have HBC : Hd (∃ bb, (d.tag.any fun x => decide ((n : Int) ≤ x)) = bb ∧ b = !bb) := ⟨_, rfl, by rw [← HBb.out, not_lt_any, Bool.not_not]; unfold dfaB; rw [decide_eq_true hok, decide_eq_true HTG.out]; rfl⟩
        obtain ⟨bb, hbb, rfl⟩ := HBC.out
        have HBB := Hd.mk hbb
        clear hbb hok HBC
        cases bb <;> (go_wp2_with (first
          | (go_at_call 72; go_must (refine Calls.mono HJ.out ?_; rintro e w1 ⟨rfl, hb_⟩; have HB1 := Hd.mk (below_seq HBW.out hb_); have hx1 := blk_below hx hb_; have hy1 := blk_below hy hb_; have HY1 := Hd.mk hy1; have hy3 := cell_keep hy2 hb_ hb2; have hb3 := Nat.lt_of_lt_of_le hb2 hb_.size; clear hxc0 hxf0 hxc1 hxf1 hxc2 hxf2 hxc3 hxf3 hxc4 hxf4 hxl; clear hyc0 hyf0 hyl; have hx1c0 := blk_cell hx1 0 _ rfl; have hx1f0 := blk_frozen hx1 0; have hx1c1 := blk_cell hx1 1 _ rfl; have hx1f1 := blk_frozen hx1 1; have hx1c2 := blk_cell hx1 2 _ rfl; have hx1f2 := blk_frozen hx1 2; have hx1c3 := blk_cell hx1 3 _ rfl; have hx1f3 := blk_frozen hx1 3; have hx1c4 := blk_cell hx1 4 _ rfl; have hx1f4 := blk_frozen hx1 4; have hx1l := blk_lt hx1; have hy1c0 := blk_cell hy1 0 _ rfl; have hy1f0 := blk_frozen hy1 0; have hy1l := blk_lt hy1; clear hb_ hy2))
          | (go_at_call 73; go_must (refine Calls.mono (HCO.out _ _ HB1.out HY1.out HBB.out) ?_; rintro e w2 ⟨rfl, hb_⟩; have HB2 := Hd.mk (below_seq HB1.out hb_); clear hb_))); go_ret; exact ⟨rfl, HB2.out⟩)
      · obtain rfl : b = false := by rw [← HBb.out]; unfold dfaB; have e9 : decide (Df.tagD d d.st < 0) = false := decide_eq_false (by rw [HTT.out]; exact ht); rw [e9, Bool.and_false, Bool.false_and]
        clear hok
        go_wp2_with (go_at_call 72; go_must (refine Calls.mono HJ.out ?_; rintro e w1 ⟨rfl, hb_⟩; have HB1 := Hd.mk (below_seq HBW.out hb_); have hx1 := blk_below hx hb_; have hy1 := blk_below hy hb_; have HY1 := Hd.mk hy1; have hy3 := cell_keep hy2 hb_ hb2; have hb3 := Nat.lt_of_lt_of_le hb2 hb_.size; clear hxc0 hxf0 hxc1 hxf1 hxc2 hxf2 hxc3 hxf3 hxc4 hxf4 hxl; clear hyc0 hyf0 hyl; have hx1c0 := blk_cell hx1 0 _ rfl; have hx1f0 := blk_frozen hx1 0; have hx1c1 := blk_cell hx1 1 _ rfl; have hx1f1 := blk_frozen hx1 1; have hx1c2 := blk_cell hx1 2 _ rfl; have hx1f2 := blk_frozen hx1 2; have hx1c3 := blk_cell hx1 3 _ rfl; have hx1f3 := blk_frozen hx1 3; have hx1c4 := blk_cell hx1 4 _ rfl; have hx1f4 := blk_frozen hx1 4; have hx1l := blk_lt hx1; have hy1c0 := blk_cell hy1 0 _ rfl; have hy1f0 := blk_frozen hy1 0; have hy1l := blk_lt hy1; clear hb_ hy2))
        go_ret
        exact ⟨rfl, HB1.out⟩
  · have HJ := Hd.mk (HR.out W1 HBW.out)
    rw [decide_eq_false hok] at HJ
    obtain rfl : b = false := by rw [← HBb.out]; unfold dfaB; rw [decide_eq_false hok]; rfl
    clear hok
    go_wp2_with (go_at_call 72; go_must (refine Calls.mono HJ.out ?_; rintro e w1 ⟨rfl, hb_⟩; have HB1 := Hd.mk (below_seq HBW.out hb_); clear hb_))
    go_ret
    exact ⟨rfl, HB1.out⟩
end Go.Proofs.YtoambcpjdcehhaaGreat.Tb

/- Lexers that may be, by the program. -/
set_option linter.unusedVariables false
set_option linter.unusedSimpArgs false
namespace Go.Proofs.YtoambcpjdcehhaaGreat.Tb
open Go Go.RowKit Go.Proofs.YtoambcpjdcehhaaGreat.Can Go.Proofs.YtoambcpjdcehhaaGreat.Base
attribute [local go_sem] clsB AB.cell

def lxO (A1 A2 A3 : Option Addr) (n1 n2 n3 c1 c2 c3 : Nat) : Obj := .cells #[.slice A1 n1 c1, .slice A2 n2 c2, .slice A3 n3 c3] 26 (0, 0)
set_option maxHeartbeats 1000000 in
theorem right1_calls (A1 A2 A3 : Option Addr) (n1 n2 n3 c1 c2 c3 g : Nat) (s : ByteArray) (x : Int) (w : World) (hn : n1 ≤ 9223372036854775807) (hs : s.size ≤ 9223372036854775807) (hg : w.heap[g]? = some (lxO A1 A2 A3 n1 n2 n3 c1 c2 c3)) :
    Calls Tryz.prog 43 #[.agg #[.string s, .int .i64 x], .pointer (some ⟨g, 0, none⟩)] w fun e w' => e = .returned (.bool (!actB n1 (s, x))) ∧ Below w.heap.size w w' := by
  unfold lxO at hg
  obtain ⟨W0, hW0⟩ : ∃ W0, w.alloc (.cells #[.string s, .int .i64 x] 93) = W0 := ⟨_, rfl⟩
  have hBW : Below w.heap.size w W0 := by rw [← hW0]; exact below_alloc (Below.refl _ _) _
  have hx : W0.heap[w.heap.size]? = some (.cells #[.string s, .int .i64 x] 93 (0, 0)) := by rw [← hW0]; exact blk_new _ _ _ rfl
  replace hg := blk_below hg hBW
  have HBW := Hd.mk hBW
  obtain ⟨b, hb⟩ : ∃ b, actB n1 (s, x) = b := ⟨_, rfl⟩
  have HJ := Hd.mk (aRight_calls A1 n1 c1 s x b W0 hn hs hb)
  rw [hb]
  clear hBW hb
  cases b <;> (go_enter Tryz.func43, Tryz.ntmps43; go_upto_region 1 with fail; clear hW0; have hxc0 := blk_cell hx 0 _ rfl; have hxf0 := blk_frozen hx 0; have hxc1 := blk_cell hx 1 _ rfl; have hxf1 := blk_frozen hx 1; have hxl := blk_lt hx; have hgc0 := blk_cell hg 0 _ rfl; have hgf0 := blk_frozen hg 0; have hgc1 := blk_cell hg 1 _ rfl; have hgf1 := blk_frozen hg 1; have hgc2 := blk_cell hg 2 _ rfl; have hgf2 := blk_frozen hg 2; have hgl := blk_lt hg; go_wp2_with (go_at_call 44; go_must (refine Calls.mono HJ.out ?_; rintro e w1 ⟨rfl, hb_⟩; have HB1 := Hd.mk (below_seq HBW.out hb_); clear hb_)); go_ret; exact ⟨rfl, HB1.out⟩)
set_option maxRecDepth 20000 in
set_option maxHeartbeats 1000000 in
theorem right2_calls (A1 A2 A3 B1 B2 B3 : Option Addr) (n1 n2 n3 c1 c2 c3 m1 m2 m3 e1 e2 e3 g : Nat) (d : Df.Df) (S : Nat → Prop) (w : World) (hm3 : m3 ≤ 9223372036854775807) (hD : Df.DF w S A1 A2 A3 n1 n2 n3 d) (hg : w.heap[g]? = some (lxO B1 B2 B3 m1 m2 m3 e1 e2 e3)) :
    Calls Tryz.prog 45 #[.agg #[.slice A1 n1 c1, .int .i64 d.wid, .slice A2 n2 c2, .slice A3 n3 c3, .int .i64 d.st], .pointer (some ⟨g, 0, none⟩)] w fun e w' => e = .returned (.bool (!dfaB m3 d)) ∧ Below w.heap.size w w' := by
  unfold lxO at hg
  have hm1 := hD.cls.le; have hm2 := hD.nxt.le; have hm4 := hD.tag.le
  obtain ⟨W0, hW0⟩ : ∃ W0, w.alloc (.cells #[.slice A1 n1 c1, .int .i64 d.wid, .slice A2 n2 c2, .slice A3 n3 c3, .int .i64 d.st] 98) = W0 := ⟨_, rfl⟩
  have hBW : Below w.heap.size w W0 := by rw [← hW0]; exact below_alloc (Below.refl _ _) _
  have hx : W0.heap[w.heap.size]? = some (.cells #[.slice A1 n1 c1, .int .i64 d.wid, .slice A2 n2 c2, .slice A3 n3 c3, .int .i64 d.st] 98 (0, 0)) := by rw [← hW0]; exact blk_new _ _ _ rfl
  replace hg := blk_below hg hBW
  have HBW := Hd.mk hBW
  obtain ⟨b, hb⟩ : ∃ b, dfaB m3 d = b := ⟨_, rfl⟩
  have HJ := Hd.mk (tdfa_calls A1 A2 A3 n1 n2 n3 c1 c2 c3 d m3 b hb hm3 S W0 (hD.below hBW))
  rw [hb]
  clear hBW hb hD
  obtain ⟨wd, hwd⟩ : ∃ x, d.wid = x := ⟨_, rfl⟩
  obtain ⟨st, hst⟩ : ∃ x, d.st = x := ⟨_, rfl⟩
  rw [hwd, hst] at hW0 hx HJ ⊢
  clear hwd hst
  cases b <;> (go_enter Tryz.func45, Tryz.ntmps45; go_upto_region 1 with fail; clear hW0; have hxc0 := blk_cell hx 0 _ rfl; have hxf0 := blk_frozen hx 0; have hxc1 := blk_cell hx 1 _ rfl; have hxf1 := blk_frozen hx 1; have hxc2 := blk_cell hx 2 _ rfl; have hxf2 := blk_frozen hx 2; have hxc3 := blk_cell hx 3 _ rfl; have hxf3 := blk_frozen hx 3; have hxc4 := blk_cell hx 4 _ rfl; have hxf4 := blk_frozen hx 4; have hxl := blk_lt hx; have hgc0 := blk_cell hg 0 _ rfl; have hgf0 := blk_frozen hg 0; have hgc1 := blk_cell hg 1 _ rfl; have hgf1 := blk_frozen hg 1; have hgc2 := blk_cell hg 2 _ rfl; have hgf2 := blk_frozen hg 2; have hgl := blk_lt hg; go_wp2_with (go_at_call 46; go_must (refine Calls.mono HJ.out ?_; rintro e w1 ⟨rfl, hb_⟩; have HB1 := Hd.mk (below_seq HBW.out hb_); clear hb_)); go_ret; exact ⟨rfl, HB1.out⟩)
set_option maxHeartbeats 1000000 in
theorem ixa_calls (A1 A2 A3 : Option Addr) (n1 n2 n3 c1 c2 c3 g : Nat) (A : Option Addr) (n c : Nat) (l : List (ByteArray × Int)) (p : ByteArray × Int → Bool) (hp : p = fun x => !actB n1 x) (hsz : ∀ x ∈ l, x.1.size ≤ 9223372036854775807) (S : Nat → Prop) (w : World) (hn1 : n1 ≤ 9223372036854775807) (hS : ∀ k, S k → k < w.heap.size) (hC : Row aT w S A n l) (hg : w.heap[g]? = some (lxO A1 A2 A3 n1 n2 n3 c1 c2 c3)) :
    Calls Tryz.prog 75 #[.slice A n c, .func (.func 43) #[] #[.pointer (some ⟨g, 0, none⟩)]] w fun e w' => (∃ x, e = .returned (.int .i64 x) ∧ Ixs p l x) ∧ Below w.heap.size w w' := by
  have hn := hC.le
  have HN := Hd.mk hC.1
  have HC := Hd.mk hC
  have HS := Hd.mk hS
  have HG := Hd.mk hg
  have HPD := Hd.mk hp
  clear hC hS hg hp
  go_enter Tryz.func75, Tryz.ntmps75
  go_wp2
  go_loopw [8] (fun i wr => ∃ k : Nat, k ≤ n ∧ i = .int .i64 k ∧ Hd ((l.take k).any p = false) ∧ Hd (Below w.heap.size w wr)) (fun i _ => n - (intOf i).toNat)
  case atStart => exact ⟨0, Nat.zero_le _, rfl, ⟨by simp⟩, ⟨Below.refl _ _⟩⟩
  case round =>
    obtain ⟨k, hk, rfl, HK, HB⟩ := hrel
    by_cases hlt : k < n
    · obtain ⟨b9, off, s, y, rfl, hb9, -, ht, hc, hc2⟩ := act_get (HC.out.below HS.out HB.out) k hlt; obtain ⟨x, hx⟩ : ∃ x, (s, y) = x := ⟨_, rfl⟩; have HT : Hd (l[k]? = some x) := ⟨by rw [← hx]; exact ht⟩; have HJ : Hd (Calls Tryz.prog 43 #[.agg #[.string s, .int .i64 y], .pointer (some ⟨g, 0, none⟩)] wr fun e w' => e = .returned (.bool (p x)) ∧ Below wr.heap.size wr w') := ⟨by rw [← hx, HPD.out]; exact right1_calls A1 A2 A3 n1 n2 n3 c1 c2 c3 g s y wr hn1 (hsz (s, y) (List.mem_of_getElem? ht)) (blk_below HG.out HB.out)⟩; clear ht hx
      cases hp : p x with
      | true =>
        rw [hp] at HJ
        have HAN := Hd.mk (any_at (p := p) HT.out hp)
        clear hp
        go_wp2_with (go_at_call 43; go_must (refine Calls.mono HJ.out ?_; rintro e w1 ⟨rfl, hb_⟩; have HB1 := Hd.mk (below_seq HB.out hb_); clear hb_))
        go_ret
        exact ⟨⟨_, rfl, .inr ⟨by omega, HAN.out⟩⟩, HB1.out⟩
      | false =>
        rw [hp] at HJ
        have HAN : Hd ((l.take (k + 1)).any p = false) := ⟨by rw [any_snoc HT.out, HK.out, hp]; rfl⟩
        clear hp
        go_wp2_with (go_at_call 43; go_must (refine Calls.mono HJ.out ?_; rintro e w1 ⟨rfl, hb_⟩; have HB1 := Hd.mk (below_seq HB.out hb_); clear hb_))
        go_roundw
        case rel => exact ⟨k + 1, by omega, by go_num, HAN, HB1⟩
        case measure => simp [intOf]; omega
    · obtain rfl : k = n := by omega
      go_wp2
      go_ret
      exact ⟨⟨_, rfl, .inl ⟨rfl, by have := HK.out; rwa [Df.take_all HN.out] at this⟩⟩, HB.out⟩
theorem coa_calls (A1 A2 A3 : Option Addr) (n1 n2 n3 c1 c2 c3 g : Nat) (A : Option Addr) (n c : Nat) (l : List (ByteArray × Int)) (b : Bool) (hb : l.any (fun x => !actB n1 x) = b) (hsz : ∀ x ∈ l, x.1.size ≤ 9223372036854775807) (S : Nat → Prop) (w : World) (hn1 : n1 ≤ 9223372036854775807) (hS : ∀ k, S k → k < w.heap.size) (hC : Row aT w S A n l) (hg : w.heap[g]? = some (lxO A1 A2 A3 n1 n2 n3 c1 c2 c3)) :
    Calls Tryz.prog 47 #[.slice A n c, .func (.func 43) #[] #[.pointer (some ⟨g, 0, none⟩)]] w fun e w' => e = .returned (.bool b) ∧ Below w.heap.size w w' := by
  have HJ := Hd.mk (ixa_calls A1 A2 A3 n1 n2 n3 c1 c2 c3 g A n c l _ rfl hsz S w hn1 hS hC hg)
  have HP := Hd.mk hb
  clear hb hS hC hg hsz
  go_enter Tryz.func47, Tryz.ntmps47
  go_wp2_with (go_at_call 75; go_must (refine Calls.mono HJ.out ?_; rintro e w1 ⟨⟨x, rfl, hp⟩, hb_⟩; have hxb := ixs_any hp HP.out; have HB1 := Hd.mk hb_; clear hb_ hp))
  go_ret
  exact ⟨by first | rfl | rw [hxb], HB1.out⟩
set_option maxRecDepth 20000 in
set_option maxHeartbeats 2000000 in
theorem ixd_calls (A1 A2 A3 : Option Addr) (n1 n2 n3 c1 c2 c3 g : Nat) (A : Option Addr) (n c : Nat) (l : List Df.Df) (p : Df.Df → Bool) (hp : p = fun x => !dfaB n3 x) (S : Nat → Prop) (w : World) (hn3 : n3 ≤ 9223372036854775807) (hS : ∀ k, S k → k < w.heap.size) (hC : Row dT w S A n l) (hg : w.heap[g]? = some (lxO A1 A2 A3 n1 n2 n3 c1 c2 c3)) :
    Calls Tryz.prog 76 #[.slice A n c, .func (.func 45) #[] #[.pointer (some ⟨g, 0, none⟩)]] w fun e w' => (∃ x, e = .returned (.int .i64 x) ∧ Ixs p l x) ∧ Below w.heap.size w w' := by
  have hn := hC.le
  have HN := Hd.mk hC.1
  have HC := Hd.mk hC
  have HS := Hd.mk hS
  have HG := Hd.mk hg
  have HPD := Hd.mk hp
  clear hC hS hg hp
  go_enter Tryz.func76, Tryz.ntmps76
  go_wp2
  go_loopw [8] (fun i wr => ∃ k : Nat, k ≤ n ∧ i = .int .i64 k ∧ Hd ((l.take k).any p = false) ∧ Hd (Below w.heap.size w wr)) (fun i _ => n - (intOf i).toNat)
  case atStart => exact ⟨0, Nat.zero_le _, rfl, ⟨by simp⟩, ⟨Below.refl _ _⟩⟩
  case round =>
    obtain ⟨k, hk, rfl, HK, HB⟩ := hrel
    by_cases hlt : k < n
    · obtain ⟨b9, off, x, B1, B2, B3, e1, e2, e3, rfl, hb9, ht, hc0, hc1, hc2, hc3, hc4, hd⟩ := d_get (fun k hk => Nat.lt_of_lt_of_le (HS.out k hk) HB.out.size) (HC.out.below HS.out HB.out) k hlt; have HT := Hd.mk ht; have HJ : Hd (Calls Tryz.prog 45 #[.agg #[.slice B1 x.cls.length e1, .int .i64 x.wid, .slice B2 x.nxt.length e2, .slice B3 x.tag.length e3, .int .i64 x.st], .pointer (some ⟨g, 0, none⟩)] wr fun e w' => e = .returned (.bool (p x)) ∧ Below wr.heap.size wr w') := ⟨by rw [HPD.out]; exact right2_calls B1 B2 B3 A1 A2 A3 _ _ _ e1 e2 e3 n1 n2 n3 c1 c2 c3 g x S wr hn3 hd (blk_below HG.out HB.out)⟩; clear ht hd
      cases hp : p x with
      | true =>
        rw [hp] at HJ
        have HAN := Hd.mk (any_at (p := p) HT.out hp)
        clear hp
        go_wp2_with (go_at_call 45; go_must (refine Calls.mono HJ.out ?_; rintro e w1 ⟨rfl, hb_⟩; have HB1 := Hd.mk (below_seq HB.out hb_); clear hb_))
        go_ret
        exact ⟨⟨_, rfl, .inr ⟨by omega, HAN.out⟩⟩, HB1.out⟩
      | false =>
        rw [hp] at HJ
        have HAN : Hd ((l.take (k + 1)).any p = false) := ⟨by rw [any_snoc HT.out, HK.out, hp]; rfl⟩
        clear hp
        go_wp2_with (go_at_call 45; go_must (refine Calls.mono HJ.out ?_; rintro e w1 ⟨rfl, hb_⟩; have HB1 := Hd.mk (below_seq HB.out hb_); clear hb_))
        go_roundw
        case rel => exact ⟨k + 1, by omega, by go_num, HAN, HB1⟩
        case measure => simp [intOf]; omega
    · obtain rfl : k = n := by omega
      go_wp2
      go_ret
      exact ⟨⟨_, rfl, .inl ⟨rfl, by have := HK.out; rwa [Df.take_all HN.out] at this⟩⟩, HB.out⟩
theorem cod_calls (A1 A2 A3 : Option Addr) (n1 n2 n3 c1 c2 c3 g : Nat) (A : Option Addr) (n c : Nat) (l : List Df.Df) (b : Bool) (hb : l.any (fun x => !dfaB n3 x) = b) (S : Nat → Prop) (w : World) (hn3 : n3 ≤ 9223372036854775807) (hS : ∀ k, S k → k < w.heap.size) (hC : Row dT w S A n l) (hg : w.heap[g]? = some (lxO A1 A2 A3 n1 n2 n3 c1 c2 c3)) :
    Calls Tryz.prog 48 #[.slice A n c, .func (.func 45) #[] #[.pointer (some ⟨g, 0, none⟩)]] w fun e w' => e = .returned (.bool b) ∧ Below w.heap.size w w' := by
  have HJ := Hd.mk (ixd_calls A1 A2 A3 n1 n2 n3 c1 c2 c3 g A n c l _ rfl S w hn3 hS hC hg)
  have HP := Hd.mk hb
  clear hb hS hC hg
  go_enter Tryz.func48, Tryz.ntmps48
  go_wp2_with (go_at_call 76; go_must (refine Calls.mono HJ.out ?_; rintro e w1 ⟨⟨x, rfl, hp⟩, hb_⟩; have hxb := ixs_any hp HP.out; have HB1 := Hd.mk hb_; clear hb_ hp))
  go_ret
  exact ⟨by first | rfl | rw [hxb], HB1.out⟩
end Go.Proofs.YtoambcpjdcehhaaGreat.Tb

/- Lexers that may be, by the program: whole. -/
set_option linter.unusedVariables false
set_option linter.unusedSimpArgs false
namespace Go.Proofs.YtoambcpjdcehhaaGreat.Tb
open Go Go.RowKit Go.Proofs.YtoambcpjdcehhaaGreat.Can Go.Proofs.YtoambcpjdcehhaaGreat.Base
attribute [local go_sem] clsB AB.cell

theorem any_all {α : Type} (p : α → Bool) (l : List α) : (l.any fun x => !p x) = !l.all p := by
  rw [List.all_eq_not_any_not, Bool.not_not]
set_option maxRecDepth 20000 in
set_option maxHeartbeats 4000000 in
theorem tright_calls (A1 A2 A3 : Option Addr) (n1 n2 n3 c1 c2 c3 : Nat) (l : Lx) (b : Bool) (hb : rightB l = b) (S : Nat → Prop) (w : World) (hL : LX w S A1 A2 A3 n1 n2 n3 l) :
    Calls Tryz.prog 18 #[.agg #[.slice A1 n1 c1, .slice A2 n2 c2, .slice A3 n3 c3]] w fun e w' => e = .returned (.bool b) ∧ Below w.heap.size w w' := by
  have hm1 := hL.modes.le; have hm2 := hL.dfas.le; have hm3 := hL.acts.le
  obtain ⟨W0, hW0⟩ : ∃ W0, w.alloc (.cells #[.slice A1 n1 c1, .slice A2 n2 c2, .slice A3 n3 c3] 26) = W0 := ⟨_, rfl⟩
  have hBW : Below w.heap.size w W0 := by rw [← hW0]; exact below_alloc (Below.refl _ _) _
  have hx : W0.heap[w.heap.size]? = some (.cells #[.slice A1 n1 c1, .slice A2 n2 c2, .slice A3 n3 c3] 26 (0, 0)) := by rw [← hW0]; exact blk_new _ _ _ rfl
  have HBW := Hd.mk hBW
  have hmf : ∀ (fn : Fn) (first cap : Array Value) (w : World), (Instr.makeFunc fn first cap).run Tryz.prog w = .ok (.func fn first cap) w := fun _ _ _ _ => rfl
  obtain ⟨bm, hbm⟩ : ∃ bm, (decide (1 ≤ l.modes.length) && decide (l.modes.length ≤ 16) && modesB l.modes) = bm := ⟨_, rfl⟩
  obtain ⟨ba, hba⟩ : ∃ ba, (l.acts.all (actB n1)) = ba := ⟨_, rfl⟩
  obtain ⟨bd, hbd⟩ : ∃ bd, (l.dfas.all (dfaB n3)) = bd := ⟨_, rfl⟩
  have hb2 : (bm && decide (n3 ≤ 128) && decide (n2 = n1) && ba && bd) = b := by
    rw [← hb, ← hbm, ← hba, ← hbd]; unfold rightB; rw [hL.acts.1, hL.dfas.1, hL.modes.1]
  have HJ := Hd.mk (modes_calls A1 n1 c1 l.modes bm S W0 (hL.below hBW).lt hL.szm (hL.below hBW).modes hbm)
  have HA : Hd (∀ W, Below w.heap.size w W → W.heap[w.heap.size]? = some (lxO A1 A2 A3 n1 n2 n3 c1 c2 c3) → Calls Tryz.prog 47 _ W fun e w' => e = .returned (.bool (!ba)) ∧ Below W.heap.size W w') := ⟨fun W hb hg => coa_calls A1 A2 A3 n1 n2 n3 c1 c2 c3 w.heap.size A3 n3 c3 l.acts (!ba) (by rw [any_all, hba]) hL.sza S W hm1 (hL.below hb).lt (hL.below hb).acts hg⟩
  have HDf : Hd (∀ W, Below w.heap.size w W → W.heap[w.heap.size]? = some (lxO A1 A2 A3 n1 n2 n3 c1 c2 c3) → Calls Tryz.prog 48 _ W fun e w' => e = .returned (.bool (!bd)) ∧ Below W.heap.size W w') := ⟨fun W hb hg => cod_calls A1 A2 A3 n1 n2 n3 c1 c2 c3 w.heap.size A2 n2 c2 l.dfas (!bd) (by rw [any_all, hbd]) S W hm3 (hL.below hb).lt (hL.below hb).dfas hg⟩
  clear hb hbm hba hbd hL hBW
  cases bm with
  | false =>
    obtain rfl : b = false := by rw [← hb2]; rfl
    clear hb2
    go_enter Tryz.func18, Tryz.ntmps18
    go_upto_region 1 with fail
    clear hW0
    have hxc0 := blk_cell hx 0 _ rfl; have hxf0 := blk_frozen hx 0; have hxc1 := blk_cell hx 1 _ rfl; have hxf1 := blk_frozen hx 1; have hxc2 := blk_cell hx 2 _ rfl; have hxf2 := blk_frozen hx 2; have hxl := blk_lt hx
    go_wp2_with (go_at_call 42; go_must (refine Calls.mono HJ.out ?_; rintro e w1 ⟨rfl, hb_⟩; have HB1 := Hd.mk (below_seq HBW.out hb_); have hx1 := blk_below hx hb_; have HX1 := Hd.mk hx1; clear hxc0 hxf0 hxc1 hxf1 hxc2 hxf2 hxl; have hx1c0 := blk_cell hx1 0 _ rfl; have hx1f0 := blk_frozen hx1 0; have hx1c1 := blk_cell hx1 1 _ rfl; have hx1f1 := blk_frozen hx1 1; have hx1c2 := blk_cell hx1 2 _ rfl; have hx1f2 := blk_frozen hx1 2; have hx1l := blk_lt hx1; clear hb_))
    go_ret
    exact ⟨rfl, HB1.out⟩
  | true =>
    by_cases h1 : n3 ≤ 128
    case neg =>
      obtain rfl : b = false := by rw [← hb2, decide_eq_false h1]; rfl
      clear hb2
      go_enter Tryz.func18, Tryz.ntmps18
      go_upto_region 1 with fail
      clear hW0
      have hxc0 := blk_cell hx 0 _ rfl; have hxf0 := blk_frozen hx 0; have hxc1 := blk_cell hx 1 _ rfl; have hxf1 := blk_frozen hx 1; have hxc2 := blk_cell hx 2 _ rfl; have hxf2 := blk_frozen hx 2; have hxl := blk_lt hx
      go_wp2_with (go_at_call 42; go_must (refine Calls.mono HJ.out ?_; rintro e w1 ⟨rfl, hb_⟩; have HB1 := Hd.mk (below_seq HBW.out hb_); have hx1 := blk_below hx hb_; have HX1 := Hd.mk hx1; clear hxc0 hxf0 hxc1 hxf1 hxc2 hxf2 hxl; have hx1c0 := blk_cell hx1 0 _ rfl; have hx1f0 := blk_frozen hx1 0; have hx1c1 := blk_cell hx1 1 _ rfl; have hx1f1 := blk_frozen hx1 1; have hx1c2 := blk_cell hx1 2 _ rfl; have hx1f2 := blk_frozen hx1 2; have hx1l := blk_lt hx1; clear hb_))
      go_ret
      exact ⟨rfl, HB1.out⟩
    by_cases h2 : n2 = n1
    case neg =>
      obtain rfl : b = false := by rw [← hb2, decide_eq_false h2]; simp
      have h3 : ((n2 : Int) != (n1 : Int)) = true := by simp; omega
      clear hb2
      go_enter Tryz.func18, Tryz.ntmps18
      go_upto_region 1 with fail
      clear hW0
      have hxc0 := blk_cell hx 0 _ rfl; have hxf0 := blk_frozen hx 0; have hxc1 := blk_cell hx 1 _ rfl; have hxf1 := blk_frozen hx 1; have hxc2 := blk_cell hx 2 _ rfl; have hxf2 := blk_frozen hx 2; have hxl := blk_lt hx
      go_wp2_with (go_at_call 42; go_must (refine Calls.mono HJ.out ?_; rintro e w1 ⟨rfl, hb_⟩; have HB1 := Hd.mk (below_seq HBW.out hb_); have hx1 := blk_below hx hb_; have HX1 := Hd.mk hx1; clear hxc0 hxf0 hxc1 hxf1 hxc2 hxf2 hxl; have hx1c0 := blk_cell hx1 0 _ rfl; have hx1f0 := blk_frozen hx1 0; have hx1c1 := blk_cell hx1 1 _ rfl; have hx1f1 := blk_frozen hx1 1; have hx1c2 := blk_cell hx1 2 _ rfl; have hx1f2 := blk_frozen hx1 2; have hx1l := blk_lt hx1; clear hb_))
      go_ret
      exact ⟨rfl, HB1.out⟩
    have h4 : (ba && bd) = b := by rw [← hb2, decide_eq_true h1, decide_eq_true h2]; simp
    clear hb2
    subst h2
    have h3 : ((n2 : Int) != (n2 : Int)) = false := by simp
    cases ba with
    | false =>
      obtain rfl : b = false := by rw [← h4]; rfl
      clear h4
      go_enter Tryz.func18, Tryz.ntmps18
      go_upto_region 1 with fail
      clear hW0
      have hxc0 := blk_cell hx 0 _ rfl; have hxf0 := blk_frozen hx 0; have hxc1 := blk_cell hx 1 _ rfl; have hxf1 := blk_frozen hx 1; have hxc2 := blk_cell hx 2 _ rfl; have hxf2 := blk_frozen hx 2; have hxl := blk_lt hx
      go_wp2_with (first
        | (go_at_call 42; go_must (refine Calls.mono HJ.out ?_; rintro e w1 ⟨rfl, hb_⟩; have HB1 := Hd.mk (below_seq HBW.out hb_); have hx1 := blk_below hx hb_; have HX1 := Hd.mk hx1; clear hxc0 hxf0 hxc1 hxf1 hxc2 hxf2 hxl; have hx1c0 := blk_cell hx1 0 _ rfl; have hx1f0 := blk_frozen hx1 0; have hx1c1 := blk_cell hx1 1 _ rfl; have hx1f1 := blk_frozen hx1 1; have hx1c2 := blk_cell hx1 2 _ rfl; have hx1f2 := blk_frozen hx1 2; have hx1l := blk_lt hx1; clear hb_))
        | (go_at_call 47; go_must (refine Calls.mono (HA.out _ HB1.out HX1.out) ?_; rintro e w2 ⟨rfl, hb_⟩; have HB2 := Hd.mk (below_seq HB1.out hb_); have hx2 := blk_below hx1 hb_; have HX2 := Hd.mk hx2; clear hx1c0 hx1f0 hx1c1 hx1f1 hx1c2 hx1f2 hx1l; have hx2c0 := blk_cell hx2 0 _ rfl; have hx2f0 := blk_frozen hx2 0; have hx2c1 := blk_cell hx2 1 _ rfl; have hx2f1 := blk_frozen hx2 1; have hx2c2 := blk_cell hx2 2 _ rfl; have hx2f2 := blk_frozen hx2 2; have hx2l := blk_lt hx2; clear hb_)))
      go_ret
      exact ⟨rfl, HB2.out⟩
    | true =>
      obtain rfl : bd = b := by rw [← h4]; rfl
      clear h4
      cases bd <;> (go_enter Tryz.func18, Tryz.ntmps18; go_upto_region 1 with fail; clear hW0; have hxc0 := blk_cell hx 0 _ rfl; have hxf0 := blk_frozen hx 0; have hxc1 := blk_cell hx 1 _ rfl; have hxf1 := blk_frozen hx 1; have hxc2 := blk_cell hx 2 _ rfl; have hxf2 := blk_frozen hx 2; have hxl := blk_lt hx; go_wp2_with (first
        | (go_at_call 42; go_must (refine Calls.mono HJ.out ?_; rintro e w1 ⟨rfl, hb_⟩; have HB1 := Hd.mk (below_seq HBW.out hb_); have hx1 := blk_below hx hb_; have HX1 := Hd.mk hx1; clear hxc0 hxf0 hxc1 hxf1 hxc2 hxf2 hxl; have hx1c0 := blk_cell hx1 0 _ rfl; have hx1f0 := blk_frozen hx1 0; have hx1c1 := blk_cell hx1 1 _ rfl; have hx1f1 := blk_frozen hx1 1; have hx1c2 := blk_cell hx1 2 _ rfl; have hx1f2 := blk_frozen hx1 2; have hx1l := blk_lt hx1; clear hb_))
        | (go_at_call 47; go_must (refine Calls.mono (HA.out _ HB1.out HX1.out) ?_; rintro e w2 ⟨rfl, hb_⟩; have HB2 := Hd.mk (below_seq HB1.out hb_); have hx2 := blk_below hx1 hb_; have HX2 := Hd.mk hx2; clear hx1c0 hx1f0 hx1c1 hx1f1 hx1c2 hx1f2 hx1l; have hx2c0 := blk_cell hx2 0 _ rfl; have hx2f0 := blk_frozen hx2 0; have hx2c1 := blk_cell hx2 1 _ rfl; have hx2f1 := blk_frozen hx2 1; have hx2c2 := blk_cell hx2 2 _ rfl; have hx2f2 := blk_frozen hx2 2; have hx2l := blk_lt hx2; clear hb_))
        | (go_at_call 48; go_must (refine Calls.mono (HDf.out _ HB2.out HX2.out) ?_; rintro e w3 ⟨rfl, hb_⟩; have HB3 := Hd.mk (below_seq HB2.out hb_); clear hb_))); go_ret; exact ⟨rfl, HB3.out⟩)
end Go.Proofs.YtoambcpjdcehhaaGreat.Tb

/- Lexers that may be, by the document. -/
set_option linter.unusedVariables false
set_option linter.unusedSimpArgs false
namespace Go.Proofs.YtoambcpjdcehhaaGreat.Tb
open Go Go.RowKit Go.Proofs.YtoambcpjdcehhaaGreat.Can Go.Proofs.YtoambcpjdcehhaaGreat.Base
attribute [local go_sem] clsB AB.cell

theorem all_snoc {α : Type} {p : α → Bool} {l : List α} {k : Nat} {x : α} (h : l[k]? = some x) : (l.take (k + 1)).all p = ((l.take k).all p && p x) := by
  rw [Df.take_snoc h, List.all_append]; simp
theorem all_not {α : Type} {p : α → Bool} {l : List α} {k : Nat} {x : α} (h : l[k]? = some x) (hp : p x = false) : l.all p = false := by
  rw [Bool.eq_false_iff]
  intro h1
  rw [List.all_eq_true] at h1
  have := h1 x (List.mem_of_getElem? h)
  rw [hp] at this; cases this
set_option maxRecDepth 20000 in
set_option maxHeartbeats 8000000 in
theorem rright_calls (A1 A2 A3 : Option Addr) (n1 n2 n3 c1 c2 c3 : Nat) (l : Lx) (b : Bool) (hb : rightB l = b) (S : Nat → Prop) (w : World) (hL : LX w S A1 A2 A3 n1 n2 n3 l) :
    Calls Tryz.prog 37 #[.agg #[.slice A1 n1 c1, .slice A2 n2 c2, .slice A3 n3 c3]] w fun e w' => e = .returned (.bool b) ∧ Below w.heap.size w w' := by
  have hm1 := hL.modes.le; have hm2 := hL.dfas.le; have hm3 := hL.acts.le
  obtain ⟨W0, hW0⟩ : ∃ W0, w.alloc (.cells #[.slice A1 n1 c1, .slice A2 n2 c2, .slice A3 n3 c3] 26) = W0 := ⟨_, rfl⟩
  have hBW : Below w.heap.size w W0 := by rw [← hW0]; exact below_alloc (Below.refl _ _) _
  have hx : W0.heap[w.heap.size]? = some (.cells #[.slice A1 n1 c1, .slice A2 n2 c2, .slice A3 n3 c3] 26 (0, 0)) := by rw [← hW0]; exact blk_new _ _ _ rfl
  have HX := Hd.mk hx
  have HBW := Hd.mk hBW
  have HLW := Hd.mk (hL.below hBW)
  obtain ⟨bm, hbm⟩ : ∃ bm, modesB l.modes = bm := ⟨_, rfl⟩
  have HN1 := Hd.mk hL.modes.1; have HN2 := Hd.mk hL.dfas.1; have HN3 := Hd.mk hL.acts.1
  have hb2 : (decide (1 ≤ n1) && decide (n1 ≤ 16) && bm && decide (n3 ≤ 128) && decide (n2 = n1) && l.acts.all (actB n1) && l.dfas.all (dfaB n3)) = b := by
    rw [← hb, ← hbm]; unfold rightB; rw [hL.acts.1, hL.dfas.1, hL.modes.1]
  have HJ := Hd.mk (rmodes_calls A1 n1 c1 l.modes bm S W0 (hL.below hBW).lt hL.szm (hL.below hBW).modes hbm)
  clear hb hbm hL hBW
  by_cases g1 : 1 ≤ n1
  case neg =>
    obtain rfl : b = false := by rw [← hb2, decide_eq_false g1]; rfl
    clear hb2
    go_enter Tryz.func37, Tryz.ntmps37
    go_upto_region 1 with fail
    clear hW0
    have hxc0 := blk_cell hx 0 _ rfl; have hxf0 := blk_frozen hx 0; have hxc1 := blk_cell hx 1 _ rfl; have hxf1 := blk_frozen hx 1; have hxc2 := blk_cell hx 2 _ rfl; have hxf2 := blk_frozen hx 2; have hxl := blk_lt hx
    go_wp2
    go_ret
    exact ⟨rfl, HBW.out⟩
  by_cases g2 : n1 ≤ 16
  case neg =>
    obtain rfl : b = false := by rw [← hb2, decide_eq_false g2]; simp
    clear hb2
    go_enter Tryz.func37, Tryz.ntmps37
    go_upto_region 1 with fail
    clear hW0
    have hxc0 := blk_cell hx 0 _ rfl; have hxf0 := blk_frozen hx 0; have hxc1 := blk_cell hx 1 _ rfl; have hxf1 := blk_frozen hx 1; have hxc2 := blk_cell hx 2 _ rfl; have hxf2 := blk_frozen hx 2; have hxl := blk_lt hx
    go_wp2
    go_ret
    exact ⟨rfl, HBW.out⟩
  cases bm with
  | false =>
    obtain rfl : b = false := by rw [← hb2]; simp
    clear hb2
    go_enter Tryz.func37, Tryz.ntmps37
    go_upto_region 1 with fail
    clear hW0
    have hxc0 := blk_cell hx 0 _ rfl; have hxf0 := blk_frozen hx 0; have hxc1 := blk_cell hx 1 _ rfl; have hxf1 := blk_frozen hx 1; have hxc2 := blk_cell hx 2 _ rfl; have hxf2 := blk_frozen hx 2; have hxl := blk_lt hx
    go_wp2_with (go_at_call 63; go_must (refine Calls.mono HJ.out ?_; rintro e w1 ⟨rfl, hb_⟩; have HB1 := Hd.mk hb_; have hx1 := blk_below hx hb_; clear hxc0 hxf0 hxc1 hxf1 hxc2 hxf2 hxl; have hx1c0 := blk_cell hx1 0 _ rfl; have hx1f0 := blk_frozen hx1 0; have hx1c1 := blk_cell hx1 1 _ rfl; have hx1f1 := blk_frozen hx1 1; have hx1c2 := blk_cell hx1 2 _ rfl; have hx1f2 := blk_frozen hx1 2; have hx1l := blk_lt hx1; clear hb_))
    go_ret
    exact ⟨rfl, below_seq HBW.out HB1.out⟩
  | true =>
    by_cases h1 : n3 ≤ 128
    case neg =>
      obtain rfl : b = false := by rw [← hb2, decide_eq_false h1]; simp
      clear hb2
      go_enter Tryz.func37, Tryz.ntmps37
      go_upto_region 1 with fail
      clear hW0
      have hxc0 := blk_cell hx 0 _ rfl; have hxf0 := blk_frozen hx 0; have hxc1 := blk_cell hx 1 _ rfl; have hxf1 := blk_frozen hx 1; have hxc2 := blk_cell hx 2 _ rfl; have hxf2 := blk_frozen hx 2; have hxl := blk_lt hx
      go_wp2_with (go_at_call 63; go_must (refine Calls.mono HJ.out ?_; rintro e w1 ⟨rfl, hb_⟩; have HB1 := Hd.mk hb_; have hx1 := blk_below hx hb_; clear hxc0 hxf0 hxc1 hxf1 hxc2 hxf2 hxl; have hx1c0 := blk_cell hx1 0 _ rfl; have hx1f0 := blk_frozen hx1 0; have hx1c1 := blk_cell hx1 1 _ rfl; have hx1f1 := blk_frozen hx1 1; have hx1c2 := blk_cell hx1 2 _ rfl; have hx1f2 := blk_frozen hx1 2; have hx1l := blk_lt hx1; clear hb_))
      go_ret
      exact ⟨rfl, below_seq HBW.out HB1.out⟩
    by_cases h2 : n2 = n1
    case neg =>
      obtain rfl : b = false := by rw [← hb2, decide_eq_false h2]; simp
      have h3 : ((n2 : Int) != (n1 : Int)) = true := by simp; omega
      clear hb2
      go_enter Tryz.func37, Tryz.ntmps37
      go_upto_region 1 with fail
      clear hW0
      have hxc0 := blk_cell hx 0 _ rfl; have hxf0 := blk_frozen hx 0; have hxc1 := blk_cell hx 1 _ rfl; have hxf1 := blk_frozen hx 1; have hxc2 := blk_cell hx 2 _ rfl; have hxf2 := blk_frozen hx 2; have hxl := blk_lt hx
      go_wp2_with (go_at_call 63; go_must (refine Calls.mono HJ.out ?_; rintro e w1 ⟨rfl, hb_⟩; have HB1 := Hd.mk hb_; have hx1 := blk_below hx hb_; clear hxc0 hxf0 hxc1 hxf1 hxc2 hxf2 hxl; have hx1c0 := blk_cell hx1 0 _ rfl; have hx1f0 := blk_frozen hx1 0; have hx1c1 := blk_cell hx1 1 _ rfl; have hx1f1 := blk_frozen hx1 1; have hx1c2 := blk_cell hx1 2 _ rfl; have hx1f2 := blk_frozen hx1 2; have hx1l := blk_lt hx1; clear hb_))
      go_ret
      exact ⟨rfl, below_seq HBW.out HB1.out⟩
    have HBb : Hd ((l.acts.all (actB n1) && l.dfas.all (dfaB n3)) = b) := ⟨by rw [← hb2, decide_eq_true h1, decide_eq_true h2, decide_eq_true g1, decide_eq_true g2]; simp⟩
    clear hb2
    subst h2
    have h3 : ((n2 : Int) != (n2 : Int)) = false := by simp
    go_enter Tryz.func37, Tryz.ntmps37
    go_upto_region 1 with fail
    clear hW0
    have hxc0 := blk_cell hx 0 _ rfl; have hxf0 := blk_frozen hx 0; have hxc1 := blk_cell hx 1 _ rfl; have hxf1 := blk_frozen hx 1; have hxc2 := blk_cell hx 2 _ rfl; have hxf2 := blk_frozen hx 2; have hxl := blk_lt hx
    go_wp2_with (go_at_call 63; go_must (refine Calls.mono HJ.out ?_; rintro e w1 ⟨rfl, hb_⟩; have HB1 := Hd.mk hb_; have hx1 := blk_below hx hb_; clear hxc0 hxf0 hxc1 hxf1 hxc2 hxf2 hxl; have hx1c0 := blk_cell hx1 0 _ rfl; have hx1f0 := blk_frozen hx1 0; have hx1c1 := blk_cell hx1 1 _ rfl; have hx1f1 := blk_frozen hx1 1; have hx1c2 := blk_cell hx1 2 _ rfl; have hx1f2 := blk_frozen hx1 2; have hx1l := blk_lt hx1; clear hb_))
    clear HJ hx1c0 hx1f0 hx1c1 hx1f1 hx1c2 hx1f2 hx1l hx hx1
    go_loopw [3] (fun i wr => ∃ k : Nat, k ≤ n3 ∧ i = .int .i64 k ∧ Hd ((l.acts.take k).all (actB n2) = true) ∧ Hd (Below W0.heap.size W0 wr)) (fun i _ => n3 - (intOf i).toNat)
    case atStart => exact ⟨0, Nat.zero_le _, rfl, ⟨by simp⟩, HB1⟩
    case round =>
      obtain ⟨k, hk, rfl, HK, HB⟩ := hrel
      have hx2 := blk_below HX.out HB.out
      by_cases hlt : k < n3
      · obtain ⟨b9, off, s, g, rfl, hb9, -, ht, hc, hc2⟩ := act_get (HLW.out.below HB.out).acts k hlt
        have HT := Hd.mk ht
        have HSZ : Hd (s.size ≤ 9223372036854775807) := ⟨HLW.out.sza _ (List.mem_of_getElem? ht)⟩
        clear ht
        cases hp : actB n2 (s, g) with
        | true =>
          have HJ : Hd (∀ W, Calls Tryz.prog 64 #[.agg #[.string s, .int .i64 g], .slice A1 n2 c1] W _) := ⟨fun W => r17Right_calls A1 n2 c1 s g true W hm1 HSZ.out hp⟩
          have HAN : Hd ((l.acts.take (k + 1)).all (actB n2) = true) := ⟨by rw [all_snoc HT.out, HK.out, hp]; rfl⟩
          clear hp
          have hx2c0 := blk_cell hx2 0 _ rfl; have hx2f0 := blk_frozen hx2 0; have hx2c1 := blk_cell hx2 1 _ rfl; have hx2f1 := blk_frozen hx2 1; have hx2c2 := blk_cell hx2 2 _ rfl; have hx2f2 := blk_frozen hx2 2; have hx2l := blk_lt hx2
          go_wp2
          refine wp_region_can (.q [0, 1, 2, 3, 4, 5, 6] (.e 7 false (.q [8] (.done)))) (clsB _) (by kernel_rfl) (by kernel_rfl) (by intro _ _ d _ _ h; cases d <;> exact h) (clsB_drew _) ?_
          refine can_q (l := [⟨_,_,_,_,_,_⟩, ⟨_,_,_,_,_,_⟩, ⟨_,_,_,_,_,_⟩, ⟨_,_,_,_,_,_⟩, ⟨_,_,_,_,_,_⟩, ⟨_,_,_,_,_,_⟩, ⟨_,_,_,_,_,_⟩]) rfl ?_
          repeat (go_big_quiet_step (fail))
          refine wpQuiet_nil ?_
          refine can_e (o := ⟨_,_,_,_,_,_⟩) rfl (fun K hK => ?_)
          go_wp2_with (go_at_call 64; go_must (refine Calls.mono (HJ.out _) ?_; rintro e w2 ⟨rfl, hb_⟩; have HB2 := Hd.mk (below_seq HB.out (below_undrew hb_)); clear hb_))
          refine onK_normal (hK _ _ ⟨fun _ => True, trivial, (fun h => by cases h), ?_⟩)
          clear hK K
          refine can_q (l := [⟨_,_,_,_,_,_⟩]) rfl ?_
          repeat (go_big_quiet_step (fail))
          refine wpQuiet_nil ?_
          refine can_done ?_
          go_wp2
          go_roundw
          case rel => exact ⟨k + 1, by omega, by go_num, HAN, HB2⟩
          case measure => simp [intOf]; omega
        | false =>
          have HJ : Hd (∀ W, Calls Tryz.prog 64 #[.agg #[.string s, .int .i64 g], .slice A1 n2 c1] W _) := ⟨fun W => r17Right_calls A1 n2 c1 s g false W hm1 HSZ.out hp⟩
          obtain rfl : b = false := by rw [← HBb.out, all_not HT.out hp]; rfl
          clear hp
          have hx2c0 := blk_cell hx2 0 _ rfl; have hx2f0 := blk_frozen hx2 0; have hx2c1 := blk_cell hx2 1 _ rfl; have hx2f1 := blk_frozen hx2 1; have hx2c2 := blk_cell hx2 2 _ rfl; have hx2f2 := blk_frozen hx2 2; have hx2l := blk_lt hx2
          go_wp2
          refine wp_region_can (.q [0, 1, 2, 3, 4, 5, 6] (.e 7 false (.q [8] (.done)))) (clsB _) (by kernel_rfl) (by kernel_rfl) (by intro _ _ d _ _ h; cases d <;> exact h) (clsB_drew _) ?_
          refine can_q (l := [⟨_,_,_,_,_,_⟩, ⟨_,_,_,_,_,_⟩, ⟨_,_,_,_,_,_⟩, ⟨_,_,_,_,_,_⟩, ⟨_,_,_,_,_,_⟩, ⟨_,_,_,_,_,_⟩, ⟨_,_,_,_,_,_⟩]) rfl ?_
          repeat (go_big_quiet_step (fail))
          refine wpQuiet_nil ?_
          refine can_e (o := ⟨_,_,_,_,_,_⟩) rfl (fun K hK => ?_)
          go_wp2_with (go_at_call 64; go_must (refine Calls.mono (HJ.out _) ?_; rintro e w2 ⟨rfl, hb_⟩; have HB2 := Hd.mk (below_seq HB.out (below_undrew hb_)); clear hb_))
          refine onK_normal (hK _ _ ⟨fun _ => True, trivial, (fun h => by cases h), ?_⟩)
          clear hK K
          refine can_q (l := [⟨_,_,_,_,_,_⟩]) rfl ?_
          repeat (go_big_quiet_step (fail))
          refine wpQuiet_nil ?_
          refine can_done ?_
          go_wp2
          go_ret
          exact ⟨rfl, below_seq HBW.out HB2.out⟩
      · obtain rfl : k = n3 := by omega
        have HBd : Hd (l.dfas.all (dfaB k) = b) := ⟨by rw [← HBb.out]; have := HK.out; rw [Df.take_all HN3.out] at this; rw [this, Bool.true_and]⟩
        clear HBb HK
        have hx2c0 := blk_cell hx2 0 _ rfl; have hx2f0 := blk_frozen hx2 0; have hx2c1 := blk_cell hx2 1 _ rfl; have hx2f1 := blk_frozen hx2 1; have hx2c2 := blk_cell hx2 2 _ rfl; have hx2f2 := blk_frozen hx2 2; have hx2l := blk_lt hx2
        go_wp2
        clear hx2c0 hx2f0 hx2c1 hx2f1 hx2c2 hx2f2 hx2l hx2
        have HBr := HB
        clear HB
        rename World => wO
        go_loopw [4] (fun i wr => ∃ j : Nat, j ≤ n2 ∧ i = .int .i64 j ∧ Hd ((l.dfas.take j).all (dfaB k) = true) ∧ Hd (Below W0.heap.size W0 wr)) (fun i _ => n2 - (intOf i).toNat)
        case atStart => exact ⟨0, Nat.zero_le _, rfl, ⟨by simp⟩, HBr⟩
        case round =>
          obtain ⟨j, hj, rfl, HK, HB⟩ := hrel
          have hx2 := blk_below HX.out HB.out
          by_cases hlt : j < n2
          · obtain ⟨b9, off, d, B1, B2, B3, e1, e2, e3, rfl, hb9, ht, hc0, hc1, hc2, hc3, hc4, hd⟩ := d_get (HLW.out.below HB.out).lt (HLW.out.below HB.out).dfas j hlt
            have HT := Hd.mk ht
            have HD0 := Hd.mk hd
            have HDN := Hd.mk hd.tag.1
            clear ht hd
            obtain ⟨m1, hm1'⟩ : ∃ x, d.cls.length = x := ⟨_, rfl⟩
            obtain ⟨m2, hm2'⟩ : ∃ x, d.nxt.length = x := ⟨_, rfl⟩
            obtain ⟨m3, hm3'⟩ : ∃ x, d.tag.length = x := ⟨_, rfl⟩
            have HR : Hd (∀ W, Below wr.heap.size wr W → _) := ⟨fun W hb => Df.rdright_calls B1 B2 B3 d.cls.length d.nxt.length d.tag.length e1 e2 e3 d S W (HD0.out.below hb)⟩
            have HTg : Hd (∀ W, Below wr.heap.size wr W → _) := ⟨fun W hb => Df.rtag_calls B1 B2 B3 d.cls.length d.nxt.length d.tag.length e1 e2 e3 d S d.st W (HD0.out.below hb)⟩
            obtain ⟨wd, hwd⟩ : ∃ x, d.wid = x := ⟨_, rfl⟩
            obtain ⟨st, hst⟩ : ∃ x, d.st = x := ⟨_, rfl⟩
            have HTG : Hd (Df.tagD d d.st = Df.tagD d st) := ⟨by rw [hst]⟩
            rw [hm1', hm2', hm3', hwd, hst] at HR HTg
            rw [hm1', hm2', hm3'] at HD0
            rw [hm1'] at hc0
            rw [hwd] at hc1
            rw [hm2'] at hc2
            rw [hm3'] at hc3
            rw [hst] at hc4
            have HST := Hd.mk hst
            clear hm1' hm2' hm3' hwd hst HDN
            have hle1 := HD0.out.cls.le; have hle2 := HD0.out.nxt.le; have hle3 := HD0.out.tag.le
            have HL3 := Hd.mk HD0.out.tag.1
            have hx2c0 := blk_cell hx2 0 _ rfl; have hx2f0 := blk_frozen hx2 0; have hx2c1 := blk_cell hx2 1 _ rfl; have hx2f1 := blk_frozen hx2 1; have hx2c2 := blk_cell hx2 2 _ rfl; have hx2f2 := blk_frozen hx2 2; have hx2l := blk_lt hx2
            go_upto_region 12 with fail
            generalize hU : World.alloc wr _ = U
            have hBU : Below wr.heap.size wr U := by rw [← hU]; exact below_alloc (Below.refl _ _) _
            have hq : U.heap[wr.heap.size]? = some (.cells #[.slice B1 m1 e1, .int .i64 wd, .slice B2 m2 e2, .slice B3 m3 e3, .int .i64 st] 98 (0, 0)) := by rw [← hU]; exact blk_new _ _ _ rfl
            have HX3 := Hd.mk (blk_below hx2 hBU)
            clear hx2c0 hx2f0 hx2c1 hx2f1 hx2c2 hx2f2 hx2l
            clear hU hc0 hc1 hc2 hc3 hc4 hx2
            have HBU := Hd.mk hBU
            clear hBU
            have hqc0 := blk_cell hq 0 _ rfl; have hqf0 := blk_frozen hq 0; have hqc1 := blk_cell hq 1 _ rfl; have hqf1 := blk_frozen hq 1; have hqc2 := blk_cell hq 2 _ rfl; have hqf2 := blk_frozen hq 2; have hqc3 := blk_cell hq 3 _ rfl; have hqf3 := blk_frozen hq 3; have hqc4 := blk_cell hq 4 _ rfl; have hqf4 := blk_frozen hq 4; have hql := blk_lt hq
            have hr : ∀ P : Prop, (P → dfaB k d = false) → P → b = false := fun P h hp => by rw [← HBd.out]; exact all_not HT.out (h hp)
            have HF := Hd.mk hr
            clear hr
            by_cases hok : Df.okD d
            case neg =>
              have HJ := Hd.mk (HR.out U HBU.out)
              rw [decide_eq_false hok] at HJ
              obtain rfl := HF.out _ (fun h => by unfold dfaB; rw [decide_eq_false h]; rfl) hok
              clear hok
              go_wp2_with (go_at_call 65; go_must (refine Calls.mono HJ.out ?_; rintro e w2 ⟨rfl, hb_⟩; have HB2 := Hd.mk (below_seq HBU.out hb_); clear hb_))
              go_ret
              exact ⟨rfl, below_seq HBW.out (below_seq HB.out HB2.out)⟩
            have HJ := Hd.mk (HR.out U HBU.out)
            rw [decide_eq_true hok] at HJ
            have HOK := Hd.mk hok
            clear hok HR
            obtain ⟨t, ht⟩ : ∃ t, Df.tagD d st = t := ⟨_, rfl⟩
            rw [ht] at HTg
            have HTT : Hd (Df.tagD d d.st = t) := ⟨by rw [HTG.out, ht]⟩
            clear ht
            by_cases htn : t < 0
            case neg =>
              obtain rfl := HF.out _ (fun h => by unfold dfaB; have e9 : decide (Df.tagD d d.st < 0) = false := decide_eq_false (by rw [HTT.out]; exact h); rw [e9, Bool.and_false, Bool.false_and]) htn
              go_wp2_with (first
                | (go_at_call 65; go_must (refine Calls.mono HJ.out ?_; rintro e w2 ⟨rfl, hb_⟩; have HB2 := Hd.mk (below_seq HBU.out hb_); have hq2 := blk_below hq hb_; clear hqc0 hqf0 hqc1 hqf1 hqc2 hqf2 hqc3 hqf3 hqc4 hqf4 hql; have hq2c0 := blk_cell hq2 0 _ rfl; have hq2f0 := blk_frozen hq2 0; have hq2c1 := blk_cell hq2 1 _ rfl; have hq2f1 := blk_frozen hq2 1; have hq2c2 := blk_cell hq2 2 _ rfl; have hq2f2 := blk_frozen hq2 2; have hq2c3 := blk_cell hq2 3 _ rfl; have hq2f3 := blk_frozen hq2 3; have hq2c4 := blk_cell hq2 4 _ rfl; have hq2f4 := blk_frozen hq2 4; have hq2l := blk_lt hq2; clear hb_))
                | (go_at_call 66; go_must (refine Calls.mono (HTg.out _ HB2.out) ?_; rintro e w3 ⟨rfl, hb_⟩; have HB3 := Hd.mk (below_seq HB2.out hb_); clear hb_)))
              go_ret
              exact ⟨rfl, below_seq HBW.out (below_seq HB.out HB3.out)⟩
            go_wp2_with (first
              | (go_at_call 65; go_must (refine Calls.mono HJ.out ?_; rintro e w2 ⟨rfl, hb_⟩; have HB2 := Hd.mk (below_seq HBU.out hb_); have HX2 := Hd.mk (blk_below HX3.out hb_); have hq2 := blk_below hq hb_; clear hqc0 hqf0 hqc1 hqf1 hqc2 hqf2 hqc3 hqf3 hqc4 hqf4 hql; have hq2c0 := blk_cell hq2 0 _ rfl; have hq2f0 := blk_frozen hq2 0; have hq2c1 := blk_cell hq2 1 _ rfl; have hq2f1 := blk_frozen hq2 1; have hq2c2 := blk_cell hq2 2 _ rfl; have hq2f2 := blk_frozen hq2 2; have hq2c3 := blk_cell hq2 3 _ rfl; have hq2f3 := blk_frozen hq2 3; have hq2c4 := blk_cell hq2 4 _ rfl; have hq2f4 := blk_frozen hq2 4; have hq2l := blk_lt hq2; clear hb_))
              | (go_at_call 66; go_must (refine Calls.mono (HTg.out _ HB2.out) ?_; rintro e w3 ⟨rfl, hb_⟩; have HB3 := Hd.mk (below_seq HB2.out hb_); have hq3 := blk_below hq2 hb_; have HQ3 := Hd.mk hq3; have HX4 := Hd.mk (blk_below HX2.out hb_); clear hq2c0 hq2f0 hq2c1 hq2f1 hq2c2 hq2f2 hq2c3 hq2f3 hq2c4 hq2f4 hq2l; clear hb_)))
            have HQL := Hd.mk (blk_lt HQ3.out)
            clear HTg HJ hq hq2 hq3 HX2 HX3
            obtain ⟨wq, rfl⟩ : ∃ x, x = wr := ⟨_, rfl⟩
            go_loopw [6] (fun i wr => ∃ q : Nat, q ≤ m3 ∧ i = .int .i64 q ∧ Hd ((d.tag.take q).all (fun t => decide (t < k)) = true) ∧ Hd (Below w3.heap.size w3 wr)) (fun i _ => m3 - (intOf i).toNat)
            case atStart => exact ⟨0, Nat.zero_le _, rfl, ⟨by simp⟩, ⟨Below.refl _ _⟩⟩
            case round =>
              obtain ⟨q, hq, rfl, HK2, HB4⟩ := hrel
              have hq5 := blk_below HQ3.out HB4.out
              have hx5 := blk_below HX4.out HB4.out
              have HB5 := Hd.mk (below_seq HB3.out HB4.out)
              have hq5c0 := blk_cell hq5 0 _ rfl; have hq5f0 := blk_frozen hq5 0; have hq5c1 := blk_cell hq5 1 _ rfl; have hq5f1 := blk_frozen hq5 1; have hq5c2 := blk_cell hq5 2 _ rfl; have hq5f2 := blk_frozen hq5 2; have hq5c3 := blk_cell hq5 3 _ rfl; have hq5f3 := blk_frozen hq5 3; have hq5c4 := blk_cell hq5 4 _ rfl; have hq5f4 := blk_frozen hq5 4; have hq5l := blk_lt hq5
              have hx5c0 := blk_cell hx5 0 _ rfl; have hx5f0 := blk_frozen hx5 0; have hx5c1 := blk_cell hx5 1 _ rfl; have hx5f1 := blk_frozen hx5 1; have hx5c2 := blk_cell hx5 2 _ rfl; have hx5f2 := blk_frozen hx5 2; have hx5l := blk_lt hx5
              by_cases hlt2 : q < m3
              · obtain ⟨b2, o2, t9, rfl, -, hb2, ht9, hy2⟩ := (HD0.out.below HB5.out).tag.get_int q hlt2
                have HT9 := Hd.mk ht9
                clear ht9
                by_cases hge : t9 < k
                · have HAN : Hd ((d.tag.take (q + 1)).all (fun t => decide (t < k)) = true) := ⟨by rw [all_snoc HT9.out, HK2.out, decide_eq_true hge]; rfl⟩
                  go_wp2
                  refine wp_region_can (.q [0, 1, 2, 3, 4, 5, 6, 7, 8] (.done)) (clsB _) (by kernel_rfl) (by kernel_rfl) (by intro _ _ d _ _ h; cases d <;> exact h) (clsB_drew _) ?_
                  refine can_q (l := [⟨_,_,_,_,_,_⟩, ⟨_,_,_,_,_,_⟩, ⟨_,_,_,_,_,_⟩, ⟨_,_,_,_,_,_⟩, ⟨_,_,_,_,_,_⟩, ⟨_,_,_,_,_,_⟩, ⟨_,_,_,_,_,_⟩, ⟨_,_,_,_,_,_⟩, ⟨_,_,_,_,_,_⟩]) rfl ?_
                  repeat (go_big_quiet_step (fail))
                  refine wpQuiet_nil ?_
                  refine can_done ?_
                  go_wp2
                  go_roundw
                  case rel => exact ⟨q + 1, by omega, by go_num, HAN, ⟨below_drew1 HB4.out⟩⟩
                  case measure => simp [intOf]; omega
                · obtain rfl := HF.out _ (fun h => by unfold dfaB; rw [all_not HT9.out (decide_eq_false h), Bool.and_false]) hge
                  go_wp2
                  refine wp_region_can (.q [0, 1, 2, 3, 4, 5, 6, 7, 8] (.done)) (clsB _) (by kernel_rfl) (by kernel_rfl) (by intro _ _ d _ _ h; cases d <;> exact h) (clsB_drew _) ?_
                  refine can_q (l := [⟨_,_,_,_,_,_⟩, ⟨_,_,_,_,_,_⟩, ⟨_,_,_,_,_,_⟩, ⟨_,_,_,_,_,_⟩, ⟨_,_,_,_,_,_⟩, ⟨_,_,_,_,_,_⟩, ⟨_,_,_,_,_,_⟩, ⟨_,_,_,_,_,_⟩, ⟨_,_,_,_,_,_⟩]) rfl ?_
                  repeat (go_big_quiet_step (fail))
                  refine wpQuiet_nil ?_
                  refine can_done ?_
                  go_wp2
                  go_ret
                  exact ⟨rfl, below_drew1 (below_seq HBW.out (below_seq HB.out HB5.out))⟩
              · obtain rfl : q = m3 := by omega
                have HAN : Hd ((l.dfas.take (j + 1)).all (dfaB k) = true) := ⟨by
                  rw [all_snoc HT.out, HK.out, Bool.true_and]; unfold dfaB
                  have h1 := HK2.out; rw [Df.take_all HL3.out] at h1
                  rw [decide_eq_true HOK.out, decide_eq_true (by rw [HTT.out]; exact htn), h1]; rfl⟩
                go_wp2
                go_roundw
                case rel => exact ⟨j + 1, by omega, by go_num, HAN, ⟨below_seq HB.out HB5.out⟩⟩
                case measure => simp [intOf]; omega
          · obtain rfl : j = n2 := by omega
            obtain rfl : b = true := by rw [← HBd.out]; have := HK.out; rwa [Df.take_all HN2.out] at this
            have hx2c0 := blk_cell hx2 0 _ rfl; have hx2f0 := blk_frozen hx2 0; have hx2c1 := blk_cell hx2 1 _ rfl; have hx2f1 := blk_frozen hx2 1; have hx2c2 := blk_cell hx2 2 _ rfl; have hx2f2 := blk_frozen hx2 2; have hx2l := blk_lt hx2
            go_wp2
            go_ret
            exact ⟨rfl, below_seq HBW.out HB.out⟩
end Go.Proofs.YtoambcpjdcehhaaGreat.Tb

/- Is a lexer too great? -/
set_option linter.unusedVariables false
set_option linter.unusedSimpArgs false
namespace Go.Proofs.YtoambcpjdcehhaaGreat.Tb
open Go Go.RowKit Go.Proofs.YtoambcpjdcehhaaGreat.Can Go.Proofs.YtoambcpjdcehhaaGreat.Base
attribute [local go_sem] clsB AB.cell

theorem bool_two {p : Bool → Prop} (h1 : p true) (h2 : p false) : ∀ b, p b := fun b => by cases b <;> assumption
set_option maxHeartbeats 1000000 in
theorem far17_calls (A : Option Addr) (n c : Nat) (l : List ByteArray) (b : Bool) (hb : (l.any (fun s => decide (60 < s.size)) || decide (20 < n)) = b) (S : Nat → Prop) (w : World) (hS : ∀ k, S k → k < w.heap.size) (hsz : ∀ s ∈ l, s.size ≤ 9223372036854775807) (hC : Row Ty.str w S A n l) :
    Calls Tryz.prog 35 #[.slice A n c] w fun e w' => e = .returned (.bool b) ∧ Below w.heap.size w w' := by
  have hn := hC.le
  have HN := Hd.mk hC.1
  have HC := Hd.mk hC
  have HS := Hd.mk hS
  have HBb := Hd.mk hb
  clear hC hS hb
  go_enter Tryz.func35, Tryz.ntmps35
  go_wp2
  go_loopw [3] (fun i wr => ∃ k : Nat, k ≤ n ∧ i = .int .i64 k ∧ Hd ((l.take k).any (fun s => decide (60 < s.size)) = false) ∧ Hd (Below w.heap.size w wr)) (fun i _ => n - (intOf i).toNat)
  case atStart => exact ⟨0, Nat.zero_le _, rfl, ⟨by simp⟩, ⟨Below.refl _ _⟩⟩
  case round =>
    obtain ⟨k, hk, rfl, HK, HB⟩ := hrel
    by_cases hlt : k < n
    · obtain ⟨b9, off, t, rfl, hb9, -, ht, hc⟩ := str_get (HC.out.below HS.out HB.out) k hlt
      have hts := hsz t (List.mem_of_getElem? ht)
      have HT := Hd.mk ht
      clear ht
      by_cases h60 : 60 < t.size
      · obtain rfl : b = true := by rw [← HBb.out, any_at HT.out (decide_eq_true h60)]; rfl
        go_wp2
        go_ret
        exact ⟨rfl, HB.out⟩
      · have HA : Hd ((l.take (k + 1)).any (fun s => decide (60 < s.size)) = false) := ⟨by rw [any_snoc HT.out, HK.out, decide_eq_false h60]; rfl⟩
        go_wp2
        go_roundw
        case rel => exact ⟨k + 1, by omega, by go_num, HA, HB⟩
        case measure => simp [intOf]; omega
    · obtain rfl : k = n := by omega
      obtain ⟨c9, hc9⟩ : ∃ c, decide (20 < k) = c := ⟨_, rfl⟩
      obtain rfl : c9 = b := by rw [← HBb.out, ← hc9]; have := HK.out; rw [Df.take_all HN.out] at this; rw [this, Bool.false_or]
      have h20 : decide ((20 : Int) < (k : Int)) = c9 := by rw [← hc9]; exact decide_eq_decide.2 (by omega)
      have HC9 := Hd.mk hc9
      clear hc9
      go_wp2
      go_ret
      exact ⟨by first
        | rfl
        | rw [h20]
        | exact ret_bool (by rw [← h20]), HB.out⟩
set_option maxRecDepth 20000 in
set_option maxHeartbeats 4000000 in
theorem rfar_calls (A1 A2 A3 : Option Addr) (n1 n2 n3 c1 c2 c3 : Nat) (l : Lx) (S : Nat → Prop) (w : World) (hL : LX w S A1 A2 A3 n1 n2 n3 l) :
    Calls Tryz.prog 12 #[.agg #[.slice A1 n1 c1, .slice A2 n2 c2, .slice A3 n3 c3]] w fun e w' => Df.farE e ∧ Below w.heap.size w w' := by
  have hm1 := hL.modes.le; have hm2 := hL.dfas.le; have hm3 := hL.acts.le
  obtain ⟨W0, hW0⟩ : ∃ W0, w.alloc (.cells #[.slice A1 n1 c1, .slice A2 n2 c2, .slice A3 n3 c3] 26) = W0 := ⟨_, rfl⟩
  have hBW : Below w.heap.size w W0 := by rw [← hW0]; exact below_alloc (Below.refl _ _) _
  have hx : W0.heap[w.heap.size]? = some (.cells #[.slice A1 n1 c1, .slice A2 n2 c2, .slice A3 n3 c3] 26 (0, 0)) := by rw [← hW0]; exact blk_new _ _ _ rfl
  have HX := Hd.mk hx
  have HBW := Hd.mk hBW
  have HLW := Hd.mk (hL.below hBW)
  obtain ⟨bf, hbf⟩ : ∃ bf, (l.modes.any (fun s => decide (60 < s.size)) || decide (20 < n1)) = bf := ⟨_, rfl⟩
  have HJ := Hd.mk (far17_calls A1 n1 c1 l.modes bf hbf S W0 (hL.below hBW).lt hL.szm (hL.below hBW).modes)
  clear hL hBW hbf
  cases bf with
  | true =>
    go_enter Tryz.func12, Tryz.ntmps12
    go_upto_region 1 with fail
    clear hW0
    have hxc0 := blk_cell hx 0 _ rfl; have hxf0 := blk_frozen hx 0; have hxc1 := blk_cell hx 1 _ rfl; have hxf1 := blk_frozen hx 1; have hxc2 := blk_cell hx 2 _ rfl; have hxf2 := blk_frozen hx 2; have hxl := blk_lt hx
    go_wp2_with (go_at_call 35; go_must (refine Calls.mono HJ.out ?_; rintro e w1 ⟨rfl, hb_⟩; have HB1 := Hd.mk hb_; have hx1 := blk_below hx hb_; clear hxc0 hxf0 hxc1 hxf1 hxc2 hxf2 hxl; have hx1c0 := blk_cell hx1 0 _ rfl; have hx1f0 := blk_frozen hx1 0; have hx1c1 := blk_cell hx1 1 _ rfl; have hx1f1 := blk_frozen hx1 1; have hx1c2 := blk_cell hx1 2 _ rfl; have hx1f2 := blk_frozen hx1 2; have hx1l := blk_lt hx1; clear hb_))
    go_ret
    exact ⟨⟨_, rfl⟩, below_seq HBW.out HB1.out⟩
  | false =>
    by_cases g1 : 40 < n3
    case pos =>
      go_enter Tryz.func12, Tryz.ntmps12
      go_upto_region 1 with fail
      clear hW0
      have hxc0 := blk_cell hx 0 _ rfl; have hxf0 := blk_frozen hx 0; have hxc1 := blk_cell hx 1 _ rfl; have hxf1 := blk_frozen hx 1; have hxc2 := blk_cell hx 2 _ rfl; have hxf2 := blk_frozen hx 2; have hxl := blk_lt hx
      go_wp2_with (go_at_call 35; go_must (refine Calls.mono HJ.out ?_; rintro e w1 ⟨rfl, hb_⟩; have HB1 := Hd.mk hb_; have hx1 := blk_below hx hb_; clear hxc0 hxf0 hxc1 hxf1 hxc2 hxf2 hxl; have hx1c0 := blk_cell hx1 0 _ rfl; have hx1f0 := blk_frozen hx1 0; have hx1c1 := blk_cell hx1 1 _ rfl; have hx1f1 := blk_frozen hx1 1; have hx1c2 := blk_cell hx1 2 _ rfl; have hx1f2 := blk_frozen hx1 2; have hx1l := blk_lt hx1; clear hb_))
      go_ret
      exact ⟨⟨_, rfl⟩, below_seq HBW.out HB1.out⟩
    by_cases g2 : 8 < n2
    case pos =>
      go_enter Tryz.func12, Tryz.ntmps12
      go_upto_region 1 with fail
      clear hW0
      have hxc0 := blk_cell hx 0 _ rfl; have hxf0 := blk_frozen hx 0; have hxc1 := blk_cell hx 1 _ rfl; have hxf1 := blk_frozen hx 1; have hxc2 := blk_cell hx 2 _ rfl; have hxf2 := blk_frozen hx 2; have hxl := blk_lt hx
      go_wp2_with (go_at_call 35; go_must (refine Calls.mono HJ.out ?_; rintro e w1 ⟨rfl, hb_⟩; have HB1 := Hd.mk hb_; have hx1 := blk_below hx hb_; clear hxc0 hxf0 hxc1 hxf1 hxc2 hxf2 hxl; have hx1c0 := blk_cell hx1 0 _ rfl; have hx1f0 := blk_frozen hx1 0; have hx1c1 := blk_cell hx1 1 _ rfl; have hx1f1 := blk_frozen hx1 1; have hx1c2 := blk_cell hx1 2 _ rfl; have hx1f2 := blk_frozen hx1 2; have hx1l := blk_lt hx1; clear hb_))
      go_ret
      exact ⟨⟨_, rfl⟩, below_seq HBW.out HB1.out⟩
    go_enter Tryz.func12, Tryz.ntmps12
    go_upto_region 1 with fail
    clear hW0
    have hxc0 := blk_cell hx 0 _ rfl; have hxf0 := blk_frozen hx 0; have hxc1 := blk_cell hx 1 _ rfl; have hxf1 := blk_frozen hx 1; have hxc2 := blk_cell hx 2 _ rfl; have hxf2 := blk_frozen hx 2; have hxl := blk_lt hx
    go_wp2_with (go_at_call 35; go_must (refine Calls.mono HJ.out ?_; rintro e w1 ⟨rfl, hb_⟩; have HB1 := Hd.mk hb_; have hx1 := blk_below hx hb_; clear hxc0 hxf0 hxc1 hxf1 hxc2 hxf2 hxl; have hx1c0 := blk_cell hx1 0 _ rfl; have hx1f0 := blk_frozen hx1 0; have hx1c1 := blk_cell hx1 1 _ rfl; have hx1f1 := blk_frozen hx1 1; have hx1c2 := blk_cell hx1 2 _ rfl; have hx1f2 := blk_frozen hx1 2; have hx1l := blk_lt hx1; clear hb_))
    clear HJ hx1c0 hx1f0 hx1c1 hx1f1 hx1c2 hx1f2 hx1l hx hx1
    go_loopw [3] (fun i wr => ∃ k : Nat, k ≤ n3 ∧ i = .int .i64 k ∧ Hd (Below W0.heap.size W0 wr)) (fun i _ => n3 - (intOf i).toNat)
    case atStart => exact ⟨0, Nat.zero_le _, rfl, HB1⟩
    case round =>
      obtain ⟨k, hk, rfl, HB⟩ := hrel
      have hx2 := blk_below HX.out HB.out
      have hx2c0 := blk_cell hx2 0 _ rfl; have hx2f0 := blk_frozen hx2 0; have hx2c1 := blk_cell hx2 1 _ rfl; have hx2f1 := blk_frozen hx2 1; have hx2c2 := blk_cell hx2 2 _ rfl; have hx2f2 := blk_frozen hx2 2; have hx2l := blk_lt hx2
      by_cases hlt : k < n3
      · obtain ⟨b9, off, s, g, rfl, hb9, -, ht, hc, hc2⟩ := act_get (HLW.out.below HB.out).acts k hlt
        have hts := HLW.out.sza _ (List.mem_of_getElem? ht)
        clear ht
        dsimp only at hts
        by_cases h60 : 60 < s.size
        · go_wp2
          go_ret
          exact ⟨⟨_, rfl⟩, below_seq HBW.out HB.out⟩
        · go_wp2
          go_roundw
          case rel => exact ⟨k + 1, by omega, by go_num, HB⟩
          case measure => simp [intOf]; omega
      · obtain rfl : k = n3 := by omega
        go_wp2
        clear hx2c0 hx2f0 hx2c1 hx2f1 hx2c2 hx2f2 hx2l hx2
        have HBr := HB
        clear HB
        obtain ⟨wq, rfl⟩ : ∃ x, x = wr := ⟨_, rfl⟩
        go_loopw [4] (fun i wr => ∃ j : Nat, j ≤ n2 ∧ i = .int .i64 j ∧ Hd (Below W0.heap.size W0 wr)) (fun i _ => n2 - (intOf i).toNat)
        case atStart => exact ⟨0, Nat.zero_le _, rfl, HBr⟩
        case round =>
          obtain ⟨j, hj, rfl, HB⟩ := hrel
          have hx2 := blk_below HX.out HB.out
          have hx2c0 := blk_cell hx2 0 _ rfl; have hx2f0 := blk_frozen hx2 0; have hx2c1 := blk_cell hx2 1 _ rfl; have hx2f1 := blk_frozen hx2 1; have hx2c2 := blk_cell hx2 2 _ rfl; have hx2f2 := blk_frozen hx2 2; have hx2l := blk_lt hx2
          by_cases hlt : j < n2
          · obtain ⟨b9, off, d, B1, B2, B3, e1, e2, e3, rfl, hb9, ht, hc0, hc1, hc2, hc3, hc4, hd⟩ := d_get (HLW.out.below HB.out).lt (HLW.out.below HB.out).dfas j hlt
            have HD := Hd.mk (Df.rdfar_calls B1 B2 B3 _ _ _ e1 e2 e3 d S wr hd)
            have hle1 := hd.cls.le; have hle2 := hd.nxt.le; have hle3 := hd.tag.le
            obtain ⟨m1, hm1'⟩ : ∃ x, d.cls.length = x := ⟨_, rfl⟩
            obtain ⟨m2, hm2'⟩ : ∃ x, d.nxt.length = x := ⟨_, rfl⟩
            obtain ⟨m3, hm3'⟩ : ∃ x, d.tag.length = x := ⟨_, rfl⟩
            obtain ⟨wd, hwd⟩ : ∃ x, d.wid = x := ⟨_, rfl⟩
            obtain ⟨st, hst⟩ : ∃ x, d.st = x := ⟨_, rfl⟩
            rw [hm1', hm2', hm3', hwd, hst] at HD
            rw [hm1'] at hc0 hle1
            rw [hwd] at hc1
            rw [hm2'] at hc2 hle2
            rw [hm3'] at hc3 hle3
            rw [hst] at hc4
            clear hd ht hm1' hm2' hm3' hwd hst
            go_wp2_with (go_at_call 36; go_must (refine Calls.mono HD.out ?_; rintro e w2 ⟨⟨b, rfl⟩, hb_⟩; have HB2 := Hd.mk (below_seq HB.out hb_); clear hb_; revert b; refine bool_two ?_ ?_))
            · go_wp2
              go_ret
              exact ⟨⟨_, rfl⟩, below_seq HBW.out HB2.out⟩
            · go_wp2
              go_roundw
              case rel => exact ⟨j + 1, by omega, by go_num, HB2⟩
              case measure => simp [intOf]; omega
          · obtain rfl : j = n2 := by omega
            go_wp2
            go_ret
            exact ⟨⟨_, rfl⟩, below_seq HBW.out HB.out⟩
end Go.Proofs.YtoambcpjdcehhaaGreat.Tb
