/- Lexers that may be, by the program. -/
import Derived.Test.YtpcnekdilecakaaDoorW6
set_option linter.unusedVariables false
set_option linter.unusedSimpArgs false
namespace Go.Proofs.YtpcnekdilecakaaDoor.Tb
open Go Go.RowKit Go.Proofs.YtpcnekdilecakaaDoor.Can Go.Proofs.YtpcnekdilecakaaDoor.Base
attribute [local go_sem] clsB AB.cell

def lxO (A1 A2 A3 : Option Addr) (n1 n2 n3 c1 c2 c3 : Nat) : Obj := .cells #[.slice A1 n1 c1, .slice A2 n2 c2, .slice A3 n3 c3] 26 (0, 0)
set_option maxHeartbeats 1000000 in
theorem right1_calls (A1 A2 A3 : Option Addr) (n1 n2 n3 c1 c2 c3 g : Nat) (s : ByteArray) (x : Int) (w : World) (hn : n1 ≤ 9223372036854775807) (hs : s.size ≤ 9223372036854775807) (hg : w.heap[g]? = some (lxO A1 A2 A3 n1 n2 n3 c1 c2 c3)) :
    Calls Tryd.prog 26 #[.agg #[.string s, .int .i64 x], .pointer (some ⟨g, 0, none⟩)] w fun e w' => e = .returned (.bool (!actB n1 (s, x))) ∧ Below w.heap.size w w' := by
  unfold lxO at hg
  obtain ⟨W0, hW0⟩ : ∃ W0, w.alloc (.cells #[.string s, .int .i64 x] 42) = W0 := ⟨_, rfl⟩
  have hBW : Below w.heap.size w W0 := by rw [← hW0]; exact below_alloc (Below.refl _ _) _
  have hx : W0.heap[w.heap.size]? = some (.cells #[.string s, .int .i64 x] 42 (0, 0)) := by rw [← hW0]; exact blk_new _ _ _ rfl
  replace hg := blk_below hg hBW
  have HBW := Hd.mk hBW
  obtain ⟨b, hb⟩ : ∃ b, actB n1 (s, x) = b := ⟨_, rfl⟩
  have HJ := Hd.mk (aRight_calls A1 n1 c1 s x b W0 hn hs hb)
  rw [hb]
  clear hBW hb
  cases b <;> (go_enter Tryd.func26, Tryd.ntmps26; go_upto_region 1 with fail; clear hW0; have hxc0 := blk_cell hx 0 _ rfl; have hxf0 := blk_frozen hx 0; have hxc1 := blk_cell hx 1 _ rfl; have hxf1 := blk_frozen hx 1; have hxl := blk_lt hx; have hgc0 := blk_cell hg 0 _ rfl; have hgf0 := blk_frozen hg 0; have hgc1 := blk_cell hg 1 _ rfl; have hgf1 := blk_frozen hg 1; have hgc2 := blk_cell hg 2 _ rfl; have hgf2 := blk_frozen hg 2; have hgl := blk_lt hg; go_wp2_with (go_at_call 27; go_must (refine Calls.mono HJ.out ?_; rintro e w1 ⟨rfl, hb_⟩; have HB1 := Hd.mk (below_seq HBW.out hb_); clear hb_)); go_ret; exact ⟨rfl, HB1.out⟩)
set_option maxRecDepth 20000 in
set_option maxHeartbeats 1000000 in
theorem right2_calls (A1 A2 A3 B1 B2 B3 : Option Addr) (n1 n2 n3 c1 c2 c3 m1 m2 m3 e1 e2 e3 g : Nat) (d : Df.Df) (S : Nat → Prop) (w : World) (hm3 : m3 ≤ 9223372036854775807) (hD : Df.DF w S A1 A2 A3 n1 n2 n3 d) (hg : w.heap[g]? = some (lxO B1 B2 B3 m1 m2 m3 e1 e2 e3)) :
    Calls Tryd.prog 28 #[.agg #[.slice A1 n1 c1, .int .i64 d.wid, .slice A2 n2 c2, .slice A3 n3 c3, .int .i64 d.st], .pointer (some ⟨g, 0, none⟩)] w fun e w' => e = .returned (.bool (!dfaB m3 d)) ∧ Below w.heap.size w w' := by
  unfold lxO at hg
  have hm1 := hD.cls.le; have hm2 := hD.nxt.le; have hm4 := hD.tag.le
  obtain ⟨W0, hW0⟩ : ∃ W0, w.alloc (.cells #[.slice A1 n1 c1, .int .i64 d.wid, .slice A2 n2 c2, .slice A3 n3 c3, .int .i64 d.st] 47) = W0 := ⟨_, rfl⟩
  have hBW : Below w.heap.size w W0 := by rw [← hW0]; exact below_alloc (Below.refl _ _) _
  have hx : W0.heap[w.heap.size]? = some (.cells #[.slice A1 n1 c1, .int .i64 d.wid, .slice A2 n2 c2, .slice A3 n3 c3, .int .i64 d.st] 47 (0, 0)) := by rw [← hW0]; exact blk_new _ _ _ rfl
  replace hg := blk_below hg hBW
  have HBW := Hd.mk hBW
  obtain ⟨b, hb⟩ : ∃ b, dfaB m3 d = b := ⟨_, rfl⟩
  have HJ := Hd.mk (tdfa_calls A1 A2 A3 n1 n2 n3 c1 c2 c3 d m3 b hb hm3 S W0 (hD.below hBW))
  rw [hb]
  clear hBW hb hD
  obtain ⟨wd, hwd⟩ : ∃ x, d.wid = x := ⟨_, rfl⟩
  obtain ⟨st, hst⟩ : ∃ x, d.st = x := ⟨_, rfl⟩
  rw [hwd, hst] at hW0 hx HJ ⊢
  clear hwd hst
  cases b <;> (go_enter Tryd.func28, Tryd.ntmps28; go_upto_region 1 with fail; clear hW0; have hxc0 := blk_cell hx 0 _ rfl; have hxf0 := blk_frozen hx 0; have hxc1 := blk_cell hx 1 _ rfl; have hxf1 := blk_frozen hx 1; have hxc2 := blk_cell hx 2 _ rfl; have hxf2 := blk_frozen hx 2; have hxc3 := blk_cell hx 3 _ rfl; have hxf3 := blk_frozen hx 3; have hxc4 := blk_cell hx 4 _ rfl; have hxf4 := blk_frozen hx 4; have hxl := blk_lt hx; have hgc0 := blk_cell hg 0 _ rfl; have hgf0 := blk_frozen hg 0; have hgc1 := blk_cell hg 1 _ rfl; have hgf1 := blk_frozen hg 1; have hgc2 := blk_cell hg 2 _ rfl; have hgf2 := blk_frozen hg 2; have hgl := blk_lt hg; go_wp2_with (go_at_call 29; go_must (refine Calls.mono HJ.out ?_; rintro e w1 ⟨rfl, hb_⟩; have HB1 := Hd.mk (below_seq HBW.out hb_); clear hb_)); go_ret; exact ⟨rfl, HB1.out⟩)
set_option maxHeartbeats 1000000 in
theorem ixa_calls (A1 A2 A3 : Option Addr) (n1 n2 n3 c1 c2 c3 g : Nat) (A : Option Addr) (n c : Nat) (l : List (ByteArray × Int)) (p : ByteArray × Int → Bool) (hp : p = fun x => !actB n1 x) (hsz : ∀ x ∈ l, x.1.size ≤ 9223372036854775807) (S : Nat → Prop) (w : World) (hn1 : n1 ≤ 9223372036854775807) (hS : ∀ k, S k → k < w.heap.size) (hC : Row aT w S A n l) (hg : w.heap[g]? = some (lxO A1 A2 A3 n1 n2 n3 c1 c2 c3)) :
    Calls Tryd.prog 60 #[.slice A n c, .func (.func 26) #[] #[.pointer (some ⟨g, 0, none⟩)]] w fun e w' => (∃ x, e = .returned (.int .i64 x) ∧ Ixs p l x) ∧ Below w.heap.size w w' := by
  have hn := hC.le
  have HN := Hd.mk hC.1
  have HC := Hd.mk hC
  have HS := Hd.mk hS
  have HG := Hd.mk hg
  have HPD := Hd.mk hp
  clear hC hS hg hp
  go_enter Tryd.func60, Tryd.ntmps60
  go_wp2
  go_loopw [8] (fun i wr => ∃ k : Nat, k ≤ n ∧ i = .int .i64 k ∧ Hd ((l.take k).any p = false) ∧ Hd (Below w.heap.size w wr)) (fun i _ => n - (intOf i).toNat)
  case atStart => exact ⟨0, Nat.zero_le _, rfl, ⟨by simp⟩, ⟨Below.refl _ _⟩⟩
  case round =>
    obtain ⟨k, hk, rfl, HK, HB⟩ := hrel
    by_cases hlt : k < n
    · obtain ⟨b9, off, s, y, rfl, hb9, -, ht, hc, hc2⟩ := act_get (HC.out.below HS.out HB.out) k hlt; obtain ⟨x, hx⟩ : ∃ x, (s, y) = x := ⟨_, rfl⟩; have HT : Hd (l[k]? = some x) := ⟨by rw [← hx]; exact ht⟩; have HJ : Hd (Calls Tryd.prog 26 #[.agg #[.string s, .int .i64 y], .pointer (some ⟨g, 0, none⟩)] wr fun e w' => e = .returned (.bool (p x)) ∧ Below wr.heap.size wr w') := ⟨by rw [← hx, HPD.out]; exact right1_calls A1 A2 A3 n1 n2 n3 c1 c2 c3 g s y wr hn1 (hsz (s, y) (List.mem_of_getElem? ht)) (blk_below HG.out HB.out)⟩; clear ht hx
      cases hp : p x with
      | true =>
        rw [hp] at HJ
        have HAN := Hd.mk (any_at (p := p) HT.out hp)
        clear hp
        go_wp2_with (go_at_call 26; go_must (refine Calls.mono HJ.out ?_; rintro e w1 ⟨rfl, hb_⟩; have HB1 := Hd.mk (below_seq HB.out hb_); clear hb_))
        go_ret
        exact ⟨⟨_, rfl, .inr ⟨by omega, HAN.out⟩⟩, HB1.out⟩
      | false =>
        rw [hp] at HJ
        have HAN : Hd ((l.take (k + 1)).any p = false) := ⟨by rw [any_snoc HT.out, HK.out, hp]; rfl⟩
        clear hp
        go_wp2_with (go_at_call 26; go_must (refine Calls.mono HJ.out ?_; rintro e w1 ⟨rfl, hb_⟩; have HB1 := Hd.mk (below_seq HB.out hb_); clear hb_))
        go_roundw
        case rel => exact ⟨k + 1, by omega, by go_num, HAN, HB1⟩
        case measure => simp [intOf]; omega
    · obtain rfl : k = n := by omega
      go_wp2
      go_ret
      exact ⟨⟨_, rfl, .inl ⟨rfl, by have := HK.out; rwa [Df.take_all HN.out] at this⟩⟩, HB.out⟩
theorem coa_calls (A1 A2 A3 : Option Addr) (n1 n2 n3 c1 c2 c3 g : Nat) (A : Option Addr) (n c : Nat) (l : List (ByteArray × Int)) (b : Bool) (hb : l.any (fun x => !actB n1 x) = b) (hsz : ∀ x ∈ l, x.1.size ≤ 9223372036854775807) (S : Nat → Prop) (w : World) (hn1 : n1 ≤ 9223372036854775807) (hS : ∀ k, S k → k < w.heap.size) (hC : Row aT w S A n l) (hg : w.heap[g]? = some (lxO A1 A2 A3 n1 n2 n3 c1 c2 c3)) :
    Calls Tryd.prog 30 #[.slice A n c, .func (.func 26) #[] #[.pointer (some ⟨g, 0, none⟩)]] w fun e w' => e = .returned (.bool b) ∧ Below w.heap.size w w' := by
  have HJ := Hd.mk (ixa_calls A1 A2 A3 n1 n2 n3 c1 c2 c3 g A n c l _ rfl hsz S w hn1 hS hC hg)
  have HP := Hd.mk hb
  clear hb hS hC hg hsz
  go_enter Tryd.func30, Tryd.ntmps30
  go_wp2_with (go_at_call 60; go_must (refine Calls.mono HJ.out ?_; rintro e w1 ⟨⟨x, rfl, hp⟩, hb_⟩; have hxb := ixs_any hp HP.out; have HB1 := Hd.mk hb_; clear hb_ hp))
  go_ret
  exact ⟨by first | rfl | rw [hxb], HB1.out⟩
set_option maxRecDepth 20000 in
set_option maxHeartbeats 2000000 in
theorem ixd_calls (A1 A2 A3 : Option Addr) (n1 n2 n3 c1 c2 c3 g : Nat) (A : Option Addr) (n c : Nat) (l : List Df.Df) (p : Df.Df → Bool) (hp : p = fun x => !dfaB n3 x) (S : Nat → Prop) (w : World) (hn3 : n3 ≤ 9223372036854775807) (hS : ∀ k, S k → k < w.heap.size) (hC : Row dT w S A n l) (hg : w.heap[g]? = some (lxO A1 A2 A3 n1 n2 n3 c1 c2 c3)) :
    Calls Tryd.prog 61 #[.slice A n c, .func (.func 28) #[] #[.pointer (some ⟨g, 0, none⟩)]] w fun e w' => (∃ x, e = .returned (.int .i64 x) ∧ Ixs p l x) ∧ Below w.heap.size w w' := by
  have hn := hC.le
  have HN := Hd.mk hC.1
  have HC := Hd.mk hC
  have HS := Hd.mk hS
  have HG := Hd.mk hg
  have HPD := Hd.mk hp
  clear hC hS hg hp
  go_enter Tryd.func61, Tryd.ntmps61
  go_wp2
  go_loopw [8] (fun i wr => ∃ k : Nat, k ≤ n ∧ i = .int .i64 k ∧ Hd ((l.take k).any p = false) ∧ Hd (Below w.heap.size w wr)) (fun i _ => n - (intOf i).toNat)
  case atStart => exact ⟨0, Nat.zero_le _, rfl, ⟨by simp⟩, ⟨Below.refl _ _⟩⟩
  case round =>
    obtain ⟨k, hk, rfl, HK, HB⟩ := hrel
    by_cases hlt : k < n
    · obtain ⟨b9, off, x, B1, B2, B3, e1, e2, e3, rfl, hb9, ht, hc0, hc1, hc2, hc3, hc4, hd⟩ := d_get (fun k hk => Nat.lt_of_lt_of_le (HS.out k hk) HB.out.size) (HC.out.below HS.out HB.out) k hlt; have HT := Hd.mk ht; have HJ : Hd (Calls Tryd.prog 28 #[.agg #[.slice B1 x.cls.length e1, .int .i64 x.wid, .slice B2 x.nxt.length e2, .slice B3 x.tag.length e3, .int .i64 x.st], .pointer (some ⟨g, 0, none⟩)] wr fun e w' => e = .returned (.bool (p x)) ∧ Below wr.heap.size wr w') := ⟨by rw [HPD.out]; exact right2_calls B1 B2 B3 A1 A2 A3 _ _ _ e1 e2 e3 n1 n2 n3 c1 c2 c3 g x S wr hn3 hd (blk_below HG.out HB.out)⟩; clear ht hd
      cases hp : p x with
      | true =>
        rw [hp] at HJ
        have HAN := Hd.mk (any_at (p := p) HT.out hp)
        clear hp
        go_wp2_with (go_at_call 28; go_must (refine Calls.mono HJ.out ?_; rintro e w1 ⟨rfl, hb_⟩; have HB1 := Hd.mk (below_seq HB.out hb_); clear hb_))
        go_ret
        exact ⟨⟨_, rfl, .inr ⟨by omega, HAN.out⟩⟩, HB1.out⟩
      | false =>
        rw [hp] at HJ
        have HAN : Hd ((l.take (k + 1)).any p = false) := ⟨by rw [any_snoc HT.out, HK.out, hp]; rfl⟩
        clear hp
        go_wp2_with (go_at_call 28; go_must (refine Calls.mono HJ.out ?_; rintro e w1 ⟨rfl, hb_⟩; have HB1 := Hd.mk (below_seq HB.out hb_); clear hb_))
        go_roundw
        case rel => exact ⟨k + 1, by omega, by go_num, HAN, HB1⟩
        case measure => simp [intOf]; omega
    · obtain rfl : k = n := by omega
      go_wp2
      go_ret
      exact ⟨⟨_, rfl, .inl ⟨rfl, by have := HK.out; rwa [Df.take_all HN.out] at this⟩⟩, HB.out⟩
theorem cod_calls (A1 A2 A3 : Option Addr) (n1 n2 n3 c1 c2 c3 g : Nat) (A : Option Addr) (n c : Nat) (l : List Df.Df) (b : Bool) (hb : l.any (fun x => !dfaB n3 x) = b) (S : Nat → Prop) (w : World) (hn3 : n3 ≤ 9223372036854775807) (hS : ∀ k, S k → k < w.heap.size) (hC : Row dT w S A n l) (hg : w.heap[g]? = some (lxO A1 A2 A3 n1 n2 n3 c1 c2 c3)) :
    Calls Tryd.prog 31 #[.slice A n c, .func (.func 28) #[] #[.pointer (some ⟨g, 0, none⟩)]] w fun e w' => e = .returned (.bool b) ∧ Below w.heap.size w w' := by
  have HJ := Hd.mk (ixd_calls A1 A2 A3 n1 n2 n3 c1 c2 c3 g A n c l _ rfl S w hn3 hS hC hg)
  have HP := Hd.mk hb
  clear hb hS hC hg
  go_enter Tryd.func31, Tryd.ntmps31
  go_wp2_with (go_at_call 61; go_must (refine Calls.mono HJ.out ?_; rintro e w1 ⟨⟨x, rfl, hp⟩, hb_⟩; have hxb := ixs_any hp HP.out; have HB1 := Hd.mk hb_; clear hb_ hp))
  go_ret
  exact ⟨by first | rfl | rw [hxb], HB1.out⟩
end Go.Proofs.YtpcnekdilecakaaDoor.Tb
