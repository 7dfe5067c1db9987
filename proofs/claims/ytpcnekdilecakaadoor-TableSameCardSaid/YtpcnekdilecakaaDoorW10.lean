/- Is a lexer too great? -/
import Derived.Test.YtpcnekdilecakaaDoorW9
set_option linter.unusedVariables false
set_option linter.unusedSimpArgs false
namespace Go.Proofs.YtpcnekdilecakaaDoor.Tb
open Go Go.RowKit Go.Proofs.YtpcnekdilecakaaDoor.Can Go.Proofs.YtpcnekdilecakaaDoor.Base
attribute [local go_sem] clsB AB.cell

theorem bool_two {p : Bool → Prop} (h1 : p true) (h2 : p false) : ∀ b, p b := fun b => by cases b <;> assumption
set_option maxHeartbeats 1000000 in
theorem far17_calls (A : Option Addr) (n c : Nat) (l : List ByteArray) (b : Bool) (hb : (l.any (fun s => decide (60 < s.size)) || decide (20 < n)) = b) (S : Nat → Prop) (w : World) (hS : ∀ k, S k → k < w.heap.size) (hsz : ∀ s ∈ l, s.size ≤ 9223372036854775807) (hC : Row Ty.str w S A n l) :
    Calls Tryd.prog 15 #[.slice A n c] w fun e w' => e = .returned (.bool b) ∧ Below w.heap.size w w' := by
  have hn := hC.le
  have HN := Hd.mk hC.1
  have HC := Hd.mk hC
  have HS := Hd.mk hS
  have HBb := Hd.mk hb
  clear hC hS hb
  go_enter Tryd.func15, Tryd.ntmps15
  go_wp2
  go_loopw [3] (fun i wr => ∃ k : Nat, k ≤ n ∧ i = .int .i64 k ∧ Hd ((l.take k).any (fun s => decide (60 < s.size)) = false) ∧ Hd (Below w.heap.size w wr)) (fun i _ => n - (intOf i).toNat)
  case atStart => exact ⟨0, Nat.zero_le _, rfl, ⟨by simp⟩, ⟨Below.refl _ _⟩⟩
  case round =>
    obtain ⟨k, hk, rfl, HK, HB⟩ := hrel
    by_cases hlt : k < n
    · obtain ⟨b9, off, t, rfl, hb9, -, ht, hc⟩ := str_get (HC.out.below HS.out HB.out) k hlt
      have hts := hsz t (List.mem_of_getElem? ht)
      have HT := Hd.mk ht
      clear ht
      by_cases h60 : 60 < t.size
      · obtain rfl : b = true := by rw [← HBb.out, any_at HT.out (decide_eq_true h60)]; rfl
        go_wp2
        go_ret
        exact ⟨rfl, HB.out⟩
      · have HA : Hd ((l.take (k + 1)).any (fun s => decide (60 < s.size)) = false) := ⟨by rw [any_snoc HT.out, HK.out, decide_eq_false h60]; rfl⟩
        go_wp2
        go_roundw
        case rel => exact ⟨k + 1, by omega, by go_num, HA, HB⟩
        case measure => simp [intOf]; omega
    · obtain rfl : k = n := by omega
      obtain ⟨c9, hc9⟩ : ∃ c, decide (20 < k) = c := ⟨_, rfl⟩
      obtain rfl : c9 = b := by rw [← HBb.out, ← hc9]; have := HK.out; rw [Df.take_all HN.out] at this; rw [this, Bool.false_or]
      have h20 : decide ((20 : Int) < (k : Int)) = c9 := by rw [← hc9]; exact decide_eq_decide.2 (by omega)
      have HC9 := Hd.mk hc9
      clear hc9
      go_wp2
      go_ret
      exact ⟨by first
        | rfl
        | rw [h20]
        | exact ret_bool (by rw [← h20]), HB.out⟩
set_option maxRecDepth 20000 in
set_option maxHeartbeats 4000000 in
theorem rfar_calls (A1 A2 A3 : Option Addr) (n1 n2 n3 c1 c2 c3 : Nat) (l : Lx) (S : Nat → Prop) (w : World) (hL : LX w S A1 A2 A3 n1 n2 n3 l) :
    Calls Tryd.prog 6 #[.agg #[.slice A1 n1 c1, .slice A2 n2 c2, .slice A3 n3 c3]] w fun e w' => Df.farE e ∧ Below w.heap.size w w' := by
  have hm1 := hL.modes.le; have hm2 := hL.dfas.le; have hm3 := hL.acts.le
  obtain ⟨W0, hW0⟩ : ∃ W0, w.alloc (.cells #[.slice A1 n1 c1, .slice A2 n2 c2, .slice A3 n3 c3] 26) = W0 := ⟨_, rfl⟩
  have hBW : Below w.heap.size w W0 := by rw [← hW0]; exact below_alloc (Below.refl _ _) _
  have hx : W0.heap[w.heap.size]? = some (.cells #[.slice A1 n1 c1, .slice A2 n2 c2, .slice A3 n3 c3] 26 (0, 0)) := by rw [← hW0]; exact blk_new _ _ _ rfl
  have HX := Hd.mk hx
  have HBW := Hd.mk hBW
  have HLW := Hd.mk (hL.below hBW)
  obtain ⟨bf, hbf⟩ : ∃ bf, (l.modes.any (fun s => decide (60 < s.size)) || decide (20 < n1)) = bf := ⟨_, rfl⟩
  have HJ := Hd.mk (far17_calls A1 n1 c1 l.modes bf hbf S W0 (hL.below hBW).lt hL.szm (hL.below hBW).modes)
  clear hL hBW hbf
  cases bf with
  | true =>
    go_enter Tryd.func6, Tryd.ntmps6
    go_upto_region 1 with fail
    clear hW0
    have hxc0 := blk_cell hx 0 _ rfl; have hxf0 := blk_frozen hx 0; have hxc1 := blk_cell hx 1 _ rfl; have hxf1 := blk_frozen hx 1; have hxc2 := blk_cell hx 2 _ rfl; have hxf2 := blk_frozen hx 2; have hxl := blk_lt hx
    go_wp2_with (go_at_call 15; go_must (refine Calls.mono HJ.out ?_; rintro e w1 ⟨rfl, hb_⟩; have HB1 := Hd.mk hb_; have hx1 := blk_below hx hb_; clear hxc0 hxf0 hxc1 hxf1 hxc2 hxf2 hxl; have hx1c0 := blk_cell hx1 0 _ rfl; have hx1f0 := blk_frozen hx1 0; have hx1c1 := blk_cell hx1 1 _ rfl; have hx1f1 := blk_frozen hx1 1; have hx1c2 := blk_cell hx1 2 _ rfl; have hx1f2 := blk_frozen hx1 2; have hx1l := blk_lt hx1; clear hb_))
    go_ret
    exact ⟨⟨_, rfl⟩, below_seq HBW.out HB1.out⟩
  | false =>
    by_cases g1 : 40 < n3
    case pos =>
      go_enter Tryd.func6, Tryd.ntmps6
      go_upto_region 1 with fail
      clear hW0
      have hxc0 := blk_cell hx 0 _ rfl; have hxf0 := blk_frozen hx 0; have hxc1 := blk_cell hx 1 _ rfl; have hxf1 := blk_frozen hx 1; have hxc2 := blk_cell hx 2 _ rfl; have hxf2 := blk_frozen hx 2; have hxl := blk_lt hx
      go_wp2_with (go_at_call 15; go_must (refine Calls.mono HJ.out ?_; rintro e w1 ⟨rfl, hb_⟩; have HB1 := Hd.mk hb_; have hx1 := blk_below hx hb_; clear hxc0 hxf0 hxc1 hxf1 hxc2 hxf2 hxl; have hx1c0 := blk_cell hx1 0 _ rfl; have hx1f0 := blk_frozen hx1 0; have hx1c1 := blk_cell hx1 1 _ rfl; have hx1f1 := blk_frozen hx1 1; have hx1c2 := blk_cell hx1 2 _ rfl; have hx1f2 := blk_frozen hx1 2; have hx1l := blk_lt hx1; clear hb_))
      go_ret
      exact ⟨⟨_, rfl⟩, below_seq HBW.out HB1.out⟩
    by_cases g2 : 8 < n2
    case pos =>
      go_enter Tryd.func6, Tryd.ntmps6
      go_upto_region 1 with fail
      clear hW0
      have hxc0 := blk_cell hx 0 _ rfl; have hxf0 := blk_frozen hx 0; have hxc1 := blk_cell hx 1 _ rfl; have hxf1 := blk_frozen hx 1; have hxc2 := blk_cell hx 2 _ rfl; have hxf2 := blk_frozen hx 2; have hxl := blk_lt hx
      go_wp2_with (go_at_call 15; go_must (refine Calls.mono HJ.out ?_; rintro e w1 ⟨rfl, hb_⟩; have HB1 := Hd.mk hb_; have hx1 := blk_below hx hb_; clear hxc0 hxf0 hxc1 hxf1 hxc2 hxf2 hxl; have hx1c0 := blk_cell hx1 0 _ rfl; have hx1f0 := blk_frozen hx1 0; have hx1c1 := blk_cell hx1 1 _ rfl; have hx1f1 := blk_frozen hx1 1; have hx1c2 := blk_cell hx1 2 _ rfl; have hx1f2 := blk_frozen hx1 2; have hx1l := blk_lt hx1; clear hb_))
      go_ret
      exact ⟨⟨_, rfl⟩, below_seq HBW.out HB1.out⟩
    go_enter Tryd.func6, Tryd.ntmps6
    go_upto_region 1 with fail
    clear hW0
    have hxc0 := blk_cell hx 0 _ rfl; have hxf0 := blk_frozen hx 0; have hxc1 := blk_cell hx 1 _ rfl; have hxf1 := blk_frozen hx 1; have hxc2 := blk_cell hx 2 _ rfl; have hxf2 := blk_frozen hx 2; have hxl := blk_lt hx
    go_wp2_with (go_at_call 15; go_must (refine Calls.mono HJ.out ?_; rintro e w1 ⟨rfl, hb_⟩; have HB1 := Hd.mk hb_; have hx1 := blk_below hx hb_; clear hxc0 hxf0 hxc1 hxf1 hxc2 hxf2 hxl; have hx1c0 := blk_cell hx1 0 _ rfl; have hx1f0 := blk_frozen hx1 0; have hx1c1 := blk_cell hx1 1 _ rfl; have hx1f1 := blk_frozen hx1 1; have hx1c2 := blk_cell hx1 2 _ rfl; have hx1f2 := blk_frozen hx1 2; have hx1l := blk_lt hx1; clear hb_))
    clear HJ hx1c0 hx1f0 hx1c1 hx1f1 hx1c2 hx1f2 hx1l hx hx1
    go_loopw [3] (fun i wr => ∃ k : Nat, k ≤ n3 ∧ i = .int .i64 k ∧ Hd (Below W0.heap.size W0 wr)) (fun i _ => n3 - (intOf i).toNat)
    case atStart => exact ⟨0, Nat.zero_le _, rfl, HB1⟩
    case round =>
      obtain ⟨k, hk, rfl, HB⟩ := hrel
      have hx2 := blk_below HX.out HB.out
      have hx2c0 := blk_cell hx2 0 _ rfl; have hx2f0 := blk_frozen hx2 0; have hx2c1 := blk_cell hx2 1 _ rfl; have hx2f1 := blk_frozen hx2 1; have hx2c2 := blk_cell hx2 2 _ rfl; have hx2f2 := blk_frozen hx2 2; have hx2l := blk_lt hx2
      by_cases hlt : k < n3
      · obtain ⟨b9, off, s, g, rfl, hb9, -, ht, hc, hc2⟩ := act_get (HLW.out.below HB.out).acts k hlt
        have hts := HLW.out.sza _ (List.mem_of_getElem? ht)
        clear ht
        dsimp only at hts
        by_cases h60 : 60 < s.size
        · go_wp2
          go_ret
          exact ⟨⟨_, rfl⟩, below_seq HBW.out HB.out⟩
        · go_wp2
          go_roundw
          case rel => exact ⟨k + 1, by omega, by go_num, HB⟩
          case measure => simp [intOf]; omega
      · obtain rfl : k = n3 := by omega
        go_wp2
        clear hx2c0 hx2f0 hx2c1 hx2f1 hx2c2 hx2f2 hx2l hx2
        have HBr := HB
        clear HB
        obtain ⟨wq, rfl⟩ : ∃ x, x = wr := ⟨_, rfl⟩
        go_loopw [4] (fun i wr => ∃ j : Nat, j ≤ n2 ∧ i = .int .i64 j ∧ Hd (Below W0.heap.size W0 wr)) (fun i _ => n2 - (intOf i).toNat)
        case atStart => exact ⟨0, Nat.zero_le _, rfl, HBr⟩
        case round =>
          obtain ⟨j, hj, rfl, HB⟩ := hrel
          have hx2 := blk_below HX.out HB.out
          have hx2c0 := blk_cell hx2 0 _ rfl; have hx2f0 := blk_frozen hx2 0; have hx2c1 := blk_cell hx2 1 _ rfl; have hx2f1 := blk_frozen hx2 1; have hx2c2 := blk_cell hx2 2 _ rfl; have hx2f2 := blk_frozen hx2 2; have hx2l := blk_lt hx2
          by_cases hlt : j < n2
          · obtain ⟨b9, off, d, B1, B2, B3, e1, e2, e3, rfl, hb9, ht, hc0, hc1, hc2, hc3, hc4, hd⟩ := d_get (HLW.out.below HB.out).lt (HLW.out.below HB.out).dfas j hlt
            have HD := Hd.mk (Df.rdfar_calls B1 B2 B3 _ _ _ e1 e2 e3 d S wr hd)
            have hle1 := hd.cls.le; have hle2 := hd.nxt.le; have hle3 := hd.tag.le
            obtain ⟨m1, hm1'⟩ : ∃ x, d.cls.length = x := ⟨_, rfl⟩
            obtain ⟨m2, hm2'⟩ : ∃ x, d.nxt.length = x := ⟨_, rfl⟩
            obtain ⟨m3, hm3'⟩ : ∃ x, d.tag.length = x := ⟨_, rfl⟩
            obtain ⟨wd, hwd⟩ : ∃ x, d.wid = x := ⟨_, rfl⟩
            obtain ⟨st, hst⟩ : ∃ x, d.st = x := ⟨_, rfl⟩
            rw [hm1', hm2', hm3', hwd, hst] at HD
            rw [hm1'] at hc0 hle1
            rw [hwd] at hc1
            rw [hm2'] at hc2 hle2
            rw [hm3'] at hc3 hle3
            rw [hst] at hc4
            clear hd ht hm1' hm2' hm3' hwd hst
            go_wp2_with (go_at_call 16; go_must (refine Calls.mono HD.out ?_; rintro e w2 ⟨⟨b, rfl⟩, hb_⟩; have HB2 := Hd.mk (below_seq HB.out hb_); clear hb_; revert b; refine bool_two ?_ ?_))
            · go_wp2
              go_ret
              exact ⟨⟨_, rfl⟩, below_seq HBW.out HB2.out⟩
            · go_wp2
              go_roundw
              case rel => exact ⟨j + 1, by omega, by go_num, HB2⟩
              case measure => simp [intOf]; omega
          · obtain rfl : j = n2 := by omega
            go_wp2
            go_ret
            exact ⟨⟨_, rfl⟩, below_seq HBW.out HB.out⟩
end Go.Proofs.YtpcnekdilecakaaDoor.Tb
