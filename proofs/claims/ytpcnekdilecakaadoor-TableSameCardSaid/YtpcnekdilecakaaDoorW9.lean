/- Lexers that may be, by the document. -/
import Derived.Test.YtpcnekdilecakaaDoorW8
set_option linter.unusedVariables false
set_option linter.unusedSimpArgs false
namespace Go.Proofs.YtpcnekdilecakaaDoor.Tb
open Go Go.RowKit Go.Proofs.YtpcnekdilecakaaDoor.Can Go.Proofs.YtpcnekdilecakaaDoor.Base
attribute [local go_sem] clsB AB.cell

theorem all_snoc {α : Type} {p : α → Bool} {l : List α} {k : Nat} {x : α} (h : l[k]? = some x) : (l.take (k + 1)).all p = ((l.take k).all p && p x) := by
  rw [Df.take_snoc h, List.all_append]; simp
theorem all_not {α : Type} {p : α → Bool} {l : List α} {k : Nat} {x : α} (h : l[k]? = some x) (hp : p x = false) : l.all p = false := by
  rw [Bool.eq_false_iff]
  intro h1
  rw [List.all_eq_true] at h1
  have := h1 x (List.mem_of_getElem? h)
  rw [hp] at this; cases this
set_option maxRecDepth 20000 in
set_option maxHeartbeats 8000000 in
theorem rright_calls (A1 A2 A3 : Option Addr) (n1 n2 n3 c1 c2 c3 : Nat) (l : Lx) (b : Bool) (hb : rightB l = b) (S : Nat → Prop) (w : World) (hL : LX w S A1 A2 A3 n1 n2 n3 l) :
    Calls Tryd.prog 9 #[.agg #[.slice A1 n1 c1, .slice A2 n2 c2, .slice A3 n3 c3]] w fun e w' => e = .returned (.bool b) ∧ Below w.heap.size w w' := by
  have hm1 := hL.modes.le; have hm2 := hL.dfas.le; have hm3 := hL.acts.le
  obtain ⟨W0, hW0⟩ : ∃ W0, w.alloc (.cells #[.slice A1 n1 c1, .slice A2 n2 c2, .slice A3 n3 c3] 26) = W0 := ⟨_, rfl⟩
  have hBW : Below w.heap.size w W0 := by rw [← hW0]; exact below_alloc (Below.refl _ _) _
  have hx : W0.heap[w.heap.size]? = some (.cells #[.slice A1 n1 c1, .slice A2 n2 c2, .slice A3 n3 c3] 26 (0, 0)) := by rw [← hW0]; exact blk_new _ _ _ rfl
  have HX := Hd.mk hx
  have HBW := Hd.mk hBW
  have HLW := Hd.mk (hL.below hBW)
  obtain ⟨bm, hbm⟩ : ∃ bm, modesB l.modes = bm := ⟨_, rfl⟩
  have HN1 := Hd.mk hL.modes.1; have HN2 := Hd.mk hL.dfas.1; have HN3 := Hd.mk hL.acts.1
  have hb2 : (decide (1 ≤ n1) && decide (n1 ≤ 16) && bm && decide (n3 ≤ 128) && decide (n2 = n1) && l.acts.all (actB n1) && l.dfas.all (dfaB n3)) = b := by
    rw [← hb, ← hbm]; unfold rightB; rw [hL.acts.1, hL.dfas.1, hL.modes.1]
  have HJ := Hd.mk (rmodes_calls A1 n1 c1 l.modes bm S W0 (hL.below hBW).lt hL.szm (hL.below hBW).modes hbm)
  clear hb hbm hL hBW
  by_cases g1 : 1 ≤ n1
  case neg =>
    obtain rfl : b = false := by rw [← hb2, decide_eq_false g1]; rfl
    clear hb2
    go_enter Tryd.func9, Tryd.ntmps9
    go_upto_region 1 with fail
    clear hW0
    have hxc0 := blk_cell hx 0 _ rfl; have hxf0 := blk_frozen hx 0; have hxc1 := blk_cell hx 1 _ rfl; have hxf1 := blk_frozen hx 1; have hxc2 := blk_cell hx 2 _ rfl; have hxf2 := blk_frozen hx 2; have hxl := blk_lt hx
    go_wp2
    go_ret
    exact ⟨rfl, HBW.out⟩
  by_cases g2 : n1 ≤ 16
  case neg =>
    obtain rfl : b = false := by rw [← hb2, decide_eq_false g2]; simp
    clear hb2
    go_enter Tryd.func9, Tryd.ntmps9
    go_upto_region 1 with fail
    clear hW0
    have hxc0 := blk_cell hx 0 _ rfl; have hxf0 := blk_frozen hx 0; have hxc1 := blk_cell hx 1 _ rfl; have hxf1 := blk_frozen hx 1; have hxc2 := blk_cell hx 2 _ rfl; have hxf2 := blk_frozen hx 2; have hxl := blk_lt hx
    go_wp2
    go_ret
    exact ⟨rfl, HBW.out⟩
  cases bm with
  | false =>
    obtain rfl : b = false := by rw [← hb2]; simp
    clear hb2
    go_enter Tryd.func9, Tryd.ntmps9
    go_upto_region 1 with fail
    clear hW0
    have hxc0 := blk_cell hx 0 _ rfl; have hxf0 := blk_frozen hx 0; have hxc1 := blk_cell hx 1 _ rfl; have hxf1 := blk_frozen hx 1; have hxc2 := blk_cell hx 2 _ rfl; have hxf2 := blk_frozen hx 2; have hxl := blk_lt hx
    go_wp2_with (go_at_call 21; go_must (refine Calls.mono HJ.out ?_; rintro e w1 ⟨rfl, hb_⟩; have HB1 := Hd.mk hb_; have hx1 := blk_below hx hb_; clear hxc0 hxf0 hxc1 hxf1 hxc2 hxf2 hxl; have hx1c0 := blk_cell hx1 0 _ rfl; have hx1f0 := blk_frozen hx1 0; have hx1c1 := blk_cell hx1 1 _ rfl; have hx1f1 := blk_frozen hx1 1; have hx1c2 := blk_cell hx1 2 _ rfl; have hx1f2 := blk_frozen hx1 2; have hx1l := blk_lt hx1; clear hb_))
    go_ret
    exact ⟨rfl, below_seq HBW.out HB1.out⟩
  | true =>
    by_cases h1 : n3 ≤ 128
    case neg =>
      obtain rfl : b = false := by rw [← hb2, decide_eq_false h1]; simp
      clear hb2
      go_enter Tryd.func9, Tryd.ntmps9
      go_upto_region 1 with fail
      clear hW0
      have hxc0 := blk_cell hx 0 _ rfl; have hxf0 := blk_frozen hx 0; have hxc1 := blk_cell hx 1 _ rfl; have hxf1 := blk_frozen hx 1; have hxc2 := blk_cell hx 2 _ rfl; have hxf2 := blk_frozen hx 2; have hxl := blk_lt hx
      go_wp2_with (go_at_call 21; go_must (refine Calls.mono HJ.out ?_; rintro e w1 ⟨rfl, hb_⟩; have HB1 := Hd.mk hb_; have hx1 := blk_below hx hb_; clear hxc0 hxf0 hxc1 hxf1 hxc2 hxf2 hxl; have hx1c0 := blk_cell hx1 0 _ rfl; have hx1f0 := blk_frozen hx1 0; have hx1c1 := blk_cell hx1 1 _ rfl; have hx1f1 := blk_frozen hx1 1; have hx1c2 := blk_cell hx1 2 _ rfl; have hx1f2 := blk_frozen hx1 2; have hx1l := blk_lt hx1; clear hb_))
      go_ret
      exact ⟨rfl, below_seq HBW.out HB1.out⟩
    by_cases h2 : n2 = n1
    case neg =>
      obtain rfl : b = false := by rw [← hb2, decide_eq_false h2]; simp
      have h3 : ((n2 : Int) != (n1 : Int)) = true := by simp; omega
      clear hb2
      go_enter Tryd.func9, Tryd.ntmps9
      go_upto_region 1 with fail
      clear hW0
      have hxc0 := blk_cell hx 0 _ rfl; have hxf0 := blk_frozen hx 0; have hxc1 := blk_cell hx 1 _ rfl; have hxf1 := blk_frozen hx 1; have hxc2 := blk_cell hx 2 _ rfl; have hxf2 := blk_frozen hx 2; have hxl := blk_lt hx
      go_wp2_with (go_at_call 21; go_must (refine Calls.mono HJ.out ?_; rintro e w1 ⟨rfl, hb_⟩; have HB1 := Hd.mk hb_; have hx1 := blk_below hx hb_; clear hxc0 hxf0 hxc1 hxf1 hxc2 hxf2 hxl; have hx1c0 := blk_cell hx1 0 _ rfl; have hx1f0 := blk_frozen hx1 0; have hx1c1 := blk_cell hx1 1 _ rfl; have hx1f1 := blk_frozen hx1 1; have hx1c2 := blk_cell hx1 2 _ rfl; have hx1f2 := blk_frozen hx1 2; have hx1l := blk_lt hx1; clear hb_))
      go_ret
      exact ⟨rfl, below_seq HBW.out HB1.out⟩
    have HBb : Hd ((l.acts.all (actB n1) && l.dfas.all (dfaB n3)) = b) := ⟨by rw [← hb2, decide_eq_true h1, decide_eq_true h2, decide_eq_true g1, decide_eq_true g2]; simp⟩
    clear hb2
    subst h2
    have h3 : ((n2 : Int) != (n2 : Int)) = false := by simp
    go_enter Tryd.func9, Tryd.ntmps9
    go_upto_region 1 with fail
    clear hW0
    have hxc0 := blk_cell hx 0 _ rfl; have hxf0 := blk_frozen hx 0; have hxc1 := blk_cell hx 1 _ rfl; have hxf1 := blk_frozen hx 1; have hxc2 := blk_cell hx 2 _ rfl; have hxf2 := blk_frozen hx 2; have hxl := blk_lt hx
    go_wp2_with (go_at_call 21; go_must (refine Calls.mono HJ.out ?_; rintro e w1 ⟨rfl, hb_⟩; have HB1 := Hd.mk hb_; have hx1 := blk_below hx hb_; clear hxc0 hxf0 hxc1 hxf1 hxc2 hxf2 hxl; have hx1c0 := blk_cell hx1 0 _ rfl; have hx1f0 := blk_frozen hx1 0; have hx1c1 := blk_cell hx1 1 _ rfl; have hx1f1 := blk_frozen hx1 1; have hx1c2 := blk_cell hx1 2 _ rfl; have hx1f2 := blk_frozen hx1 2; have hx1l := blk_lt hx1; clear hb_))
    clear HJ hx1c0 hx1f0 hx1c1 hx1f1 hx1c2 hx1f2 hx1l hx hx1
    go_loopw [3] (fun i wr => ∃ k : Nat, k ≤ n3 ∧ i = .int .i64 k ∧ Hd ((l.acts.take k).all (actB n2) = true) ∧ Hd (Below W0.heap.size W0 wr)) (fun i _ => n3 - (intOf i).toNat)
    case atStart => exact ⟨0, Nat.zero_le _, rfl, ⟨by simp⟩, HB1⟩
    case round =>
      obtain ⟨k, hk, rfl, HK, HB⟩ := hrel
      have hx2 := blk_below HX.out HB.out
      by_cases hlt : k < n3
      · obtain ⟨b9, off, s, g, rfl, hb9, -, ht, hc, hc2⟩ := act_get (HLW.out.below HB.out).acts k hlt
        have HT := Hd.mk ht
        have HSZ : Hd (s.size ≤ 9223372036854775807) := ⟨HLW.out.sza _ (List.mem_of_getElem? ht)⟩
        clear ht
        cases hp : actB n2 (s, g) with
        | true =>
          have HJ : Hd (∀ W, Calls Tryd.prog 22 #[.agg #[.string s, .int .i64 g], .slice A1 n2 c1] W _) := ⟨fun W => r17Right_calls A1 n2 c1 s g true W hm1 HSZ.out hp⟩
          have HAN : Hd ((l.acts.take (k + 1)).all (actB n2) = true) := ⟨by rw [all_snoc HT.out, HK.out, hp]; rfl⟩
          clear hp
          have hx2c0 := blk_cell hx2 0 _ rfl; have hx2f0 := blk_frozen hx2 0; have hx2c1 := blk_cell hx2 1 _ rfl; have hx2f1 := blk_frozen hx2 1; have hx2c2 := blk_cell hx2 2 _ rfl; have hx2f2 := blk_frozen hx2 2; have hx2l := blk_lt hx2
          go_wp2
          refine wp_region_can (.q [0, 1, 2, 3, 4, 5, 6] (.e 7 false (.q [8] (.done)))) (clsB _) (by kernel_rfl) (by kernel_rfl) (by intro _ _ d _ _ h; cases d <;> exact h) (clsB_drew _) ?_
          refine can_q (l := [⟨_,_,_,_,_,_⟩, ⟨_,_,_,_,_,_⟩, ⟨_,_,_,_,_,_⟩, ⟨_,_,_,_,_,_⟩, ⟨_,_,_,_,_,_⟩, ⟨_,_,_,_,_,_⟩, ⟨_,_,_,_,_,_⟩]) rfl ?_
          repeat (go_big_quiet_step (fail))
          refine wpQuiet_nil ?_
          refine can_e (o := ⟨_,_,_,_,_,_⟩) rfl (fun K hK => ?_)
          go_wp2_with (go_at_call 22; go_must (refine Calls.mono (HJ.out _) ?_; rintro e w2 ⟨rfl, hb_⟩; have HB2 := Hd.mk (below_seq HB.out (below_undrew hb_)); clear hb_))
          refine onK_normal (hK _ _ ⟨fun _ => True, trivial, (fun h => by cases h), ?_⟩)
          clear hK K
          refine can_q (l := [⟨_,_,_,_,_,_⟩]) rfl ?_
          repeat (go_big_quiet_step (fail))
          refine wpQuiet_nil ?_
          refine can_done ?_
          go_wp2
          go_roundw
          case rel => exact ⟨k + 1, by omega, by go_num, HAN, HB2⟩
          case measure => simp [intOf]; omega
        | false =>
          have HJ : Hd (∀ W, Calls Tryd.prog 22 #[.agg #[.string s, .int .i64 g], .slice A1 n2 c1] W _) := ⟨fun W => r17Right_calls A1 n2 c1 s g false W hm1 HSZ.out hp⟩
          obtain rfl : b = false := by rw [← HBb.out, all_not HT.out hp]; rfl
          clear hp
          have hx2c0 := blk_cell hx2 0 _ rfl; have hx2f0 := blk_frozen hx2 0; have hx2c1 := blk_cell hx2 1 _ rfl; have hx2f1 := blk_frozen hx2 1; have hx2c2 := blk_cell hx2 2 _ rfl; have hx2f2 := blk_frozen hx2 2; have hx2l := blk_lt hx2
          go_wp2
          refine wp_region_can (.q [0, 1, 2, 3, 4, 5, 6] (.e 7 false (.q [8] (.done)))) (clsB _) (by kernel_rfl) (by kernel_rfl) (by intro _ _ d _ _ h; cases d <;> exact h) (clsB_drew _) ?_
          refine can_q (l := [⟨_,_,_,_,_,_⟩, ⟨_,_,_,_,_,_⟩, ⟨_,_,_,_,_,_⟩, ⟨_,_,_,_,_,_⟩, ⟨_,_,_,_,_,_⟩, ⟨_,_,_,_,_,_⟩, ⟨_,_,_,_,_,_⟩]) rfl ?_
          repeat (go_big_quiet_step (fail))
          refine wpQuiet_nil ?_
          refine can_e (o := ⟨_,_,_,_,_,_⟩) rfl (fun K hK => ?_)
          go_wp2_with (go_at_call 22; go_must (refine Calls.mono (HJ.out _) ?_; rintro e w2 ⟨rfl, hb_⟩; have HB2 := Hd.mk (below_seq HB.out (below_undrew hb_)); clear hb_))
          refine onK_normal (hK _ _ ⟨fun _ => True, trivial, (fun h => by cases h), ?_⟩)
          clear hK K
          refine can_q (l := [⟨_,_,_,_,_,_⟩]) rfl ?_
          repeat (go_big_quiet_step (fail))
          refine wpQuiet_nil ?_
          refine can_done ?_
          go_wp2
          go_ret
          exact ⟨rfl, below_seq HBW.out HB2.out⟩
      · obtain rfl : k = n3 := by omega
        have HBd : Hd (l.dfas.all (dfaB k) = b) := ⟨by rw [← HBb.out]; have := HK.out; rw [Df.take_all HN3.out] at this; rw [this, Bool.true_and]⟩
        clear HBb HK
        have hx2c0 := blk_cell hx2 0 _ rfl; have hx2f0 := blk_frozen hx2 0; have hx2c1 := blk_cell hx2 1 _ rfl; have hx2f1 := blk_frozen hx2 1; have hx2c2 := blk_cell hx2 2 _ rfl; have hx2f2 := blk_frozen hx2 2; have hx2l := blk_lt hx2
        go_wp2
        clear hx2c0 hx2f0 hx2c1 hx2f1 hx2c2 hx2f2 hx2l hx2
        have HBr := HB
        clear HB
        rename World => wO
        go_loopw [4] (fun i wr => ∃ j : Nat, j ≤ n2 ∧ i = .int .i64 j ∧ Hd ((l.dfas.take j).all (dfaB k) = true) ∧ Hd (Below W0.heap.size W0 wr)) (fun i _ => n2 - (intOf i).toNat)
        case atStart => exact ⟨0, Nat.zero_le _, rfl, ⟨by simp⟩, HBr⟩
        case round =>
          obtain ⟨j, hj, rfl, HK, HB⟩ := hrel
          have hx2 := blk_below HX.out HB.out
          by_cases hlt : j < n2
          · obtain ⟨b9, off, d, B1, B2, B3, e1, e2, e3, rfl, hb9, ht, hc0, hc1, hc2, hc3, hc4, hd⟩ := d_get (HLW.out.below HB.out).lt (HLW.out.below HB.out).dfas j hlt
            have HT := Hd.mk ht
            have HD0 := Hd.mk hd
            have HDN := Hd.mk hd.tag.1
            clear ht hd
            obtain ⟨m1, hm1'⟩ : ∃ x, d.cls.length = x := ⟨_, rfl⟩
            obtain ⟨m2, hm2'⟩ : ∃ x, d.nxt.length = x := ⟨_, rfl⟩
            obtain ⟨m3, hm3'⟩ : ∃ x, d.tag.length = x := ⟨_, rfl⟩
            have HR : Hd (∀ W, Below wr.heap.size wr W → _) := ⟨fun W hb => Df.rdright_calls B1 B2 B3 d.cls.length d.nxt.length d.tag.length e1 e2 e3 d S W (HD0.out.below hb)⟩
            have HTg : Hd (∀ W, Below wr.heap.size wr W → _) := ⟨fun W hb => Df.rtag_calls B1 B2 B3 d.cls.length d.nxt.length d.tag.length e1 e2 e3 d S d.st W (HD0.out.below hb)⟩
            obtain ⟨wd, hwd⟩ : ∃ x, d.wid = x := ⟨_, rfl⟩
            obtain ⟨st, hst⟩ : ∃ x, d.st = x := ⟨_, rfl⟩
            have HTG : Hd (Df.tagD d d.st = Df.tagD d st) := ⟨by rw [hst]⟩
            rw [hm1', hm2', hm3', hwd, hst] at HR HTg
            rw [hm1', hm2', hm3'] at HD0
            rw [hm1'] at hc0
            rw [hwd] at hc1
            rw [hm2'] at hc2
            rw [hm3'] at hc3
            rw [hst] at hc4
            have HST := Hd.mk hst
            clear hm1' hm2' hm3' hwd hst HDN
            have hle1 := HD0.out.cls.le; have hle2 := HD0.out.nxt.le; have hle3 := HD0.out.tag.le
            have HL3 := Hd.mk HD0.out.tag.1
            have hx2c0 := blk_cell hx2 0 _ rfl; have hx2f0 := blk_frozen hx2 0; have hx2c1 := blk_cell hx2 1 _ rfl; have hx2f1 := blk_frozen hx2 1; have hx2c2 := blk_cell hx2 2 _ rfl; have hx2f2 := blk_frozen hx2 2; have hx2l := blk_lt hx2
            go_upto_region 12 with fail
            generalize hU : World.alloc wr _ = U
            have hBU : Below wr.heap.size wr U := by rw [← hU]; exact below_alloc (Below.refl _ _) _
            have hq : U.heap[wr.heap.size]? = some (.cells #[.slice B1 m1 e1, .int .i64 wd, .slice B2 m2 e2, .slice B3 m3 e3, .int .i64 st] 47 (0, 0)) := by rw [← hU]; exact blk_new _ _ _ rfl
            have HX3 := Hd.mk (blk_below hx2 hBU)
            clear hx2c0 hx2f0 hx2c1 hx2f1 hx2c2 hx2f2 hx2l
            clear hU hc0 hc1 hc2 hc3 hc4 hx2
            have HBU := Hd.mk hBU
            clear hBU
            have hqc0 := blk_cell hq 0 _ rfl; have hqf0 := blk_frozen hq 0; have hqc1 := blk_cell hq 1 _ rfl; have hqf1 := blk_frozen hq 1; have hqc2 := blk_cell hq 2 _ rfl; have hqf2 := blk_frozen hq 2; have hqc3 := blk_cell hq 3 _ rfl; have hqf3 := blk_frozen hq 3; have hqc4 := blk_cell hq 4 _ rfl; have hqf4 := blk_frozen hq 4; have hql := blk_lt hq
            have hr : ∀ P : Prop, (P → dfaB k d = false) → P → b = false := fun P h hp => by rw [← HBd.out]; exact all_not HT.out (h hp)
            have HF := Hd.mk hr
            clear hr
            by_cases hok : Df.okD d
            case neg =>
              have HJ := Hd.mk (HR.out U HBU.out)
              rw [decide_eq_false hok] at HJ
              obtain rfl := HF.out _ (fun h => by unfold dfaB; rw [decide_eq_false h]; rfl) hok
              clear hok
              go_wp2_with (go_at_call 23; go_must (refine Calls.mono HJ.out ?_; rintro e w2 ⟨rfl, hb_⟩; have HB2 := Hd.mk (below_seq HBU.out hb_); clear hb_))
              go_ret
              exact ⟨rfl, below_seq HBW.out (below_seq HB.out HB2.out)⟩
            have HJ := Hd.mk (HR.out U HBU.out)
            rw [decide_eq_true hok] at HJ
            have HOK := Hd.mk hok
            clear hok HR
            obtain ⟨t, ht⟩ : ∃ t, Df.tagD d st = t := ⟨_, rfl⟩
            rw [ht] at HTg
            have HTT : Hd (Df.tagD d d.st = t) := ⟨by rw [HTG.out, ht]⟩
            clear ht
            by_cases htn : t < 0
            case neg =>
              obtain rfl := HF.out _ (fun h => by unfold dfaB; have e9 : decide (Df.tagD d d.st < 0) = false := decide_eq_false (by rw [HTT.out]; exact h); rw [e9, Bool.and_false, Bool.false_and]) htn
              go_wp2_with (first
                | (go_at_call 23; go_must (refine Calls.mono HJ.out ?_; rintro e w2 ⟨rfl, hb_⟩; have HB2 := Hd.mk (below_seq HBU.out hb_); have hq2 := blk_below hq hb_; clear hqc0 hqf0 hqc1 hqf1 hqc2 hqf2 hqc3 hqf3 hqc4 hqf4 hql; have hq2c0 := blk_cell hq2 0 _ rfl; have hq2f0 := blk_frozen hq2 0; have hq2c1 := blk_cell hq2 1 _ rfl; have hq2f1 := blk_frozen hq2 1; have hq2c2 := blk_cell hq2 2 _ rfl; have hq2f2 := blk_frozen hq2 2; have hq2c3 := blk_cell hq2 3 _ rfl; have hq2f3 := blk_frozen hq2 3; have hq2c4 := blk_cell hq2 4 _ rfl; have hq2f4 := blk_frozen hq2 4; have hq2l := blk_lt hq2; clear hb_))
                | (go_at_call 24; go_must (refine Calls.mono (HTg.out _ HB2.out) ?_; rintro e w3 ⟨rfl, hb_⟩; have HB3 := Hd.mk (below_seq HB2.out hb_); clear hb_)))
              go_ret
              exact ⟨rfl, below_seq HBW.out (below_seq HB.out HB3.out)⟩
            go_wp2_with (first
              | (go_at_call 23; go_must (refine Calls.mono HJ.out ?_; rintro e w2 ⟨rfl, hb_⟩; have HB2 := Hd.mk (below_seq HBU.out hb_); have HX2 := Hd.mk (blk_below HX3.out hb_); have hq2 := blk_below hq hb_; clear hqc0 hqf0 hqc1 hqf1 hqc2 hqf2 hqc3 hqf3 hqc4 hqf4 hql; have hq2c0 := blk_cell hq2 0 _ rfl; have hq2f0 := blk_frozen hq2 0; have hq2c1 := blk_cell hq2 1 _ rfl; have hq2f1 := blk_frozen hq2 1; have hq2c2 := blk_cell hq2 2 _ rfl; have hq2f2 := blk_frozen hq2 2; have hq2c3 := blk_cell hq2 3 _ rfl; have hq2f3 := blk_frozen hq2 3; have hq2c4 := blk_cell hq2 4 _ rfl; have hq2f4 := blk_frozen hq2 4; have hq2l := blk_lt hq2; clear hb_))
              | (go_at_call 24; go_must (refine Calls.mono (HTg.out _ HB2.out) ?_; rintro e w3 ⟨rfl, hb_⟩; have HB3 := Hd.mk (below_seq HB2.out hb_); have hq3 := blk_below hq2 hb_; have HQ3 := Hd.mk hq3; have HX4 := Hd.mk (blk_below HX2.out hb_); clear hq2c0 hq2f0 hq2c1 hq2f1 hq2c2 hq2f2 hq2c3 hq2f3 hq2c4 hq2f4 hq2l; clear hb_)))
            have HQL := Hd.mk (blk_lt HQ3.out)
            clear HTg HJ hq hq2 hq3 HX2 HX3
            obtain ⟨wq, rfl⟩ : ∃ x, x = wr := ⟨_, rfl⟩
            go_loopw [6] (fun i wr => ∃ q : Nat, q ≤ m3 ∧ i = .int .i64 q ∧ Hd ((d.tag.take q).all (fun t => decide (t < k)) = true) ∧ Hd (Below w3.heap.size w3 wr)) (fun i _ => m3 - (intOf i).toNat)
            case atStart => exact ⟨0, Nat.zero_le _, rfl, ⟨by simp⟩, ⟨Below.refl _ _⟩⟩
            case round =>
              obtain ⟨q, hq, rfl, HK2, HB4⟩ := hrel
              have hq5 := blk_below HQ3.out HB4.out
              have hx5 := blk_below HX4.out HB4.out
              have HB5 := Hd.mk (below_seq HB3.out HB4.out)
              have hq5c0 := blk_cell hq5 0 _ rfl; have hq5f0 := blk_frozen hq5 0; have hq5c1 := blk_cell hq5 1 _ rfl; have hq5f1 := blk_frozen hq5 1; have hq5c2 := blk_cell hq5 2 _ rfl; have hq5f2 := blk_frozen hq5 2; have hq5c3 := blk_cell hq5 3 _ rfl; have hq5f3 := blk_frozen hq5 3; have hq5c4 := blk_cell hq5 4 _ rfl; have hq5f4 := blk_frozen hq5 4; have hq5l := blk_lt hq5
              have hx5c0 := blk_cell hx5 0 _ rfl; have hx5f0 := blk_frozen hx5 0; have hx5c1 := blk_cell hx5 1 _ rfl; have hx5f1 := blk_frozen hx5 1; have hx5c2 := blk_cell hx5 2 _ rfl; have hx5f2 := blk_frozen hx5 2; have hx5l := blk_lt hx5
              by_cases hlt2 : q < m3
              · obtain ⟨b2, o2, t9, rfl, -, hb2, ht9, hy2⟩ := (HD0.out.below HB5.out).tag.get_int q hlt2
                have HT9 := Hd.mk ht9
                clear ht9
                by_cases hge : t9 < k
                · have HAN : Hd ((d.tag.take (q + 1)).all (fun t => decide (t < k)) = true) := ⟨by rw [all_snoc HT9.out, HK2.out, decide_eq_true hge]; rfl⟩
                  go_wp2
                  refine wp_region_can (.q [0, 1, 2, 3, 4, 5, 6, 7, 8] (.done)) (clsB _) (by kernel_rfl) (by kernel_rfl) (by intro _ _ d _ _ h; cases d <;> exact h) (clsB_drew _) ?_
                  refine can_q (l := [⟨_,_,_,_,_,_⟩, ⟨_,_,_,_,_,_⟩, ⟨_,_,_,_,_,_⟩, ⟨_,_,_,_,_,_⟩, ⟨_,_,_,_,_,_⟩, ⟨_,_,_,_,_,_⟩, ⟨_,_,_,_,_,_⟩, ⟨_,_,_,_,_,_⟩, ⟨_,_,_,_,_,_⟩]) rfl ?_
                  repeat (go_big_quiet_step (fail))
                  refine wpQuiet_nil ?_
                  refine can_done ?_
                  go_wp2
                  go_roundw
                  case rel => exact ⟨q + 1, by omega, by go_num, HAN, ⟨below_drew1 HB4.out⟩⟩
                  case measure => simp [intOf]; omega
                · obtain rfl := HF.out _ (fun h => by unfold dfaB; rw [all_not HT9.out (decide_eq_false h), Bool.and_false]) hge
                  go_wp2
                  refine wp_region_can (.q [0, 1, 2, 3, 4, 5, 6, 7, 8] (.done)) (clsB _) (by kernel_rfl) (by kernel_rfl) (by intro _ _ d _ _ h; cases d <;> exact h) (clsB_drew _) ?_
                  refine can_q (l := [⟨_,_,_,_,_,_⟩, ⟨_,_,_,_,_,_⟩, ⟨_,_,_,_,_,_⟩, ⟨_,_,_,_,_,_⟩, ⟨_,_,_,_,_,_⟩, ⟨_,_,_,_,_,_⟩, ⟨_,_,_,_,_,_⟩, ⟨_,_,_,_,_,_⟩, ⟨_,_,_,_,_,_⟩]) rfl ?_
                  repeat (go_big_quiet_step (fail))
                  refine wpQuiet_nil ?_
                  refine can_done ?_
                  go_wp2
                  go_ret
                  exact ⟨rfl, below_drew1 (below_seq HBW.out (below_seq HB.out HB5.out))⟩
              · obtain rfl : q = m3 := by omega
                have HAN : Hd ((l.dfas.take (j + 1)).all (dfaB k) = true) := ⟨by
                  rw [all_snoc HT.out, HK.out, Bool.true_and]; unfold dfaB
                  have h1 := HK2.out; rw [Df.take_all HL3.out] at h1
                  rw [decide_eq_true HOK.out, decide_eq_true (by rw [HTT.out]; exact htn), h1]; rfl⟩
                go_wp2
                go_roundw
                case rel => exact ⟨j + 1, by omega, by go_num, HAN, ⟨below_seq HB.out HB5.out⟩⟩
                case measure => simp [intOf]; omega
          · obtain rfl : j = n2 := by omega
            obtain rfl : b = true := by rw [← HBd.out]; have := HK.out; rwa [Df.take_all HN2.out] at this
            have hx2c0 := blk_cell hx2 0 _ rfl; have hx2f0 := blk_frozen hx2 0; have hx2c1 := blk_cell hx2 1 _ rfl; have hx2f1 := blk_frozen hx2 1; have hx2c2 := blk_cell hx2 2 _ rfl; have hx2f2 := blk_frozen hx2 2; have hx2l := blk_lt hx2
            go_wp2
            go_ret
            exact ⟨rfl, below_seq HBW.out HB.out⟩
end Go.Proofs.YtpcnekdilecakaaDoor.Tb
