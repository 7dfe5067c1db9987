/- Texts: E13. -/
import Derived.Test.YtbmpaokicphdjaaDoorEC
set_option linter.unusedVariables false
set_option linter.unusedSimpArgs false
/- The reference's Build. -/
namespace Go.Proofs.YtbmpaokicphdjaaDoor.Fn
open Go Go.RowKit Go.Proofs.YtbmpaokicphdjaaDoor.Can Go.Proofs.YtbmpaokicphdjaaDoor.Base
attribute [local go_sem] clsB AB.cell clsX AX.cell

theorem addM_none {all : List (List Bool)} {x : List Bool} (h : ¬ true ∈ x) : addM all x = (all, -1) := by unfold addM; rw [if_neg h]
theorem addM_old {all : List (List Bool)} {x : List Bool} (h : true ∈ x) (hx : x ∈ all) : addM all x = (all, ((all.idxOf x : Nat) : Int)) := by unfold addM; rw [if_pos h, if_pos hx]
theorem addM_new {all : List (List Bool)} {x : List Bool} (h : true ∈ x) (hx : ¬ x ∈ all) : addM all x = (all ++ [x], ((all.length : Nat) : Int)) := by unfold addM; rw [if_pos h, if_neg hx]
theorem add_len_le (all : List (List Bool)) (x : List Bool) : (addM all x).1.length ≤ all.length + 1 := by
  unfold addM
  split
  · split
    · exact Nat.le_succ _
    · simp
  · exact Nat.le_succ _
theorem row_len_le (q : List St) (m : List Bool) (fs : List Nat) (all : List (List Bool)) : (rowM q m fs all).1.length ≤ all.length + fs.length := by
  refine list_snoc_ind (P := fun fs => (rowM q m fs all).1.length ≤ all.length + fs.length) (Nat.le_refl _) (fun l c ih => ?_) fs
  rw [rowM_snoc, List.length_append]
  have := add_len_le (rowM q m l all).1 (stepM q c m)
  show (addM (rowM q m l all).1 (stepM q c m)).1.length ≤ _
  simp only [List.length_singleton]
  omega
theorem upX {Z1 : Nat → Nat → Prop} {c : Nat} {S X : Nat → Prop} (h : ∀ i b, Z1 i b → X b) (hs : ∀ b, S b → X b) : ∀ i b, upZ Z1 c S i b → X b := fun i b hb => by
  by_cases hi : i = c
  · subst hi
    rw [upZ_same] at hb
    exact hs b hb
  · rw [upZ_ne _ hi] at hb
    exact h i b hb
theorem own_up {v v' : Value} {m : Nat} {X : Nat → Prop} (hat : v'.ownBlock = v.ownBlock ∨ v'.ownBlock = some m) (hv : ∀ b, v.ownBlock = some b → X b) (hm : X m) : ∀ b, v'.ownBlock = some b → X b := fun b hb => by
  rcases hat with h | h
  · exact hv b (h ▸ hb)
  · rw [h] at hb; cases hb; exact hm

set_option maxRecDepth 20000 in
set_option maxHeartbeats 8000000 in
theorem rbuild_calls (st : Int) (A : Option Addr) (n c : Nat) (q : List St) (S : Nat → Prop) (most : Int) (w : World) (hn : q.length = n) (hN : NF w S A q) (hok : okN st q) (hn6 : n ≤ 65536) (hm1 : 0 ≤ most) (hm2 : most ≤ 1024) :
    Calls Tryd.prog 60 #[.agg #[.int .i64 st, .slice A n c], .int .i64 most] w fun e w' => RQ st q most w e w' ∧ Below w.heap.size w w' := by
  have HNF : Hd (∀ {W : World}, Below w.heap.size w W → NF W S A q) := ⟨fun hb => hN.below hb⟩
  have HSL := Hd.mk hN.lt
  have HN := Hd.mk hn; have HOK := Hd.mk hok
  clear hN hn hok
  go_enter Tryd.func60, Tryd.ntmps60
  go_wp2
  generalize hV : World.alloc (World.alloc w _) _ = V
  have HXV : Hd (V.heap[w.heap.size]? = some (.cells #[.int .i64 st, .slice A n c] 58 (0, 0))) := ⟨by rw [← hV]; exact blk_alloc (blk_new _ _ _ rfl) _⟩
  have HYV : Hd (V.heap[w.heap.size + 1]? = some (.cells #[.slice none 0 0, .int .i64 0, .slice none 0 0, .slice none 0 0, .int .i64 0] 90 (0, 0))) := ⟨by rw [← hV]; exact blk_new _ _ _ (by rw [size_alloc])⟩
  have HBV : Hd (Below w.heap.size w V) := ⟨by rw [← hV]; exact below_alloc (below_alloc (Below.refl _ _) _) _⟩
  have hzV : w.heap.size + 2 = V.heap.size := by rw [← hV, size_alloc, size_alloc]
  have HZV := Hd.mk hzV
  clear hV hzV
  go_loopw [6, 7] (fun v i wr => ∃ (k n9 c9 : Nat) (A9 : Option Addr), k ≤ n ∧ i = .int .i64 k ∧ v = .slice A9 n9 c9 ∧ Hd (Mine Al.rT wr V.heap.size 124 (.slice A9 n9 c9) (rgs (q.take k))) ∧ Hd (Below V.heap.size V wr)) (fun _ i _ => n - (intOf i).toNat)
  case atStart => exact ⟨0, 0, 0, none, Nat.zero_le _, rfl, rfl, ⟨Mine.nil _ _ _ _⟩, ⟨Below.refl _ _⟩⟩
  case round =>
    obtain ⟨k, n9, c9, A9, hk, rfl, rfl, HM, HB⟩ := hrel
    have hxr := blk_below HXV.out HB.out
    have hxrc0 := blk_cell hxr 0 _ rfl; have hxrf0 := blk_frozen hxr 0; have hxrc1 := blk_cell hxr 1 _ rfl; have hxrf1 := blk_frozen hxr 1; have hxrl := blk_lt hxr
    by_cases hlt : k < n
    · have hrow := (HNF.out (below_seq HBV.out HB.out)).row
      rw [HN.out] at hrow
      obtain ⟨b, off, x, A', c', rfl, hb, hx, hc0, hc1, -, -, -, -⟩ := st_get hrow k hlt
      have HTK : Hd (q.take (k + 1) = q.take k ++ [x]) := ⟨Df.take_snoc hx⟩
      obtain ⟨L, hL⟩ : ∃ L, rgs (q.take k) = L := ⟨_, rfl⟩
      rw [hL] at HM
      have HLL : Hd (L.length ≤ 65536) := ⟨by rw [← hL]; unfold rgs; rw [List.length_map]; refine Nat.le_trans (List.length_filter_le _ _) ?_; rw [List.length_take]; omega⟩
      have HR1 : Hd (rgs (q.take (k + 1)) = if 0 ≤ x.lo then L ++ [⟨x.lo, x.hi⟩] else L) := ⟨by rw [HTK.out, rgs_snoc, hL]⟩
      clear hrow hx hL
      by_cases g1 : 0 ≤ x.lo
      case neg =>
        have HR2 : Hd (rgs (q.take (k + 1)) = L) := ⟨by rw [HR1.out, if_neg g1]⟩
        clear HR1
        go_wp2
        go_roundw
        case rel => exact ⟨k + 1, n9, c9, A9, by omega, by go_num, rfl, ⟨by rw [HR2.out]; exact HM.out⟩, HB⟩
        case measure => simp [intOf]; omega
      have HR2 : Hd (rgs (q.take (k + 1)) = L ++ [⟨x.lo, x.hi⟩]) := ⟨by rw [HR1.out, if_pos g1]⟩
      clear HR1
      go_wp2
      refine wp_region_can (.q [0, 1, 2, 3, 4, 5, 6, 7, 8, 9, 10, 11, 12, 13] (.e 14 false (.e 15 false (.q [16] (.done))))) (clsB _) (by kernel_rfl) (by kernel_rfl) (by intro _ _ d _ _ h; cases d <;> exact h) (clsB_drew _) ?_
      refine can_q (l := [⟨_,_,_,_,_,_⟩, ⟨_,_,_,_,_,_⟩, ⟨_,_,_,_,_,_⟩, ⟨_,_,_,_,_,_⟩, ⟨_,_,_,_,_,_⟩, ⟨_,_,_,_,_,_⟩, ⟨_,_,_,_,_,_⟩, ⟨_,_,_,_,_,_⟩, ⟨_,_,_,_,_,_⟩, ⟨_,_,_,_,_,_⟩, ⟨_,_,_,_,_,_⟩, ⟨_,_,_,_,_,_⟩, ⟨_,_,_,_,_,_⟩, ⟨_,_,_,_,_,_⟩]) rfl ?_
      repeat (go_big_quiet_step (fail))
      refine wpQuiet_nil ?_
      refine can_e (o := ⟨_,_,_,_,_,_⟩) rfl (fun K hK => ?_)
      go_wp2_with fail
      refine onK_normal (hK _ _ ⟨fun _ => True, trivial, (fun h => by cases h), ?_⟩)
      clear hK K
      refine can_e (o := ⟨_,_,_,_,_,_⟩) rfl (fun K hK => ?_)
      go_wp2_with (at_builtin; go_must (refine append_snoc Al.rT rT_flat rfl (.tmp 32) (.tmp 46) 121 124 _ 16 rfl Tryd.underlying121 infoRg rfl (by decide) (by decide) V.heap.size (.slice A9 n9 c9) L ⟨x.lo, x.hi⟩ [.int .i64 x.lo, .int .i64 x.hi] wr.heap.size rfl rfl (blk_drew (blk_new wr _ _ rfl)) rfl ((HM.out.below (below_alloc (Below.refl _ _) _)).below (below_drew1 (Below.refl _ _))) (HM.out.ne_new (Nat.le_refl _)) (by rw [size_drew, size_alloc]; have := HB.out.size; omega) (by have := HLL.out; omega) ?_; intro v2 w7 hM7 hb7 hk7 hat7; have HM7 := Hd.mk hM7; have HB7 := Hd.mk hb7; clear hM7 hb7 hk7 hat7))
      refine onK_normal (hK _ _ ⟨fun _ => True, trivial, (fun h => by cases h), ?_⟩)
      clear hK K
      refine can_q (l := [⟨_,_,_,_,_,_⟩]) rfl ?_
      repeat (go_big_quiet_step (fail))
      refine wpQuiet_nil ?_
      refine can_done ?_
      obtain ⟨A7, n7, c7, rfl, -, -, -, -⟩ := HM7.out.formN
      go_wp2
      go_roundw
      case rel => exact ⟨k + 1, n7, c7, A7, by omega, by go_num, rfl, ⟨by rw [HR2.out]; exact HM7.out⟩, ⟨(below_drew1 (HB.out.alloc HB.out.size _)).trans HB7.out⟩⟩
      case measure => simp [intOf]; omega
    · obtain rfl : k = n := by omega
      obtain ⟨An, nn, cn, en, hnn, -, -, hrw⟩ := HM.out.formN
      cases en
      rw [Df.take_all HN.out] at hrw
      obtain ⟨wid, hwid⟩ : ∃ m, (Al.met (Al.keyF (rgs q)) 256).length = m := ⟨_, rfl⟩
      have HWID := Hd.mk hwid
      have HRO := Hd.mk (fun (W : World) (hb : Below wr.heap.size wr W) => Al.rof_calls A9 n9 c9 (rgs q) _ W (fun k hk => Nat.lt_of_lt_of_le hk.2 hb.size) (hrw.below (fun k hk => hk.2) hb))
      rw [hwid] at HRO
      have hwm : wid ≤ 256 := by rw [← hwid]; exact Al.met_len _ _
      clear hrw hnn HM hwid
      go_upto_region 11 with (go_at_call 91; go_must (refine Calls.mono (HRO.out _ (below_alloc (Below.refl wr.heap.size wr) _)) ?_; rintro e w4 ⟨A1, n1, c1, rfl, hr_, hb_⟩; have HR1 := Hd.mk hr_; have HB4 := Hd.mk hb_; have hp4 := blk_below (blk_new wr (.cells #[.slice none 0 0, .int .i64 0, .slice none 0 0, .slice none 0 0, .int .i64 0] 90) _ rfl) hb_; have hp4c0 := blk_cell hp4 0 _ rfl; have hp4f0 := blk_frozen hp4 0; have hp4c1 := blk_cell hp4 1 _ rfl; have hp4f1 := blk_frozen hp4 1; have hp4c2 := blk_cell hp4 2 _ rfl; have hp4f2 := blk_frozen hp4 2; have hp4c3 := blk_cell hp4 3 _ rfl; have hp4f3 := blk_frozen hp4 3; have hp4c4 := blk_cell hp4 4 _ rfl; have hp4f4 := blk_frozen hp4 4; have hp4l := blk_lt hp4; clear hr_ hb_))
      have hpn : wr.heap.size + 1 ≤ w4.heap.size := by have := HB4.out.size; rwa [size_alloc] at this
      obtain ⟨p, hp⟩ : ∃ p, wr.heap.size = p := ⟨_, rfl⟩
      generalize hV4 : World.setCell _ _ _ = V4
      have hz4 : w4.heap.size = V4.heap.size := by rw [← hV4, size_set, size_set]
      have HP4 : Hd (V4.heap[p]? = some (.cells #[.slice A1 n1 c1, .int .i64 (wid : Nat), .slice none 0 0, .slice none 0 0, .int .i64 0] 90 (0, 0))) := ⟨by rw [← hV4, ← hp]; exact blk_set (blk_set hp4 0 _ _ rfl) 1 _ _ rfl⟩
      have HRC4 : Hd (Row I V4 (fun k => p + 1 ≤ k ∧ k < V4.heap.size) A1 n1 (Al.clsL (Al.keyF (rgs q)) 256)) := ⟨by
        have h9 := HR1.out
        rw [size_alloc] at h9
        rw [← hV4, ← hp]
        refine (h9.move fun b hb => ?_).mono fun b hb => ⟨hb.1, by rw [size_set, size_set]; exact hb.2⟩
        exact (Below.heap_setCell _ _ _ _ (by show ¬ b = wr.heap.size; omega)).trans (Below.heap_setCell _ _ _ _ (by show ¬ b = wr.heap.size; omega))⟩
      have HBV4 : Hd (Below V.heap.size V V4) := ⟨by
        rw [← hV4]
        exact below_set (below_set (below_seq HB.out (below_seq (below_alloc (Below.refl _ _) _) HB4.out)) HB.out.size _ _) HB.out.size _ _⟩
      have hpV : V.heap.size ≤ p := by rw [← hp]; exact HB.out.size
      have hp4' : p < V4.heap.size := by omega
      clear hp4c0 hp4f0 hp4c1 hp4f1 hp4c2 hp4f2 hp4c3 hp4f3 hp4c4 hp4f4 hp4l
      rw [hp]
      clear hV4 hp4 HR1 HB4 hp HRO
      clear HB
      have hob := HP4.out
      have hx4 := blk_below HXV.out HBV4.out
      have hz2 := HZV.out
      clear hz2
      have HRF := Hd.mk (Al.rfirst_calls A1 n1 c1 (Al.clsL (Al.keyF (rgs q)) 256) _ V4 (fun k hk => hk.2) HRC4.out)
      rw [Al.first_cls] at HRF
      have HRS := Hd.mk (fun (W : World) (hb : Below V4.heap.size V4 W) => rstart_calls st A k c q S W HN.out hn6 (HNF.out (below_seq (below_seq HBV.out HBV4.out) hb)) HOK.out)
      have hobc0 := blk_cell hob 0 _ rfl; have hobf0 := blk_frozen hob 0; have hobc1 := blk_cell hob 1 _ rfl; have hobf1 := blk_frozen hob 1; have hobc2 := blk_cell hob 2 _ rfl; have hobf2 := blk_frozen hob 2; have hobc3 := blk_cell hob 3 _ rfl; have hobf3 := blk_frozen hob 3; have hobc4 := blk_cell hob 4 _ rfl; have hobf4 := blk_frozen hob 4; have hobl := blk_lt hob
      have hx4c0 := blk_cell hx4 0 _ rfl; have hx4f0 := blk_frozen hx4 0; have hx4c1 := blk_cell hx4 1 _ rfl; have hx4f1 := blk_frozen hx4 1; have hx4l := blk_lt hx4
      go_wp2_with (first
        | (go_at_call 56; go_must (refine Calls.mono (HRS.out w5 HB5.out) ?_; rintro e w6 ⟨A6, c6, rfl, hm_, hb_⟩; have HM6 := Hd.mk hm_; have HB6 := Hd.mk (below_seq HB5.out hb_); have HB56 := Hd.mk hb_; have hz6 := hb_.size; clear hb_ hm_))
        | (go_at_call 92; go_must (refine Calls.mono HRF.out ?_; rintro e w5 ⟨Af, nf, cf, rfl, hr_, hb_⟩; have HRW := Hd.mk hr_; have HB5 := Hd.mk hb_; have hx5 := blk_below hx4 hb_; have hz5 := hb_.size; clear hobc0 hobf0 hobc1 hobf1 hobc2 hobf2 hobc3 hobf3 hobc4 hobf4 hobl; clear hx4c0 hx4f0 hx4c1 hx4f1 hx4l; have hx5c0 := blk_cell hx5 0 _ rfl; have hx5f0 := blk_frozen hx5 0; have hx5c1 := blk_cell hx5 1 _ rfl; have hx5f1 := blk_frozen hx5 1; have hx5l := blk_lt hx5; clear hb_ hr_)))
      generalize hV7 : World.alloc w6 _ = V7
      have hz7 : w6.heap.size + 1 = V7.heap.size := by rw [← hV7, size_alloc]
      have HZ7 := Hd.mk hz7
      obtain ⟨Z, hZ⟩ : ∃ Z : Nat → Nat → Prop, Z = fun i b => (i = 0 ∧ b = p) ∨ (i = 4 ∧ ((w5.heap.size ≤ b ∧ b < w6.heap.size) ∨ b = w6.heap.size)) := ⟨_, rfl⟩
      have hrow6 := HM6.out.row hn6
      have HP7 : Hd (V7.heap[p]? = some (.cells #[.slice A1 n1 c1, .int .i64 (wid : Nat), .slice none 0 0, .slice none 0 0, .int .i64 0] 90 (0, 0))) := ⟨by rw [← hV7]; exact blk_alloc (blk_below HP4.out HB6.out) _⟩
      have HB47 : Hd (Below V4.heap.size V4 V7) := ⟨by rw [← hV7]; exact below_seq HB6.out (below_alloc (Below.refl _ _) _)⟩
      have HRb7 : Hd (Rb V7 p p Z (.slice none 0 0) (.slice none 0 0) (.slice (some ⟨w6.heap.size, 0, none⟩) 1 1) (.slice none 0 0) [] [] [startM st q] []) := ⟨by
        subst hZ
        refine ⟨⟨fun i b hb => ?_, fun i j b hij hb hb2 => ?_⟩, .inl ⟨rfl, rfl⟩, ⟨_, Base.Own.nil _ _ _ _, fun b hb => by rcases hb with hb | hb; exact hb.elim; simp [Value.ownBlock] at hb⟩, ⟨Mine.nil _ _ _ _, fun b hb => by simp [Value.ownBlock] at hb⟩, ⟨fun b => w5.heap.size ≤ b ∧ b < w6.heap.size, ?_, fun b hb => ?_⟩, ⟨Mine.nil _ _ _ _, fun b hb => by simp [Value.ownBlock] at hb⟩⟩
        · rcases hb with ⟨_, rfl⟩ | ⟨_, hb | rfl⟩ <;> omega
        · rcases hb with ⟨h1, rfl⟩ | ⟨h1, hb⟩
          · rcases hb2 with ⟨h2, _⟩ | ⟨h2, hb2 | hb2⟩ <;> omega
          · rcases hb2 with ⟨h2, rfl⟩ | ⟨h2, _⟩
            · rcases hb with hb | hb <;> omega
            · omega
        · have hc : Cells BB w6 (fun b => w5.heap.size ≤ b ∧ b < w6.heap.size) [startM st q] [.slice A6 k c6] := by
            have h1 : BB.rel w6 (fun b => w5.heap.size ≤ b ∧ b < w6.heap.size) (startM st q) [.slice A6 k c6] := ⟨A6, c6, by rw [hrow6.1], by rw [hrow6.1]; exact hrow6⟩
            exact Cells.nil.snoc h1
          have h2 := Base.Own.lit (base := p) (e := 74) hc (by omega) (by simp) (fun b hb => hb.2)
          rw [hV7] at h2
          exact h2
        · refine .inr ⟨rfl, ?_⟩
          rcases hb with hb | hb
          · exact .inl hb
          · exact .inr (ownBlock_eq hb).symm⟩
      have HZC : Hd (∀ b, p + 1 ≤ b ∧ b < w5.heap.size → ∀ i, ¬ Z i b) := ⟨fun b hb i hi => by
        rw [hZ] at hi
        rcases hi with ⟨_, hi⟩ | ⟨_, hi | hi⟩ <;> omega⟩
      have HRC7 : Hd (Row I V7 (fun b => p + 1 ≤ b ∧ b < w5.heap.size) A1 n1 (Al.clsL (Al.keyF (rgs q)) 256)) := ⟨(HRC4.out.below (fun b hb => hb.2) HB47.out).mono fun b hb => ⟨hb.1, by omega⟩⟩
      have HRF7 : Hd (Row I V7 (fun b => p + 1 ≤ b ∧ b < w5.heap.size) Af nf (Al.asI (fsOf q))) := ⟨by
        rw [← hV7]
        have h9 := HRW.out
        exact (h9.below (fun b hb => hb.2) (below_seq HB56.out (below_alloc (Below.refl _ _) _))).mono fun b hb => ⟨by omega, hb.2⟩⟩
      obtain ⟨X, hX⟩ : ∃ X : Nat → Prop, X = fun b => (∃ i, Z i b) ∨ V7.heap.size ≤ b := ⟨_, rfl⟩
      have HX := Hd.mk hX
      have HZN7 := Hd.mk HRb7.out.zn
      have HBW7 : Hd (Below w.heap.size w V7) := ⟨below_seq (below_seq HBV.out HBV4.out) HB47.out⟩
      have HXV7 : Hd (V7.heap[w.heap.size]? = some (.cells #[.int .i64 st, .slice A k c] 58 (0, 0))) := ⟨blk_below (blk_below HXV.out HBV4.out) HB47.out⟩
      have HYV7 : Hd (V7.heap[w.heap.size + 1]? = some (.cells #[.slice none 0 0, .int .i64 0, .slice none 0 0, .slice none 0 0, .int .i64 0] 90 (0, 0))) := ⟨blk_below (blk_below HYV.out HBV4.out) HB47.out⟩
      have hwp : w.heap.size + 2 ≤ p := by have := HZV.out; omega
      have HXn : Hd (∀ b, V7.heap.size ≤ b → X b) := ⟨fun b hb => by rw [HX.out]; exact .inr hb⟩
      have HXp : Hd (∀ b, X b → p ≤ b) := ⟨fun b hb => by
        rw [HX.out] at hb
        rcases hb with ⟨i, hi⟩ | hb
        · exact (HZN7.out.lt i b hi).1
        · omega⟩
      have hpz7 : p < V7.heap.size := by omega
      have hnf : nf ≤ 256 := by have := HRF7.out.1; rw [Al.asI_len, fsOf_len, HWID.out] at this; omega
      have HFL : Hd ((fsOf q).length = nf) := ⟨by have := HRF7.out.1; rwa [Al.asI_len] at this⟩
      clear hx5c0 hx5f0 hx5c1 hx5f1 hx5l
      clear hX hZ hV7 hx5 hx4 hob hrow6 HM6 HRS HRF HRW HB6 HB56 HB5 HP4 HRC4 HBV4 HB47
      go_loopw [12, 13] (fun v i wr => ∃ (j na ca : Nat) (A9 : Option Addr), v = .slice A9 na ca ∧ i = .int .i64 j ∧ j ≤ 1025 ∧ Hd (∃ Z' tv nv, wr.heap[p]? = some (.cells #[.slice A1 n1 c1, .int .i64 (wid : Nat), nv, tv, .int .i64 0] 90 (0, 0)) ∧ Rb wr p p Z' tv nv (.slice A9 na ca) (.slice none 0 0) (((bld st q (fsOf q) j).1.take j).map (bestM q)) (bld st q (fsOf q) j).2 (bld st q (fsOf q) j).1 [] ∧ (∀ i b, Z' i b → X b)) ∧ Hd (j ≤ (bld st q (fsOf q) j).1.length) ∧ Hd (Fr X V7 wr)) (fun _ i _ => 1026 - (intOf i).toNat)
      case atStart => exact ⟨0, 1, 1, some ⟨w6.heap.size, 0, none⟩, rfl, rfl, Nat.zero_le _, ⟨Z, .slice none 0 0, .slice none 0 0, HP7.out, HRb7.out, fun i b hb => by rw [HX.out]; exact .inl ⟨i, hb⟩⟩, ⟨Nat.zero_le _⟩, ⟨Fr.refl _ _⟩⟩
      case round =>
        obtain ⟨j, na, ca, A9, rfl, rfl, hj, HR, HJL, HFr⟩ := hrel
        obtain ⟨Z', tv, nv, hob, hrb, hzs⟩ := HR.out
        obtain ⟨all, hall⟩ : ∃ a, (bld st q (fsOf q) j).1 = a := ⟨_, rfl⟩
        obtain ⟨nx, hnx⟩ : ∃ a, (bld st q (fsOf q) j).2 = a := ⟨_, rfl⟩
        have hao := (bld_ok HOK.out (fsOf q) j).1
        have hnl := bld_len (st := st) (q := q) (fs := fsOf q) j HJL.out
        rw [hall] at hrb HJL hao
        rw [hnx] at hrb hnl
        rw [HN.out] at hao
        have HALL := Hd.mk hall; have HNXX := Hd.mk hnx; have HAO := Hd.mk hao; have HNL := Hd.mk hnl
        have hna : all.length = na := by
          obtain ⟨_, h1, _⟩ := hrb.all
          obtain ⟨_, _, e, _⟩ := h1.form
          injection e with _ e _
          exact e.symm
        have HNA := Hd.mk hna
        have hz7 := HFr.out.size
        have hjl := HJL.out
        rw [hna] at hjl
        obtain ⟨A3, n3, c3, et, hn3, -, -, htrow⟩ := hrb.tag.1.formN
        obtain ⟨SN, hon, hzn⟩ := hrb.nxt
        obtain ⟨A2, c2, en, -, -, hnrow⟩ := hon.form
        rw [hnl] at en hnrow
        rw [List.length_map, List.length_take, hna] at hn3
        subst et en
        obtain rfl : n3 = j := by omega
        clear hn3
        have HRB := Hd.mk hrb; have HZS := Hd.mk hzs; have HOBJ := Hd.mk hob
        have HTROW := Hd.mk htrow; have HNROW := Hd.mk hnrow
        have hpw : p < wr.heap.size := blk_lt hob
        have HBw : Hd (Below p V7 wr) := ⟨HFr.out.below (by omega) (fun b hb hx => by have := HXp.out b hx; omega)⟩
        have hxr := (HBw.out.block _ (by omega)).trans HXV7.out
        have hyr := (HBw.out.block _ (by omega)).trans HYV7.out
        have HBWr : Hd (Below w.heap.size w wr) := ⟨HBW7.out.trans (HBw.out.mono (by omega))⟩
        have HZN2 := Hd.mk hzn
        clear HR hrb hzs hall hnx hao hnl hna hon hzn htrow hnrow
        have hyr' := hyr
        obtain ⟨SA, hoa, hza⟩ := HRB.out.all
        obtain ⟨A8, c8, e8, -, -, harow⟩ := hoa.form
        rw [HNA.out] at e8 harow
        cases e8
        have HZA := Hd.mk hza; have HAROW := Hd.mk harow
        have HZN := Hd.mk HRB.out.zn
        clear hoa hza harow
        by_cases hlt : n3 < na
        case neg =>
          obtain rfl : na = n3 := by omega
          have hlt' : ¬ (na : Int) < (na : Int) := by omega
          have hk1 : decide ((na : Int) < (na : Int)) = false := decide_eq_false hlt'
          by_cases hm : (na : Int) ≤ most
          case neg =>
            have hk2 : decide ((na : Int) ≤ most) = false := decide_eq_false hm
            have HBADD := Hd.mk (show Bad st q (fsOf q) most from ⟨na, by rw [HALL.out, HNA.out]; omega⟩)
            have hobc0 := blk_cell hob 0 _ rfl; have hobf0 := blk_frozen hob 0; have hobc1 := blk_cell hob 1 _ rfl; have hobf1 := blk_frozen hob 1; have hobc2 := blk_cell hob 2 _ rfl; have hobf2 := blk_frozen hob 2; have hobc3 := blk_cell hob 3 _ rfl; have hobf3 := blk_frozen hob 3; have hobc4 := blk_cell hob 4 _ rfl; have hobf4 := blk_frozen hob 4; have hobl := blk_lt hob
            have hyrc0 := blk_cell hyr 0 _ rfl; have hyrf0 := blk_frozen hyr 0; have hyrc1 := blk_cell hyr 1 _ rfl; have hyrf1 := blk_frozen hyr 1; have hyrc2 := blk_cell hyr 2 _ rfl; have hyrf2 := blk_frozen hyr 2; have hyrc3 := blk_cell hyr 3 _ rfl; have hyrf3 := blk_frozen hyr 3; have hyrc4 := blk_cell hyr 4 _ rfl; have hyrf4 := blk_frozen hyr 4; have hyrl := blk_lt hyr
            go_wp2
            refine bodyPost_ret (cell_tmp_row2 rfl _ _ (w.heap.size + 1) 90 #[.slice A1 n1 c1, .int .i64 (wid : Nat), .slice A2 na c2, .slice A3 na c3, .int .i64 0] (0, 0) _ rfl (set5 hyr' _ _ _ _ _) Tryd.underlying90 rfl (by kernel_rfl)) rfl ?_
            exact ⟨.inr ⟨A1, A2, A3, n1, na, na, c1, c2, c3, (wid : Nat), rfl, HBADD.out⟩, below_set5 HBWr.out (Nat.le_succ _) _ _ _ _ _⟩
          have hk2 : decide ((na : Int) ≤ most) = true := decide_eq_true hm
          have HGOOD : Hd (Good st q (fsOf q) most (all, nx)) := ⟨na, Prod.ext HALL.out HNXX.out, HNA.out, hm⟩
          have HT9 : Hd (Row I wr (fun b => p ≤ b ∧ b < wr.heap.size) A3 na (all.map (bestM q))) := ⟨by have h9 := HTROW.out; rw [List.take_of_length_le (by rw [HNA.out]; exact Nat.le_refl _)] at h9; exact h9.mono fun b hb => by first | exact hb | exact ⟨hb.1, hb.2⟩⟩
          have HN9 : Hd (Row Df.II wr (fun b => p ≤ b ∧ b < wr.heap.size) A2 na nx) := ⟨HNROW.out.mono fun b hb => HZN.out.lt 2 b (HZN2.out b hb)⟩
          have HC9 : Hd (Row I wr (fun b => p ≤ b ∧ b < wr.heap.size) A1 n1 (Al.clsL (Al.keyF (rgs q)) 256)) := ⟨(HRC7.out.move fun b hb => HFr.out.same b (by omega) fun hx => by
            rw [HX.out] at hx
            rcases hx with ⟨i, hi⟩ | hx
            · exact HZC.out b hb i hi
            · omega).mono fun b hb => ⟨by omega, by omega⟩⟩
          have hobc0 := blk_cell hob 0 _ rfl; have hobf0 := blk_frozen hob 0; have hobc1 := blk_cell hob 1 _ rfl; have hobf1 := blk_frozen hob 1; have hobc2 := blk_cell hob 2 _ rfl; have hobf2 := blk_frozen hob 2; have hobc3 := blk_cell hob 3 _ rfl; have hobf3 := blk_frozen hob 3; have hobc4 := blk_cell hob 4 _ rfl; have hobf4 := blk_frozen hob 4; have hobl := blk_lt hob
          have hyrc0 := blk_cell hyr 0 _ rfl; have hyrf0 := blk_frozen hyr 0; have hyrc1 := blk_cell hyr 1 _ rfl; have hyrf1 := blk_frozen hyr 1; have hyrc2 := blk_cell hyr 2 _ rfl; have hyrf2 := blk_frozen hyr 2; have hyrc3 := blk_cell hyr 3 _ rfl; have hyrf3 := blk_frozen hyr 3; have hyrc4 := blk_cell hyr 4 _ rfl; have hyrf4 := blk_frozen hyr 4; have hyrl := blk_lt hyr
          go_wp2
          refine bodyPost_ret (cell_tmp_row2 rfl _ _ (w.heap.size + 1) 90 #[.slice A1 n1 c1, .int .i64 (wid : Nat), .slice A2 na c2, .slice A3 na c3, .int .i64 0] (0, 0) _ rfl (set5 hyr' _ _ _ _ _) Tryd.underlying90 rfl (by kernel_rfl)) rfl ?_
          generalize hY : World.setCell (World.setCell (World.setCell (World.setCell (World.setCell wr _ _) _ _) _ _) _ _) _ _ = Y
          have hYs : wr.heap.size = Y.heap.size := by rw [← hY]; simp only [size_set]
          have hYb : ∀ b, b ≠ w.heap.size + 1 → Y.heap[b]? = wr.heap[b]? := fun b hb => by
            rw [← hY]
            exact (Below.heap_setCell _ _ _ _ (by exact hb)).trans ((Below.heap_setCell _ _ _ _ (by exact hb)).trans ((Below.heap_setCell _ _ _ _ (by exact hb)).trans ((Below.heap_setCell _ _ _ _ (by exact hb)).trans (Below.heap_setCell _ _ _ _ (by exact hb)))))
          have hBY : Below w.heap.size w Y := by rw [← hY]; exact below_set5 HBWr.out (Nat.le_succ _) _ _ _ _ _
          have e1 : (dfaOf q (all, nx)).wid = (wid : Nat) := by rw [← HWID.out]; rfl
          refine ⟨.inl ⟨(all, nx), A1, A2, A3, n1, na, na, c1, c2, c3, by rw [e1]; rfl, HGOOD.out, ⟨?_, ?_, ?_, fun b hb => hb.2⟩⟩, hBY⟩
          · exact (HC9.out.move fun b hb => hYb b (by omega)).mono fun b hb => ⟨by omega, by omega⟩
          · exact (HN9.out.move fun b hb => hYb b (by omega)).mono fun b hb => ⟨by omega, by omega⟩
          · exact (HT9.out.move fun b hb => hYb b (by omega)).mono fun b hb => ⟨by omega, by omega⟩
        have hk1 : decide ((n3 : Int) < (na : Int)) = true := decide_eq_true (by omega)
        by_cases hm : (na : Int) ≤ most
        case neg =>
          have hk2 : decide ((na : Int) ≤ most) = false := decide_eq_false hm
          have HBADD := Hd.mk (show Bad st q (fsOf q) most from ⟨n3, by rw [HALL.out, HNA.out]; omega⟩)
          have hobc0 := blk_cell hob 0 _ rfl; have hobf0 := blk_frozen hob 0; have hobc1 := blk_cell hob 1 _ rfl; have hobf1 := blk_frozen hob 1; have hobc2 := blk_cell hob 2 _ rfl; have hobf2 := blk_frozen hob 2; have hobc3 := blk_cell hob 3 _ rfl; have hobf3 := blk_frozen hob 3; have hobc4 := blk_cell hob 4 _ rfl; have hobf4 := blk_frozen hob 4; have hobl := blk_lt hob
          have hyrc0 := blk_cell hyr 0 _ rfl; have hyrf0 := blk_frozen hyr 0; have hyrc1 := blk_cell hyr 1 _ rfl; have hyrf1 := blk_frozen hyr 1; have hyrc2 := blk_cell hyr 2 _ rfl; have hyrf2 := blk_frozen hyr 2; have hyrc3 := blk_cell hyr 3 _ rfl; have hyrf3 := blk_frozen hyr 3; have hyrc4 := blk_cell hyr 4 _ rfl; have hyrf4 := blk_frozen hyr 4; have hyrl := blk_lt hyr
          go_wp2
          refine bodyPost_ret (cell_tmp_row2 rfl _ _ (w.heap.size + 1) 90 #[.slice A1 n1 c1, .int .i64 (wid : Nat), .slice A2 n3 c2, .slice A3 n3 c3, .int .i64 0] (0, 0) _ rfl (set5 hyr' _ _ _ _ _) Tryd.underlying90 rfl (by kernel_rfl)) rfl ?_
          exact ⟨.inr ⟨A1, A2, A3, n1, n3, n3, c1, c2, c3, (wid : Nat), rfl, HBADD.out⟩, below_set5 HBWr.out (Nat.le_succ _) _ _ _ _ _⟩
        have hk2 : decide ((na : Int) ≤ most) = true := decide_eq_true hm
        obtain ⟨bw, ow, A', c', m, rfl, hbw, hmj, hcw, hrm⟩ := brows_get HAROW.out n3 hlt
        have HMJ := Hd.mk hmj
        have hml : m.length = k := HAO.out.len m (List.mem_of_getElem? hmj)
        rw [hml] at hcw hrm
        have HMR := Hd.mk hrm
        obtain ⟨bx, hbx⟩ : ∃ x, bestM q m = x := ⟨_, rfl⟩
        have HBX := Hd.mk hbx
        have hSA : ∀ b, (SA b ∨ (Value.slice (some ⟨bw, ow, none⟩) na ca).ownBlock = some b) → b < wr.heap.size := fun b hb => (HZN.out.lt 4 b (HZA.out b hb)).2
        have HSA := Hd.mk hSA
        have h8 := rbest_calls st A k c q S A' c' m _ wr.drew HN.out (HNF.out (below_drew1 HBWr.out)) (fun b hb => by rw [size_drew]; exact hSA b hb) (hrm.move fun _ _ => rfl)
        rw [hbx] at h8
        have HJB := Hd.mk h8
        clear hmj hrm hbx h8 hSA
        have hobc0 := blk_cell hob 0 _ rfl; have hobf0 := blk_frozen hob 0; have hobc1 := blk_cell hob 1 _ rfl; have hobf1 := blk_frozen hob 1; have hobc2 := blk_cell hob 2 _ rfl; have hobf2 := blk_frozen hob 2; have hobc3 := blk_cell hob 3 _ rfl; have hobf3 := blk_frozen hob 3; have hobc4 := blk_cell hob 4 _ rfl; have hobf4 := blk_frozen hob 4; have hobl := blk_lt hob
        have hxrc0 := blk_cell hxr 0 _ rfl; have hxrf0 := blk_frozen hxr 0; have hxrc1 := blk_cell hxr 1 _ rfl; have hxrf1 := blk_frozen hxr 1; have hxrl := blk_lt hxr
        go_wp2
        refine wp_region_can (.q [0, 1, 2, 3, 4, 5, 6] (.e 7 true (.e 8 true (.e 9 false (.q [10] (.e 11 false (.done))))))) (clsB _) (by kernel_rfl) (by kernel_rfl) (by intro _ _ d _ _ h; cases d <;> exact h) (clsB_drew _) ?_
        refine can_q (l := [⟨_,_,_,_,_,_⟩, ⟨_,_,_,_,_,_⟩, ⟨_,_,_,_,_,_⟩, ⟨_,_,_,_,_,_⟩, ⟨_,_,_,_,_,_⟩, ⟨_,_,_,_,_,_⟩, ⟨_,_,_,_,_,_⟩]) rfl ?_
        repeat (go_big_quiet_step (fail))
        refine wpQuiet_nil ?_
        refine can_e (o := ⟨_,_,_,_,_,_⟩) rfl (fun K hK => ?_)
        go_wp2_with (go_at_call 53; go_must (refine Calls.mono HJB.out ?_; rintro e w3 ⟨rfl, hb3⟩; have HB3 := Hd.mk (below_undrew hb3); clear hb3))
        refine onK_normal (hK _ _ ⟨clsB _, clsB_of (by first | exact (HB3.out) | exact below_undrew (HB3.out)), fun _ _ h => h, ?_⟩)
        clear hK K
        refine can_e (o := ⟨_,_,_,_,_,_⟩) rfl (fun K hK => ?_)
        go_wp2_with fail
        refine onK_normal (hK _ _ ⟨clsB _, clsB_of (by first | exact ((below_alloc HB3.out _)) | exact below_undrew ((below_alloc HB3.out _))), fun _ _ h => h, ?_⟩)
        clear hK K
        have HRB3 := Hd.mk ((HRB.out.below HB3.out).below (below_alloc (Below.refl _ _) (.cells #[.int .i64 bx] 3)))
        have hz3 := HB3.out.size
        refine can_e (o := ⟨_,_,_,_,_,_⟩) rfl (fun K hK => ?_)
        go_wp2_with (at_builtin; go_must (refine append_snoc I (Ty.int_flat _) rfl (.tmp 77) (.tmp 84) 24 3 _ 8 rfl Tryd.underlying24 infoI9 rfl (by decide) (by decide) p (.slice A3 n3 c3) ((all.take n3).map (bestM q)) bx [.int .i64 bx] w3.heap.size rfl rfl (blk_new w3 _ _ rfl) rfl HRB3.out.tag.1 (fun h => by have := (HRB.out.tag.1.lt h).1; omega) (by rw [size_alloc]; omega) (by rw [List.length_map, List.length_take]; omega) ?_; intro v2 w15 hM5 hb5 hk5 hat5; have HM5 := Hd.mk hM5; have HB5 := Hd.mk hb5; have HK5 := Hd.mk hk5; have HAT5 := Hd.mk hat5; clear hM5 hb5 hk5 hat5))
        refine onK_normal (hK _ _ ⟨fun _ => True, trivial, (fun h => by cases h), ?_⟩)
        clear hK K
        refine can_q (l := [⟨_,_,_,_,_,_⟩]) rfl ?_
        repeat (go_big_quiet_step (fail))
        refine wpQuiet_nil ?_
        obtain ⟨A4, n4, c4, rfl, hn4, -, -, -⟩ := HM5.out.formN
        have hn4' : n4 = n3 + 1 := by rw [hn4, List.length_append, List.length_map, List.length_take, List.length_singleton, HNA.out]; omega
        subst hn4'
        clear hn4
        have HF5 : Hd (Fr (fun b => (Value.slice A3 n3 c3).ownBlock = some b) (w3.alloc (.cells #[.int .i64 bx] 3)) w15) := ⟨⟨HB5.out.mono (Nat.zero_le _), fun b hb hx => HK5.out b hb hx⟩⟩
        have hpt : ¬ (Value.slice A3 n3 c3).ownBlock = some p := fun h => HZN.out.dis 0 3 p (by decide) HRB.out.zp (HRB.out.tag.2 p h)
        have hob5 := HF5.out.blk (blk_alloc (blk_below hob HB3.out) _) hpt
        clear hobc0 hobf0 hobc1 hobf1 hobc2 hobf2 hobc3 hobf3 hobc4 hobf4 hobl
        have hob5c0 := blk_cell hob5 0 _ rfl; have hob5f0 := blk_frozen hob5 0; have hob5c1 := blk_cell hob5 1 _ rfl; have hob5f1 := blk_frozen hob5 1; have hob5c2 := blk_cell hob5 2 _ rfl; have hob5f2 := blk_frozen hob5 2; have hob5c3 := blk_cell hob5 3 _ rfl; have hob5f3 := blk_frozen hob5 3; have hob5c4 := blk_cell hob5 4 _ rfl; have hob5f4 := blk_frozen hob5 4; have hob5l := blk_lt hob5
        refine can_e (o := ⟨_,_,_,_,_,_⟩) rfl (fun K hK => ?_)
        go_wp2_with fail
        refine onK_normal (hK _ _ ⟨fun _ => True, trivial, (fun h => by cases h), ?_⟩)
        clear hK K
        refine can_done ?_
        generalize hV9 : World.setCell w15 _ _ = V9
        have hz9 : w15.heap.size = V9.heap.size := by rw [← hV9, size_set]
        have hz5 := HB5.out.size
        rw [size_alloc] at hz5
        obtain ⟨tg, htg⟩ : ∃ t, (all.take (n3 + 1)).map (bestM q) = t := ⟨_, rfl⟩
        have htg2 : (all.take n3).map (bestM q) ++ [bx] = tg := by rw [← htg, Df.take_snoc HMJ.out, List.map_append, ← HBX.out]; rfl
        have hp9 : V9.heap[p]? = some (.cells #[.slice A1 n1 c1, .int .i64 (wid : Nat), .slice A2 n3 c2, .slice A4 (n3 + 1) c4, .int .i64 0] 90 (0, 0)) := by rw [← hV9]; exact blk_set hob5 3 _ _ rfl
        have hrb9 := (HRB3.out.tags (by rw [size_alloc]; omega) HF5.out HM5.out HAT5.out).store 3 (.slice A4 (n3 + 1) c4)
        rw [hV9, htg2] at hrb9
        have hZX := HZS.out
        have hfr9 : Fr X V7 V9 := by
          rw [← hV9]
          exact Fr.set (X := X) (((HFr.out.trans ((Fr.of_below HB3.out).mono fun (b : Nat) (hb : False) => hb.elim)).alloc _).trans (HF5.out.mono fun b hb => hZX 3 b (HRB.out.tag.2 b hb))) (.inl (hZX 0 p HRB.out.zp)) 3 _
        have hzs9 := upX (c := 3) HZS.out (own_up HAT5.out (fun b hb => HZS.out 3 b (HRB.out.tag.2 b hb)) (HXn.out _ (by rw [size_alloc]; omega)))
        have HTG := Hd.mk htg
        have HR9 := Hd.mk (And.intro hp9 (And.intro hrb9 hzs9)); have HFr9 := Hd.mk hfr9
        clear hob5c0 hob5f0 hob5c1 hob5f1 hob5c2 hob5f2 hob5c3 hob5f3 hob5c4 hob5f4 hob5l
        clear hxrc0 hxrf0 hxrc1 hxrf1 hxrl
        clear htg htg2 hp9 hrb9 hZX hfr9 hzs9 hV9 hob5 hxr hyr hyr' hob HM5 HB5 HK5 HAT5 HF5 HRB3 HB3 hpt HTROW HNROW HZA HAROW HZN HZN2 HRB HZS HOBJ HSA HJB HMR hcw
        go_wp2
        go_loopw [12, 14, 15] (fun va vr i wr => ∃ (j nk ck nr cr : Nat) (Ak Ar : Option Addr), va = .slice Ak nk ck ∧ vr = .slice Ar nr cr ∧ i = .int .i64 j ∧ j ≤ nf ∧ Hd (∃ Z', wr.heap[p]? = some (.cells #[.slice A1 n1 c1, .int .i64 (wid : Nat), .slice A2 n3 c2, .slice A4 (n3 + 1) c4, .int .i64 0] 90 (0, 0)) ∧ Rb wr p p Z' (.slice A4 (n3 + 1) c4) (.slice A2 n3 c2) (.slice Ak nk ck) (.slice Ar nr cr) tg nx (rowM q m ((fsOf q).take j) all).1 (rowM q m ((fsOf q).take j) all).2 ∧ (∀ i b, Z' i b → X b)) ∧ Hd (Fr X V7 wr)) (fun _ _ i _ => nf - (intOf i).toNat)
        case atStart => exact ⟨0, na, ca, 0, 0, some ⟨bw, ow, none⟩, none, rfl, rfl, rfl, Nat.zero_le _, ⟨_, HR9.out⟩, HFr9⟩
        case round =>
          obtain ⟨j2, nk, ck, nr, cr, Ak, Ar, rfl, rfl, rfl, hj2, HR, HFr⟩ := hrel
          obtain ⟨Z2, hob, hrb, hzs⟩ := HR.out
          obtain ⟨ak, hak⟩ : ∃ a, (rowM q m ((fsOf q).take j2) all).1 = a := ⟨_, rfl⟩
          obtain ⟨rk, hrk⟩ : ∃ a, (rowM q m ((fsOf q).take j2) all).2 = a := ⟨_, rfl⟩
          have hakm : ak[n3]? = some m := by rw [← hak]; exact (row_pre q m _ all).get HMJ.out
          have hakl : ak.length ≤ 2000 := by
            have h9 := row_len_le q m ((fsOf q).take j2) all
            rw [List.length_take, HFL.out, HNA.out, hak] at h9
            omega
          have hako : AllOk k ak := by rw [← hak, ← HN.out]; exact AllOk.row (by rw [HN.out]; exact HAO.out) m _
          have hrl : rk.length = j2 := by rw [← hrk, (row_codes q m _ all).1, List.length_take, HFL.out]; omega
          rw [hak, hrk] at hrb
          have hpw : p < wr.heap.size := blk_lt hob
          have hz8 := HFr.out.size
          have HBw : Hd (Below p V7 wr) := ⟨HFr.out.below (by omega) (fun b hb hx => by have := HXp.out b hx; omega)⟩
          have hxr := (HBw.out.block _ (by omega)).trans HXV7.out
          have HBWr : Hd (Below w.heap.size w wr) := ⟨HBW7.out.trans (HBw.out.mono (by omega))⟩
          have HAK := Hd.mk hak; have HRK := Hd.mk hrk; have HAKO := Hd.mk hako; have HRL := Hd.mk hrl
          have HRB := Hd.mk hrb; have HZS := Hd.mk hzs
          have HAKM := Hd.mk hakm
          obtain ⟨S4, ho4, hz4⟩ := hrb.all
          obtain ⟨A8, c8, e8, -, -, harow⟩ := ho4.form
          obtain rfl : nk = ak.length := by injection e8
          cases e8
          have HO4 := Hd.mk ho4; have HZ4 := Hd.mk hz4; have HAROW := Hd.mk harow
          have HZN := Hd.mk hrb.zn
          have hF' : Row I wr (fun b => p + 1 ≤ b ∧ b < w5.heap.size) Af nf (Al.asI (fsOf q)) := HRF7.out.move fun b hb => HFr.out.same b (by omega) fun hx => by
            rw [HX.out] at hx
            rcases hx with ⟨i, hi⟩ | hx
            · exact HZC.out b hb i hi
            · omega
          have HF9 := Hd.mk hF'
          clear HR hak hrk hako hrl hrb hzs ho4 hz4 harow hF' hakm
          by_cases hlt2 : j2 < nf
          · obtain ⟨bc, off, y, rfl, _, hbc, hy, hcell⟩ := HF9.out.get_int j2 hlt2
            obtain ⟨ch, hc, rfl⟩ := asI_get hy
            have hch : ch < 256 := fst_lt _ _ ch (List.mem_of_getElem? hc)
            obtain ⟨bw2, ow2, A', c', m2, rfl, hbw2, hm2, hcw, hrm⟩ := brows_get HAROW.out n3 (List.getElem?_eq_some_iff.1 HAKM.out).1
            obtain rfl : m2 = m := Option.some.inj (hm2.symm.trans HAKM.out)
            rw [hml] at hcw hrm
            have hlt3 : n3 < ak.length := (List.getElem?_eq_some_iff.1 HAKM.out).1
            obtain ⟨x, hx⟩ : ∃ x, stepM q ch m2 = x := ⟨_, rfl⟩
            have h8 := rstep_calls st A k c q S A' c' m2 _ ch hch wr.drew HN.out hn6 (HNF.out (below_drew1 HBWr.out)) HOK.out (fun b hb => by rw [size_drew]; exact (HZN.out.lt 4 b (HZ4.out b hb)).2) (hrm.move fun _ _ => rfl)
            rw [hx] at h8
            have HJS := Hd.mk h8
            have hxl : x.length = k := by rw [← hx, ← HN.out]; exact closeM_len _ _ _
            have HXL := Hd.mk hxl
            obtain ⟨ak2, hak2⟩ : ∃ a, (addM ak x).1 = a := ⟨_, rfl⟩
            obtain ⟨v, hv⟩ : ∃ a, (addM ak x).2 = a := ⟨_, rfl⟩
            have HR1 : Hd (rowM q m2 ((fsOf q).take (j2 + 1)) all = (ak2, rk ++ [v])) := ⟨by rw [Df.take_snoc hc, rowM_snoc, HAK.out, HRK.out, hx, hak2, hv]⟩
            obtain ⟨bb, hbb⟩ : ∃ b, decide (true ∈ x) = b := ⟨_, rfl⟩
            have HBB := Hd.mk hbb
            obtain ⟨pl, hpl⟩ : ∃ v, placeM ak x = v := ⟨_, rfl⟩
            have HPL := Hd.mk hpl
            have HAD : Hd (addM ak x = (ak2, v)) := ⟨Prod.ext hak2 hv⟩
            clear hy hc hm2 hrm h8 hx hxl hak2 hv hbb hpl
            have hob' := hob
            have hobc0 := blk_cell hob 0 _ rfl; have hobf0 := blk_frozen hob 0; have hobc1 := blk_cell hob 1 _ rfl; have hobf1 := blk_frozen hob 1; have hobc2 := blk_cell hob 2 _ rfl; have hobf2 := blk_frozen hob 2; have hobc3 := blk_cell hob 3 _ rfl; have hobf3 := blk_frozen hob 3; have hobc4 := blk_cell hob 4 _ rfl; have hobf4 := blk_frozen hob 4; have hobl := blk_lt hob
            have hxrc0 := blk_cell hxr 0 _ rfl; have hxrf0 := blk_frozen hxr 0; have hxrc1 := blk_cell hxr 1 _ rfl; have hxrf1 := blk_frozen hxr 1; have hxrl := blk_lt hxr
            go_wp2
            refine wp_region_can (.q [0, 1, 2, 3, 4, 5, 6, 7, 8, 9] (.e 10 false (.q [11] (.done)))) (clsB _) (by kernel_rfl) (by kernel_rfl) (by intro _ _ d _ _ h; cases d <;> exact h) (clsB_drew _) ?_
            refine can_q (l := [⟨_,_,_,_,_,_⟩, ⟨_,_,_,_,_,_⟩, ⟨_,_,_,_,_,_⟩, ⟨_,_,_,_,_,_⟩, ⟨_,_,_,_,_,_⟩, ⟨_,_,_,_,_,_⟩, ⟨_,_,_,_,_,_⟩, ⟨_,_,_,_,_,_⟩, ⟨_,_,_,_,_,_⟩, ⟨_,_,_,_,_,_⟩]) rfl ?_
            repeat (go_big_quiet_step (fail))
            refine wpQuiet_nil ?_
            refine can_e (o := ⟨_,_,_,_,_,_⟩) rfl (fun K hK => ?_)
            go_wp2_with (go_at_call 51; go_must (refine Calls.mono HJS.out ?_; rintro e w3 ⟨A3, c3, rfl, hm3, hb3⟩; rw [size_drew] at hm3; have HM3 := Hd.mk hm3; have HB3 := Hd.mk (below_undrew hb3); clear hm3 hb3))
            refine onK_normal (hK _ _ ⟨fun _ => True, trivial, (fun h => by cases h), ?_⟩)
            clear hK K
            refine can_q (l := [⟨_,_,_,_,_,_⟩]) rfl ?_
            repeat (go_big_quiet_step (fail))
            refine wpQuiet_nil ?_
            refine can_done ?_
            have hz3 := HB3.out.size
            have hm3 := HM3.out.row hn6
            have HX3 := Hd.mk hm3
            have HJF := Hd.mk (find_calls (some ⟨bw2, ow2, none⟩) A3 ak.length k ck c3 ak x _ _ w3 (fun b hb => Nat.lt_of_lt_of_le (HZN.out.lt 4 b (HZ4.out b hb)).2 hz3) (fun b hb => hb.2) (HAROW.out.below (fun b hb => (HZN.out.lt 4 b (HZ4.out b hb)).2) HB3.out) hm3 (fun y hy => HAKO.out.len y hy))
            rw [HPL.out] at HJF
            have HJO := Hd.mk (fun (W : World) (hb : Below w3.heap.size w3 W) => some_calls A3 k c3 x bb _ W (HX3.out.below (fun b hb => hb.2) hb) HBB.out)
            clear hm3
            by_cases hsx : true ∈ x
            case neg =>
              obtain rfl : bb = false := by rw [← HBB.out]; exact decide_eq_false hsx
              have hadd := addM_none (all := ak) hsx
              rw [HAD.out] at hadd
              obtain ⟨rfl, rfl⟩ : ak = ak2 ∧ v = -1 := by injection hadd with h1 h2; exact ⟨h1.symm, h2⟩
              clear hadd
              go_wp2_with (first
                | (go_at_call 94; go_must (refine Calls.mono (HJO.out w4 HB4.out) ?_; rintro e w6 ⟨rfl, h6_⟩; have h6 := h6_.symm; clear h6_; subst h6))
                | (go_at_call 93; go_must (refine Calls.mono HJF.out ?_; rintro e w4 ⟨rfl, hb4⟩; have HB4 := Hd.mk hb4; have HB34 := Hd.mk (below_seq HB3.out hb4); have hz4 := hb4.size; have HRU := Hd.mk ((HRB.out.below (below_seq HB3.out hb4)).below (below_alloc (Below.refl _ _) (.cells #[.int .i64 (-1)] 3))); clear hb4))
                | (at_builtin; go_must (refine append_snoc I (Ty.int_flat _) rfl (.tmp 118) (.tmp 120) 24 3 _ 8 rfl Tryd.underlying24 infoI9 rfl (by decide) (by decide) p (.slice Ar nr cr) rk (-1) [.int .i64 (-1)] w4.heap.size rfl rfl (blk_new _ _ _ rfl) rfl HRU.out.row.1 (fun h => by have := (HRB.out.row.1.lt h).1; omega) (by rw [size_alloc]; omega) (by rw [HRL.out]; omega) ?_; intro v2 w7 hM7 hb7 hk7 hat7; have HM7 := Hd.mk hM7; have HB7 := Hd.mk hb7; have HK7 := Hd.mk hk7; have HAT7 := Hd.mk hat7; clear hM7 hb7 hk7 hat7)))
              obtain ⟨A7, n7, c7, rfl, -, -, -, -⟩ := HM7.out.formN
              have hf7 : Fr (fun b => (Value.slice Ar nr cr).ownBlock = some b) (w4.alloc (.cells #[.int .i64 (-1)] 3)) w7 := ⟨HB7.out.mono (Nat.zero_le _), fun b hb hx => HK7.out b hb hx⟩
              have hpt : ¬ (Value.slice Ar nr cr).ownBlock = some p := fun h => HZN.out.dis 0 5 p (by decide) HRB.out.zp (HRB.out.row.2 p h)
              have hob7 := hf7.blk (blk_alloc (blk_below hob' HB34.out) _) hpt
              have hr7 := HRU.out.rowg (by rw [size_alloc]; omega) hf7 HM7.out HAT7.out
              go_roundw
              case rel => exact ⟨j2 + 1, ak.length, ck, n7, c7, some ⟨bw2, ow2, none⟩, A7, rfl, rfl, by go_num, by omega, ⟨_, hob7, by rw [HR1.out]; exact hr7, upX HZS.out (own_up HAT7.out (fun b hb => HZS.out 5 b (HRB.out.row.2 b hb)) (HXn.out _ (by rw [size_alloc]; omega)))⟩, ⟨((HFr.out.trans ((Fr.of_below HB34.out).mono fun (b : Nat) (hb : False) => hb.elim)).alloc _).trans (hf7.mono fun b hb => HZS.out 5 b (HRB.out.row.2 b hb))⟩⟩
              case measure => simp [intOf]; omega
            obtain rfl : bb = true := by rw [← HBB.out]; exact decide_eq_true hsx
            by_cases hin : x ∈ ak
            case pos =>
              have hadd := addM_old hsx hin
              rw [HAD.out] at hadd
              obtain ⟨rfl, hv9⟩ : ak = ak2 ∧ v = ((ak.idxOf x : Nat) : Int) := by injection hadd with h1 h2; exact ⟨h1.symm, h2⟩
              obtain rfl : pl = v := by rw [← HPL.out, hv9]; unfold placeM; rw [if_pos hin]
              have hk3 : decide ((pl : Int) < 0) = false := decide_eq_false (by omega)
              have hk4 : ¬ pl < 0 := by omega
              clear hadd hv9
              go_wp2_with (first
                | (go_at_call 94; go_must (refine Calls.mono (HJO.out w4 HB4.out) ?_; rintro e w6 ⟨rfl, h6_⟩; have h6 := h6_.symm; clear h6_; subst h6))
                | (go_at_call 93; go_must (refine Calls.mono HJF.out ?_; rintro e w4 ⟨rfl, hb4⟩; have HB4 := Hd.mk hb4; have HB34 := Hd.mk (below_seq HB3.out hb4); have hz4 := hb4.size; have HRU := Hd.mk ((HRB.out.below (below_seq HB3.out hb4)).below (below_alloc (Below.refl _ _) (.cells #[.int .i64 pl] 3))); clear hb4))
                | (at_builtin; go_must (refine append_snoc I (Ty.int_flat _) rfl (.tmp 118) (.tmp 120) 24 3 _ 8 rfl Tryd.underlying24 infoI9 rfl (by decide) (by decide) p (.slice Ar nr cr) rk pl [.int .i64 pl] w4.heap.size rfl rfl (blk_new _ _ _ rfl) rfl HRU.out.row.1 (fun h => by have := (HRB.out.row.1.lt h).1; omega) (by rw [size_alloc]; omega) (by rw [HRL.out]; omega) ?_; intro v2 w7 hM7 hb7 hk7 hat7; have HM7 := Hd.mk hM7; have HB7 := Hd.mk hb7; have HK7 := Hd.mk hk7; have HAT7 := Hd.mk hat7; clear hM7 hb7 hk7 hat7)))
              obtain ⟨A7, n7, c7, rfl, -, -, -, -⟩ := HM7.out.formN
              have hf7 : Fr (fun b => (Value.slice Ar nr cr).ownBlock = some b) (w4.alloc (.cells #[.int .i64 pl] 3)) w7 := ⟨HB7.out.mono (Nat.zero_le _), fun b hb hx => HK7.out b hb hx⟩
              have hpt : ¬ (Value.slice Ar nr cr).ownBlock = some p := fun h => HZN.out.dis 0 5 p (by decide) HRB.out.zp (HRB.out.row.2 p h)
              have hob7 := hf7.blk (blk_alloc (blk_below hob' HB34.out) _) hpt
              have hr7 := HRU.out.rowg (by rw [size_alloc]; omega) hf7 HM7.out HAT7.out
              go_roundw
              case rel => exact ⟨j2 + 1, ak.length, ck, n7, c7, some ⟨bw2, ow2, none⟩, A7, rfl, rfl, by go_num, by omega, ⟨_, hob7, by rw [HR1.out]; exact hr7, upX HZS.out (own_up HAT7.out (fun b hb => HZS.out 5 b (HRB.out.row.2 b hb)) (HXn.out _ (by rw [size_alloc]; omega)))⟩, ⟨((HFr.out.trans ((Fr.of_below HB34.out).mono fun (b : Nat) (hb : False) => hb.elim)).alloc _).trans (hf7.mono fun b hb => HZS.out 5 b (HRB.out.row.2 b hb))⟩⟩
              case measure => simp [intOf]; omega
            have hadd := addM_new hsx hin
            rw [HAD.out] at hadd
            obtain ⟨hk9, hv9⟩ : ak2 = ak ++ [x] ∧ v = ((ak.length : Nat) : Int) := by injection hadd with h1 h2; exact ⟨h1, h2⟩
            subst hk9 hv9
            obtain rfl : pl = -1 := by rw [← HPL.out]; unfold placeM; rw [if_neg hin]
            clear hadd
            go_wp2_with (first
              | (go_at_call 94; go_must (refine Calls.mono (HJO.out w4 HB4.out) ?_; rintro e w6 ⟨rfl, h6_⟩; have h6 := h6_.symm; clear h6_; subst h6))
              | (go_at_call 93; go_must (refine Calls.mono HJF.out ?_; rintro e w4 ⟨rfl, hb4⟩; have HB4 := Hd.mk hb4; have HB34 := Hd.mk (below_seq HB3.out hb4); have hz4 := hb4.size; have HRU := Hd.mk ((HRB.out.below (below_seq HB3.out hb4)).below (below_alloc (Below.refl _ _) (.cells #[.slice A3 k c3] 74))); have HOU := Hd.mk ((HO4.out.below (below_seq HB3.out hb4)).below (below_alloc (Below.refl _ _) (.cells #[.slice A3 k c3] 74))); clear hb4))
              | (have hq_ := HOWN; clear hq_; at_builtin; go_must (refine append_snoc I (Ty.int_flat _) rfl (.tmp 118) (.tmp 120) 24 3 _ 8 rfl Tryd.underlying24 infoI9 rfl (by decide) (by decide) p (.slice Ar nr cr) rk ((ak.length : Nat) : Int) [.int .i64 ((ak.length : Nat) : Int)] w9.heap.size rfl rfl (blk_new _ _ _ rfl) rfl HRV.out.row.1 (fun h => by have := (HRB.out.row.1.lt h).1; omega) (by rw [size_alloc]; omega) (by rw [HRL.out]; omega) ?_; intro v2 w7 hM7 hb7 hk7 hat7; have HM7 := Hd.mk hM7; have HB7 := Hd.mk hb7; have HK7 := Hd.mk hk7; have HAT7 := Hd.mk hat7; clear hM7 hb7 hk7 hat7))
              | (at_builtin; go_must (refine append_one BB (S' := fun b => wr.heap.size ≤ b ∧ b < w3.heap.size) rfl (.tmp 114) (.tmp 116) 130 74 _ 24 rfl Tryd.underlying130 infoBools rfl (by decide) (by decide) p (.slice (some ⟨bw2, ow2, none⟩) ak.length ck) ak x [.slice A3 k c3] w4.heap.size rfl rfl (blk_new _ _ _ rfl) ⟨A3, c3, by rw [HXL.out], by rw [HXL.out]; exact (HX3.out.below (fun b hb => hb.2) HB4.out).below (fun b hb => by have := hb.2; omega) (below_alloc (Below.refl _ _) _)⟩ HOU.out (fun b hb => ⟨by rw [size_alloc]; omega, fun h => by have := (HZN.out.lt 4 b (HZ4.out b (.inr h))).2; omega⟩) (fun h => by have := (HZN.out.lt 4 _ (HZ4.out _ (.inr h))).2; omega) (by rw [size_alloc]; omega) (by omega) ?_; intro v9 w9 hown hgr hat; have HOWN := Hd.mk hown; have HAT9 := Hd.mk hat; have HF9' : Hd (Fr (fun b => (Value.slice (some ⟨bw2, ow2, none⟩) ak.length ck).ownBlock = some b) (w4.alloc (.cells #[.slice A3 k c3] 74)) w9) := ⟨⟨⟨hgr.os, hgr.tape, hgr.output, hgr.size, fun k hk => absurd hk (Nat.not_lt_zero k)⟩, fun b hb hx => hgr.block b hb fun h => hx h.symm⟩⟩; have hz9' : w4.heap.size + 1 ≤ w9.heap.size := (by have := hgr.size; rwa [size_alloc] at this); have HRW := Hd.mk (HRU.out.alls (by rw [size_alloc]; omega) HZ4.out HF9'.out hown (fun b hb => (by
                  rcases hb with hb | hb | hb
                  · exact .inl hb
                  · exact .inr (.inl ⟨by omega, fun i hi => by have := (HZN.out.lt i b hi).2; omega⟩)
                  · exact .inr (.inl ⟨by omega, fun i hi => by have := (HZN.out.lt i b hi).2; omega⟩))) hat); have HRV := Hd.mk (HRW.out.below (below_alloc (Below.refl _ _) (.cells #[.int .i64 ((ak.length : Nat) : Int)] 3))); clear hown hgr hat)))
            obtain ⟨A7, n7, c7, rfl, -, -, -, -⟩ := HM7.out.formN
            obtain ⟨A8, c8, e8, -, -, -⟩ := HOWN.out.form
            subst e8
            have hf7 : Fr (fun b => (Value.slice Ar nr cr).ownBlock = some b) (w9.alloc (.cells #[.int .i64 ((ak.length : Nat) : Int)] 3)) w7 := ⟨HB7.out.mono (Nat.zero_le _), fun b hb hx => HK7.out b hb hx⟩
            have hpt : ¬ (Value.slice Ar nr cr).ownBlock = some p := fun h => HZN.out.dis 0 5 p (by decide) HRB.out.zp (HRB.out.row.2 p h)
            have hpa : ¬ (Value.slice (some ⟨bw2, ow2, none⟩) ak.length ck).ownBlock = some p := fun h => HZN.out.dis 0 4 p (by decide) HRB.out.zp (HZ4.out p (.inr h))
            have hob9 := HF9'.out.blk (blk_alloc (blk_below hob' HB34.out) _) hpa
            have hob7 := hf7.blk (blk_alloc hob9 _) hpt
            have hr7 := HRV.out.rowg (by rw [size_alloc]; omega) hf7 HM7.out HAT7.out
            have hz9a : V7.heap.size ≤ (w4.alloc (.cells #[.slice A3 k c3] 74)).heap.size := by rw [size_alloc]; omega
            have hz9b : V7.heap.size ≤ (w9.alloc (.cells #[.int .i64 ((ak.length : Nat) : Int)] 3)).heap.size := by rw [size_alloc]; omega
            have hzx := upX (c := 5) (upX (c := 4) HZS.out (S := fun b => ((S4 b ∨ (wr.heap.size ≤ b ∧ b < w3.heap.size) ∨ b = w4.heap.size) ∨ (Value.slice A8 (ak ++ [x]).length c8).ownBlock = some b)) (fun b hb => by
              rcases hb with (hb | hb | hb) | hb
              · exact HZS.out 4 b (HZ4.out b (.inl hb))
              · exact HXn.out b (by omega)
              · exact HXn.out b (by omega)
              · exact own_up HAT9.out (fun b hb => HZS.out 4 b (HZ4.out b (.inr hb))) (HXn.out _ hz9a) b hb)) (own_up HAT7.out (fun b hb => HZS.out 5 b (HRB.out.row.2 b hb)) (HXn.out _ hz9b))
            go_roundw
            case rel => exact ⟨j2 + 1, _, c8, n7, c7, A8, A7, rfl, rfl, by go_num, by omega, ⟨_, hob7, by rw [HR1.out]; exact hr7, hzx⟩, ⟨((((HFr.out.trans ((Fr.of_below HB34.out).mono fun (b : Nat) (hb : False) => hb.elim)).alloc _).trans (HF9'.out.mono fun b hb => HZS.out 4 b (HZ4.out b (.inr hb)))).alloc _).trans (hf7.mono fun b hb => HZS.out 5 b (HRB.out.row.2 b hb))⟩⟩
            case measure => simp [intOf]; omega
          obtain rfl : j2 = nf := by omega
          have hfull : (fsOf q).take j2 = fsOf q := Df.take_all HFL.out
          have HAK2 := HAK.out; have HRK2 := HRK.out
          rw [hfull] at HAK2 HRK2
          have hbs : bld st q (fsOf q) (n3 + 1) = (ak, nx ++ [rk]) := by
            have h9 := bld_some (st := st) (q := q) (fs := fsOf q) (i := n3) (m := m) (by rw [HALL.out]; exact HMJ.out)
            rw [HALL.out, HNXX.out, HAK2, HRK2] at h9
            exact h9
          have HBS := Hd.mk hbs
          have htg : (ak.take (n3 + 1)).map (bestM q) = tg := by
            rw [← HTG.out]
            obtain ⟨l, hl⟩ := row_pre q m (fsOf q) all
            rw [HAK2] at hl
            rw [hl, List.take_append_of_le_length (by rw [HNA.out]; omega)]
          have HTG2 := Hd.mk htg
          have hnal : n3 + 1 ≤ ak.length := (List.getElem?_eq_some_iff.1 HAKM.out).1
          obtain ⟨SN, hon, hzn⟩ := HRB.out.nxt
          obtain ⟨Ar', nr', cr', er, hnr, hrc, hrnn, _⟩ := HRB.out.row.1.formN
          cases er
          rw [HRL.out] at hnr
          subst hnr
          obtain ⟨_, _, er2, -, -, hrrow⟩ := Base.Own.form HRB.out.row.1
          rw [HRL.out] at er2
          cases er2
          have HRR : Hd (Row I wr (fun b => (Value.slice Ar nr cr).ownBlock = some b) Ar nr rk) := ⟨by rw [HRL.out] at hrrow; exact hrrow.mono fun b hb => by rcases hb with hb | hb; exact hb.elim; exact hb⟩
          have HON := Hd.mk hon; have HZ2 := Hd.mk hzn
          clear hfull HAK2 HRK2 hbs htg hon hzn hrrow
          have hob' := hob
          have hobc0 := blk_cell hob 0 _ rfl; have hobf0 := blk_frozen hob 0; have hobc1 := blk_cell hob 1 _ rfl; have hobf1 := blk_frozen hob 1; have hobc2 := blk_cell hob 2 _ rfl; have hobf2 := blk_frozen hob 2; have hobc3 := blk_cell hob 3 _ rfl; have hobf3 := blk_frozen hob 3; have hobc4 := blk_cell hob 4 _ rfl; have hobf4 := blk_frozen hob 4; have hobl := blk_lt hob
          go_wp2_with (at_builtin; go_must (refine append_one Df.II (S' := fun b => (Value.slice Ar nr cr).ownBlock = some b) rfl (.tmp 123) (.tmp 125) 49 24 _ 24 rfl Tryd.underlying49 infoRowI rfl (by decide) (by decide) p (.slice A2 n3 c2) nx rk [.slice Ar nr cr] wr.heap.size rfl rfl (blk_new _ _ _ rfl) ⟨Ar, cr, by rw [HRL.out], by rw [HRL.out]; exact hrc, hrnn, by rw [HRL.out]; exact HRR.out.below (fun b hb => (HRB.out.row.1.lt hb).1) (below_alloc (Below.refl _ _) _)⟩ (HON.out.below (below_alloc (Below.refl _ _) _)) (fun b hb => ⟨by rw [size_alloc]; have := (HRB.out.row.1.lt hb).1; omega, fun h => HZN.out.dis 2 5 b (by decide) (HZ2.out b (.inr h)) (HRB.out.row.2 b hb)⟩) (fun h => by have := (HZN.out.lt 2 _ (HZ2.out _ (.inr h))).2; omega) (by rw [size_alloc]; omega) (by rw [HNL.out]; omega) ?_; intro v9 w9 hown hgr hat; have HOWN := Hd.mk hown; obtain ⟨A8, c8, e8, -, -, -⟩ := HOWN.out.form; rw [List.length_append, HNL.out, List.length_singleton] at e8; subst e8; have HAT9 := Hd.mk hat; have HF9' : Hd (Fr (fun b => (Value.slice A2 n3 c2).ownBlock = some b) (wr.alloc (.cells #[.slice Ar nr cr] 24)) w9) := ⟨⟨⟨hgr.os, hgr.tape, hgr.output, hgr.size, fun k hk => absurd hk (Nat.not_lt_zero k)⟩, fun b hb hx => hgr.block b hb fun h => hx h.symm⟩⟩; have hpn : ¬ (Value.slice A2 n3 c2).ownBlock = some p := (fun h => HZN.out.dis 0 2 p (by decide) HRB.out.zp (HZ2.out p (.inr h))); have hob9 := HF9'.out.blk (blk_alloc hob' _) hpn; clear hobc0 hobf0 hobc1 hobf1 hobc2 hobf2 hobc3 hobf3 hobc4 hobf4 hobl; have hob9c0 := blk_cell hob9 0 _ rfl; have hob9f0 := blk_frozen hob9 0; have hob9c1 := blk_cell hob9 1 _ rfl; have hob9f1 := blk_frozen hob9 1; have hob9c2 := blk_cell hob9 2 _ rfl; have hob9f2 := blk_frozen hob9 2; have hob9c3 := blk_cell hob9 3 _ rfl; have hob9f3 := blk_frozen hob9 3; have hob9c4 := blk_cell hob9 4 _ rfl; have hob9f4 := blk_frozen hob9 4; have hob9l := blk_lt hob9; clear hown hgr hat))
          have hrU := HRB.out.below (below_alloc (Below.refl _ _) (.cells #[.slice Ar nr cr] 24))
          obtain ⟨Z3, hr3, hz3⟩ := hrU.rows (by rw [size_alloc]; omega) HZ2.out HF9'.out HOWN.out (fun b hb => by
            rcases hb with hb | hb | hb
            · exact .inl hb
            · exact .inr (.inl hb)
            · exact .inr (.inr (.inl ⟨by omega, fun i hi => by have := (HZN.out.lt i b hi).2; omega⟩))) HAT9.out
          have hfz : Fr X V7 (w9.setCell ⟨p, 2, none⟩ (.slice A8 (n3 + 1) c8)) := Fr.set (X := X) ((HFr.out.alloc _).trans (HF9'.out.mono fun b hb => HZS.out 2 b (HZ2.out b (.inr hb)))) (.inl (HZS.out 0 p HRB.out.zp)) 2 _
          have hzx : ∀ i b, Z3 i b → X b := fun i b hb => by
            rcases hz3 i b hb with ⟨j, h9⟩ | (h9 | h9 | h9) | h9
            · exact HZS.out j b h9
            · exact HZS.out 2 b (HZ2.out b (.inl h9))
            · exact HZS.out 5 b (HRB.out.row.2 b h9)
            · exact HXn.out b (by omega)
            · exact own_up HAT9.out (fun b hb => HZS.out 2 b (HZ2.out b (.inr hb))) (HXn.out _ (by rw [size_alloc]; omega)) b h9
          go_roundw
          case rel => exact ⟨n3 + 1, ak.length, ck, Ak, rfl, by go_num, by omega, ⟨Z3, _, _, blk_set hob9 2 _ _ rfl, by rw [HBS.out]; dsimp only; rw [HTG2.out]; exact hr3.store 2 _, hzx⟩, ⟨by rw [HBS.out]; exact hnal⟩, ⟨hfz⟩⟩
          case measure => simp [intOf]; omega
end Go.Proofs.YtbmpaokicphdjaaDoor.Fn
