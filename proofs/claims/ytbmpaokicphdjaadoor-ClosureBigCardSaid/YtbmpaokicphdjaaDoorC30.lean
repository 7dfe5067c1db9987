/- ClosureBig: an automaton of too many states. -/
import Derived.Test.YtbmpaokicphdjaaDoorCI
namespace Go.Proofs.YtbmpaokicphdjaaDoor.Fn
open Go Go.RowKit Go.Proofs.YtbmpaokicphdjaaDoor.Can Go.Proofs.YtbmpaokicphdjaaDoor.Base
attribute [local go_sem] clsB AB.cell

def deadS : St := ⟨-1, -1, -1, [], -1⟩
def uE (_ : Unit) : List Value := stC deadS
theorem uE_len (x : Unit) : (uE x).length = 5 := rfl
theorem uE_one (x : Unit) : ∀ u ∈ uE x, u.oneCell' = true := fun u hu => by
  simp only [uE, stC, deadS, List.mem_cons, List.not_mem_nil, or_false] at hu
  rcases hu with rfl | rfl | rfl | rfl | rfl <;> rfl
abbrev uT : Ty Unit := Ty.flat 5 uE uE_len uE_one
theorem uT_flat : uT.Flat := Ty.flat_flat _ _ _ _
theorem dead_row {w : World} {S : Nat → Prop} {A : Option Addr} {n : Nat} (h : Row uT w S A n (List.replicate n ())) : Row stT w S A n (List.replicate n deadS) := by
  refine ⟨List.length_replicate, h.2.1, fun hn => ?_⟩
  obtain ⟨b, off, e, hs, hr⟩ := h.2.2 hn
  refine ⟨b, off, e, hs, fun j p hj => ?_⟩
  have hjn : j < n := by have := (List.getElem?_eq_some_iff.1 hj).1; rwa [List.length_replicate] at this
  obtain rfl : p = deadS := by
    rw [List.getElem?_replicate, if_pos hjn] at hj
    cases hj; rfl
  obtain ⟨cs, hc, hcell⟩ := hr j () (by rw [List.getElem?_replicate, if_pos hjn])
  have hc' : cs = stC deadS := hc
  subst hc'
  exact ⟨_, stC_rel rfl, hcell⟩
theorem infoS : (Tryd.prog.info? 71).map (fun i => (i.zero, i.size, i.bytes)) = some (some (.agg #[.int .i64 0, .int .i64 0, .int .i64 0, .slice none 0 0, .int .i64 0]), 5, 56) := by kernel_rfl
def bigV (g : Nat) : Value := .agg #[.slice (some ⟨g, 0, none⟩) 16 16, .int .i64 1000]
structure BG (w : World) (g : Nat) (l : List Int) : Prop where
  wd : Wd w (some ⟨g, 0, none⟩) g (ofW 1000 l)
  hi : g < w.heap.size
theorem BG.below {w w' : World} {g : Nat} {l : List Int} (h : BG w g l) (hb : Below w.heap.size w w') : BG w' g l := ⟨h.wd.below hb, Nat.lt_of_lt_of_le h.hi hb.size⟩
theorem room1000 : roomR 1000 = 1000 := by decide
theorem of1000_calls (A : Option Addr) (n c : Nat) (l : List Int) (S : Nat → Prop) (w : World) (hS : ∀ k, S k → k < w.heap.size) (hC : Row I w S A n l) :
    Calls Tryd.prog 15 #[.int .i64 1000, .slice A n c] w fun e w' => ∃ g, e = .returned (.agg #[.slice (some ⟨g, 0, none⟩) 16 16, .int .i64 1000]) ∧ BG w' g l ∧ Below w.heap.size w w' := by
  refine Calls.mono (of_calls 1000 A n c l S w hS hC) ?_
  rintro e w' ⟨g, rfl, h1, h2, h3, h4⟩
  rw [room1000] at h3
  exact ⟨g, by rw [room1000]; rfl, ⟨h3, h2⟩, h4⟩
theorem among_of1000 (l : List Int) : amongM 3 l = marksW 3 (ofW 1000 l) := by
  refine marks_ext (by rw [among_len, marksW_len]) fun k => ?_
  rw [among_in, marksW_in, of_bitI (by decide)]
  constructor
  · exact fun h => ⟨h.2, h.1, by omega⟩
  · exact fun h => ⟨h.2.1, h.1⟩
theorem big_Step (b g : Nat) (l : List Int) (mm : List Bool) (w : World) (h : TwoAt w b) (hs : BG w g l) (hm : stepM twoQ 97 (marksW 3 (ofW 1000 l)) = mm) (hT : TabAt 0 Lib.deBruijn64tab w) (h0 : 0 < w.heap.size) :
    Calls Tryd.prog 45 #[twoV b, bigV g, .int .u8 97] w fun e w' => ∃ g', e = .returned (.tuple #[set3 g', .int .i64 0]) ∧ TS w' w.heap.size g' mm ∧ Below w.heap.size w w' := by
  have h9 := step_ok 2 (some ⟨b, 0, none⟩) 3 twoQ _ g 1000 16 97 (by decide) (ofW 1000 l) w (two_row h) two_ok (ofW_ok (by decide) l) hs.wd hs.hi hT h0
  rw [ofW_len] at h9
  have e3 : stepM twoQ 97 (marksW twoQ.length (ofW 1000 l)) = mm := hm
  rw [e3] at h9
  refine Calls.mono h9 ?_
  rintro e w' ⟨g, ws, rfl, h1, h2, h3⟩
  exact ⟨g, rfl, ⟨ws, h1, h2⟩, h3⟩
theorem big_Best (b g : Nat) (l : List Int) (w : World) (h : TwoAt w b) (hs : BG w g l) (hT : TabAt 0 Lib.deBruijn64tab w) (h0 : 0 < w.heap.size) :
    Calls Tryd.prog 47 #[twoV b, bigV g] w fun e w' => e = .returned (.int .i64 (bestM twoQ (amongM 3 l))) ∧ Below w.heap.size w w' := by
  have h9 := best_ok 2 (some ⟨b, 0, none⟩) 3 twoQ _ g 1000 16 (ofW 1000 l) w (two_row h) two_ok (ofW_ok (by decide) l) hs.wd hs.hi hT h0
  rw [ofW_len] at h9
  rw [among_of1000]
  exact h9
set_option maxRecDepth 20000 in
set_option maxHeartbeats 4000000 in
theorem cbig_calls (Al : Option Addr) (nl cl : Nat) (l : List Int) (S : Nat → Prop) (w : World) (hS : ∀ k, S k → k < w.heap.size) (hL : Row I w S Al nl l) (hT : TabAt 0 Lib.deBruijn64tab w) (h0 : 0 < w.heap.size) :
    Calls Tryd.prog 8 #[.slice Al nl cl] w fun e w' => e = .returned (.bool true) ∧ Below w.heap.size w w' := by
  have HTB : Hd (∀ {W : World}, Below w.heap.size w W → TabAt 0 Lib.deBruijn64tab W) := ⟨fun hb j hj => (hb.cell (p := ⟨0, j, none⟩) h0).trans (hT j hj)⟩
  have H0 : Hd (∀ {W : World}, Below w.heap.size w W → 0 < W.heap.size) := ⟨fun hb => Nat.lt_of_lt_of_le h0 hb.size⟩
  have HLR : Hd (∀ {W : World}, Below w.heap.size w W → Row I W S Al nl l ∧ ∀ k, S k → k < W.heap.size) := ⟨fun hb => ⟨hL.below hS hb, fun k hk => Nat.lt_of_lt_of_le (hS k hk) hb.size⟩⟩
  clear hT h0 hS hL
  by_cases hg : 30 < nl
  · go_enter Tryd.func8, Tryd.ntmps8
    go_wp2_with (go_at_call 41; go_must (refine Calls.mono (closeL_calls w (HTB.out (Below.refl _ _)) (H0.out (Below.refl _ _))) ?_; rintro e w9 ⟨rfl, hb_⟩; have HB9 := Hd.mk hb_; clear hb_))
    go_ret
    exact ⟨rfl, HB9.out⟩
  · go_enter Tryd.func8, Tryd.ntmps8
    go_wp2
    go_loopw [16] (fun i wr => ∃ (k n9 c9 : Nat) (A9 : Option Addr), k ≤ 4097 ∧ i = .int .i64 k ∧ Hd (Mine uT wr (w.heap.size + 1) 71 (.slice A9 n9 c9) (List.replicate k ())) ∧ Hd (wr.heap[w.heap.size]? = some (.cells #[.int .i64 0, .slice A9 n9 c9] 58 (0, 0))) ∧ Hd (Below w.heap.size w wr)) (fun i _ => 4097 - (intOf i).toNat)
    case atStart => exact ⟨0, 0, 0, none, Nat.zero_le _, rfl, ⟨Mine.nil _ _ _ _⟩, ⟨blk_new _ _ _ rfl⟩, ⟨below_alloc (Below.refl _ _) _⟩⟩
    case round =>
      obtain ⟨k, n9, c9, A9, hk, rfl, HM, HX, HB⟩ := hrel
      have hx := HX.out
      have hxl := blk_lt hx
      have hxc0 := blk_cell hx 0 _ rfl; have hxf0 := blk_frozen hx 0; have hxc1 := blk_cell hx 1 _ rfl; have hxf1 := blk_frozen hx 1; have hxl := blk_lt hx
      have hzr := HB.out.size
      by_cases hlt : k < 4097
      · have HNK : Hd ((List.replicate k ()).length = k) := ⟨List.length_replicate⟩
        have hne : ¬ (Value.slice A9 n9 c9).ownBlock = some w.heap.size := fun h => by have := (HM.out.lt h).2; omega
        go_wp2_with (at_builtin; go_must (refine append_snoc uT uT_flat rfl (.tmp 19) (.tmp 21) 56 71 _ 56 rfl Tryd.underlying56 infoS rfl (by decide) (by decide) (w.heap.size + 1) (.slice A9 n9 c9) (List.replicate k ()) () (uE ()) wr.heap.size rfl rfl (blk_new wr _ _ rfl) rfl (HM.out.below (below_alloc (Below.refl _ _) _)) (HM.out.ne_new (by omega)) (by rw [size_alloc]; omega) (by rw [HNK.out]; omega) ?_; intro v2 w5 hM5 hb5 hk5 hat5; obtain ⟨A5, n5, c5, rfl, -, -, -, -⟩ := hM5.formN; have HM5 := Hd.mk hM5; have HB5 := Hd.mk hb5; have hx5 := (hk5 w.heap.size (by rw [size_alloc]; omega) hne).trans (blk_alloc hx _); clear hxc0 hxf0 hxc1 hxf1 hxl; have hx5c0 := blk_cell hx5 0 _ rfl; have hx5f0 := blk_frozen hx5 0; have hx5c1 := blk_cell hx5 1 _ rfl; have hx5f1 := blk_frozen hx5 1; have hx5l := blk_lt hx5; clear hM5 hb5 hk5 hat5))
        have HRP : Hd (List.replicate (k + 1) () = List.replicate k () ++ [()]) := ⟨List.replicate_succ'⟩
        have hne5 : ∀ b, (Value.slice A5 n5 c5).ownBlock = some b → b ≠ w.heap.size := fun b hb he => by have := (HM5.out.lt hb).2; omega
        go_roundw
        case rel => exact ⟨k + 1, n5, c5, A5, by omega, by go_num, ⟨by rw [HRP.out]; exact HM5.out.set hne5 _⟩, ⟨blk_set hx5 1 _ _ rfl⟩, ⟨below_set ((below_seq HB.out (below_alloc (Below.refl _ _) _)).trans (HB5.out.mono (by omega))) (Nat.le_refl _) _ _⟩⟩
        case measure => simp [intOf]; omega
      · obtain rfl : k = 4097 := by omega
        obtain ⟨A8, n8, c8, e8, hn8, -, -, hr8⟩ := HM.out.formN
        cases e8
        rw [List.length_replicate] at hn8
        obtain ⟨N, hN⟩ : ∃ N : Nat, 4097 = N := ⟨_, rfl⟩
        rw [hN] at hr8 hn8
        subst hn8
        obtain ⟨qd, hqd⟩ : ∃ q, List.replicate n9 deadS = q := ⟨_, rfl⟩
        have hlen : qd.length = n9 := by rw [← hqd, List.length_replicate]
        have hck : checkV 0 qd = 6 := by unfold checkV; rw [if_pos (by rw [hlen]; omega)]
        have hrow := dead_row hr8
        rw [hqd] at hrow
        have HNF : Hd (NF wr (fun b => w.heap.size + 1 ≤ b ∧ b < wr.heap.size) A9 qd) := ⟨⟨by rw [hlen]; exact hrow, fun b hb => hb.2⟩⟩
        have HSB : Hd (∀ W : World, Below wr.heap.size wr W → _) := ⟨fun W hb => start_bad 0 A9 c9 qd _ W (HNF.out.below hb) (by rw [hck]; decide)⟩
        have HRB : Hd (∀ (t : ByteArray) (W : World), Below wr.heap.size wr W → _) := ⟨fun t W hb => run_bad 0 A9 c9 qd _ t W (HNF.out.below hb) (by rw [hck]; decide)⟩
        rw [hlen, hck] at HSB HRB
        have HOF : Hd (∀ W : World, Below w.heap.size w W → _) := ⟨fun W hb => of1000_calls Al nl cl l S W (HLR.out hb).2 (HLR.out hb).1⟩
        clear hr8 hqd hlen hck hrow HM hN
        go_upto_region 11 with (first
          | (go_at_call 15; go_must (refine Calls.mono (HOF.out w3 HB3.out) ?_; rintro e w4 ⟨g, rfl, hg, hb_⟩; have HG := Hd.mk hg; have HB4 := Hd.mk (below_seq HB3.out hb_); clear hg hb_))
          | (go_at_call 42; go_must (refine Calls.mono (HRB.out _ _ HB2a.out) ?_; rintro e w3 ⟨rfl, hb_⟩; have HB3 := Hd.mk (below_seq HB.out (below_seq HB2a.out hb_)); clear hx2c0 hx2f0 hx2c1 hx2f1 hx2l; clear hb_))
          | (go_at_call 44; go_must (refine Calls.mono (HSB.out wr (Below.refl _ _)) ?_; rintro e w2 ⟨rfl, hb_⟩; have HB2a := Hd.mk (below_seq hb_ (below_alloc (Below.refl _ _) (.cells #[.slice none 0 0, .int .i64 0] 28))); have hx2 := blk_alloc (blk_below hx hb_) (.cells #[.slice none 0 0, .int .i64 0] 28); clear hxc0 hxf0 hxc1 hxf1 hxl; have hx2c0 := blk_cell hx2 0 _ rfl; have hx2f0 := blk_frozen hx2 0; have hx2c1 := blk_cell hx2 1 _ rfl; have hx2f1 := blk_frozen hx2 1; have hx2l := blk_lt hx2; clear hb_)))
        have HBX : Hd ((w4.alloc (.cells #[.slice (some ⟨g, 0, none⟩) 16 16, .int .i64 1000] 28)).heap[w4.heap.size]? = some (.cells #[.slice (some ⟨g, 0, none⟩) 16 16, .int .i64 1000] 28 (0, 0))) := ⟨blk_new _ _ _ rfl⟩
        have HBG := Hd.mk (HG.out.below (below_alloc (Below.refl _ _) (.cells #[.slice (some ⟨g, 0, none⟩) 16 16, .int .i64 1000] 28)))
        have HBV := Hd.mk (below_seq HB4.out (below_alloc (Below.refl _ _) (.cells #[.slice (some ⟨g, 0, none⟩) 16 16, .int .i64 1000] 28)))
        generalize World.alloc w4 _ = V at *
        generalize w4.heap.size = p1 at *
        clear HG HB4 HB3 HB2a HSB HRB HOF
        obtain ⟨mm, hmm⟩ : ∃ m, stepM twoQ 97 (marksW 3 (ofW 1000 l)) = m := ⟨_, rfl⟩
        have HMM := Hd.mk hmm
        have HMA : Hd (stepM twoQ 97 (amongM 3 l) = mm) := ⟨by rw [among_of1000, hmm]⟩
        clear hmm
        have hbx := HBX.out
        have hbxc0 := blk_cell hbx 0 _ rfl; have hbxf0 := blk_frozen hbx 0; have hbxc1 := blk_cell hbx 1 _ rfl; have hbxf1 := blk_frozen hbx 1; have hbxl := blk_lt hbx
        go_cut [9, 10] (fun v3 v4 wx => ∃ (p' g' : Nat), v3 = .pointer (some ⟨p', 0, none⟩) ∧ v4 = .int .i64 0 ∧ Hd (wx.heap[p']? = some (oSet g')) ∧ Hd (TS wx 0 g' mm) ∧ Hd (Below V.heap.size V wx))
        case first =>
          refine wp_region_can (.q [1] (.b 0 true (.b 2 false (.q [3, 4, 5] (.e 6 true (.e 7 false (.q [8] (.done))))) 6 true (.e 2 false (.q [3, 4, 5] (.e 7 false (.q [8] (.done)))))) 6 true (.e 0 true (.e 2 false (.q [3, 4, 5] (.e 7 false (.q [8] (.done)))))))) (clsB _) (by kernel_rfl) (by kernel_rfl) (by intro _ _ d _ _ h; cases d <;> exact h) (clsB_drew _) ?_
          refine can_q (l := [⟨_,_,_,_,_,_⟩]) rfl ?_
          repeat (go_big_quiet_step (fail))
          refine wpQuiet_nil ?_
          have hzV := HBV.out.size
          refine can_b (o := ⟨_,_,_,_,_,_⟩) (oj := ⟨_,_,_,_,_,_⟩) rfl rfl (fun K hK => ?_) (fun K hK => ?_)
          · go_wp2_with (go_at_call 49; go_must (refine Calls.mono (two_calls _) ?_; rintro e wa ⟨ba, rfl, hb_, ht_, hw_⟩; (try rw [size_drew] at hb_); have HTwa := Hd.mk ht_; have HLwa := Hd.mk hb_; have HBwa := Hd.mk hw_; clear hb_ ht_ hw_))
            have HVA := Hd.mk (below_undrew HBwa.out)
            refine onK_normal (hK _ _ ⟨clsB _, clsB_of (by first | exact (HVA.out) | exact below_undrew (HVA.out)), fun _ _ h => h, ?_⟩)
            clear hK K
            refine can_b (o := ⟨_,_,_,_,_,_⟩) (oj := ⟨_,_,_,_,_,_⟩) rfl rfl (fun K hK => ?_) (fun K hK => ?_)
            · go_wp2_with (go_at_call 45; go_must (have h9 := big_Step ba g l mm (wa) HTwa.out (HBG.out.below HVA.out) HMM.out (HTB.out (below_seq HBV.out HVA.out)) (H0.out (below_seq HBV.out HVA.out)); unfold twoV set3 bigV at h9; refine Calls.mono h9 ?_; clear h9; rintro e wb ⟨gb, rfl, hs_, hb_⟩; have HSwb := Hd.mk hs_; have HBwb := Hd.mk hb_; clear hs_ hb_))
              have HVB := Hd.mk (below_seq HVA.out HBwb.out)
              refine onK_normal (hK _ _ ⟨clsB _, clsB_of (by first | exact (HVB.out) | exact below_undrew (HVB.out)), fun _ _ h => h, ?_⟩)
              clear hK K
              refine can_q (l := [⟨_,_,_,_,_,_⟩, ⟨_,_,_,_,_,_⟩, ⟨_,_,_,_,_,_⟩]) rfl ?_
              repeat (go_big_quiet_step (fail))
              refine wpQuiet_nil ?_
              refine can_e (o := ⟨_,_,_,_,_,_⟩) rfl (fun K hK => ?_)
              go_wp2_with fail
              refine onK_normal (hK _ _ ⟨clsB _, clsB_of (by first | exact ((below_alloc HVB.out _)) | exact below_undrew ((below_alloc HVB.out _))), fun _ _ h => h, ?_⟩)
              clear hK K
              refine can_e (o := ⟨_,_,_,_,_,_⟩) rfl (fun K hK => ?_)
              go_wp2_with fail
              refine onK_normal (hK _ _ ⟨fun _ => True, trivial, (fun h => by cases h), ?_⟩)
              clear hK K
              refine can_q (l := [⟨_,_,_,_,_,_⟩]) rfl ?_
              repeat (go_big_quiet_step (fail))
              refine wpQuiet_nil ?_
              refine can_done ?_
              go_wp2
              go_meet
              case rel => exact ⟨_, _, rfl, rfl, ⟨blk_new _ _ _ rfl⟩, ⟨(HSwb.out.mono (Nat.zero_le _)).below (below_alloc (Below.refl _ _) _)⟩, ⟨below_alloc HVB.out _⟩⟩
            · go_wp2_with fail
              refine onK_normal (hK _ _ ⟨clsB _, clsB_of (by first | exact ((below_alloc HVA.out _)) | exact below_undrew ((below_alloc HVA.out _))), fun _ _ h => h, ?_⟩)
              clear hK K
              refine can_e (o := ⟨_,_,_,_,_,_⟩) rfl (fun K hK => ?_)
              go_wp2_with (go_at_call 45; go_must (have h9 := big_Step ba g l mm (wa.alloc (.cells #[.slice none 0 0, .int .i64 0] 28)) (HTwa.out.below (below_alloc (Below.refl _ _) _)) (HBG.out.below (below_alloc HVA.out _)) HMM.out (HTB.out (below_seq HBV.out (below_alloc HVA.out _))) (H0.out (below_seq HBV.out (below_alloc HVA.out _))); unfold twoV set3 bigV at h9; refine Calls.mono h9 ?_; clear h9; rintro e wb ⟨gb, rfl, hs_, hb_⟩; have HSwb := Hd.mk hs_; have HBwb := Hd.mk hb_; clear hs_ hb_))
              have HVB := Hd.mk (below_seq HVA.out (below_seq (below_alloc (Below.refl _ _) _) HBwb.out))
              have hq := blk_below (blk_new wa (.cells #[.slice none 0 0, .int .i64 0] 28) _ rfl) HBwb.out
              refine onK_normal (hK _ _ ⟨clsB _, clsB_of (by first | exact (HVB.out) | exact below_undrew (HVB.out)), fun _ _ h => h, ?_⟩)
              clear hK K
              refine can_q (l := [⟨_,_,_,_,_,_⟩, ⟨_,_,_,_,_,_⟩, ⟨_,_,_,_,_,_⟩]) rfl ?_
              repeat (go_big_quiet_step (fail))
              refine wpQuiet_nil ?_
              have hqc0 := blk_cell hq 0 _ rfl; have hqf0 := blk_frozen hq 0; have hqc1 := blk_cell hq 1 _ rfl; have hqf1 := blk_frozen hq 1; have hql := blk_lt hq
              refine can_e (o := ⟨_,_,_,_,_,_⟩) rfl (fun K hK => ?_)
              go_wp2_with fail
              refine onK_normal (hK _ _ ⟨fun _ => True, trivial, (fun h => by cases h), ?_⟩)
              clear hK K
              refine can_q (l := [⟨_,_,_,_,_,_⟩]) rfl ?_
              repeat (go_big_quiet_step (fail))
              refine wpQuiet_nil ?_
              refine can_done ?_
              go_wp2
              go_meet
              case rel =>
                obtain ⟨q1, q2, q3⟩ := box_done (V := V) (g := gb) (m := mm) hq (HSwb.out.mono (Nat.zero_le _)) (by have := HSwb.out.lo; rw [size_alloc] at this; omega) HVB.out HVA.out.size
                exact ⟨_, _, rfl, rfl, q1, q2, q3⟩
          · go_wp2_with fail
            refine onK_normal (hK _ _ ⟨clsB _, clsB_of (by first | exact ((below_alloc (below_drew1 (Below.refl V.heap.size V)) _)) | exact below_undrew ((below_alloc (below_drew1 (Below.refl V.heap.size V)) _))), fun _ _ h => h, ?_⟩)
            clear hK K
            refine can_e (o := ⟨_,_,_,_,_,_⟩) rfl (fun K hK => ?_)
            go_wp2_with (go_at_call 49; go_must (refine Calls.mono (two_calls _) ?_; rintro e wa ⟨ba, rfl, hb_, ht_, hw_⟩; (try rw [size_drew] at hb_); have HTwa := Hd.mk ht_; have HLwa := Hd.mk hb_; have HBwa := Hd.mk hw_; clear hb_ ht_ hw_))
            have HVA := Hd.mk (below_seq (below_alloc (below_drew1 (Below.refl V.heap.size V)) (.cells #[.slice none 0 0, .int .i64 0] 28)) HBwa.out)
            refine onK_normal (hK _ _ ⟨clsB _, clsB_of (by first | exact (HVA.out) | exact below_undrew (HVA.out)), fun _ _ h => h, ?_⟩)
            clear hK K
            have hqa : wa.heap[V.heap.size]? = some zSet := blk_below (blk_new V.drew _ _ rfl) HBwa.out
            refine can_e (o := ⟨_,_,_,_,_,_⟩) rfl (fun K hK => ?_)
            go_wp2_with (go_at_call 45; go_must (have h9 := big_Step ba g l mm (wa) HTwa.out (HBG.out.below HVA.out) HMM.out (HTB.out (below_seq HBV.out HVA.out)) (H0.out (below_seq HBV.out HVA.out)); unfold twoV set3 bigV at h9; refine Calls.mono h9 ?_; clear h9; rintro e wb ⟨gb, rfl, hs_, hb_⟩; have HSwb := Hd.mk hs_; have HBwb := Hd.mk hb_; clear hs_ hb_))
            have HVB := Hd.mk (below_seq HVA.out HBwb.out)
            have hq := blk_below hqa HBwb.out
            refine onK_normal (hK _ _ ⟨clsB _, clsB_of (by first | exact (HVB.out) | exact below_undrew (HVB.out)), fun _ _ h => h, ?_⟩)
            clear hK K
            refine can_q (l := [⟨_,_,_,_,_,_⟩, ⟨_,_,_,_,_,_⟩, ⟨_,_,_,_,_,_⟩]) rfl ?_
            repeat (go_big_quiet_step (fail))
            refine wpQuiet_nil ?_
            have hqc0 := blk_cell hq 0 _ rfl; have hqf0 := blk_frozen hq 0; have hqc1 := blk_cell hq 1 _ rfl; have hqf1 := blk_frozen hq 1; have hql := blk_lt hq
            refine can_e (o := ⟨_,_,_,_,_,_⟩) rfl (fun K hK => ?_)
            go_wp2_with fail
            refine onK_normal (hK _ _ ⟨fun _ => True, trivial, (fun h => by cases h), ?_⟩)
            clear hK K
            refine can_q (l := [⟨_,_,_,_,_,_⟩]) rfl ?_
            repeat (go_big_quiet_step (fail))
            refine wpQuiet_nil ?_
            refine can_done ?_
            go_wp2
            go_meet
            case rel =>
              obtain ⟨q1, q2, q3⟩ := box_done (V := V) (g := gb) (m := mm) hq (HSwb.out.mono (Nat.zero_le _)) (by have := HSwb.out.lo; have h5 := HBwa.out.size; rw [size_drew, size_alloc] at h5; omega) HVB.out (Nat.le_refl _)
              exact ⟨_, _, rfl, rfl, q1, q2, q3⟩
        case rest =>
          obtain ⟨p2, g2, rfl, rfl, HBX2, HSX2, HBW2⟩ := hcut
          clear hbxc0 hbxf0 hbxc1 hbxf1 hbxl
          have HBV2 := Hd.mk (below_seq HBV.out HBW2.out)
          have HBP := Hd.mk (blk_below HBX.out HBW2.out)
          have HBG2 := Hd.mk (HBG.out.below HBW2.out)
          clear hbx HBX HBG HBW2 HBV
          generalize wc = U at *
          have TOK := Hd.mk trivial
          go_upto_region 13 with (first
            | (go_at_call 50; go_must (have h9 := numbersM_calls A4 3 c4 mm (fun k => x3.heap.size ≤ k ∧ k < x4.heap.size) x4 (by decide) (fun k hk => hk.2) (HM4.out.row (by decide)); refine Calls.mono h9 ?_; clear h9; rintro e x5 ⟨A5, n5, c5, rfl, hr_, hb_⟩; have HR5 : Hd (Row I x5 (fun k => x4.heap.size ≤ k ∧ k < x5.heap.size) A5 n5 (numbersL mm)) := ⟨hr_⟩; have HX5 := Hd.mk (below_seq HX4.out hb_); clear hr_ hb_))
            | (go_at_call 51; go_must (have h9 := rstep_calls 2 (some ⟨b1, 0, none⟩) 3 3 twoQ _ A3 c3 (amongM 3 l) (fun k => x2.heap.size ≤ k ∧ k < x3.heap.size) 97 (by decide) x3 rfl (by decide) (two_row HT1b.out) two_okN (fun k hk => hk.2) (HM3.out.row (by decide)); rw [HMA.out] at h9; refine Calls.mono h9 ?_; clear h9; rintro e x4 ⟨A4, c4, rfl, hm_, hb_⟩; have HM4 := Hd.mk hm_; have HX4 := Hd.mk (below_seq HX3.out hb_); clear hm_ hb_))
            | (go_at_call 52; go_must (have h9 := among_calls 2 (some ⟨b2, 0, none⟩) 3 3 Al nl cl l S x2 (by decide) (HLR.out (below_seq HBV2.out HX2.out)).2 (HLR.out (below_seq HBV2.out HX2.out)).1; refine Calls.mono h9 ?_; clear h9; rintro e x3 ⟨A3, c3, rfl, hm_, hb_⟩; have HM3 := Hd.mk hm_; have HX3 := Hd.mk (below_seq HX2.out hb_); have HT1b := Hd.mk (HT1a.out.below hb_); clear hm_ hb_))
            | (have hq_ := HX1; clear hq_; go_at_call 49; go_must (refine Calls.mono (two_calls _) ?_; rintro e x2 ⟨b2, rfl, -, ht_, hw_⟩; have HT1a := Hd.mk (HTx1.out.below hw_); have HX2 := Hd.mk (below_seq HX1.out hw_); clear ht_ hw_))
            | (have hq_ := TOK; clear hq_ TOK; go_at_call 49; go_must (refine Calls.mono (two_calls _) ?_; rintro e x1 ⟨b1, rfl, -, ht_, hw_⟩; have HTx1 := Hd.mk ht_; have HX1 := Hd.mk hw_; clear ht_ hw_)))
          have HBV5 := Hd.mk (below_seq HBV2.out HX5.out)
          have HBP5 := Hd.mk (blk_below HBP.out HX5.out)
          have HBG5 := Hd.mk (HBG2.out.below HX5.out)
          have hbx5 := blk_below HBX2.out HX5.out
          have hbp5 := HBP5.out
          obtain ⟨ws2, hs2, hm2⟩ := (HSX2.out.below HX5.out).out
          have HS2 := Hd.mk hs2
          have hkl : ws2.length = 1 := hs2.ok.len
          have HEL : Hd (elemsI ws2 = numbersL mm) := ⟨by rw [← hm2]; exact elemsI_marks_eq hs2.ok⟩
          have h8 := all_calls (some ⟨g2, 0, none⟩) 1 g2 3 ws2 x5.drew hs2.ok (hs2.wd.move rfl) (by rw [size_drew]; exact hs2.hi) (HTB.out (below_drew1 HBV5.out)) (H0.out (below_drew1 HBV5.out))
          rw [hkl] at h8
          have HJ := Hd.mk h8
          obtain ⟨bst, hbst⟩ : ∃ b, bestM twoQ (amongM 3 l) = b := ⟨_, rfl⟩
          have HBST := Hd.mk hbst
          clear hs2 hm2 hkl h8 hbst HBX2 HBP HSX2
          have hbx5c0 := blk_cell hbx5 0 _ rfl; have hbx5f0 := blk_frozen hbx5 0; have hbx5c1 := blk_cell hbx5 1 _ rfl; have hbx5f1 := blk_frozen hbx5 1; have hbx5l := blk_lt hbx5
          have hbp5c0 := blk_cell hbp5 0 _ rfl; have hbp5f0 := blk_frozen hbp5 0; have hbp5c1 := blk_cell hbp5 1 _ rfl; have hbp5f1 := blk_frozen hbp5 1; have hbp5l := blk_lt hbp5
          refine wp_region_can (.q [0, 1, 2, 3, 4, 5, 6, 7, 8, 9, 10, 11, 12, 13, 14, 15, 17] (.e 16 false (.e 18 false (.q [19, 20, 22, 26] (.e 21 true (.e 23 false (.e 24 false (.e 25 false (.e 27 false (.e 28 false (.q [29, 30, 31] (.e 32 false (.q [33, 34] (.done)))))))))))))) (clsB _) (by kernel_rfl) (by kernel_rfl) (by intro _ _ d _ _ h; cases d <;> exact h) (clsB_drew _) ?_
          refine can_q (l := [⟨_,_,_,_,_,_⟩, ⟨_,_,_,_,_,_⟩, ⟨_,_,_,_,_,_⟩, ⟨_,_,_,_,_,_⟩, ⟨_,_,_,_,_,_⟩, ⟨_,_,_,_,_,_⟩, ⟨_,_,_,_,_,_⟩, ⟨_,_,_,_,_,_⟩, ⟨_,_,_,_,_,_⟩, ⟨_,_,_,_,_,_⟩, ⟨_,_,_,_,_,_⟩, ⟨_,_,_,_,_,_⟩, ⟨_,_,_,_,_,_⟩, ⟨_,_,_,_,_,_⟩, ⟨_,_,_,_,_,_⟩, ⟨_,_,_,_,_,_⟩, ⟨_,_,_,_,_,_⟩]) rfl ?_
          repeat (go_big_quiet_step (fail))
          refine wpQuiet_nil ?_
          refine can_e (o := ⟨_,_,_,_,_,_⟩) rfl (fun K hK => ?_)
          go_wp2_with (go_at_call 23; go_must (refine Calls.mono HJ.out ?_; rintro e y1 ⟨A6, n6, c6, rfl, hr_, hb_⟩; have HR6 : Hd (Row I y1 (fun k => x5.heap.size ≤ k ∧ k < y1.heap.size) A6 n6 (numbersL mm)) := ⟨by rw [size_drew] at hr_; rw [← HEL.out]; exact hr_⟩; have HY1 := Hd.mk (below_undrew hb_); clear hr_ hb_))
          refine onK_normal (hK _ _ ⟨clsB _, clsB_of (by first | exact (HY1.out) | exact below_undrew (HY1.out)), fun _ _ h => h, ?_⟩)
          clear hK K
          have HJ2 := Hd.mk (same_calls A6 A5 n6 n5 c6 c5 (numbersL mm) (numbersL mm) true (fun k => x5.heap.size ≤ k ∧ k < y1.heap.size) (fun k => x4.heap.size ≤ k ∧ k < x5.heap.size) y1 (fun k hk => hk.2) (fun k hk => Nat.lt_of_lt_of_le hk.2 HY1.out.size) HR6.out (HR5.out.below (fun k hk => hk.2) HY1.out) (decide_eq_true rfl))
          refine can_e (o := ⟨_,_,_,_,_,_⟩) rfl (fun K hK => ?_)
          go_wp2_with (go_at_call 17; go_must (refine Calls.mono HJ2.out ?_; rintro e y2 ⟨rfl, hb_⟩; have HY2 := Hd.mk (below_seq HY1.out hb_); clear hb_))
          refine onK_normal (hK _ _ ⟨clsB _, clsB_of (by first | exact (HY2.out) | exact below_undrew (HY2.out)), fun _ _ h => h, ?_⟩)
          clear hK K
          refine can_q (l := [⟨_,_,_,_,_,_⟩, ⟨_,_,_,_,_,_⟩, ⟨_,_,_,_,_,_⟩, ⟨_,_,_,_,_,_⟩]) rfl ?_
          repeat (go_big_quiet_step (fail))
          refine wpQuiet_nil ?_
          refine can_e (o := ⟨_,_,_,_,_,_⟩) rfl (fun K hK => ?_)
          go_wp2_with (go_at_call 49; go_must (refine Calls.mono (two_calls _) ?_; rintro e y3 ⟨b3, rfl, -, ht_, hw_⟩; have HT3 := Hd.mk ht_; have HY3 := Hd.mk (below_seq HY2.out hw_); clear ht_ hw_))
          refine onK_normal (hK _ _ ⟨clsB _, clsB_of (by first | exact (HY3.out) | exact below_undrew (HY3.out)), fun _ _ h => h, ?_⟩)
          clear hK K
          have h8 := big_Best b3 g l y3 HT3.out (HBG5.out.below HY3.out) (HTB.out (below_seq HBV5.out HY3.out)) (H0.out (below_seq HBV5.out HY3.out))
          unfold twoV bigV at h8
          rw [HBST.out] at h8
          have HJ3 := Hd.mk h8
          clear h8
          refine can_e (o := ⟨_,_,_,_,_,_⟩) rfl (fun K hK => ?_)
          go_wp2_with (go_at_call 47; go_must (refine Calls.mono HJ3.out ?_; rintro e y4 ⟨rfl, hb_⟩; have HY4 := Hd.mk (below_seq HY3.out hb_); clear hb_))
          refine onK_normal (hK _ _ ⟨clsB _, clsB_of (by first | exact (HY4.out) | exact below_undrew (HY4.out)), fun _ _ h => h, ?_⟩)
          clear hK K
          refine can_e (o := ⟨_,_,_,_,_,_⟩) rfl (fun K hK => ?_)
          go_wp2_with (go_at_call 49; go_must (refine Calls.mono (two_calls _) ?_; rintro e y5 ⟨b5, rfl, -, ht_, hw_⟩; have HT5 := Hd.mk ht_; have HY5 := Hd.mk (below_seq HY4.out hw_); clear ht_ hw_))
          refine onK_normal (hK _ _ ⟨clsB _, clsB_of (by first | exact (HY5.out) | exact below_undrew (HY5.out)), fun _ _ h => h, ?_⟩)
          clear hK K
          refine can_e (o := ⟨_,_,_,_,_,_⟩) rfl (fun K hK => ?_)
          go_wp2_with (go_at_call 49; go_must (refine Calls.mono (two_calls _) ?_; rintro e y6 ⟨b6, rfl, -, ht_, hw_⟩; have HT5' := Hd.mk (HT5.out.below hw_); have HY6 := Hd.mk (below_seq HY5.out hw_); clear ht_ hw_))
          refine onK_normal (hK _ _ ⟨clsB _, clsB_of (by first | exact (HY6.out) | exact below_undrew (HY6.out)), fun _ _ h => h, ?_⟩)
          clear hK K
          have HJ4 := Hd.mk (among_calls 2 (some ⟨b6, 0, none⟩) 3 3 Al nl cl l S y6 (by decide) (HLR.out (below_seq HBV5.out HY6.out)).2 (HLR.out (below_seq HBV5.out HY6.out)).1)
          refine can_e (o := ⟨_,_,_,_,_,_⟩) rfl (fun K hK => ?_)
          go_wp2_with (go_at_call 52; go_must (refine Calls.mono HJ4.out ?_; rintro e y7 ⟨A7, c7, rfl, hm_, hb_⟩; have HM7 := Hd.mk hm_; have HT7 := Hd.mk (HT5'.out.below hb_); have HY7 := Hd.mk (below_seq HY6.out hb_); clear hm_ hb_))
          refine onK_normal (hK _ _ ⟨clsB _, clsB_of (by first | exact (HY7.out) | exact below_undrew (HY7.out)), fun _ _ h => h, ?_⟩)
          clear hK K
          have h8 := rbest_calls 2 (some ⟨b5, 0, none⟩) 3 3 twoQ _ A7 c7 (amongM 3 l) _ y7 rfl (two_row HT7.out) (fun k hk => hk.2) (HM7.out.row (by decide))
          rw [HBST.out] at h8
          have HJ5 := Hd.mk h8
          clear h8
          refine can_e (o := ⟨_,_,_,_,_,_⟩) rfl (fun K hK => ?_)
          go_wp2_with (go_at_call 53; go_must (refine Calls.mono HJ5.out ?_; rintro e y8 ⟨rfl, hb_⟩; have HY8 := Hd.mk (below_seq HY7.out hb_); clear hb_))
          refine onK_normal (hK _ _ ⟨clsB _, clsB_of (by first | exact (HY8.out) | exact below_undrew (HY8.out)), fun _ _ h => h, ?_⟩)
          clear hK K
          refine can_q (l := [⟨_,_,_,_,_,_⟩, ⟨_,_,_,_,_,_⟩, ⟨_,_,_,_,_,_⟩]) rfl ?_
          repeat (go_big_quiet_step (fail))
          refine wpQuiet_nil ?_
          refine can_e (o := ⟨_,_,_,_,_,_⟩) rfl (fun K hK => ?_)
          go_wp2_with (go_at_call 41; go_must (refine Calls.mono (closeL_calls y8 (HTB.out (below_seq HBV5.out HY8.out)) (H0.out (below_seq HBV5.out HY8.out))) ?_; rintro e y9 ⟨rfl, hb_⟩; have HY9 := Hd.mk (below_seq HY8.out hb_); clear hb_))
          refine onK_normal (hK _ _ ⟨fun _ => True, trivial, (fun h => by cases h), ?_⟩)
          clear hK K
          refine can_q (l := [⟨_,_,_,_,_,_⟩, ⟨_,_,_,_,_,_⟩]) rfl ?_
          repeat (go_big_quiet_step (fail))
          refine wpQuiet_nil ?_
          refine can_done ?_
          go_wp2
          go_ret
          exact ⟨rfl, below_seq HBV5.out HY9.out⟩
end Go.Proofs.YtbmpaokicphdjaaDoor.Fn
