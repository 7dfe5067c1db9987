/- Texts: E9, E10, E11, E12. -/
import Derived.Test.YtbmpaokicphdjaaDoorEB
set_option linter.unusedVariables false
set_option linter.unusedSimpArgs false
/- Build. -/
namespace Go.Proofs.YtbmpaokicphdjaaDoor.Fn
open Go Go.RowKit Go.Proofs.YtbmpaokicphdjaaDoor.Can Go.Proofs.YtbmpaokicphdjaaDoor.Base
attribute [local go_sem] clsB AB.cell clsX AX.cell

/-- An element of an owned row of sets, and where it lies. -/
theorem own_set_get {w : World} {base : Nat} {e : TypeId} {S : Nat → Prop} {v : Value} {xs : List (Nat × List Nat)} (h : Base.Own setT w base e S v xs) (j : Nat) (hj : j < xs.length) :
    ∃ b c y A' c' g', v = .slice (some ⟨b, 0, none⟩) xs.length c ∧ b < w.heap.size ∧ xs[j]? = some y ∧ w.cell? ⟨b, j * 2, none⟩ = some (.slice A' y.2.length c') ∧ w.cell? ⟨b, j * 2 + 1, none⟩ = some (.int .i64 (y.1 : Nat)) ∧ Wok y.1 y.2 ∧ Wd w A' g' y.2 ∧ (y.2 ≠ [] → S g') := by
  obtain ⟨inner, ho, hc, hs⟩ := h
  rcases ho.2 with ⟨_, h0⟩ | ⟨g, cap, cur, rfl, _, hh, hcap, hm, hcs, ht⟩
  · omega
  · have hx := List.getElem?_eq_getElem hj
    obtain ⟨A', c', g', hcell, hok, hw, hS⟩ := hc.2 j _ hx
    have hl : inner.length = xs.length * 2 := hc.1
    have hsz : setT.sz = 2 := rfl
    rw [hsz] at hcell ht
    have key : ∀ i u, i < 2 → ((inner.drop (j * 2)).take 2)[i]? = some u → w.cell? ⟨g, j * 2 + i, none⟩ = some u := fun i u hi hu => by
      rw [List.getElem?_take, if_pos hi, List.getElem?_drop, ← ht, List.getElem?_take, if_pos (by omega)] at hu
      exact blk_cell hh _ u (by simpa using hu)
    refine ⟨g, cap, xs[j], A', c', g', rfl, blk_lt hh, hx, ?_, ?_, hok, hw, hS⟩
    · have := key 0 (.slice A' (xs[j]).2.length c') (by decide) (by rw [hcell]; rfl)
      rwa [Nat.add_zero] at this
    · exact key 1 _ (by decide) (by rw [hcell]; rfl)
theorem allOk_nil (n : Nat) : AllOk n [] := ⟨List.nodup_nil, fun m hm => absurd hm List.not_mem_nil, fun m hm => absurd hm List.not_mem_nil⟩
theorem r1025 : roomS 1025 = 1025 := by decide +kernel
theorem infoRg : (Tryd.prog.info? 124).map (fun i => (i.zero, i.size, i.bytes)) = some (some (.agg #[.int .i64 0, .int .i64 0]), 2, 16) := by kernel_rfl
theorem rT_flat : Al.rT.Flat := Ty.flat_flat _ _ _ _
set_option maxRecDepth 20000 in
set_option maxHeartbeats 8000000 in
theorem build_calls (st : Int) (A : Option Addr) (n c : Nat) (q : List St) (S : Nat → Prop) (mo most : Int) (w : World) (hn : q.length = n) (hN : NF w S A q) (hc : checkV st q = 0) (hm : 0 ≤ mo) (hmo : (if 1024 < mo then 1024 else mo) = most) (hT : TabAt 0 Lib.deBruijn64tab w) (h0 : 0 < w.heap.size) :
    Calls Tryd.prog 59 #[.agg #[.int .i64 st, .slice A n c], .int .i64 mo] w fun e w' => BQ st q most w e w' ∧ Below w.heap.size w w' := by
  have HTB : Hd (∀ {W : World}, Below w.heap.size w W → TabAt 0 Lib.deBruijn64tab W) := ⟨fun hb j hj => (hb.cell (p := ⟨0, j, none⟩) h0).trans (hT j hj)⟩
  have H0 : Hd (∀ {W : World}, Below w.heap.size w W → 0 < W.heap.size) := ⟨fun hb => Nat.lt_of_lt_of_le h0 hb.size⟩
  have HNF : Hd (∀ {W : World}, Below w.heap.size w W → NF W S A q) := ⟨fun hb => hN.below hb⟩
  have HSL := Hd.mk hN.lt
  obtain ⟨hok, hlen⟩ := checkV_ok hc
  rw [hn] at hlen
  have HN := Hd.mk hn; have HCK := Hd.mk hc; have HOK := Hd.mk hok
  have hm1 : 0 ≤ most := by rw [← hmo]; split <;> omega
  have hm2 : most ≤ 1024 := by rw [← hmo]; split <;> omega
  have HMO := Hd.mk hmo
  have h8 := start_ok st A c q S ((w.alloc (.cells #[.int .i64 st, .slice A n c] 58)).alloc (.cells #[.slice none 0 0, .int .i64 0, .slice none 0 0, .slice none 0 0, .int .i64 0] 90)) (HNF.out (below_alloc (below_alloc (Below.refl _ _) _) _)) hc
  rw [hn] at h8
  unfold setV at h8
  obtain ⟨k1, hk1⟩ : ∃ K, (n + 63) / 64 = K := ⟨_, rfl⟩
  rw [hk1] at h8
  have HK1 := Hd.mk hk1
  have HST := Hd.mk h8
  clear hT h0 hN hn hc hok hmo h8 hk1
  go_enter Tryd.func59, Tryd.ntmps59
  go_upto_region 4 with (go_at_call 44; go_must (refine Calls.mono HST.out ?_; rintro e w2 ⟨g0, ws0, rfl, hs1, hm1, hb_⟩; have HS2 := Hd.mk hs1; have HM2 := Hd.mk hm1; have HB2 := Hd.mk (below_seq (below_alloc (below_alloc (Below.refl _ _) _) _) hb_); have HX2 := Hd.mk (blk_below (blk_alloc (blk_new w (.cells #[.int .i64 st, .slice A n c] 58) w.heap.size rfl) (.cells #[.slice none 0 0, .int .i64 0, .slice none 0 0, .slice none 0 0, .int .i64 0] 90)) hb_); have HY2 := Hd.mk (blk_below (blk_new (w.alloc (.cells #[.int .i64 st, .slice A n c] 58)) (.cells #[.slice none 0 0, .int .i64 0, .slice none 0 0, .slice none 0 0, .int .i64 0] 90) (w.heap.size + 1) (by rw [size_alloc])) hb_); clear hs1 hm1 hb_))
  have HSB : Hd ((w2.alloc (.cells #[.slice (some ⟨g0, 0, none⟩) k1 k1, .int .i64 n] 28)).heap[w2.heap.size]? = some (.cells #[.slice (some ⟨g0, 0, none⟩) k1 k1, .int .i64 n] 28 (0, 0))) := ⟨blk_new _ _ _ rfl⟩
  have HSV : Hd (SetA (w2.alloc (.cells #[.slice (some ⟨g0, 0, none⟩) k1 k1, .int .i64 n] 28)) (w.heap.size + 2) g0 n ws0) := ⟨(HS2.out.mono (by rw [size_alloc, size_alloc]; exact Nat.le_refl _)).below (below_alloc (Below.refl _ _) _)⟩
  have HXV := Hd.mk (blk_alloc HX2.out (.cells #[.slice (some ⟨g0, 0, none⟩) k1 k1, .int .i64 n] 28))
  have HYV := Hd.mk (blk_alloc HY2.out (.cells #[.slice (some ⟨g0, 0, none⟩) k1 k1, .int .i64 n] 28))
  have HBV := Hd.mk (below_seq HB2.out (below_alloc (Below.refl _ _) (.cells #[.slice (some ⟨g0, 0, none⟩) k1 k1, .int .i64 n] 28)))
  have hgb : g0 < w2.heap.size := HS2.out.hi
  have hbs : w.heap.size + 2 ≤ w2.heap.size := by have := HS2.out.lo; rw [size_alloc, size_alloc] at this; omega
  have hbV : w2.heap.size < (w2.alloc (.cells #[.slice (some ⟨g0, 0, none⟩) k1 k1, .int .i64 n] 28)).heap.size := by rw [size_alloc]; exact Nat.lt_succ_self _
  generalize World.alloc w2 _ = V1 at *
  generalize w2.heap.size = bs at *
  clear HS2 HX2 HY2 HB2 HST
  have hx1 := HXV.out
  have hx1c0 := blk_cell hx1 0 _ rfl; have hx1f0 := blk_frozen hx1 0; have hx1c1 := blk_cell hx1 1 _ rfl; have hx1f1 := blk_frozen hx1 1; have hx1l := blk_lt hx1
  have HSN := Hd.mk (snew_calls 1025 V1.drew (HTB.out (below_drew1 HBV.out)) (H0.out (below_drew1 HBV.out)))
  rw [r1025, size_drew] at HSN
  go_wp2_with (refine min_int rfl (.tmp 24) (.const (.int .i64 1024)) _ rfl .i64 mo 1024 most rfl rfl HMO.out ?_)
  refine wp_region_can (.q [0, 2] (.e 1 true (.q [3] (.e 4 false (.q [5] (.done)))))) (clsB _) (by kernel_rfl) (by kernel_rfl) (by intro _ _ d _ _ h; cases d <;> exact h) (clsB_drew _) ?_
  refine can_q (l := [⟨_,_,_,_,_,_⟩, ⟨_,_,_,_,_,_⟩]) rfl ?_
  repeat (go_big_quiet_step (fail))
  refine wpQuiet_nil ?_
  refine can_e (o := ⟨_,_,_,_,_,_⟩) rfl (fun K hK => ?_)
  go_wp2_with (go_at_call 29; go_must (refine Calls.mono HSN.out ?_; rintro e w3 ⟨F, rfl, ht_, hb_⟩; have HT3 := Hd.mk ht_; have HB3 := Hd.mk (below_undrew hb_); clear ht_ hb_))
  refine onK_normal (hK _ _ ⟨clsB _, clsB_of (by first | exact (HB3.out) | exact below_undrew (HB3.out)), fun _ _ h => h, ?_⟩)
  clear hK K
  refine can_q (l := [⟨_,_,_,_,_,_⟩]) rfl ?_
  repeat (go_big_quiet_step (fail))
  refine wpQuiet_nil ?_
  refine can_e (o := ⟨_,_,_,_,_,_⟩) rfl (fun K hK => ?_)
  go_wp2_with fail
  refine onK_normal (hK _ _ ⟨fun _ => True, trivial, (fun h => by cases h), ?_⟩)
  clear hK K
  refine can_q (l := [⟨_,_,_,_,_,_⟩]) rfl ?_
  repeat (go_big_quiet_step (fail))
  refine wpQuiet_nil ?_
  refine can_done ?_
  go_upto_region 7 with fail
  have HBB : Hd ((w3.alloc (.cells #[.int .i64 st, .slice A n c, .slice none 0 0, .int .i64 0, .slice none 0 0, .slice none 0 0, .int .i64 0, .pointer (some ⟨V1.heap.size, 0, none⟩), .int .i64 most, .slice none 0 0] 120)).heap[w3.heap.size]? = some (.cells #[.int .i64 st, .slice A n c, .slice none 0 0, .int .i64 0, .slice none 0 0, .slice none 0 0, .int .i64 0, .pointer (some ⟨V1.heap.size, 0, none⟩), .int .i64 most, .slice none 0 0] 120 (0, 0))) := ⟨blk_new _ _ _ rfl⟩
  have HB12 := Hd.mk (below_seq HB3.out (below_alloc (Below.refl _ _) (.cells #[.int .i64 st, .slice A n c, .slice none 0 0, .int .i64 0, .slice none 0 0, .slice none 0 0, .int .i64 0, .pointer (some ⟨V1.heap.size, 0, none⟩), .int .i64 most, .slice none 0 0] 120)))
  have HT := Hd.mk (HT3.out.below (below_alloc (Below.refl _ _) (.cells #[.int .i64 st, .slice A n c, .slice none 0 0, .int .i64 0, .slice none 0 0, .slice none 0 0, .int .i64 0, .pointer (some ⟨V1.heap.size, 0, none⟩), .int .i64 most, .slice none 0 0] 120)))
  have HFl : Hd (∀ b, F b → V1.heap.size ≤ b ∧ b < w3.heap.size) := ⟨HT3.out.fb⟩
  have hz3 := HB3.out.size
  have hz2 : w3.heap.size < (w3.alloc (.cells #[.int .i64 st, .slice A n c, .slice none 0 0, .int .i64 0, .slice none 0 0, .slice none 0 0, .int .i64 0, .pointer (some ⟨V1.heap.size, 0, none⟩), .int .i64 most, .slice none 0 0] 120)).heap.size := by rw [size_alloc]; exact Nat.lt_succ_self _
  generalize World.alloc w3 _ = V2 at *
  generalize w3.heap.size = B at *
  have hx2 := blk_below HXV.out HB12.out
  have HX2 := Hd.mk hx2
  have hzV := HBV.out.size
  have hzV2 := HB12.out.size
  clear HT3 HB3 HSN
  clear hx1c0 hx1f0 hx1c1 hx1f1 hx1l
  clear hx1
  have hx2c0 := blk_cell hx2 0 _ rfl; have hx2f0 := blk_frozen hx2 0; have hx2c1 := blk_cell hx2 1 _ rfl; have hx2f1 := blk_frozen hx2 1; have hx2l := blk_lt hx2
  go_wp2
  clear hx2c0 hx2f0 hx2c1 hx2f1 hx2l
  clear hx2
  go_loopw [9, 34] (fun v i wr => ∃ (k n9 c9 : Nat) (A9 : Option Addr), k ≤ n ∧ i = .int .i64 k ∧ v = .slice A9 n9 c9 ∧ Hd (Mine Al.rT wr V2.heap.size 124 (.slice A9 n9 c9) (rgU (q.take k))) ∧ Hd (Below V2.heap.size V2 wr)) (fun _ i _ => n - (intOf i).toNat)
  case atStart => exact ⟨0, 0, 0, none, Nat.zero_le _, rfl, rfl, ⟨Mine.nil _ _ _ _⟩, ⟨Below.refl _ _⟩⟩
  case round =>
    obtain ⟨k, n9, c9, A9, hk, rfl, rfl, HM, HB⟩ := hrel
    have hzr := HB.out.size
    by_cases hlt : k < n
    · have hrow := (HNF.out (below_seq HBV.out (below_seq HB12.out HB.out))).row
      rw [HN.out] at hrow
      obtain ⟨b, off, x, A', c', rfl, hb, hx, hc0, hc1, hc2, hc3, hc4, -⟩ := st_get hrow k hlt
      have HTK : Hd (q.take (k + 1) = q.take k ++ [x]) := ⟨Df.take_snoc hx⟩
      obtain ⟨L, hL⟩ : ∃ L, rgU (q.take k) = L := ⟨_, rfl⟩
      rw [hL] at HM
      have HLL : Hd (L.length ≤ 4096) := ⟨by rw [← hL]; have := rgU_len (q.take k); rw [List.length_take] at this; omega⟩
      obtain ⟨An, nn, cn, en, -, -, -, hrw⟩ := HM.out.formN
      cases en
      have HR1 : Hd (rgU (q.take (k + 1)) = rgF L x) := ⟨by rw [HTK.out, rgU_snoc, hL]⟩
      have HRW := Hd.mk hrw
      obtain ⟨lx, hlx⟩ : ∃ y, x.eps.length = y := ⟨_, rfl⟩
      rw [hlx] at hc3
      clear hrow hx hL hrw hlx
      by_cases g1 : 0 ≤ x.lo
      case neg =>
        have HR2 : Hd (rgF L x = L) := ⟨by unfold rgF; rw [if_neg (fun h => g1 h.1)]⟩
        go_wp2
        go_roundw
        case rel => exact ⟨k + 1, n9, c9, A9, by omega, by go_num, rfl, ⟨by rw [HR1.out, HR2.out]; exact HM.out.below (below_alloc (Below.refl _ _) _)⟩, ⟨below_alloc HB.out _⟩⟩
        case measure => simp [intOf]; omega
      have hj1 : decide ((0 : Int) ≤ x.lo) = true := decide_eq_true g1
      have HJ : Hd (∀ bb : Bool, ((bb = true) = ((⟨x.lo, x.hi⟩ : Al.Rg) ∈ L)) → _) := ⟨fun bb h => cor_calls A9 n9 c9 L x.lo x.hi bb (fun k => V2.heap.size ≤ k ∧ k < wr.heap.size) (wr.alloc (.cells #[.int .i64 x.lo, .int .i64 x.hi, .int .i64 x.dst, .slice A' lx c', .int .i64 x.tag] 71)) (fun k hk => by rw [size_alloc]; omega) (HRW.out.below (fun k hk => hk.2) (below_alloc (Below.refl _ _) _)) h⟩
      by_cases g2 : (⟨x.lo, x.hi⟩ : Al.Rg) ∈ L
      · have HR2 : Hd (rgF L x = L) := ⟨by unfold rgF; rw [if_neg (fun h => h.2 g2)]⟩
        have HJ2 := Hd.mk (HJ.out true (propext ⟨fun _ => g2, fun _ => rfl⟩))
        clear HJ g2
        go_wp2_with (go_at_call 85; go_must (refine Calls.mono HJ2.out ?_; rintro e w5 ⟨rfl, hb_⟩; have HB5 := Hd.mk (below_seq (below_alloc (Below.refl wr.heap.size wr) _) hb_); clear hb_))
        go_roundw
        case rel => exact ⟨k + 1, n9, c9, A9, by omega, by go_num, rfl, ⟨by rw [HR1.out, HR2.out]; exact HM.out.below HB5.out⟩, ⟨below_seq HB.out HB5.out⟩⟩
        case measure => simp [intOf]; omega
      · have HR2 : Hd (rgF L x = L ++ [⟨x.lo, x.hi⟩]) := ⟨by unfold rgF; rw [if_pos ⟨g1, g2⟩]⟩
        have HJ2 := Hd.mk (HJ.out false (propext ⟨fun h => Bool.noConfusion h, fun h => absurd h g2⟩))
        clear HJ g2
        have hbx := blk_new wr (.cells #[.int .i64 x.lo, .int .i64 x.hi, .int .i64 x.dst, .slice A' lx c', .int .i64 x.tag] 71) _ rfl
        have hbxc0 := blk_cell hbx 0 _ rfl; have hbxf0 := blk_frozen hbx 0; have hbxc1 := blk_cell hbx 1 _ rfl; have hbxf1 := blk_frozen hbx 1; have hbxc2 := blk_cell hbx 2 _ rfl; have hbxf2 := blk_frozen hbx 2; have hbxc3 := blk_cell hbx 3 _ rfl; have hbxf3 := blk_frozen hbx 3; have hbxc4 := blk_cell hbx 4 _ rfl; have hbxf4 := blk_frozen hbx 4; have hbxl := blk_lt hbx
        go_wp2_with (first
          | (at_builtin; go_must (refine append_snoc Al.rT rT_flat rfl (.tmp 51) (.tmp 57) 121 124 _ 16 rfl Tryd.underlying121 infoRg rfl (by decide) (by decide) V2.heap.size (.slice A9 n9 c9) L ⟨x.lo, x.hi⟩ [.int .i64 x.lo, .int .i64 x.hi] w5.heap.size rfl rfl (blk_new w5 _ _ rfl) rfl ((HM.out.below HB5.out).below (below_alloc (Below.refl _ _) _)) ((HM.out.below HB5.out).ne_new (Nat.le_refl _)) (by rw [size_alloc]; have := HB5.out.size; omega) (by have := HLL.out; omega) ?_; intro v2 w7 hM7 hb7 hk7 hat7; have HM7 := Hd.mk hM7; have HB7 := Hd.mk hb7; clear hM7 hb7 hk7 hat7))
          | (go_at_call 85; go_must (refine Calls.mono HJ2.out ?_; rintro e w5 ⟨rfl, hb_⟩; have HB5 := Hd.mk (below_seq (below_alloc (Below.refl wr.heap.size wr) _) hb_); have hby := blk_below hbx hb_; clear hbxc0 hbxf0 hbxc1 hbxf1 hbxc2 hbxf2 hbxc3 hbxf3 hbxc4 hbxf4 hbxl; have hbyc0 := blk_cell hby 0 _ rfl; have hbyf0 := blk_frozen hby 0; have hbyc1 := blk_cell hby 1 _ rfl; have hbyf1 := blk_frozen hby 1; have hbyc2 := blk_cell hby 2 _ rfl; have hbyf2 := blk_frozen hby 2; have hbyc3 := blk_cell hby 3 _ rfl; have hbyf3 := blk_frozen hby 3; have hbyc4 := blk_cell hby 4 _ rfl; have hbyf4 := blk_frozen hby 4; have hbyl := blk_lt hby; clear hb_)))
        obtain ⟨A7, n7, c7, rfl, -, -, -, -⟩ := HM7.out.formN
        go_roundw
        case rel => exact ⟨k + 1, n7, c7, A7, by omega, by go_num, rfl, ⟨by rw [HR1.out, HR2.out]; exact HM7.out⟩, ⟨((below_seq HB.out HB5.out).alloc (below_seq HB.out HB5.out).size _).trans HB7.out⟩⟩
        case measure => simp [intOf]; omega
    · obtain rfl : k = n := by omega
      obtain ⟨An, nn, cn, en, hnn, -, -, hrw⟩ := HM.out.formN
      cases en
      rw [Df.take_all HN.out] at hrw
      have hk := keys_same (mem_rgU q)
      have h8 := Al.aof_calls A9 n9 c9 (rgU q) (fun k => V2.heap.size ≤ k ∧ k < wr.heap.size) wr (fun k hk => hk.2) hrw
      rw [hk.1, hk.2] at h8
      obtain ⟨wid, hwid⟩ : ∃ m, (Al.met (Al.keyF (rgs q)) 256).length = m := ⟨_, rfl⟩
      rw [hwid] at h8
      have HWID := Hd.mk hwid
      have HJA := Hd.mk h8
      have HY3 := Hd.mk (blk_below HBB.out HB.out)
      clear hk h8 hwid hrw hnn HM
      have hwm : wid ≤ 256 := by rw [← HWID.out]; exact Al.met_len _ _
      go_upto_region 14 with (go_at_call 86; go_must (refine Calls.mono HJA.out ?_; rintro e w4 ⟨gc, rfl, hg_, hbk_, hb_⟩; have HGC := Hd.mk (And.intro hg_ hbk_); have HB4 := Hd.mk (below_seq HB.out hb_); have hy4 := blk_below HY3.out hb_; have hgc : gc < w4.heap.size := hbk_.lt; have hy4c0 := blk_cell hy4 0 _ rfl; have hy4f0 := blk_frozen hy4 0; have hy4c1 := blk_cell hy4 1 _ rfl; have hy4f1 := blk_frozen hy4 1; have hy4c2 := blk_cell hy4 2 _ rfl; have hy4f2 := blk_frozen hy4 2; have hy4c3 := blk_cell hy4 3 _ rfl; have hy4f3 := blk_frozen hy4 3; have hy4c4 := blk_cell hy4 4 _ rfl; have hy4f4 := blk_frozen hy4 4; have hy4c5 := blk_cell hy4 5 _ rfl; have hy4f5 := blk_frozen hy4 5; have hy4c6 := blk_cell hy4 6 _ rfl; have hy4f6 := blk_frozen hy4 6; have hy4c7 := blk_cell hy4 7 _ rfl; have hy4f7 := blk_frozen hy4 7; have hy4c8 := blk_cell hy4 8 _ rfl; have hy4f8 := blk_frozen hy4 8; have hy4c9 := blk_cell hy4 9 _ rfl; have hy4f9 := blk_frozen hy4 9; have hy4l := blk_lt hy4; clear hg_ hbk_ hb_))
      have hBgc : gc ≠ B := by have := HGC.out.1; have := HB.out.size; omega
      generalize hV4 : World.setCell _ _ _ = V4
      obtain ⟨M, hM⟩ : ∃ M : BC, M = ⟨st, A, k, c, some ⟨gc, 0, none⟩, 256, 256, (wid : Nat), 0, most, V1.heap.size⟩ := ⟨_, rfl⟩
      have HMM := Hd.mk hM
      have hz4 : w4.heap.size = V4.heap.size := by rw [← hV4, size_set, size_set]
      have HOB4 : Hd (V4.heap[B]? = some (bdO M (.slice none 0 0) (.slice none 0 0) (.slice none 0 0))) := ⟨by rw [← hV4, hM]; exact blk_set (blk_set hy4 2 _ _ rfl) 3 _ _ rfl⟩
      have HF4 : Hd (Fr (fun b => b = B) V2 V4) := ⟨by rw [← hV4]; exact Fr.set (X := fun b => b = B) (Fr.set (X := fun b => b = B) (Fr.of_below HB4.out) (.inl rfl) _ _) (.inl rfl) _ _⟩
      have HGB : Hd (Blk Al.iE V4 3 gc (Al.clsL (Al.keyF (rgs q)) 256)) := ⟨by rw [← hV4]; exact (HGC.out.2.far (by show ¬ gc = B; exact hBgc) _).far (by show ¬ gc = B; exact hBgc) _⟩
      have hgc4 : gc < V4.heap.size := by omega
      have hgcV : V2.heap.size ≤ gc := by have := HGC.out.1; have := HB.out.size; omega
      clear hy4c0 hy4f0 hy4c1 hy4f1 hy4c2 hy4f2 hy4c3 hy4f3 hy4c4 hy4f4 hy4c5 hy4f5 hy4c6 hy4f6 hy4c7 hy4f7 hy4c8 hy4f8 hy4c9 hy4f9 hy4l
      clear hV4 hy4 HGC HJA HY3 HB4 HB hgc
      have hrowc : Row I V4 (fun b => b = gc) (some ⟨gc, 0, none⟩) 256 (Al.clsL (Al.keyF (rgs q)) 256) := by
        have h9 := Al.blk_rowI (S := fun b => b = gc) HGB.out rfl (by rw [Al.clsL_len]; omega)
        rw [Al.clsL_len] at h9
        exact h9
      have h8 := Al.first_calls (some ⟨gc, 0, none⟩) 256 256 (Al.clsL (Al.keyF (rgs q)) 256) (fun b => b = gc) V4 (fun k hk => by rw [hk]; exact hgc4) hrowc
      rw [Al.first_cls] at h8
      have HJF := Hd.mk h8
      have hob4 := HOB4.out
      rw [hM] at hob4
      unfold bdO at hob4
      dsimp only at hob4
      clear h8 hrowc hM
      have hob4c0 := blk_cell hob4 0 _ rfl; have hob4f0 := blk_frozen hob4 0; have hob4c1 := blk_cell hob4 1 _ rfl; have hob4f1 := blk_frozen hob4 1; have hob4c2 := blk_cell hob4 2 _ rfl; have hob4f2 := blk_frozen hob4 2; have hob4c3 := blk_cell hob4 3 _ rfl; have hob4f3 := blk_frozen hob4 3; have hob4c4 := blk_cell hob4 4 _ rfl; have hob4f4 := blk_frozen hob4 4; have hob4c5 := blk_cell hob4 5 _ rfl; have hob4f5 := blk_frozen hob4 5; have hob4c6 := blk_cell hob4 6 _ rfl; have hob4f6 := blk_frozen hob4 6; have hob4c7 := blk_cell hob4 7 _ rfl; have hob4f7 := blk_frozen hob4 7; have hob4c8 := blk_cell hob4 8 _ rfl; have hob4f8 := blk_frozen hob4 8; have hob4c9 := blk_cell hob4 9 _ rfl; have hob4f9 := blk_frozen hob4 9; have hob4l := blk_lt hob4
      go_upto_region 16 with (go_at_call 87; go_must (refine Calls.mono HJF.out ?_; rintro e V5 ⟨Af, nf, cf, rfl, hr_, hb_⟩; have HRF := Hd.mk hr_; have HB5 := Hd.mk hb_; have HOB5 := Hd.mk (blk_below HOB4.out hb_); have hob5 := blk_below hob4 hb_; clear hob4c0 hob4f0 hob4c1 hob4f1 hob4c2 hob4f2 hob4c3 hob4f3 hob4c4 hob4f4 hob4c5 hob4f5 hob4c6 hob4f6 hob4c7 hob4f7 hob4c8 hob4f8 hob4c9 hob4f9 hob4l; have hob5c0 := blk_cell hob5 0 _ rfl; have hob5f0 := blk_frozen hob5 0; have hob5c1 := blk_cell hob5 1 _ rfl; have hob5f1 := blk_frozen hob5 1; have hob5c2 := blk_cell hob5 2 _ rfl; have hob5f2 := blk_frozen hob5 2; have hob5c3 := blk_cell hob5 3 _ rfl; have hob5f3 := blk_frozen hob5 3; have hob5c4 := blk_cell hob5 4 _ rfl; have hob5f4 := blk_frozen hob5 4; have hob5c5 := blk_cell hob5 5 _ rfl; have hob5f5 := blk_frozen hob5 5; have hob5c6 := blk_cell hob5 6 _ rfl; have hob5f6 := blk_frozen hob5 6; have hob5c7 := blk_cell hob5 7 _ rfl; have hob5f7 := blk_frozen hob5 7; have hob5c8 := blk_cell hob5 8 _ rfl; have hob5f8 := blk_frozen hob5 8; have hob5c9 := blk_cell hob5 9 _ rfl; have hob5f9 := blk_frozen hob5 9; have hob5l := blk_lt hob5; clear hr_ hb_))
      have hz5 := HB5.out.size
      have hzB : V1.heap.size ≤ B := hz3
      have HF5 : Hd (Fr (fun b => b = B) V2 V5) := ⟨HF4.out.trans (Fr.of_below HB5.out)⟩
      have HB15 : Hd (Below V1.heap.size V1 V5) := ⟨HB12.out.trans (HF5.out.below hzV2 (fun b hb hx => by have hx' : b = B := hx; omega))⟩
      have HBw5 := Hd.mk (below_seq HBV.out HB15.out)
      have hMn : M.n = k := by rw [HMM.out]
      have hMm : M.most = most := by rw [HMM.out]
      have hbl := HT.out
      have HZ5 : Hd (Bd V5 (w.heap.size + 2) B (fun i b => (i = 0 ∧ b = B) ∨ (i = 1 ∧ F b)) M q (.slice none 0 0) (.slice none 0 0) (.slice none 0 0) [] []) := ⟨⟨HOB5.out, by
        refine ⟨⟨fun i b hb => ?_, fun i j b hij hb hb2 => ?_⟩, .inl ⟨rfl, rfl⟩, ⟨F, [], ?_, fun b hb => .inr ⟨rfl, hb⟩, rfl⟩, ⟨_, Base.Own.nil _ _ _ _, fun b hb => by rcases hb with hb | hb; exact hb.elim; simp [Value.ownBlock] at hb⟩, ⟨Mine.nil _ _ _ _, fun b hb => by simp [Value.ownBlock] at hb⟩, ⟨_, [], Base.Own.nil _ _ _ _, ⟨fun b hb => hb.elim, fun b hb => by simp [Value.ownBlock] at hb⟩, rfl, fun y hy => by cases hy⟩⟩
        · rcases hb with ⟨_, rfl⟩ | ⟨_, hb⟩
          · omega
          · have := HFl.out b hb; omega
        · rcases hb with ⟨h1, rfl⟩ | ⟨h1, hb⟩
          · rcases hb2 with ⟨h2, _⟩ | ⟨h2, hb2⟩
            · omega
            · have := HFl.out b hb2; omega
          · rcases hb2 with ⟨h2, rfl⟩ | ⟨h2, _⟩
            · have := HFl.out b hb; omega
            · omega
        · have h9 := (hbl.fr HF5.out (fun b hb hx => by have hx' : b = B := hx; have := HFl.out b hb; omega)).lower (base' := w.heap.size + 2) (by omega)
          rw [HMM.out]
          exact h9⟩⟩
      have HE5 : Hd (Env V5 (w.heap.size + 2) M q S) := ⟨⟨by rw [HMM.out]; exact HNF.out HBw5.out, fun b hb => by have := HSL.out b hb; omega, by rw [HMM.out]; exact HN.out, by rw [HMM.out]; exact HCK.out, by rw [hMm]; exact ⟨hm1, hm2⟩, HTB.out HBw5.out, by omega, by omega⟩⟩
      have hHM2 := HM2.out
      have hadd : addM [] (startM st q) = ([startM st q], 0) := by unfold addM; rw [if_pos (start_some HOK.out), if_neg (by simp)]; rfl
      obtain ⟨bb, hbb⟩ : ∃ b, decide ((0 : Int) < most) = b := ⟨_, rfl⟩
      have h8 := state_calls (w.heap.size + 2) B _ M q _ _ _ [] [] g0 k1 ws0 S V5 HZ5.out (by rw [hMn]; exact HSV.out.below HB15.out) (fun i hi => by
        rcases hi with ⟨_, hi⟩ | ⟨_, hi⟩
        · omega
        · have := HFl.out g0 hi; omega) (by rw [HSV.out.ok.len]; exact HK1.out) HE5.out (allOk_nil _) (by simp) (startM st q) (by rw [hMn]; exact hHM2) 0 (by rw [hadd]) bb (by rw [hMm]; exact hbb)
      rw [hMn, hadd] at h8
      have HJS := Hd.mk h8
      have HSB5 := Hd.mk (blk_below HSB.out HB15.out)
      have HXX5 := Hd.mk (And.intro (blk_below HXV.out HB15.out) (blk_below HYV.out HB15.out))
      have hsb5 := HSB5.out
      have HBBB := Hd.mk hbb
      clear h8 hadd hbb hHM2 hbl
      have hsb5c0 := blk_cell hsb5 0 _ rfl; have hsb5f0 := blk_frozen hsb5 0; have hsb5c1 := blk_cell hsb5 1 _ rfl; have hsb5f1 := blk_frozen hsb5 1; have hsb5l := blk_lt hsb5
      go_wp2_with (go_at_call 88; go_must (refine Calls.mono HJS.out ?_; rintro e V6 ⟨rfl, Z1, tv1, wv1, hb_, h2_, hz_, hf_⟩; have HBD6 := Hd.mk hb_; have HZ26 := Hd.mk h2_; have HZs6 := Hd.mk hz_; have HF6 := Hd.mk hf_; have hob6 := hb_.obj; unfold bdO at hob6; clear hob5c0 hob5f0 hob5c1 hob5f1 hob5c2 hob5f2 hob5c3 hob5f3 hob5c4 hob5f4 hob5c5 hob5f5 hob5c6 hob5f6 hob5c7 hob5f7 hob5c8 hob5f8 hob5c9 hob5f9 hob5l; have hob6c0 := blk_cell hob6 0 _ rfl; have hob6f0 := blk_frozen hob6 0; have hob6c1 := blk_cell hob6 1 _ rfl; have hob6f1 := blk_frozen hob6 1; have hob6c2 := blk_cell hob6 2 _ rfl; have hob6f2 := blk_frozen hob6 2; have hob6c3 := blk_cell hob6 3 _ rfl; have hob6f3 := blk_frozen hob6 3; have hob6c4 := blk_cell hob6 4 _ rfl; have hob6f4 := blk_frozen hob6 4; have hob6c5 := blk_cell hob6 5 _ rfl; have hob6f5 := blk_frozen hob6 5; have hob6c6 := blk_cell hob6 6 _ rfl; have hob6f6 := blk_frozen hob6 6; have hob6c7 := blk_cell hob6 7 _ rfl; have hob6f7 := blk_frozen hob6 7; have hob6c8 := blk_cell hob6 8 _ rfl; have hob6f8 := blk_frozen hob6 8; have hob6c9 := blk_cell hob6 9 _ rfl; have hob6f9 := blk_frozen hob6 9; have hob6l := blk_lt hob6; clear hb_ h2_ hz_ hf_))
      have hMs : M.stt = 0 := by rw [HMM.out]
      generalize hV7 : World.setCell V6 _ _ = V7
      have HOB7 : Hd (V7.heap[B]? = some (bdO M (.slice none 0 0) tv1 wv1)) := ⟨by rw [← hV7]; unfold bdO; rw [hMs]; exact blk_set hob6 6 _ _ rfl⟩
      have HBD7 : Hd (Bd V7 (w.heap.size + 2) B Z1 M q (.slice none 0 0) tv1 wv1 [startM st q] []) := ⟨⟨HOB7.out, by rw [← hV7]; exact HBD6.out.inn.store 6 _⟩⟩
      have hz67 : V6.heap.size = V7.heap.size := by rw [← hV7, size_set]
      have HF57 : Hd (Fr (fun b => wrZ (fun i b => (i = 0 ∧ b = B) ∨ (i = 1 ∧ F b)) b) V5 V7) := ⟨by rw [← hV7]; exact Fr.set HF6.out (.inl (.inl (.inl ⟨rfl, rfl⟩))) _ _⟩
      have hz57 := HF57.out.size
      have hwrz : ∀ b, wrZ (fun i b => (i = 0 ∧ b = B) ∨ (i = 1 ∧ F b)) b → V1.heap.size ≤ b ∧ b < V2.heap.size := fun b hb => by
        rcases hb with (⟨_, hb⟩ | ⟨_, hb⟩) | (⟨h, _⟩ | ⟨_, hb⟩) | (⟨h, _⟩ | ⟨h, _⟩) | (⟨h, _⟩ | ⟨h, _⟩)
        · omega
        · have := HFl.out b hb; omega
        · omega
        · have := HFl.out b hb; omega
        · omega
        · omega
        · omega
        · omega
      have HB57 : Hd (Below V1.heap.size V5 V7) := ⟨HF57.out.below (by omega) (fun b hb hx => by have := hwrz b hx; omega)⟩
      have HBw7 : Hd (Below V1.heap.size V1 V7) := ⟨HB15.out.trans HB57.out⟩
      have HROWC : Hd (Row I V7 (fun b => b = gc) (some ⟨gc, 0, none⟩) 256 (Al.clsL (Al.keyF (rgs q)) 256)) := ⟨by
        have h9 := Al.blk_rowI (S := fun b => b = gc) (HGB.out.below HB5.out) rfl (by rw [Al.clsL_len]; omega)
        rw [Al.clsL_len] at h9
        exact h9.move fun b hb => HF57.out.same b (by rw [hb]; omega) (fun hx => by have := hwrz b hx; rw [hb] at this; omega)⟩
      have HROWF : Hd (Row I V7 (fun b => V4.heap.size ≤ b ∧ b < V5.heap.size) Af nf (Al.asI (fsOf q))) := ⟨by
        have h9 := HRF.out
        exact h9.move fun b hb => HF57.out.same b hb.2 (fun hx => by have := hwrz b hx; omega)⟩
      have HNZ : Hd (∀ b, (b = gc ∨ (V4.heap.size ≤ b ∧ b < V5.heap.size)) → ∀ i, ¬ Z1 i b) := ⟨fun b hb i hi => by
        have hg0 : g0 < V2.heap.size := by omega
        rcases HZs6.out i b hi with h9 | h9 | h9
        · rcases h9 with ⟨_, h9⟩ | ⟨_, h9⟩
          · rcases hb with hb | hb <;> omega
          · have := HFl.out b h9
            rcases hb with hb | hb <;> omega
        · rcases hb with hb | hb <;> omega
        · rcases hb with hb | hb <;> omega⟩
      obtain ⟨X, hX⟩ : ∃ X : Nat → Prop, X = fun b => (∃ i, Z1 i b) ∨ V7.heap.size ≤ b := ⟨_, rfl⟩
      have HX := Hd.mk hX
      have HZN7 := Hd.mk HBD7.out.inn.zn
      have HXXV := Hd.mk (And.intro (HXV.out |> fun h => blk_below h HBw7.out) (blk_below HYV.out HBw7.out))
      have HE7 := Hd.mk (HE5.out.move (HB57.out.mono (by omega)))
      have hm18 : 1 ≤ V7.heap.size := by omega
      have HBV7 := Hd.mk (below_seq HBV.out HBw7.out)
      clear hob6c0 hob6f0 hob6c1 hob6f1 hob6c2 hob6f2 hob6c3 hob6f3 hob6c4 hob6f4 hob6c5 hob6f5 hob6c6 hob6f6 hob6c7 hob6f7 hob6c8 hob6f8 hob6c9 hob6f9 hob6l
      clear hsb5c0 hsb5f0 hsb5c1 hsb5f1 hsb5l
      clear hX hV7 hob6 hob5 hsb5 HBD6 HF6 HF57 HB57 HZ5 HE5 HOB5 HOB7 HSB5 HXX5 HJS hMs hwrz HT HF4 HF5 HGB HRF HB5 HJF HOB4 HXV HYV HSV HSB HB12 HBB HX2 hz67
      go_loopw [13, 14] (fun v i wr => ∃ (ok : Bool) (j : Nat), v = .bool ok ∧ i = .int .i64 j ∧ j ≤ 1025 ∧ Hd (ok = true → ∃ Z' nv tv wv, Bd wr (w.heap.size + 2) B Z' M q nv tv wv (bld st q (fsOf q) j).1 (bld st q (fsOf q) j).2 ∧ (∀ i b, Z' i b → Z1 i b ∨ V7.heap.size ≤ b) ∧ j ≤ (bld st q (fsOf q) j).1.length ∧ (((bld st q (fsOf q) j).1.length : Nat) : Int) ≤ most ∧ Fr X V7 wr) ∧ Hd (ok = false → Bad st q (fsOf q) most) ∧ Hd (Below (w.heap.size + 2) V7 wr)) (fun _ i _ => 1026 - (intOf i).toNat)
      case atStart =>
        refine ⟨bb, 0, rfl, rfl, Nat.zero_le _, ⟨fun h => ?_⟩, ⟨fun h => ?_⟩, ⟨Below.refl _ _⟩⟩
        · subst h
          exact ⟨Z1, _, tv1, wv1, HBD7.out, fun i b hb => .inl hb, Nat.zero_le _, by have := of_decide_eq_true HBBB.out; show ((1 : Nat) : Int) ≤ most; omega, Fr.refl _ _⟩
        · subst h
          exact ⟨0, by have := of_decide_eq_false HBBB.out; show most < ((1 : Nat) : Int); omega⟩
      case round =>
        obtain ⟨ok, j, rfl, rfl, hj, HOKR, HBAD, HBz⟩ := hrel
        cases ok with
        | false =>
          have HBADR := Hd.mk (HBAD.out rfl)
          have hyr := (HBz.out.block _ (by omega)).trans HXXV.out.2
          have HBW : Hd (Below w.heap.size w wr) := ⟨HBV7.out.trans (HBz.out.mono (by omega))⟩
          have hyrc0 := blk_cell hyr 0 _ rfl; have hyrf0 := blk_frozen hyr 0; have hyrc1 := blk_cell hyr 1 _ rfl; have hyrf1 := blk_frozen hyr 1; have hyrc2 := blk_cell hyr 2 _ rfl; have hyrf2 := blk_frozen hyr 2; have hyrc3 := blk_cell hyr 3 _ rfl; have hyrf3 := blk_frozen hyr 3; have hyrc4 := blk_cell hyr 4 _ rfl; have hyrf4 := blk_frozen hyr 4; have hyrl := blk_lt hyr
          go_wp2
          refine bodyPost_ret (cell_tmp_row2 rfl _ _ (w.heap.size + 1) 90 #[.slice none 0 0, .int .i64 0, .slice none 0 0, .slice none 0 0, .int .i64 0] (0, 0) _ rfl (set5 hyr _ _ _ _ _) Tryd.underlying90 rfl (by kernel_rfl)) rfl ?_
          exact ⟨.inr ⟨rfl, HBADR.out⟩, below_set5 HBW.out (Nat.le_succ _) _ _ _ _ _⟩
        | true =>
          obtain ⟨Z', nv, tv, wv, hbd_, hzs_, hjl_, hlm_, hfr_⟩ := HOKR.out rfl
          obtain ⟨all, hall⟩ : ∃ a, (bld st q (fsOf q) j).1 = a := ⟨_, rfl⟩
          obtain ⟨nx, hnx⟩ : ∃ a, (bld st q (fsOf q) j).2 = a := ⟨_, rfl⟩
          obtain ⟨hbk1, hbk2, hbk3, hbk4⟩ := bld_ok HOK.out (fsOf q) j
          have hnl := bld_len (st := st) (q := q) (fs := fsOf q) j hjl_
          rw [hall] at hbd_ hjl_ hlm_ hbk1
          rw [hnx] at hbd_ hnl
          have HALL := Hd.mk hall; have HNXX := Hd.mk hnx; have HAO := Hd.mk hbk1; have HNL := Hd.mk hnl
          have HBD := Hd.mk hbd_; have HZs := Hd.mk hzs_; have HFr := Hd.mk hfr_
          obtain ⟨na, hna⟩ : ∃ n, all.length = n := ⟨_, rfl⟩
          rw [hna] at hjl_ hlm_
          have HNA := Hd.mk hna
          have hz7 := hfr_.size
          obtain ⟨SW, ys, how, hoz, hym, hyn⟩ := hbd_.inn.wai
          obtain ⟨Aw, cw, ew, hwle, -, hwrow⟩ := how.form
          have hyl : ys.length = na := by rw [← hna, ← hym, List.length_map]
          rw [hyl] at ew hwle hwrow
          subst ew
          have HYL := Hd.mk hyl
          have hob := hbd_.obj
          unfold bdO at hob
          have HWROW := Hd.mk hwrow; have HOZ := Hd.mk hoz; have HYM := Hd.mk hym; have HYN := Hd.mk hyn; have HOW := Hd.mk how
          have HLM := Hd.mk hlm_
          clear hbd_ hzs_ hfr_ hall hnx hbk1 hbk2 hbk3 hbk4 hnl hna how hoz hym hyn hwrow hyl hwle
          clear HOKR HBAD
          by_cases hlt : j < na
          · obtain ⟨bw, cw2, y, A', c', g', ew2, hbw, hy, hcw0, hcw1, hyok, hywd, hyS⟩ := own_set_get HOW.out j (by have := HYL.out; omega)
            injection ew2 with eA eB eC
            subst eA eC
            clear eB
            obtain ⟨yr, yw⟩ := y
            dsimp only at hcw0 hcw1 hyok hywd hyS
            obtain rfl : yr = k := by have := HYN.out _ (List.mem_of_getElem? hy); rw [← hMn]; exact this
            have hyl : yw.length = k1 := by rw [hyok.len]; exact HK1.out
            have hk1p : 0 < k1 := by have := HK1.out; have := HOK.out.1; have := HN.out; omega
            have hyne : yw ≠ [] := fun h => by rw [h] at hyl; simp at hyl; omega
            obtain ⟨rfl, hyb⟩ : A' = some ⟨g', 0, none⟩ ∧ Wd wr A' g' yw := ⟨by rcases hywd with h | ⟨h, _⟩; exact absurd h hyne; exact h, hywd⟩
            have hg4 : Z' 4 g' := HOZ.out.1 g' (hyS hyne)
            have hmj : all[j]? = some (marksW M.n yw) := by rw [← HYM.out, List.getElem?_map, hy]; rfl
            have hgl := HBD.out.inn.zn.lt 4 g' hg4
            obtain ⟨m, hm⟩ : ∃ m, marksW M.n yw = m := ⟨_, rfl⟩
            rw [hm] at hmj
            have HMJ := Hd.mk hmj
            obtain ⟨b2, hb2⟩ : ∃ b, decide (((rowM q m (fsOf q) all).1.length : Int) ≤ M.most) = b := ⟨_, rfl⟩
            have HB2 := Hd.mk hb2
            have hfr' : ∀ b, ¬ (∃ i, Z1 i b) → b < V7.heap.size → wr.heap[b]? = V7.heap[b]? := fun b hb hl => HFr.out.same b hl (fun hx => by rw [HX.out] at hx; rcases hx with hx | hx; exact hb hx; omega)
            have hSf : ∀ b, (V4.heap.size ≤ b ∧ b < V5.heap.size) → b < wr.heap.size ∧ ∀ i, ¬ Z' i b := fun b hb => ⟨by omega, fun i hi => by
              rcases HZs.out i b hi with h | h
              · exact HNZ.out b (.inr hb) i h
              · omega⟩
            have h8 := row_calls (w.heap.size + 2) B g' Z' M q nv tv (.slice (some ⟨bw, 0, none⟩) na cw) all nx k1 c' yw S Af nf cf (fsOf q) (fun b => V4.heap.size ≤ b ∧ b < V5.heap.size) wr HBD.out ⟨hgl.1, hgl.2, hyb, by rw [hMn]; exact hyok⟩
              (fun hx => by
                rcases hx with hx | hx | hx | hx
                · exact HBD.out.inn.zn.dis 4 0 g' (by decide) hg4 hx
                · exact HBD.out.inn.zn.dis 4 1 g' (by decide) hg4 hx
                · exact HBD.out.inn.zn.dis 4 3 g' (by decide) hg4 hx
                · exact HBD.out.inn.zn.dis 4 5 g' (by decide) hg4 hx) (by rw [hMn]; exact HK1.out) (HE7.out.move HBz.out) (by rw [hMn, ← HN.out]; exact HAO.out) (by rw [hMm, HNA.out]; exact HLM.out)
              (HROWF.out.move fun b hb => hfr' b (fun ⟨i, hi⟩ => HNZ.out b (.inr hb) i hi) (by omega)) hSf (fun x hx => fst_lt _ _ x hx) (by have := HROWF.out.1; rw [Al.asI_len, fsOf_len] at this; have := HWID.out; omega) (by rw [HNL.out]; have := HLM.out; omega) m hm b2 hb2
            rw [hMn] at h8
            have HJR := Hd.mk h8
            rw [hyl] at hcw0
            clear h8 hm hmj hb2 hyok hywd hyS hyb hy hfr' hSf hyl hyne hk1p hg4 hgl
            have hwf := HBD.out.inn.zn
            clear hwf
            have hobc0 := blk_cell hob 0 _ rfl; have hobf0 := blk_frozen hob 0; have hobc1 := blk_cell hob 1 _ rfl; have hobf1 := blk_frozen hob 1; have hobc2 := blk_cell hob 2 _ rfl; have hobf2 := blk_frozen hob 2; have hobc3 := blk_cell hob 3 _ rfl; have hobf3 := blk_frozen hob 3; have hobc4 := blk_cell hob 4 _ rfl; have hobf4 := blk_frozen hob 4; have hobc5 := blk_cell hob 5 _ rfl; have hobf5 := blk_frozen hob 5; have hobc6 := blk_cell hob 6 _ rfl; have hobf6 := blk_frozen hob 6; have hobc7 := blk_cell hob 7 _ rfl; have hobf7 := blk_frozen hob 7; have hobc8 := blk_cell hob 8 _ rfl; have hobf8 := blk_frozen hob 8; have hobc9 := blk_cell hob 9 _ rfl; have hobf9 := blk_frozen hob 9; have hobl := blk_lt hob
            go_wp2_with (go_at_call 89; go_must (refine Calls.mono HJR.out ?_; rintro e w9 ⟨rfl, hbz_, hq_⟩; have HBz9 := Hd.mk hbz_; have HQ9 := hq_; have hz9 := hbz_.size; clear hbz_ hq_))
            go_roundw
            case rel =>
              have hbs : bld st q (fsOf q) (j + 1) = ((rowM q m (fsOf q) all).1, nx ++ [(rowM q m (fsOf q) all).2]) := by
                have h9 := bld_some (st := st) (q := q) (fs := fsOf q) (i := j) (m := m) (by rw [HALL.out]; exact HMJ.out)
                rw [HALL.out, HNXX.out] at h9
                exact h9
              have hrp := (row_pre q m (fsOf q) all).len
              rw [HNA.out] at hrp
              refine ⟨b2, j + 1, rfl, by go_num, by omega, ⟨fun h => ?_⟩, ⟨fun h => ?_⟩, ⟨HBz.out.trans HBz9.out⟩⟩
              · obtain ⟨Z9, nv9, tv9, wv9, h1, h2, h3⟩ := HQ9.out h
                refine ⟨Z9, nv9, tv9, wv9, by rw [hbs]; exact h1, fun i b hb => ?_, by rw [hbs]; dsimp only; omega, by rw [hbs]; have := HB2.out; rw [h, hMm] at this; exact of_decide_eq_true this, HFr.out.trans (h3.mono fun b hb => ?_)⟩
                · rcases h2 i b hb with h9 | h9
                  · exact HZs.out i b h9
                  · exact .inr (by omega)
                · rw [HX.out]
                  have key : ∀ i, Z' i b → ((∃ i, Z1 i b) ∨ V7.heap.size ≤ b) := fun i hi => by
                    rcases HZs.out i b hi with h9 | h9
                    · exact .inl ⟨i, h9⟩
                    · exact .inr h9
                  rcases hb with (hb | hb | hb | hb) | hb
                  · exact key 0 hb
                  · exact key 1 hb
                  · exact key 3 hb
                  · exact key 5 hb
                  · exact key 2 hb
              · refine ⟨j + 1, ?_⟩
                rw [hbs]
                have := HB2.out
                rw [h, hMm] at this
                have := of_decide_eq_false this
                dsimp only
                omega
            case measure => simp [intOf]; omega
          · obtain rfl : j = na := by omega
            have hgood : Good st q (fsOf q) most (all, nx) := ⟨_, by rw [← HALL.out, ← HNXX.out], HNA.out, HLM.out⟩
            have HGOOD := Hd.mk hgood
            obtain ⟨SN, hon, hzn⟩ := HBD.out.inn.nxt
            obtain ⟨A2, c2, en, -, -, hnrow⟩ := hon.form
            obtain ⟨A3, n3, c3, et, hn3, -, -, htrow⟩ := HBD.out.inn.tag.1.formN
            rw [HNL.out] at en hnrow
            subst en et
            obtain rfl : n3 = j := by rw [hn3, List.length_map, HNA.out]
            clear hn3
            have HNROW := Hd.mk hnrow; have HTROW := Hd.mk htrow
            have HZN := Hd.mk hzn
            have HRT := Hd.mk (fun (W : World) (hb : Below wr.heap.size wr W) => Right_calls st A c q S W ((HNF.out (Below.trans (HBV7.out) ((HBz.out.trans (hb.mono (by omega))).mono (by omega)))).lt) ((HNF.out (Below.trans (HBV7.out) ((HBz.out.trans (hb.mono (by omega))).mono (by omega)))).row))
            rw [HN.out, decide_eq_true HOK.out] at HRT
            have hxr := (HBz.out.block _ (by omega)).trans HXXV.out.1
            have HYR := Hd.mk ((HBz.out.block _ (by omega)).trans HXXV.out.2)
            clear hgood hon hzn hnrow htrow
            have hobc0 := blk_cell hob 0 _ rfl; have hobf0 := blk_frozen hob 0; have hobc1 := blk_cell hob 1 _ rfl; have hobf1 := blk_frozen hob 1; have hobc2 := blk_cell hob 2 _ rfl; have hobf2 := blk_frozen hob 2; have hobc3 := blk_cell hob 3 _ rfl; have hobf3 := blk_frozen hob 3; have hobc4 := blk_cell hob 4 _ rfl; have hobf4 := blk_frozen hob 4; have hobc5 := blk_cell hob 5 _ rfl; have hobf5 := blk_frozen hob 5; have hobc6 := blk_cell hob 6 _ rfl; have hobf6 := blk_frozen hob 6; have hobc7 := blk_cell hob 7 _ rfl; have hobf7 := blk_frozen hob 7; have hobc8 := blk_cell hob 8 _ rfl; have hobf8 := blk_frozen hob 8; have hobc9 := blk_cell hob 9 _ rfl; have hobf9 := blk_frozen hob 9; have hobl := blk_lt hob
            have hxrc0 := blk_cell hxr 0 _ rfl; have hxrf0 := blk_frozen hxr 0; have hxrc1 := blk_cell hxr 1 _ rfl; have hxrf1 := blk_frozen hxr 1; have hxrl := blk_lt hxr
            go_wp2_with (go_at_call 90; go_must (refine Calls.mono (HRT.out wr (Below.refl _ _)) ?_; rintro e w9 ⟨rfl, hb_⟩; have HB9 := Hd.mk hb_; have hob9 := blk_below hob hb_; have hy9 := blk_below HYR.out hb_; clear hobc0 hobf0 hobc1 hobf1 hobc2 hobf2 hobc3 hobf3 hobc4 hobf4 hobc5 hobf5 hobc6 hobf6 hobc7 hobf7 hobc8 hobf8 hobc9 hobf9 hobl; have hob9c0 := blk_cell hob9 0 _ rfl; have hob9f0 := blk_frozen hob9 0; have hob9c1 := blk_cell hob9 1 _ rfl; have hob9f1 := blk_frozen hob9 1; have hob9c2 := blk_cell hob9 2 _ rfl; have hob9f2 := blk_frozen hob9 2; have hob9c3 := blk_cell hob9 3 _ rfl; have hob9f3 := blk_frozen hob9 3; have hob9c4 := blk_cell hob9 4 _ rfl; have hob9f4 := blk_frozen hob9 4; have hob9c5 := blk_cell hob9 5 _ rfl; have hob9f5 := blk_frozen hob9 5; have hob9c6 := blk_cell hob9 6 _ rfl; have hob9f6 := blk_frozen hob9 6; have hob9c7 := blk_cell hob9 7 _ rfl; have hob9f7 := blk_frozen hob9 7; have hob9c8 := blk_cell hob9 8 _ rfl; have hob9f8 := blk_frozen hob9 8; have hob9c9 := blk_cell hob9 9 _ rfl; have hob9f9 := blk_frozen hob9 9; have hob9l := blk_lt hob9; have hy9c0 := blk_cell hy9 0 _ rfl; have hy9f0 := blk_frozen hy9 0; have hy9c1 := blk_cell hy9 1 _ rfl; have hy9f1 := blk_frozen hy9 1; have hy9c2 := blk_cell hy9 2 _ rfl; have hy9f2 := blk_frozen hy9 2; have hy9c3 := blk_cell hy9 3 _ rfl; have hy9f3 := blk_frozen hy9 3; have hy9c4 := blk_cell hy9 4 _ rfl; have hy9f4 := blk_frozen hy9 4; have hy9l := blk_lt hy9; clear hb_))
            have HWR : Hd (Below w.heap.size w w9) := ⟨HBV7.out.trans ((HBz.out.mono (by omega)).trans (HB9.out.mono (by omega)))⟩
            have hz9 := HB9.out.size
            have hfr' : ∀ b, ¬ (∃ i, Z1 i b) → b < V7.heap.size → wr.heap[b]? = V7.heap[b]? := fun b hb hl => HFr.out.same b hl (fun hx => by rw [HX.out] at hx; rcases hx with hx | hx; exact hb hx; omega)
            have HR1 : Hd (Row I w9 (fun b => b = gc) (some ⟨gc, 0, none⟩) 256 (Al.clsL (Al.keyF (rgs q)) 256)) := ⟨(HROWC.out.move fun b hb => hfr' b (fun ⟨i, hi⟩ => HNZ.out b (.inl hb) i hi) (by rw [hb]; omega)).below (fun b hb => by rw [hb]; omega) HB9.out⟩
            have HR2 : Hd (Row Df.II w9 (fun b => Z' 2 b) A2 n3 nx) := ⟨(HNROW.out.mono HZN.out).below (fun b hb => (HBD.out.inn.zn.lt 2 b hb).2) HB9.out⟩
            have HR3 : Hd (Row I w9 (fun b => w.heap.size + 2 ≤ b ∧ b < wr.heap.size) A3 n3 (all.map (bestM q))) := ⟨HTROW.out.below (fun b hb => hb.2) HB9.out⟩
            have hMw : M.wid = (wid : Nat) := by rw [HMM.out]
            have hMA : M.Ac = some ⟨gc, 0, none⟩ ∧ M.nc = 256 := by rw [HMM.out]; exact ⟨rfl, rfl⟩
            have HMA := Hd.mk hMA; have HMW := Hd.mk hMw
            have hMs : M.stt = 0 := by rw [HMM.out]
            have HMS := Hd.mk hMs
            clear hMw hMA hMs hfr'
            refine bodyPost_ret (cell_tmp_row2 rfl _ _ (w.heap.size + 1) 90 #[.slice M.Ac M.nc M.cc, .int .i64 M.wid, .slice A2 n3 c2, .slice A3 n3 c3, .int .i64 M.stt] (0, 0) _ rfl (set5 hy9 _ _ _ _ _) Tryd.underlying90 rfl (by kernel_rfl)) rfl ?_
            generalize hY : World.setCell (World.setCell (World.setCell (World.setCell (World.setCell w9 _ _) _ _) _ _) _ _) _ _ = Y
            have hYs : w9.heap.size = Y.heap.size := by rw [← hY]; simp only [size_set]
            have hYb : ∀ b, b ≠ w.heap.size + 1 → Y.heap[b]? = w9.heap[b]? := fun b hb => by
              rw [← hY]
              exact (Below.heap_setCell _ _ _ _ (by exact hb)).trans ((Below.heap_setCell _ _ _ _ (by exact hb)).trans ((Below.heap_setCell _ _ _ _ (by exact hb)).trans ((Below.heap_setCell _ _ _ _ (by exact hb)).trans (Below.heap_setCell _ _ _ _ (by exact hb)))))
            have hBY : Below w.heap.size w Y := by rw [← hY]; exact below_set5 HWR.out (Nat.le_succ _) _ _ _ _ _
            have hgc9 : gc < w9.heap.size := by omega
            have hbz : wr.heap.size ≤ Y.heap.size := by omega
            have hz2 : ∀ b, Z' 2 b → w.heap.size + 2 ≤ b ∧ b < wr.heap.size := fun b hb => HBD.out.inn.zn.lt 2 b hb
            refine ⟨.inl ⟨(all, nx), M.Ac, A2, A3, M.nc, n3, n3, M.cc, c2, c3, ?_, HGOOD.out, ⟨?_, ?_, ?_, fun b hb => hb.2⟩⟩, hBY⟩
            · have e1 : (dfaOf q (all, nx)).wid = (wid : Nat) := by rw [← HWID.out]; rfl
              rw [e1, ← HMW.out, ← HMS.out]; rfl
            · rw [HMA.out.1, HMA.out.2]
              exact (HR1.out.move fun b hb => hYb b (by rw [hb]; omega)).mono fun b hb => by rw [hb]; exact ⟨by omega, by omega⟩
            · exact (HR2.out.move fun b hb => hYb b (by have := hz2 b hb; omega)).mono fun b hb => ⟨by have := hz2 b hb; omega, by have := hz2 b hb; omega⟩
            · exact (HR3.out.move fun b hb => hYb b (by omega)).mono fun b hb => ⟨by omega, by omega⟩
end Go.Proofs.YtbmpaokicphdjaaDoor.Fn

/- Build: what it tells, by what there is; the example's automaton. -/
namespace Go.Proofs.YtbmpaokicphdjaaDoor.Fn
open Go Go.RowKit Go.Proofs.YtbmpaokicphdjaaDoor.Can Go.Proofs.YtbmpaokicphdjaaDoor.Base
attribute [local go_sem] clsB AB.cell

theorem build_good (st : Int) (A : Option Addr) (n c : Nat) (q : List St) (S : Nat → Prop) (mo most : Int) (w : World) (hn : q.length = n) (hN : NF w S A q) (hc : checkV st q = 0) (hm : 0 ≤ mo) (hmo : (if 1024 < mo then 1024 else mo) = most) (hT : TabAt 0 Lib.deBruijn64tab w) (h0 : 0 < w.heap.size)
    (D : List (List Bool) × List (List Int)) (hD : Good st q (fsOf q) most D) :
    Calls Tryd.prog 59 #[.agg #[.int .i64 st, .slice A n c], .int .i64 mo] w fun e w' => ∃ (A1 A2 A3 : Option Addr) (n1 n2 n3 c1 c2 c3 : Nat), e = .returned (.tuple #[.agg #[.slice A1 n1 c1, .int .i64 (dfaOf q D).wid, .slice A2 n2 c2, .slice A3 n3 c3, .int .i64 0], .int .i64 0]) ∧ Df.DF w' (fun k => w.heap.size ≤ k ∧ k < w'.heap.size) A1 A2 A3 n1 n2 n3 (dfaOf q D) ∧ Below w.heap.size w w' := by
  refine Calls.mono (build_calls st A n c q S mo most w hn hN hc hm hmo hT h0) ?_
  rintro e w' ⟨⟨D', A1, A2, A3, n1, n2, n3, c1, c2, c3, h1, h2, h3⟩ | ⟨_, h2⟩, hb⟩
  · obtain rfl := good_one hD h2
    exact ⟨A1, A2, A3, n1, n2, n3, c1, c2, c3, h1, h3, hb⟩
  · exact (good_bad hD h2).elim
theorem build_bad (st : Int) (A : Option Addr) (n c : Nat) (q : List St) (S : Nat → Prop) (mo most : Int) (w : World) (hn : q.length = n) (hN : NF w S A q) (hc : checkV st q = 0) (hm : 0 ≤ mo) (hmo : (if 1024 < mo then 1024 else mo) = most) (hT : TabAt 0 Lib.deBruijn64tab w) (h0 : 0 < w.heap.size)
    (hB : Bad st q (fsOf q) most) :
    Calls Tryd.prog 59 #[.agg #[.int .i64 st, .slice A n c], .int .i64 mo] w fun e w' => e = .returned (.tuple #[zD, .int .i64 6]) ∧ Below w.heap.size w w' := by
  refine Calls.mono (build_calls st A n c q S mo most w hn hN hc hm hmo hT h0) ?_
  rintro e w' ⟨⟨D', A1, A2, A3, n1, n2, n3, c1, c2, c3, h1, h2, h3⟩ | ⟨h1, _⟩, hb⟩
  · exact (good_bad h2 hB).elim
  · exact ⟨h1, hb⟩
/-- There is one of the two. -/
theorem good_or_bad (st : Int) (q : List St) (fs : List Nat) (most : Int) : (∃ D, Good st q fs most D) ∨ Bad st q fs most := by
  by_cases hb : Bad st q fs most
  · exact .inr hb
  · refine .inl ?_
    have hle : ∀ i, (((bld st q fs i).1.length : Nat) : Int) ≤ most := fun i => by
      rcases Int.lt_or_le most (((bld st q fs i).1.length : Nat) : Int) with h | h
      · exact absurd ⟨i, h⟩ hb
      · exact h
    have key : ∀ n : Nat, (bld st q fs n).1.length ≤ n → ∃ i, (bld st q fs i).1.length = i := by
      intro n
      induction n with
      | zero => intro h; exact ⟨0, by omega⟩
      | succ n ih =>
        intro h
        rcases Nat.lt_or_ge n (bld st q fs n).1.length with h1 | h1
        · have := (bld_pre st q fs n).len
          exact ⟨n + 1, by omega⟩
        · exact ih h1
    obtain ⟨i, hi⟩ := key (most.toNat + 1) (by have := hle (most.toNat + 1); omega)
    exact ⟨_, i, rfl, hi, by have := hle i; omega⟩
/-! ### The automaton of ab -/
theorem two_fs : fsOf twoQ = [0, 97, 98] := by
  show Al.fstU (Al.keyF (rgs twoQ)) 256 = _
  decide +kernel
def mA : List Bool := [false, false, true]
def mB : List Bool := [false, true, false]
def mC : List Bool := [true, false, false]
def mN : List Bool := [false, false, false]
theorem sA0 : stepM twoQ 0 mA = mN := by rw [two_step _ _ rfl]; decide
theorem sA1 : stepM twoQ 97 mA = mB := by rw [two_step _ _ rfl]; decide
theorem sA2 : stepM twoQ 98 mA = mN := by rw [two_step _ _ rfl]; decide
theorem sB0 : stepM twoQ 0 mB = mN := by rw [two_step _ _ rfl]; decide
theorem sB1 : stepM twoQ 97 mB = mN := by rw [two_step _ _ rfl]; decide
theorem sB2 : stepM twoQ 98 mB = mC := by rw [two_step _ _ rfl]; decide
theorem sC0 : stepM twoQ 0 mC = mN := by rw [two_step _ _ rfl]; decide
theorem sC1 : stepM twoQ 97 mC = mN := by rw [two_step _ _ rfl]; decide
theorem sC2 : stepM twoQ 98 mC = mN := by rw [two_step _ _ rfl]; decide
theorem rA : rowM twoQ mA [0, 97, 98] [mA] = ([mA, mB], [-1, 1, -1]) := by
  unfold rowM; simp only [List.foldl_cons, List.foldl_nil]; rw [sA0, sA1, sA2]; decide
theorem rB : rowM twoQ mB [0, 97, 98] [mA, mB] = ([mA, mB, mC], [-1, -1, 2]) := by
  unfold rowM; simp only [List.foldl_cons, List.foldl_nil]; rw [sB0, sB1, sB2]; decide
theorem rC : rowM twoQ mC [0, 97, 98] [mA, mB, mC] = ([mA, mB, mC], [-1, -1, -1]) := by
  unfold rowM; simp only [List.foldl_cons, List.foldl_nil]; rw [sC0, sC1, sC2]; decide
def twoD : List (List Bool) × List (List Int) := ([mA, mB, mC], [[-1, 1, -1], [-1, -1, 2], [-1, -1, -1]])
theorem two_b0 : bld 2 twoQ [0, 97, 98] 0 = ([mA], []) := by show ([startM 2 twoQ], _) = _; rw [two_start]; rfl
theorem two_b1 : bld 2 twoQ [0, 97, 98] 1 = ([mA, mB], [[-1, 1, -1]]) := by
  rw [bld_some (i := 0) (m := mA) (by rw [two_b0]; rfl), two_b0]
  dsimp only
  rw [rA]; rfl
theorem two_b2 : bld 2 twoQ [0, 97, 98] 2 = ([mA, mB, mC], [[-1, 1, -1], [-1, -1, 2]]) := by
  rw [bld_some (i := 1) (m := mB) (by rw [two_b1]; rfl), two_b1]
  dsimp only
  rw [rB]; rfl
theorem two_b3 : bld 2 twoQ [0, 97, 98] 3 = twoD := by
  rw [bld_some (i := 2) (m := mC) (by rw [two_b2]; rfl), two_b2]
  dsimp only
  rw [rC]; rfl
theorem two_good : Good 2 twoQ (fsOf twoQ) 9 twoD := by
  rw [two_fs]
  exact ⟨3, two_b3, rfl, by decide⟩
theorem two_okD : Df.okD (dfaOf twoQ twoD) := okD_build two_okN (by decide) two_good
theorem two_wid : (dfaOf twoQ twoD).wid = 3 := by
  have := fsOf_len twoQ
  rw [two_fs] at this
  show ((Al.met (Al.keyF (rgs twoQ)) 256).length : Int) = 3
  rw [← this]; rfl
theorem two_runab : Df.runV (dfaOf twoQ twoD) [97, 98] = 7 := by
  rw [runV_build two_okN (by decide) two_good, two_run, two_best]
theorem two_runa : Df.runV (dfaOf twoQ twoD) [97] = -1 := by
  rw [runV_build two_okN (by decide) two_good]
  show bestM twoQ (stepM twoQ 97 (startM 2 twoQ)) = -1
  rw [two_start]
  show bestM twoQ (stepM twoQ 97 mA) = -1
  rw [sA1]; decide
theorem two_to : Df.toV (dfaOf twoQ twoD) 0 97 = 1 := by
  unfold Df.toV
  rw [if_pos two_okD]
  have h := run_build two_okN two_good [97]
  have e1 : runM 2 twoQ [97] = mB := by
    show stepM twoQ 97 (startM 2 twoQ) = _
    rw [two_start]
    exact sA1
  have e2 : Df.runS (dfaOf twoQ twoD) [97] = Df.nextD (dfaOf twoQ twoD) 0 97 := by
    have e3 : (dfaOf twoQ twoD).st = 0 := rfl
    unfold Df.runS
    rw [List.foldl_cons, List.foldl_nil, e3]
    congr 1
  rw [e1, e2] at h
  rcases h with ⟨h, _⟩ | ⟨k, h1, h2⟩
  · exact absurd (by decide) h
  · rw [h1]
    match k, h2 with
    | 0, h2 => exact absurd h2 (by decide)
    | 1, _ => rfl
    | 2, h2 => exact absurd h2 (by decide)
    | k + 3, h2 => exact absurd h2 (by simp [twoD])
end Go.Proofs.YtbmpaokicphdjaaDoor.Fn

/- The law's example; the reference's small words. -/
namespace Go.Proofs.YtbmpaokicphdjaaDoor.Fn
open Go Go.RowKit Go.Proofs.YtbmpaokicphdjaaDoor.Can Go.Proofs.YtbmpaokicphdjaaDoor.Base
attribute [local go_sem] clsB AB.cell

set_option maxHeartbeats 1000000 in
theorem two24_calls (w : World) : Calls Tryd.prog 84 #[] w fun e w' => ∃ b, e = .returned (.agg #[.int .i64 2, .slice (some ⟨b, 0, none⟩) 3 3]) ∧ w.heap.size ≤ b ∧ TwoAt w' b ∧ Below w.heap.size w w' := by
  go_enter Tryd.func84, Tryd.ntmps84
  go_wp2
  refine bodyPost_ret (results_cell_row rfl _ _ w.heap.size 58 #[.int .i64 2, .slice (some ⟨w.heap.size + 1, 0, none⟩) 3 3] (0, 0) _ rfl (blk_alloc (blk_new _ _ _ rfl) _) Tryd.underlying58 rfl (by kernel_rfl)) rfl ?_
  refine ⟨w.heap.size + 1, rfl, Nat.le_succ _, ?_, below_alloc (below_alloc (Below.refl _ _) _) _⟩
  exact blk_new _ _ _ (by rw [size_alloc])
theorem bl_ab : Df.bl ⟨#[97, 98]⟩ = [97, 98] := rfl
theorem bl_a : Df.bl ⟨#[97]⟩ = [97] := rfl
set_option maxRecDepth 20000 in
set_option maxHeartbeats 4000000 in
theorem subL_calls (w : World) (hT : TabAt 0 Lib.deBruijn64tab w) (h0 : 0 < w.heap.size) : Calls Tryd.prog 58 #[] w fun e w' => e = .returned (.bool true) ∧ Below w.heap.size w w' := by
  have HTB : Hd (∀ {W : World}, Below w.heap.size w W → TabAt 0 Lib.deBruijn64tab W) := ⟨fun hb j hj => (hb.cell (p := ⟨0, j, none⟩) h0).trans (hT j hj)⟩
  have H0 : Hd (∀ {W : World}, Below w.heap.size w W → 0 < W.heap.size) := ⟨fun hb => Nat.lt_of_lt_of_le h0 hb.size⟩
  clear hT h0
  obtain ⟨dd, hdd⟩ : ∃ d, dfaOf twoQ twoD = d := ⟨_, rfl⟩
  have hw3 : dd.wid = 3 := by rw [← hdd]; exact two_wid
  have hs0 : dd.st = 0 := by rw [← hdd]; rfl
  have hn3 : dd.nxt.length = 3 := by rw [← hdd]; rfl
  have HRT : Hd (decide (Df.okD dd) = true) := ⟨by rw [← hdd]; exact decide_eq_true two_okD⟩
  have HAB : Hd (Df.runV dd (Df.bl ⟨#[97, 98]⟩) = 7) := ⟨by rw [← hdd, bl_ab]; exact two_runab⟩
  have HA : Hd (Df.runV dd (Df.bl ⟨#[97]⟩) = -1) := ⟨by rw [← hdd, bl_a]; exact two_runa⟩
  have HTO : Hd (Df.toV dd 0 97 = 1) := ⟨by rw [← hdd]; exact two_to⟩
  have HBG : Hd (∀ (b : Nat) (W : World), TwoAt W b → Below w.heap.size w W → _) := ⟨fun b W h hb => build_good 2 (some ⟨b, 0, none⟩) 3 3 twoQ _ 9 9 W rfl (two_row h) two_ok (by decide) (by decide) (HTB.out hb) (H0.out hb) twoD two_good⟩
  rw [hdd, hw3] at HBG
  have HW3 := Hd.mk hw3; have HS0 := Hd.mk hs0; have HN3 := Hd.mk hn3
  clear hdd hw3 hs0 hn3
  go_enter Tryd.func58, Tryd.ntmps58
  go_upto_region 2 with (first
    | (go_at_call 59; go_must (refine Calls.mono (HBG.out b1 w1 HT1.out HB1.out) ?_; rintro e w2 ⟨A1, A2, A3, n1, n2, n3, c1, c2, c3, rfl, hd_, hb_⟩; obtain rfl : n2 = 3 := (by rw [← hd_.nxt.1]; exact HN3.out); have HD2 := Hd.mk hd_; have HB2 := Hd.mk (below_seq HB1.out hb_); clear hd_ hb_))
    | (go_at_call 84; go_must (refine Calls.mono (two24_calls _) ?_; rintro e w1 ⟨b1, rfl, -, ht_, hw_⟩; have HT1 := Hd.mk ht_; have HB1 := Hd.mk hw_; clear ht_ hw_)))
  have HX : Hd ((w2.alloc (.cells #[.slice A1 n1 c1, .int .i64 3, .slice A2 3 c2, .slice A3 n3 c3, .int .i64 0] 90)).heap[w2.heap.size]? = some (.cells #[.slice A1 n1 c1, .int .i64 3, .slice A2 3 c2, .slice A3 n3 c3, .int .i64 0] 90 (0, 0))) := ⟨blk_new _ _ _ rfl⟩
  have HBV := Hd.mk (below_seq HB2.out (below_alloc (Below.refl _ _) (.cells #[.slice A1 n1 c1, .int .i64 3, .slice A2 3 c2, .slice A3 n3 c3, .int .i64 0] 90)))
  have HDV := Hd.mk (HD2.out.below (below_alloc (Below.refl _ _) (.cells #[.slice A1 n1 c1, .int .i64 3, .slice A2 3 c2, .slice A3 n3 c3, .int .i64 0] 90)))
  generalize World.alloc w2 _ = V at *
  generalize w2.heap.size = p at *
  clear HD2 HB2
  have HJ1 := Hd.mk (fun (W : World) (hb : Below V.heap.size V W) => Df.dright_calls A1 A2 A3 n1 3 n3 c1 c2 c3 dd _ W (HDV.out.below hb))
  rw [HRT.out, HW3.out, HS0.out] at HJ1
  have HJ2 := Hd.mk (fun (W : World) (hb : Below V.heap.size V W) => Df.drun_calls A1 A2 A3 n1 3 n3 c1 c2 c3 dd _ ⟨#[97, 98]⟩ (by decide) W (HDV.out.below hb))
  rw [HAB.out, HW3.out, HS0.out] at HJ2
  have HJ3 := Hd.mk (fun (W : World) (hb : Below V.heap.size V W) => Df.drun_calls A1 A2 A3 n1 3 n3 c1 c2 c3 dd _ ⟨#[97]⟩ (by decide) W (HDV.out.below hb))
  rw [HA.out, HW3.out, HS0.out] at HJ3
  have HJ4 := Hd.mk (fun (W : World) (hb : Below V.heap.size V W) => Df.dto_calls A1 A2 A3 n1 3 n3 c1 c2 c3 dd _ 0 97 (by decide) W (HDV.out.below hb))
  rw [HTO.out, HW3.out, HS0.out] at HJ4
  have hx := HX.out
  have TOK := Hd.mk trivial
  have hxc0 := blk_cell hx 0 _ rfl; have hxf0 := blk_frozen hx 0; have hxc1 := blk_cell hx 1 _ rfl; have hxf1 := blk_frozen hx 1; have hxc2 := blk_cell hx 2 _ rfl; have hxf2 := blk_frozen hx 2; have hxc3 := blk_cell hx 3 _ rfl; have hxf3 := blk_frozen hx 3; have hxc4 := blk_cell hx 4 _ rfl; have hxf4 := blk_frozen hx 4; have hxl := blk_lt hx
  go_wp2_with (first
    | (go_at_call 69; go_must (refine Calls.mono (HJ4.out x3 HX3.out) ?_; rintro e x4 ⟨rfl, hb_⟩; have HX4 := Hd.mk (below_seq HX3.out hb_); clear hb_))
    | (have hq_ := HX2; clear hq_; go_at_call 63; go_must (refine Calls.mono (HJ3.out x2 HX2.out) ?_; rintro e x3 ⟨rfl, hb_⟩; have HX3 := Hd.mk (below_seq HX2.out hb_); have hx3 := blk_below hx2 hb_; clear hx2c0 hx2f0 hx2c1 hx2f1 hx2c2 hx2f2 hx2c3 hx2f3 hx2c4 hx2f4 hx2l; have hx3c0 := blk_cell hx3 0 _ rfl; have hx3f0 := blk_frozen hx3 0; have hx3c1 := blk_cell hx3 1 _ rfl; have hx3f1 := blk_frozen hx3 1; have hx3c2 := blk_cell hx3 2 _ rfl; have hx3f2 := blk_frozen hx3 2; have hx3c3 := blk_cell hx3 3 _ rfl; have hx3f3 := blk_frozen hx3 3; have hx3c4 := blk_cell hx3 4 _ rfl; have hx3f4 := blk_frozen hx3 4; have hx3l := blk_lt hx3; clear hb_))
    | (have hq_ := TOK; clear hq_ TOK; go_at_call 63; go_must (refine Calls.mono (HJ2.out x1 HX1.out) ?_; rintro e x2 ⟨rfl, hb_⟩; have HX2 := Hd.mk (below_seq HX1.out hb_); have hx2 := blk_below hx1 hb_; clear hx1c0 hx1f0 hx1c1 hx1f1 hx1c2 hx1f2 hx1c3 hx1f3 hx1c4 hx1f4 hx1l; have hx2c0 := blk_cell hx2 0 _ rfl; have hx2f0 := blk_frozen hx2 0; have hx2c1 := blk_cell hx2 1 _ rfl; have hx2f1 := blk_frozen hx2 1; have hx2c2 := blk_cell hx2 2 _ rfl; have hx2f2 := blk_frozen hx2 2; have hx2c3 := blk_cell hx2 3 _ rfl; have hx2f3 := blk_frozen hx2 3; have hx2c4 := blk_cell hx2 4 _ rfl; have hx2f4 := blk_frozen hx2 4; have hx2l := blk_lt hx2; clear hb_))
    | (go_at_call 65; go_must (refine Calls.mono (HJ1.out V (Below.refl _ _)) ?_; rintro e x1 ⟨rfl, hb_⟩; have HX1 := Hd.mk hb_; have hx1 := blk_below hx hb_; clear hxc0 hxf0 hxc1 hxf1 hxc2 hxf2 hxc3 hxf3 hxc4 hxf4 hxl; have hx1c0 := blk_cell hx1 0 _ rfl; have hx1f0 := blk_frozen hx1 0; have hx1c1 := blk_cell hx1 1 _ rfl; have hx1f1 := blk_frozen hx1 1; have hx1c2 := blk_cell hx1 2 _ rfl; have hx1f2 := blk_frozen hx1 2; have hx1c3 := blk_cell hx1 3 _ rfl; have hx1f3 := blk_frozen hx1 3; have hx1c4 := blk_cell hx1 4 _ rfl; have hx1f4 := blk_frozen hx1 4; have hx1l := blk_lt hx1; clear hb_)))
  go_ret
  exact ⟨rfl, below_seq HBV.out HX4.out⟩
/-! ### The reference's words -/
/-- A row of marks, of whatever room. -/
def BB : Ty (List Bool) where
  sz := 1
  rel := fun w S xs cs => ∃ A c, cs = [.slice A xs.length c] ∧ Row bTy w S A xs.length xs
  len := by rintro w S x cs ⟨A, c, rfl, _⟩; rfl
  one := by rintro w S x cs ⟨A, c, rfl, _⟩ u hu; rw [List.mem_singleton.1 hu]; rfl
  move := by rintro w w' S x cs hm ⟨A, c, e, hr⟩; exact ⟨A, c, e, hr.move hm⟩
  mono := by rintro w S S' x cs hm ⟨A, c, e, hr⟩; exact ⟨A, c, e, hr.mono hm⟩
  bound := by rintro w S x cs ⟨A, c, e, hr⟩; exact ⟨A, c, e, hr.bound (by decide)⟩
theorem brows_get {w : World} {S : Nat → Prop} {A : Option Addr} {n : Nat} {xs : List (List Bool)} (h : Row BB w S A n xs) (k : Nat) (hk : k < n) :
    ∃ b off A' c' r, A = some ⟨b, off, none⟩ ∧ b < w.heap.size ∧ xs[k]? = some r ∧ w.cell? ⟨b, off + k, none⟩ = some (.slice A' r.length c') ∧ Row bTy w S A' r.length r := by
  obtain ⟨b, off, cs, he, hs, ⟨A', c', rfl, h3⟩, hcell⟩ := h.get k hk
  have h0 := hcell 0 _ rfl
  rw [show off + k * BB.sz + 0 = off + k by show off + k * 1 + 0 = _; omega] at h0
  exact ⟨b, off, A', c', _, he, World.block_lt_of_cell? w _ h0, List.getElem?_eq_getElem _, h0, h3⟩
theorem b_get {w : World} {S : Nat → Prop} {A : Option Addr} {n : Nat} {m : List Bool} (h : Row bTy w S A n m) (i : Nat) (hi : i < n) :
    ∃ b off x, A = some ⟨b, off, none⟩ ∧ b < w.heap.size ∧ m[i]? = some x ∧ w.cell? ⟨b, off + i, none⟩ = some (.bool x) := by
  obtain ⟨b, off, h1, h2, h3⟩ := get_mark h i hi
  have hl : i < m.length := by rw [h.1]; exact hi
  refine ⟨b, off, m[i], h1, h2, List.getElem?_eq_getElem hl, ?_⟩
  rw [h3, List.getD_eq_getElem?_getD, List.getElem?_eq_getElem hl]; rfl
set_option maxHeartbeats 1000000 in
theorem some_calls (A : Option Addr) (n c : Nat) (m : List Bool) (b : Bool) (S : Nat → Prop) (w : World) (hC : Row bTy w S A n m) (hb : decide (true ∈ m) = b) :
    Calls Tryd.prog 94 #[.slice A n c] w fun e w' => e = .returned (.bool b) ∧ w' = w := by
  have hn := hC.le
  have HN := Hd.mk hC.1; have HC := Hd.mk hC; have HB := Hd.mk hb
  clear hC hb
  go_enter Tryd.func94, Tryd.ntmps94
  go_wp2
  go_loopw [3] (fun i wr => ∃ k : Nat, k ≤ n ∧ i = .int .i64 k ∧ Hd (¬ true ∈ m.take k) ∧ wr = w) (fun i _ => n - (intOf i).toNat)
  case atStart => exact ⟨0, Nat.zero_le _, rfl, ⟨by simp⟩, rfl⟩
  case round =>
    obtain ⟨k, hk, rfl, HK, rfl⟩ := hrel
    by_cases hlt : k < n
    · obtain ⟨bk, off, x, rfl, hbk, hx, hc⟩ := b_get HC.out k hlt
      have HX := Hd.mk hx
      clear hx
      cases x with
      | true =>
        obtain rfl : b = true := by rw [← HB.out]; exact decide_eq_true (List.mem_of_getElem? HX.out)
        go_wp2
        go_ret
        exact ⟨rfl, rfl⟩
      | false =>
        go_wp2
        go_roundw
        case rel =>
          refine ⟨k + 1, by omega, by go_num, ⟨?_⟩, trivial⟩
          rw [Df.take_snoc HX.out]
          intro h
          rcases List.mem_append.1 h with h | h
          · exact HK.out h
          · simp at h
        case measure => simp [intOf]; omega
    · obtain rfl : k = n := by omega
      obtain rfl : b = false := by rw [← HB.out]; exact decide_eq_false (by have := HK.out; rwa [Df.take_all HN.out] at this)
      go_wp2
      go_ret
      exact ⟨rfl, rfl⟩
def placeM (all : List (List Bool)) (x : List Bool) : Int := if x ∈ all then ((all.idxOf x : Nat) : Int) else -1
theorem idx_first {α : Type} [BEq α] [LawfulBEq α] {l : List α} {i : Nat} {x : α} (h : x ∉ l.take i) (hx : l[i]? = some x) : l.idxOf x = i := by
  have hi := (List.getElem?_eq_some_iff.1 hx).1
  have e : l = l.take i ++ l.drop i := (List.take_append_drop i l).symm
  have hd : l.drop i = x :: l.drop (i + 1) := by
    rw [List.drop_eq_getElem_cons hi]
    congr 1
    exact Option.some.inj ((List.getElem?_eq_getElem hi).symm.trans hx)
  rw [e, List.idxOf_append, if_neg h, hd, List.idxOf_cons_self, List.length_take]
  omega
set_option maxHeartbeats 2000000 in
theorem find_calls (A1 A2 : Option Addr) (n1 n c1 c2 : Nat) (all : List (List Bool)) (x : List Bool) (S1 S2 : Nat → Prop) (w : World) (hS1 : ∀ k, S1 k → k < w.heap.size) (hS2 : ∀ k, S2 k → k < w.heap.size) (h1 : Row BB w S1 A1 n1 all) (h2 : Row bTy w S2 A2 n x) (hall : ∀ y ∈ all, y.length = n) :
    Calls Tryd.prog 93 #[.slice A1 n1 c1, .slice A2 n c2] w fun e w' => e = .returned (.int .i64 (placeM all x)) ∧ Below w.heap.size w w' := by
  have hm1 := h1.le; have hm2 := h2.le
  obtain ⟨v, hv⟩ : ∃ v, placeM all x = v := ⟨_, rfl⟩
  rw [hv]
  have HV := Hd.mk hv
  have H1 := Hd.mk h1; have H2 := Hd.mk h2; have HS1 := Hd.mk hS1; have HS2 := Hd.mk hS2; have HALL := Hd.mk hall; have HN1 := Hd.mk h1.1; have HN2 := Hd.mk h2.1
  clear h1 h2 hS1 hS2 hall hv
  go_enter Tryd.func93, Tryd.ntmps93
  go_wp2
  go_loopw [5] (fun i wr => ∃ k : Nat, k ≤ n1 ∧ i = .int .i64 k ∧ Hd (x ∉ all.take k) ∧ Hd (Below w.heap.size w wr)) (fun i _ => n1 - (intOf i).toNat)
  case atStart => exact ⟨0, Nat.zero_le _, rfl, ⟨by simp⟩, ⟨Below.refl _ _⟩⟩
  case round =>
    obtain ⟨k, hk, rfl, HK, HB⟩ := hrel
    by_cases hlt : k < n1
    · obtain ⟨b1, o1, A3, c3, r, rfl, hb1, hr, hy1, hrr⟩ := brows_get (H1.out.below HS1.out HB.out) k hlt
      have HR := Hd.mk hr
      have hrl : r.length = n := HALL.out r (List.mem_of_getElem? hr)
      rw [hrl] at hy1 hrr
      have HRR := Hd.mk hrr; have HRL := Hd.mk hrl
      have HSr : Hd (∀ k, S1 k → k < wr.heap.size) := ⟨fun k hk => Nat.lt_of_lt_of_le (HS1.out k hk) HB.out.size⟩
      obtain ⟨Wo, hWo⟩ : ∃ W : World, W = wr := ⟨_, rfl⟩
      subst hWo
      clear hr hrr hrl
      go_wp2
      go_loopw [6, 7] (fun v i wx => ∃ (j : Nat) (b : Bool), j ≤ n ∧ i = .int .i64 j ∧ v = .bool b ∧ Hd (decide (r.take j = x.take j) = b) ∧ Hd (Below Wo.heap.size Wo wx)) (fun _ i _ => n - (intOf i).toNat)
      case atStart => exact ⟨0, true, Nat.zero_le _, rfl, rfl, ⟨by simp⟩, ⟨Below.refl _ _⟩⟩
      case round =>
        obtain ⟨j, b, hj, rfl, rfl, HJ, HBx⟩ := hrel
        by_cases hltj : j < n
        · have hy3 := (HBx.out.cell (p := ⟨b1, o1 + k, none⟩) hb1).trans hy1
          have hb9 : b1 < wr.heap.size := Nat.lt_of_lt_of_le hb1 HBx.out.size
          obtain ⟨b4, o4, y4, rfl, hb4, hx4, hc4⟩ := b_get (HRR.out.below HSr.out HBx.out) j hltj
          obtain ⟨b5, o5, y5, rfl, hb5, hx5, hc5⟩ := b_get (H2.out.below HS2.out (below_seq HB.out HBx.out)) j hltj
          have HX4 := Hd.mk (Df.take_snoc hx4); have HX5 := Hd.mk (Df.take_snoc hx5)
          clear hx4 hx5
          cases b with
          | false =>
            go_wp2
            refine wp_region_can (.q [0, 1, 2, 3, 4, 5, 6, 7, 8, 9, 10, 11, 12, 13, 14, 15] (.done)) (clsB _) (by kernel_rfl) (by kernel_rfl) (by intro _ _ d _ _ h; cases d <;> exact h) (clsB_drew _) ?_
            refine can_q (l := [⟨_,_,_,_,_,_⟩, ⟨_,_,_,_,_,_⟩, ⟨_,_,_,_,_,_⟩, ⟨_,_,_,_,_,_⟩, ⟨_,_,_,_,_,_⟩, ⟨_,_,_,_,_,_⟩, ⟨_,_,_,_,_,_⟩, ⟨_,_,_,_,_,_⟩, ⟨_,_,_,_,_,_⟩, ⟨_,_,_,_,_,_⟩, ⟨_,_,_,_,_,_⟩, ⟨_,_,_,_,_,_⟩, ⟨_,_,_,_,_,_⟩, ⟨_,_,_,_,_,_⟩, ⟨_,_,_,_,_,_⟩, ⟨_,_,_,_,_,_⟩]) rfl ?_
            repeat (go_big_quiet_step (fail))
            refine wpQuiet_nil ?_
            refine can_done ?_
            go_wp2
            go_roundw
            case rel =>
              refine ⟨j + 1, false, by omega, by go_num, rfl, ⟨decide_eq_false fun h => ?_⟩, ⟨below_drew1 HBx.out⟩⟩
              rw [HX4.out, HX5.out] at h
              exact of_decide_eq_false HJ.out (List.append_inj_left' h rfl)
            case measure => simp [intOf]; omega
          | true =>
            obtain ⟨b9, hb9'⟩ : ∃ b9, (y4 == y5) = b9 := ⟨_, rfl⟩
            have HB9 := Hd.mk hb9'
            go_wp2
            refine wp_region_can (.q [0, 1, 2, 3, 4, 5, 6, 7, 8, 9, 10, 11, 12, 13, 14, 15] (.done)) (clsB _) (by kernel_rfl) (by kernel_rfl) (by intro _ _ d _ _ h; cases d <;> exact h) (clsB_drew _) ?_
            refine can_q (l := [⟨_,_,_,_,_,_⟩, ⟨_,_,_,_,_,_⟩, ⟨_,_,_,_,_,_⟩, ⟨_,_,_,_,_,_⟩, ⟨_,_,_,_,_,_⟩, ⟨_,_,_,_,_,_⟩, ⟨_,_,_,_,_,_⟩, ⟨_,_,_,_,_,_⟩, ⟨_,_,_,_,_,_⟩, ⟨_,_,_,_,_,_⟩, ⟨_,_,_,_,_,_⟩, ⟨_,_,_,_,_,_⟩, ⟨_,_,_,_,_,_⟩, ⟨_,_,_,_,_,_⟩, ⟨_,_,_,_,_,_⟩, ⟨_,_,_,_,_,_⟩]) rfl ?_
            repeat (go_big_quiet_step (fail))
            refine wpQuiet_nil ?_
            refine can_done ?_
            go_wp2
            go_roundw
            case rel =>
              refine ⟨j + 1, b9, by omega, by go_num, rfl, ⟨?_⟩, ⟨below_drew1 HBx.out⟩⟩
              rw [HX4.out, HX5.out, of_decide_eq_true HJ.out]
              cases hb9 : b9 with
              | true =>
                have e : y4 = y5 := by have := HB9.out; rw [hb9] at this; simpa using this
                rw [e]; exact decide_eq_true rfl
              | false =>
                refine decide_eq_false fun h => ?_
                have e := List.append_inj_right' h rfl
                have := HB9.out
                rw [hb9] at this
                simp at e this
                exact this e
            case measure => simp [intOf]; omega
        · obtain rfl : j = n := by omega
          have HRX : Hd (decide (r = x) = b) := ⟨by have := HJ.out; rwa [Df.take_all HRL.out, Df.take_all HN2.out] at this⟩
          cases b with
          | true =>
            have hrx : r = x := of_decide_eq_true HRX.out
            obtain rfl : v = k := by
              rw [← HV.out]
              unfold placeM
              rw [if_pos (List.mem_of_getElem? (by rw [HR.out, hrx])), idx_first HK.out (by rw [HR.out, hrx])]
            clear hrx
            go_wp2
            go_ret
            exact ⟨rfl, below_seq HB.out HBx.out⟩
          | false =>
            have hrx : ¬ r = x := of_decide_eq_false HRX.out
            have HRN := Hd.mk hrx
            clear hrx
            go_wp2
            go_roundw
            case rel =>
              refine ⟨k + 1, by omega, by go_num, ⟨fun h => ?_⟩, ⟨below_seq HB.out HBx.out⟩⟩
              rw [Df.take_snoc HR.out] at h
              rcases List.mem_append.1 h with h | h
              · exact HK.out h
              · exact HRN.out (List.mem_singleton.1 h).symm
            case measure => simp [intOf]; omega
    · obtain rfl : k = n1 := by omega
      obtain rfl : v = -1 := by
        rw [← HV.out]
        unfold placeM
        rw [if_neg (by have := HK.out; rwa [Df.take_all HN1.out] at this)]
      go_wp2
      go_ret
      exact ⟨rfl, HB.out⟩
end Go.Proofs.YtbmpaokicphdjaaDoor.Fn

/- The reference's Build: what lies apart. -/
namespace Go.Proofs.YtbmpaokicphdjaaDoor.Fn
open Go Go.RowKit Go.Proofs.YtbmpaokicphdjaaDoor.Can Go.Proofs.YtbmpaokicphdjaaDoor.Base
attribute [local go_sem] clsB AB.cell

structure Rb (w : World) (z p : Nat) (Z : Nat → Nat → Prop) (tv nv av rv : Value) (tg : List Int) (nx : List (List Int)) (all : List (List Bool)) (row : List Int) : Prop where
  zn : Zn w z Z
  zp : Z 0 p
  nxt : ∃ S, Base.Own Df.II w z 24 S nv nx ∧ ∀ b, (S b ∨ nv.ownBlock = some b) → Z 2 b
  tag : Mine I w z 3 tv tg ∧ ∀ b, tv.ownBlock = some b → Z 3 b
  all : ∃ S, Base.Own BB w z 74 S av all ∧ ∀ b, (S b ∨ av.ownBlock = some b) → Z 4 b
  row : Mine I w z 3 rv row ∧ ∀ b, rv.ownBlock = some b → Z 5 b
section
variable {w w' : World} {z p : Nat} {Z : Nat → Nat → Prop} {tv nv av rv : Value} {tg : List Int} {nx : List (List Int)} {all : List (List Bool)} {row : List Int} {X : Nat → Prop}
/-- All that is not written stays. -/
theorem Rb.keep (h : Rb w z p Z tv nv av rv tg nx all row) (hf : Fr X w w') {c : Nat} (hX : ∀ b, X b → Z c b) :
    (c ≠ 2 → ∃ S, Base.Own Df.II w' z 24 S nv nx ∧ ∀ b, (S b ∨ nv.ownBlock = some b) → Z 2 b) ∧ (c ≠ 3 → Mine I w' z 3 tv tg) ∧
    (c ≠ 4 → ∃ S, Base.Own BB w' z 74 S av all ∧ ∀ b, (S b ∨ av.ownBlock = some b) → Z 4 b) ∧ (c ≠ 5 → Mine I w' z 3 rv row) := by
  have hd : ∀ i b, i ≠ c → Z i b → w'.heap[b]? = w.heap[b]? := fun i b hi hb => hf.same b (h.zn.lt i b hb).2 fun hx => h.zn.dis i c b hi hb (hX b hx)
  refine ⟨fun hc => ?_, fun hc => h.tag.1.mv (fun k hk => hd 3 k (Ne.symm hc) (h.tag.2 k hk)) hf.size, fun hc => ?_, fun hc => h.row.1.mv (fun k hk => hd 5 k (Ne.symm hc) (h.row.2 k hk)) hf.size⟩
  · obtain ⟨S, h1, h2⟩ := h.nxt
    exact ⟨S, h1.move (fun k hk => hd 2 k (Ne.symm hc) (h2 k hk)) hf.size, h2⟩
  · obtain ⟨S, h1, h2⟩ := h.all
    exact ⟨S, h1.move (fun k hk => hd 4 k (Ne.symm hc) (h2 k hk)) hf.size, h2⟩
theorem Rb.below (h : Rb w z p Z tv nv av rv tg nx all row) (hb : Below w.heap.size w w') : Rb w' z p Z tv nv av rv tg nx all row := by
  obtain ⟨h1, h2, h3, h4⟩ := h.keep (X := fun _ => False) (Fr.of_below hb) (c := 0) (fun b hb => hb.elim)
  exact ⟨h.zn.grow hb.size, h.zp, h1 (by decide), ⟨h2 (by decide), h.tag.2⟩, h3 (by decide), ⟨h4 (by decide), h.row.2⟩⟩
theorem Rb.store (h : Rb w z p Z tv nv av rv tg nx all row) (i : Nat) (v : Value) : Rb (w.setCell ⟨p, i, none⟩ v) z p Z tv nv av rv tg nx all row := by
  have hf : Fr (fun b => b = p) w (w.setCell ⟨p, i, none⟩ v) := Fr.set (X := fun b => b = p) (Fr.refl _ _) (.inl rfl) i v
  obtain ⟨h1, h2, h3, h4⟩ := h.keep hf (c := 0) (fun b hb => by rw [hb]; exact h.zp)
  exact ⟨h.zn.grow hf.size, h.zp, h1 (by decide), ⟨h2 (by decide), h.tag.2⟩, h3 (by decide), ⟨h4 (by decide), h.row.2⟩⟩
theorem Rb.tags {tv' : Value} {tg' : List Int} (h : Rb w z p Z tv nv av rv tg nx all row) (hw : z ≤ w.heap.size) (hf : Fr (fun b => tv.ownBlock = some b) w w') (hm : Mine I w' z 3 tv' tg') (hat : tv'.ownBlock = tv.ownBlock ∨ tv'.ownBlock = some w.heap.size) :
    Rb w' z p (upZ Z 3 (fun b => tv'.ownBlock = some b)) tv' nv av rv tg' nx all row := by
  obtain ⟨h1, -, h3, h4⟩ := h.keep hf (c := 3) h.tag.2
  obtain ⟨S1, o1, z1⟩ := h1 (by decide)
  obtain ⟨S3, o3, z3⟩ := h3 (by decide)
  refine ⟨h.zn.up hw hf.size fun b hb => ⟨?_, (hm.lt hb).1⟩, by rw [upZ_ne _ (by decide)]; exact h.zp, ⟨S1, o1, fun b hb => by rw [upZ_ne _ (by decide)]; exact z1 b hb⟩, ⟨hm, fun b hb => by rw [upZ_same]; exact hb⟩, ⟨S3, o3, fun b hb => by rw [upZ_ne _ (by decide)]; exact z3 b hb⟩, ⟨h4 (by decide), fun b hb => by rw [upZ_ne _ (by decide)]; exact h.row.2 b hb⟩⟩
  rcases hat with h9 | h9
  · exact .inl (h.tag.2 b (h9 ▸ hb))
  · rw [h9] at hb; cases hb; exact .inr (.inr (Nat.le_refl _))
theorem Rb.rowg {rv' : Value} {row' : List Int} (h : Rb w z p Z tv nv av rv tg nx all row) (hw : z ≤ w.heap.size) (hf : Fr (fun b => rv.ownBlock = some b) w w') (hm : Mine I w' z 3 rv' row') (hat : rv'.ownBlock = rv.ownBlock ∨ rv'.ownBlock = some w.heap.size) :
    Rb w' z p (upZ Z 5 (fun b => rv'.ownBlock = some b)) tv nv av rv' tg nx all row' := by
  obtain ⟨h1, h2, h3, -⟩ := h.keep hf (c := 5) h.row.2
  obtain ⟨S1, o1, z1⟩ := h1 (by decide)
  obtain ⟨S3, o3, z3⟩ := h3 (by decide)
  refine ⟨h.zn.up hw hf.size fun b hb => ⟨?_, (hm.lt hb).1⟩, by rw [upZ_ne _ (by decide)]; exact h.zp, ⟨S1, o1, fun b hb => by rw [upZ_ne _ (by decide)]; exact z1 b hb⟩, ⟨h2 (by decide), fun b hb => by rw [upZ_ne _ (by decide)]; exact h.tag.2 b hb⟩, ⟨S3, o3, fun b hb => by rw [upZ_ne _ (by decide)]; exact z3 b hb⟩, ⟨hm, fun b hb => by rw [upZ_same]; exact hb⟩⟩
  rcases hat with h9 | h9
  · exact .inl (h.row.2 b (h9 ▸ hb))
  · rw [h9] at hb; cases hb; exact .inr (.inr (Nat.le_refl _))
/-- One more set; its marks lie in blocks S' that are nobody's. -/
theorem Rb.alls {av' : Value} {all' : List (List Bool)} {S0 S1 : Nat → Prop} (h : Rb w z p Z tv nv av rv tg nx all row) (hw : z ≤ w.heap.size) (h0 : ∀ b, (S0 b ∨ av.ownBlock = some b) → Z 4 b) (hf : Fr (fun b => av.ownBlock = some b) w w') (hm : Base.Own BB w' z 74 S1 av' all') (hS1 : ∀ b, S1 b → S0 b ∨ (z ≤ b ∧ ∀ i, ¬ Z i b) ∨ w.heap.size ≤ b) (hat : av'.ownBlock = av.ownBlock ∨ av'.ownBlock = some w.heap.size) :
    Rb w' z p (upZ Z 4 (fun b => S1 b ∨ av'.ownBlock = some b)) tv nv av' rv tg nx all' row := by
  obtain ⟨h1, h2, -, h4⟩ := h.keep hf (c := 4) (fun b hb => h0 b (.inr hb))
  obtain ⟨S, o1, z1⟩ := h1 (by decide)
  refine ⟨h.zn.up hw hf.size fun b hb => ⟨?_, ownT_lt hm b hb⟩, by rw [upZ_ne _ (by decide)]; exact h.zp, ⟨S, o1, fun b hb => by rw [upZ_ne _ (by decide)]; exact z1 b hb⟩, ⟨h2 (by decide), fun b hb => by rw [upZ_ne _ (by decide)]; exact h.tag.2 b hb⟩, ⟨S1, hm, fun b hb => by rw [upZ_same]; exact hb⟩, ⟨h4 (by decide), fun b hb => by rw [upZ_ne _ (by decide)]; exact h.row.2 b hb⟩⟩
  rcases hb with hb | hb
  · rcases hS1 b hb with h9 | h9 | h9
    · exact .inl (h0 b (.inl h9))
    · exact .inr (.inl h9)
    · exact .inr (.inr h9)
  · rcases hat with h9 | h9
    · exact .inl (h0 b (.inr (h9 ▸ hb)))
    · rw [h9] at hb; cases hb; exact .inr (.inr (Nat.le_refl _))
/-- The row is a state's; another one begins. -/
theorem Rb.rows {nv' : Value} {S0 S1 : Nat → Prop} (h : Rb w z p Z tv nv av rv tg nx all row) (hw : z ≤ w.heap.size) (h0 : ∀ b, (S0 b ∨ nv.ownBlock = some b) → Z 2 b) (hf : Fr (fun b => nv.ownBlock = some b) w w') (hm : Base.Own Df.II w' z 24 S1 nv' (nx ++ [row])) (hS1 : ∀ b, S1 b → S0 b ∨ rv.ownBlock = some b ∨ (z ≤ b ∧ ∀ i, ¬ Z i b) ∨ w.heap.size ≤ b) (hat : nv'.ownBlock = nv.ownBlock ∨ nv'.ownBlock = some w.heap.size) :
    ∃ Z', Rb w' z p Z' tv nv' av (.slice none 0 0) tg (nx ++ [row]) all [] ∧ ∀ i b, Z' i b → (∃ j, Z j b) ∨ S1 b ∨ nv'.ownBlock = some b := by
  obtain ⟨-, h2, h3, -⟩ := h.keep hf (c := 2) (fun b hb => h0 b (.inr hb))
  obtain ⟨S, o3, z3⟩ := h3 (by decide)
  have zn0 : Zn w z (upZ Z 5 (fun _ => False)) := ⟨fun i b hb => by
    by_cases hi : i = 5
    · subst hi; rw [upZ_same] at hb; exact hb.elim
    · rw [upZ_ne _ hi] at hb; exact h.zn.lt i b hb, fun i j b hij hb hb2 => by
    by_cases hi : i = 5
    · subst hi; rw [upZ_same] at hb; exact hb.elim
    · rw [upZ_ne _ hi] at hb
      by_cases hj : j = 5
      · subst hj; rw [upZ_same] at hb2; exact hb2.elim
      · rw [upZ_ne _ hj] at hb2; exact h.zn.dis i j b hij hb hb2⟩
  have hrz : ∀ b, rv.ownBlock = some b → z ≤ b ∧ ∀ i, ¬ upZ Z 5 (fun _ => False) i b := fun b hb => ⟨(h.row.1.lt hb).2, fun i hi => by
    by_cases h5 : i = 5
    · subst h5; rw [upZ_same] at hi; exact hi
    · rw [upZ_ne _ h5] at hi; exact h.zn.dis 5 i b (Ne.symm h5) (h.row.2 b hb) hi⟩
  refine ⟨upZ (upZ Z 5 (fun _ => False)) 2 (fun b => S1 b ∨ nv'.ownBlock = some b), ⟨zn0.up hw hf.size fun b hb => ⟨?_, ownT_lt hm b hb⟩, by rw [upZ_ne _ (by decide), upZ_ne _ (by decide)]; exact h.zp, ⟨S1, hm, fun b hb => by rw [upZ_same]; exact hb⟩, ⟨h2 (by decide), fun b hb => by rw [upZ_ne _ (by decide), upZ_ne _ (by decide)]; exact h.tag.2 b hb⟩, ⟨S, o3, fun b hb => by rw [upZ_ne _ (by decide), upZ_ne _ (by decide)]; exact z3 b hb⟩, ⟨Mine.nil _ _ _ _, fun b hb => by simp [Value.ownBlock] at hb⟩⟩, fun i b hb => ?_⟩
  rotate_left
  · by_cases h2 : i = 2
    · subst h2; rw [upZ_same] at hb; exact .inr hb
    · rw [upZ_ne _ h2] at hb
      by_cases h5 : i = 5
      · subst h5; rw [upZ_same] at hb; exact hb.elim
      · rw [upZ_ne _ h5] at hb; exact .inl ⟨i, hb⟩
  rcases hb with hb | hb
  · rcases hS1 b hb with h9 | h9 | h9 | h9
    · exact .inl (by rw [upZ_ne _ (by decide)]; exact h0 b (.inl h9))
    · exact .inr (.inl (hrz b h9))
    · refine .inr (.inl ⟨h9.1, fun i hi => ?_⟩)
      by_cases h5 : i = 5
      · subst h5; rw [upZ_same] at hi; exact hi
      · rw [upZ_ne _ h5] at hi; exact h9.2 i hi
    · exact .inr (.inr h9)
  · rcases hat with h9 | h9
    · exact .inl (by rw [upZ_ne _ (by decide)]; exact h0 b (.inr (h9 ▸ hb)))
    · rw [h9] at hb; cases hb; exact .inr (.inr (Nat.le_refl _))
end
theorem rgs_snoc (q : List St) (x : St) : rgs (q ++ [x]) = if 0 ≤ x.lo then rgs q ++ [⟨x.lo, x.hi⟩] else rgs q := by
  unfold rgs
  rw [List.filter_append, List.map_append]
  split
  · rename_i h; rw [List.filter_cons_of_pos (by simpa using h)]; rfl
  · rename_i h; rw [List.filter_cons_of_neg (by simpa using h)]; simp
theorem infoBools : (Tryd.prog.info? 74).map (fun i => (i.zero, i.size, i.bytes)) = some (some (.slice none 0 0), 1, 24) := by kernel_rfl
/-- What the reference's Build tells. -/
def RQ (st : Int) (q : List St) (most : Int) (w : World) (e : Ending) (w' : World) : Prop :=
  (∃ (D : List (List Bool) × List (List Int)) (A1 A2 A3 : Option Addr) (n1 n2 n3 c1 c2 c3 : Nat), e = .returned (.tuple #[.agg #[.slice A1 n1 c1, .int .i64 (dfaOf q D).wid, .slice A2 n2 c2, .slice A3 n3 c3, .int .i64 0], .bool true]) ∧ Good st q (fsOf q) most D ∧ Df.DF w' (fun k => w.heap.size ≤ k ∧ k < w'.heap.size) A1 A2 A3 n1 n2 n3 (dfaOf q D)) ∨
  (∃ (A1 A2 A3 : Option Addr) (n1 n2 n3 c1 c2 c3 : Nat) (wid : Int), e = .returned (.tuple #[.agg #[.slice A1 n1 c1, .int .i64 wid, .slice A2 n2 c2, .slice A3 n3 c3, .int .i64 0], .bool false]) ∧ Bad st q (fsOf q) most)
end Go.Proofs.YtbmpaokicphdjaaDoor.Fn
