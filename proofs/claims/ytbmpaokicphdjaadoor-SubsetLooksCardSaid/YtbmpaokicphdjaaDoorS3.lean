/- A table in memory; a set's place in it. -/
import Derived.Test.YtbmpaokicphdjaaDoorS2
set_option linter.unusedVariables false
set_option linter.unusedSimpArgs false
namespace Go.Proofs.YtbmpaokicphdjaaDoor.Fn
open Go Go.RowKit Go.Proofs.YtbmpaokicphdjaaDoor.Can Go.Proofs.YtbmpaokicphdjaaDoor.Base
attribute [local go_sem] clsB AB.cell

def lst (x : Nat × List Nat) : List Int := elemsI x.2
def tabV (v : Value) (g n room : Nat) : Array Value := #[v, .slice (some ⟨g, 0, none⟩) n n, .int .i64 room, .func (.func 74) #[] #[]]
/-- The first m of its sets have their places. -/
structure TbI (w : World) (base p : Nat) (v : Value) (g : Nat) (S : Nat → Prop) (room : Nat) (xs : List (Nat × List Nat)) (P : List Int) (m : Nat) : Prop where
  obj : w.heap[p]? = some (.cells (tabV v g P.length room) 82 (0, 0))
  own : Base.Own setT w base 28 S v xs
  blk : Blk iE w 3 g P
  pg : ¬ p = g
  vp : v.ownBlock ≠ some p
  vg : v.ownBlock ≠ some g
  sp : ¬ S p
  sg : ¬ S g
  bp : base ≤ p
  bg : base ≤ g
  sb : ∀ k, S k → base ≤ k
  inv : Pl hashS (xs.map lst) m P
  nod : (xs.map lst).Nodup
  xl : xs.length ≤ 65536
  pl : P.length ≤ 1000000
theorem TbI.below {w w' : World} {base p : Nat} {v : Value} {g : Nat} {S : Nat → Prop} {room : Nat} {xs : List (Nat × List Nat)} {P : List Int} {m : Nat} (h : TbI w base p v g S room xs P m) (hb : Below w.heap.size w w') : TbI w' base p v g S room xs P m :=
  ⟨blk_below h.obj hb, h.own.below hb, h.blk.below hb, h.pg, h.vp, h.vg, h.sp, h.sg, h.bp, h.bg, h.sb, h.inv, h.nod, h.xl, h.pl⟩
theorem dist_mod {h d N n : Nat} (hd : d ≤ N) (hN : N < n) : ((h + N) % n + n - (h + d) % n) % n = N - d := by
  have h1 : (h + d) % n < n := Nat.mod_lt _ (by omega)
  have e : (h + N) % n = ((h + d) % n + (N - d)) % n := by
    rw [Nat.mod_add_mod, show h + d + (N - d) = h + N by omega]
  obtain ⟨a, ha⟩ : ∃ a, (h + d) % n = a := ⟨_, rfl⟩
  rw [ha] at e h1 ⊢
  rw [e]
  rcases Nat.lt_or_ge (a + (N - d)) n with h2 | h2
  · rw [Nat.mod_eq_of_lt h2, show a + (N - d) + n - a = (N - d) + n by omega, Nat.add_mod_right, Nat.mod_eq_of_lt (by omega)]
  · rw [Nat.mod_eq_sub_mod h2, Nat.mod_eq_of_lt (show a + (N - d) - n < n by omega), show a + (N - d) - n + n - a = N - d by omega, Nat.mod_eq_of_lt (by omega)]
/-- What the look for a place tells. -/
def Place (L : List (List Int)) (m : Nat) (P : List Int) (x : List Int) (i : Nat) (b : Bool) : Prop :=
  (b = true ∧ ∃ k : Nat, k < m ∧ L[k]? = some x ∧ P[i]? = some (k : Int)) ∨
  (b = false ∧ (∃ d, i = (hashS x + d) % P.length ∧ plc hashS P x d = -1 ∧ ∀ e, e < d → plc hashS P x e ≠ -1) ∧ ∀ k, k < m → L[k]? ≠ some x)
set_option maxHeartbeats 1000000 in
theorem place_calls (base p g gs r room m : Nat) (v : Value) (A : Option Addr) (c : Nat) (S : Nat → Prop) (xs : List (Nat × List Nat)) (P : List Int) (ws : List Nat) (w : World) (hI : TbI w base p v g S room xs P m) (hm : m < P.length) (hK : Wok r ws) (h1 : Wd w A gs ws) (hT : TabAt 0 Lib.deBruijn64tab w) (h0 : 0 < w.heap.size) :
    Calls Tryd.prog 77 #[.pointer (some ⟨p, 0, none⟩), .agg #[.slice A ws.length c, .int .i64 r]] w fun e w' => ∃ (i : Nat) (b : Bool), e = .returned (.tuple #[.int .i64 i, .bool b]) ∧ i < P.length ∧ Place (xs.map lst) m P (elemsI ws) i b ∧ Below w.heap.size w w' := by
  obtain ⟨x, hx⟩ : ∃ x, elemsI ws = x := ⟨_, rfl⟩
  obtain ⟨Av, cv, rfl, hcv, hAv, hrow⟩ := hI.own.form
  obtain ⟨N, hN1, hN2⟩ := hI.inv.free hm x
  have hP0 := hI.inv.pos
  have hP6 := hI.pl
  have hxl := hI.xl
  have hh64 := hashS_lt x
  have hobj := hI.obj
  obtain ⟨n, hn⟩ : ∃ n, P.length = n := ⟨_, rfl⟩
  obtain ⟨H, hH⟩ : ∃ H, hashS x = H := ⟨_, rfl⟩
  obtain ⟨q, hq⟩ : ∃ q, ws.length = q := ⟨_, rfl⟩
  have HPL := Hd.mk hn; have HHX := Hd.mk hH; have HX := Hd.mk hx; have HQ := Hd.mk hq
  rw [hH] at hh64
  obtain ⟨nx, hnx⟩ : ∃ n, xs.length = n := ⟨_, rfl⟩
  have hml : m ≤ nx := by have := hI.inv.le; rw [List.length_map, hnx] at this; exact this
  rw [hnx] at hxl hobj hrow hcv
  have HNX := Hd.mk hnx; have HROW := Hd.mk hrow; have HCV := Hd.mk hcv
  have HOWN : Hd (∀ k, (S k ∨ (Value.slice Av nx cv).ownBlock = some k) → k < w.heap.size) := ⟨fun k hk => by rw [← hnx] at hk; rcases hk with hk | hk; exact (by obtain ⟨_, _, _, hs⟩ := hI.own; exact (hs k hk).1); exact (hI.own.lt hk).1⟩
  rw [hn] at hobj hN1 hP0 hP6 ⊢
  have HI := Hd.mk hI; have HK := Hd.mk hK; have HW := Hd.mk h1; have HT := Hd.mk hT; have H0 := Hd.mk h0; have HN2 := Hd.mk hN2; have HM := Hd.mk hm
  rw [hx, hq]
  clear hI hK h1 hT h0 hN2 hn hH hx hq hm hnx hrow hAv hcv
  unfold tabV at hobj
  have hmod0 : H % n < n := Nat.mod_lt _ hP0
  go_enter Tryd.func77, Tryd.ntmps77
  go_wp2
  generalize hV : World.alloc _ _ = V
  have HBV : Below w.heap.size w V := below_of hV (by repeat (first | (with_reducible assumption) | (with_reducible exact Below.refl _ _) | (with_reducible apply below_drewL) | (with_reducible apply below_alloc) | (with_reducible apply below_drew1) | (with_reducible apply below_drewN) | (refine below_set ?_ (by first | omega | (simp only [size_alloc, size_drew, size_set]; omega)) _ _)))
  have zV : Hd (V.heap.size = w.heap.size + 1) := ⟨by rw [← hV]; simp only [size_alloc]⟩
  have V0 := at_of hV (blk_new _ _ _ rfl)
  have V0l := blk_lt V0
  clear hV
  have hpV := blk_below hobj HBV
  have hpVc0 := blk_cell hpV 0 _ rfl; have hpVf0 := blk_frozen hpV 0; have hpVc1 := blk_cell hpV 1 _ rfl; have hpVf1 := blk_frozen hpV 1; have hpVc2 := blk_cell hpV 2 _ rfl; have hpVf2 := blk_frozen hpV 2; have hpVc3 := blk_cell hpV 3 _ rfl; have hpVf3 := blk_frozen hpV 3; have hpVl := blk_lt hpV
  have V0c0 := blk_cell V0 0 _ rfl; have V0f0 := blk_frozen V0 0; have V0c1 := blk_cell V0 1 _ rfl; have V0f1 := blk_frozen V0 1; have V0l := blk_lt V0
  have HBV' := Hd.mk HBV
  clear zV HBV hobj
  go_step3
  have em0 : (H : Int) % (n : Int) = ((H % n : Nat) : Int) := by simp
  obtain ⟨i0, hi0⟩ : ∃ i, H % n = i := ⟨_, rfl⟩
  rw [hi0] at em0 hmod0
  have HI0 := Hd.mk hi0
  clear hi0
  go_wp2
  refine wp_region_can (.q [0, 1, 2, 3, 4, 6] (.e 5 false (.q [7, 8] (.done)))) (clsB _) (by kernel_rfl) (by kernel_rfl) (by intro _ _ d _ _ h; cases d <;> exact h) (clsB_drew _) ?_
  refine can_q (l := [⟨_,_,_,_,_,_⟩, ⟨_,_,_,_,_,_⟩, ⟨_,_,_,_,_,_⟩, ⟨_,_,_,_,_,_⟩, ⟨_,_,_,_,_,_⟩, ⟨_,_,_,_,_,_⟩]) rfl ?_
  repeat (go_big_quiet_step (fail))
  refine wpQuiet_nil ?_
  refine can_e (o := ⟨_,_,_,_,_,_⟩) rfl (fun K hK => ?_)
  go_wp2_with (go_at_call 74; go_must (have h9 := hash2_calls A c gs r ws V.drew HK.out (HW.out.below (below_drew1 HBV'.out)) (fun h => Nat.lt_of_lt_of_le (HW.out.lt h) HBV'.out.size) (fun j hj => (HBV'.out.cell (p := ⟨0, j, none⟩) H0.out).trans (HT.out j hj)) (Nat.lt_of_lt_of_le H0.out HBV'.out.size); rw [HQ.out, HX.out, HHX.out] at h9; refine Calls.mono h9 ?_; clear h9; rintro e w1 ⟨rfl, hb1⟩; replace hb1 := below_undrew hb1; have HB1 := Hd.mk hb1; clear hb1))
  refine onK_normal (hK _ _ ⟨clsB _, clsB_of (by first | exact (HB1.out) | exact below_undrew (HB1.out)), fun _ _ h => h, ?_⟩)
  clear hK K
  refine can_q (l := [⟨_,_,_,_,_,_⟩, ⟨_,_,_,_,_,_⟩]) rfl ?_
  repeat (go_big_quiet_step (fail))
  refine wpQuiet_nil ?_
  refine can_done ?_
  go_wp2
  go_step3
  go_wp2
  have HOBJ := Hd.mk hpV; have HV0 := Hd.mk V0
  clear hpVc0 hpVf0 hpVc1 hpVf1 hpVc2 hpVf2 hpVc3 hpVf3 hpVl
  clear V0c0 V0f0 V0c1 V0f1 V0l
  have HVB := Hd.mk (below_seq HBV'.out HB1.out)
  have hzV := HBV'.out.size
  have hz1 := HB1.out.size
  clear em0
  go_loopw [7, 8] (fun i b wr => ∃ d : Nat, i = .int .u64 (((H + d) % n : Nat) : Int) ∧ b = .bool false ∧ d ≤ N ∧ Hd (∀ e, e < d → plc hashS P x e ≠ -1 ∧ ∀ k : Nat, plc hashS P x e = (k : Int) → (xs.map lst)[k]? ≠ some x) ∧ Hd (Below w1.heap.size w1 wr)) (fun i _ _ => ((H + N) % n + n - (intOf i).toNat) % n)
  case atStart => exact ⟨0, by rw [Nat.add_zero]; first | rfl | (rw [HI0.out]; first | rfl | simp), rfl, Nat.zero_le _, ⟨fun e he => absurd he (Nat.not_lt_zero e)⟩, ⟨Below.refl _ _⟩⟩
  case round =>
    obtain ⟨d, rfl, rfl, hdN, HE, HB⟩ := hrel
    have hY : P[(H + d) % n]? = some (plc hashS P x d) := by have := plc_get (h := hashS) (x := x) (P := P) (by rw [HPL.out]; exact hP0) d; rw [HHX.out, HPL.out] at this; exact this
    obtain ⟨i1, hi1⟩ : ∃ i, (H + d) % n = i := ⟨_, rfl⟩
    have hi1n : i1 < n := by rw [← hi1]; exact Nat.mod_lt _ hP0
    rw [hi1] at hY ⊢
    have HI1 := Hd.mk hi1
    have HBr := Hd.mk (below_seq HVB.out HB.out)
    have HBVr := Hd.mk (below_seq HB1.out HB.out)
    have hpr := blk_below HOBJ.out HBVr.out
    have h0r := blk_below HV0.out HBVr.out
    have HIr := Hd.mk (HI.out.below HBr.out)
    have hcy := Blk.icell HIr.out.blk hY
    have hgl := HIr.out.blk.lt
    have hlook := HIr.out.inv.look x d
    obtain ⟨y, hy⟩ : ∃ y, plc hashS P x d = y := ⟨_, rfl⟩
    rw [hy] at hY hcy hlook
    have HY := Hd.mk hY; have HYD := Hd.mk hy
    clear hY hy hi1
    have hprc0 := blk_cell hpr 0 _ rfl; have hprf0 := blk_frozen hpr 0; have hprc1 := blk_cell hpr 1 _ rfl; have hprf1 := blk_frozen hpr 1; have hprc2 := blk_cell hpr 2 _ rfl; have hprf2 := blk_frozen hpr 2; have hprc3 := blk_cell hpr 3 _ rfl; have hprf3 := blk_frozen hpr 3; have hprl := blk_lt hpr
    have h0rc0 := blk_cell h0r 0 _ rfl; have h0rf0 := blk_frozen h0r 0; have h0rc1 := blk_cell h0r 1 _ rfl; have h0rf1 := blk_frozen h0r 1; have h0rl := blk_lt h0r
    rcases hlook with rfl | ⟨k, hkm, rfl⟩
    · have hj : ((-1 : Int) == -1) = true := rfl
      go_wp2
      rw [Exit.noGoto_ret]
      refine bodyPost_ret (results_tmp2 rfl _ _ _) rfl ?_
      refine ⟨i1, false, rfl, hi1n, .inr ⟨rfl, ⟨d, by rw [HHX.out, HPL.out]; exact HI1.out.symm, HYD.out, fun e he => (HE.out e he).1⟩, ?_⟩, HBr.out⟩
      exact fun k hk => HIr.out.inv.absent HYD.out (fun e he => (HE.out e he).2) k hk
    · have hj : ((k : Int) == -1) = false := by first | (simp; done) | (simp; omega)
      have hknx : k < nx := by omega
      obtain ⟨b, off, z, A', c', g', rfl, _, hbl, hz, hc0, hc1, hok', hwd', hS'⟩ := set_get ((HROW.out).below HOWN.out HBr.out) k hknx
      have HZ := Hd.mk hz
      have hLk : (xs.map lst)[k]? = some (lst z) := by rw [List.getElem?_map, hz]; rfl
      have HLK := Hd.mk hLk
      have HOK' := Hd.mk hok'; have HWD' := Hd.mk hwd'
      obtain ⟨zr, zw⟩ := z
      dsimp only at *
      obtain ⟨zn, hzn⟩ : ∃ n, zw.length = n := ⟨_, rfl⟩
      rw [hzn] at hc0
      have HZN := Hd.mk hzn
      clear hz hLk hok' hwd' hS' hzn
      by_cases hzx : lst (zr, zw) = x
      · have HS : Hd (decide (elemsI zw = elemsI ws) = true) := ⟨decide_eq_true (by rw [HX.out]; exact hzx)⟩
        have HZX := Hd.mk hzx
        clear hzx
        go_wp2
        refine wp_region_can (.q [0, 1, 2, 3, 4, 5, 6, 7] (.e 8 false (.q [9] (.done)))) (clsB _) (by kernel_rfl) (by kernel_rfl) (by intro _ _ d _ _ h; cases d <;> exact h) (clsB_drew _) ?_
        refine can_q (l := [⟨_,_,_,_,_,_⟩, ⟨_,_,_,_,_,_⟩, ⟨_,_,_,_,_,_⟩, ⟨_,_,_,_,_,_⟩, ⟨_,_,_,_,_,_⟩, ⟨_,_,_,_,_,_⟩, ⟨_,_,_,_,_,_⟩, ⟨_,_,_,_,_,_⟩]) rfl ?_
        repeat (go_big_quiet_step (fail))
        refine wpQuiet_nil ?_
        refine can_e (o := ⟨_,_,_,_,_,_⟩) rfl (fun K hK => ?_)
        go_wp2_with (go_at_call 18; go_must (have h9 := setsame_calls A' A c' c g' gs zr r zw ws wr.drew HOK'.out HK.out (HWD'.out.move rfl) ((HW.out.below HBr.out).move rfl); rw [HZN.out, HQ.out, HS.out] at h9; refine Calls.mono h9 ?_; clear h9; rintro e w2 ⟨rfl, hb2⟩; have HB2 := Hd.mk (below_undrew hb2); clear hb2))
        refine onK_normal (hK _ _ ⟨fun _ => True, trivial, (fun h => by cases h), ?_⟩)
        clear hK K
        refine can_q (l := [⟨_,_,_,_,_,_⟩]) rfl ?_
        repeat (go_big_quiet_step (fail))
        refine wpQuiet_nil ?_
        refine can_done ?_
        go_wp2
        rw [Exit.noGoto_ret]
        refine bodyPost_ret (results_tmp2 rfl _ _ _) rfl ?_
        exact ⟨i1, true, rfl, hi1n, .inl ⟨rfl, k, hkm, by rw [HLK.out, HZX.out], HY.out⟩, below_seq HBr.out HB2.out⟩
      · have HS : Hd (decide (elemsI zw = elemsI ws) = false) := ⟨decide_eq_false (by rw [HX.out]; exact hzx)⟩
        have HZX := Hd.mk hzx
        have hdN' : d + 1 ≤ N := by
          rcases Nat.lt_or_ge d N with h | h
          · exact h
          · obtain rfl : d = N := by omega
            have := HYD.out
            rw [HN2.out] at this
            omega
        obtain ⟨i2, hi2⟩ : ∃ i, (H + (d + 1)) % n = i := ⟨_, rfl⟩
        have hi2n : i2 < n := by rw [← hi2]; exact Nat.mod_lt _ hP0
        have em2 : ((i1 : Int) + 1) % (n : Int) = (i2 : Int) := by
          rw [← hi2, ← HI1.out, ← Nat.add_assoc, ← Nat.mod_add_mod]
          simp
        have HI2 := Hd.mk hi2; have EM2 := Hd.mk em2; clear em2
        have HE2 : Hd (∀ e, e < d + 1 → plc hashS P x e ≠ -1 ∧ ∀ k : Nat, plc hashS P x e = (k : Int) → (xs.map lst)[k]? ≠ some x) := ⟨fun e he => by
          rcases Nat.lt_or_ge e d with h | h
          · exact HE.out e h
          · obtain rfl : e = d := by omega
            rw [HYD.out]
            refine ⟨by omega, fun k2 hk2 => ?_⟩
            obtain rfl : k2 = k := by omega
            rw [HLK.out]
            exact fun h => HZX.out (Option.some.inj h)⟩
        clear hzx hi2
        go_wp2
        refine wp_region_can (.q [0, 1, 2, 3, 4, 5, 6, 7] (.e 8 false (.q [9] (.done)))) (clsB _) (by kernel_rfl) (by kernel_rfl) (by intro _ _ d _ _ h; cases d <;> exact h) (clsB_drew _) ?_
        refine can_q (l := [⟨_,_,_,_,_,_⟩, ⟨_,_,_,_,_,_⟩, ⟨_,_,_,_,_,_⟩, ⟨_,_,_,_,_,_⟩, ⟨_,_,_,_,_,_⟩, ⟨_,_,_,_,_,_⟩, ⟨_,_,_,_,_,_⟩, ⟨_,_,_,_,_,_⟩]) rfl ?_
        repeat (go_big_quiet_step (fail))
        refine wpQuiet_nil ?_
        refine can_e (o := ⟨_,_,_,_,_,_⟩) rfl (fun K hK => ?_)
        go_wp2_with (go_at_call 18; go_must (have h9 := setsame_calls A' A c' c g' gs zr r zw ws wr.drew HOK'.out HK.out (HWD'.out.move rfl) ((HW.out.below HBr.out).move rfl); rw [HZN.out, HQ.out, HS.out] at h9; refine Calls.mono h9 ?_; clear h9; rintro e w2 ⟨rfl, hb2⟩; have HB2 := Hd.mk (below_undrew hb2); clear hb2))
        refine onK_normal (hK _ _ ⟨fun _ => True, trivial, (fun h => by cases h), ?_⟩)
        clear hK K
        refine can_q (l := [⟨_,_,_,_,_,_⟩]) rfl ?_
        repeat (go_big_quiet_step (fail))
        refine wpQuiet_nil ?_
        refine can_done ?_
        go_wp2
        go_roundw
        case rel => exact ⟨d + 1, by rw [HI2.out, EM2.out], rfl, hdN', HE2, ⟨below_seq HB.out HB2.out⟩⟩
        case measure =>
          simp only [List.getElem_toArray, intOf, EM2.out, Int.toNat_natCast, Array.getD_eq_getD_getElem?, List.getElem?_toArray, List.getElem?_cons_succ, List.getElem?_cons_zero, Option.getD_some]
          rw [← HI2.out, ← HI1.out, dist_mod hdN' hN1, dist_mod (by omega : d ≤ N) hN1]
          omega
end Go.Proofs.YtbmpaokicphdjaaDoor.Fn
