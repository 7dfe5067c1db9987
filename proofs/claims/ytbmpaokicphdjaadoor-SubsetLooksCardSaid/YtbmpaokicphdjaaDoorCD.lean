/- Texts: C12, C13. -/
import Derived.Test.YtbmpaokicphdjaaDoorCC
set_option linter.unusedVariables false
set_option linter.unusedSimpArgs false
/- Close. -/
namespace Go.Proofs.YtbmpaokicphdjaaDoor.Fn
open Go Go.RowKit Go.Proofs.YtbmpaokicphdjaaDoor.Can Go.Proofs.YtbmpaokicphdjaaDoor.Base
attribute [local go_sem] clsB AB.cell

theorem close_marks {E : List St → Nat → Nat → Prop} {q : List St} {n room : Nat} {ws ws5 : List Nat} (hn : q.length = n) (hs : Stays (E q) q.length) (hK : Wok room ws) (hF : ∀ i, bitAt ws5 i = true ↔ Cl (E q) (fun i => (i : Int) ∈ elemsI ws ∧ i < n) i) : marksW n ws5 = closeM E q (marksW n ws) := by
  subst hn
  refine marks_closed hs (by rw [marksW_len]; exact Nat.le_refl _) hF (fun i => ?_)
  rw [mem_elemsI hK, marksW_in, Int.toNat_natCast]
  constructor
  · exact fun h => ⟨h.2, h.1.2⟩
  · intro h
    refine ⟨⟨?_, h.2⟩, h.1⟩
    unfold inR
    rcases Nat.lt_or_ge i room with h1 | h1
    · omega
    · rw [hK.top _ h1] at h; cases h.2
theorem join_marks {E : List St → Nat → Nat → Prop} {q : List St} {n : Nat} {ws ws5 : List Nat} (hn : q.length = n) (hs : Stays (E q) q.length) (hK : Wok n ws) (hK5 : Wok n ws5) (hF : ∀ i, bitAt ws5 i = true ↔ Cl (E q) (fun i => (i : Int) ∈ elemsI ws ∧ i < n) i) : marksW n (joinB n ws (elems ws5)).1 = closeM E q (marksW n ws) := by
  rw [← close_marks hn hs hK hF]
  have hb : ∀ k, bitAt (joinB n ws (elems ws5)).1 k = (bitAt ws k || decide (k ∈ elems ws5 ∧ k < n)) := join_bit (elems ws5) (s := (ws, false)) hK
  refine marks_ext (by rw [marksW_len, marksW_len]) fun k => ?_
  rw [marksW_in, marksW_in, hb, Bool.or_eq_true, decide_eq_true_iff, mem_elems hK5]
  refine and_congr_right fun hk => ⟨?_, fun h => .inr ⟨h, hk⟩⟩
  rintro (h | h)
  · refine (hF k).2 (.base ⟨(mem_elemsI hK _).2 ⟨by unfold inR; omega, by rw [Int.toNat_natCast]; exact h⟩, hk⟩)
  · exact h.1
set_option maxHeartbeats 1000000 in
theorem close_bad (st : Int) (A : Option Addr) (c : Nat) (q : List St) (S : Nat → Prop) (sl rm : Value) (w : World) (hN : NF w S A q) (hc : checkV st q ≠ 0) :
    Calls Tryd.prog 54 #[.agg #[.int .i64 st, .slice A q.length c], .agg #[sl, rm]] w fun e w' => e = .returned (.int .i64 (checkV st q)) ∧ Below w.heap.size w w' := by
  have HCK := Hd.mk (check_calls st A c q S ((w.alloc (.cells #[.int .i64 st, .slice A q.length c] 58)).alloc (.cells #[sl, rm] 28)) (fun k hk => by rw [size_alloc, size_alloc]; have := hN.lt k hk; omega) ((hN.row.below hN.lt (below_alloc (below_alloc (Below.refl _ _) _) _))))
  obtain ⟨n, hn⟩ : ∃ m, q.length = m := ⟨_, rfl⟩
  obtain ⟨e0, he0⟩ : ∃ e, checkV st q = e := ⟨_, rfl⟩
  rw [he0] at HCK hc ⊢
  rw [hn] at HCK ⊢
  have hj : (e0 != 0) = true := by simpa using hc
  clear hN hn he0 hc
  go_enter Tryd.func54, Tryd.ntmps54
  go_wp2_with (go_at_call 79; go_must (refine Calls.mono HCK.out ?_; rintro e w2 ⟨rfl, hb2⟩; have HB2 := Hd.mk (below_seq (below_alloc (below_alloc (Below.refl _ _) _) _) hb2); clear hb2))
  go_ret
  exact ⟨rfl, HB2.out⟩
theorem alive_bad (st : Int) (A : Option Addr) (c : Nat) (q : List St) (S : Nat → Prop) (sl rm : Value) (w : World) (hN : NF w S A q) (hc : checkV st q ≠ 0) :
    Calls Tryd.prog 48 #[.agg #[.int .i64 st, .slice A q.length c], .agg #[sl, rm]] w fun e w' => e = .returned (.bool false) ∧ Below w.heap.size w w' := by
  have HCK := Hd.mk (check_calls st A c q S ((w.alloc (.cells #[.int .i64 st, .slice A q.length c] 58)).alloc (.cells #[sl, rm] 28)) (fun k hk => by rw [size_alloc, size_alloc]; have := hN.lt k hk; omega) ((hN.row.below hN.lt (below_alloc (below_alloc (Below.refl _ _) _) _))))
  obtain ⟨n, hn⟩ : ∃ m, q.length = m := ⟨_, rfl⟩
  obtain ⟨e0, he0⟩ : ∃ e, checkV st q = e := ⟨_, rfl⟩
  rw [he0] at HCK hc
  rw [hn] at HCK ⊢
  have hj : (e0 != 0) = true := by simpa using hc
  clear hN hn he0 hc
  go_enter Tryd.func48, Tryd.ntmps48
  go_wp2_with (go_at_call 79; go_must (refine Calls.mono HCK.out ?_; rintro e w2 ⟨rfl, hb2⟩; have HB2 := Hd.mk (below_seq (below_alloc (below_alloc (Below.refl _ _) _) _) hb2); clear hb2))
  go_ret
  exact ⟨rfl, HB2.out⟩
set_option maxRecDepth 20000 in
set_option maxHeartbeats 2000000 in
theorem close_ok (st : Int) (A : Option Addr) (n c : Nat) (q : List St) (S : Nat → Prop) (g cc : Nat) (ws : List Nat) (w : World) (hn : q.length = n) (hN : NF w S A q) (hc : checkV st q = 0) (hK : Wok n ws) (hW : Wd w (some ⟨g, 0, none⟩) g ws) (hg : g < w.heap.size) (hg0 : g ≠ 0) (hT : TabAt 0 Lib.deBruijn64tab w) (h0 : 0 < w.heap.size) :
    Calls Tryd.prog 54 #[.agg #[.int .i64 st, .slice A n c], .agg #[.slice (some ⟨g, 0, none⟩) ws.length cc, .int .i64 n]] w fun e w' => e = .returned (.int .i64 0) ∧ ∃ ws', Wok n ws' ∧ Wd w' (some ⟨g, 0, none⟩) g ws' ∧ marksW n ws' = closeM epsE q (marksW n ws) ∧ Fr (fun k => k = g) w w' := by
  obtain ⟨hok, hlen⟩ := checkV_ok hc
  have HCK := Hd.mk (check_calls st A c q S ((w.alloc (.cells #[.int .i64 st, .slice A q.length c] 58)).alloc (.cells #[.slice (some ⟨g, 0, none⟩) ws.length cc, .int .i64 n] 28)) (fun k hk => by rw [size_alloc, size_alloc]; have := hN.lt k hk; omega) ((hN.row.below hN.lt (below_alloc (below_alloc (Below.refl _ _) _) _))))
  have HC0 := Hd.mk hc
  rw [hc] at HCK
  have HEL := Hd.mk (elemsI_len hK)
  have HTB : Hd (∀ {W : World}, Below w.heap.size w W → TabAt 0 Lib.deBruijn64tab W) := ⟨fun hb j hj => (hb.cell (p := ⟨0, j, none⟩) h0).trans (hT j hj)⟩
  have HAL : Hd (∀ w', Below w.heap.size w w' → _) := ⟨fun w' hb => all_calls (some ⟨g, 0, none⟩) cc g n ws w' hK (hW.below hb) (Nat.lt_of_lt_of_le hg hb.size) (HTB.out hb) (Nat.lt_of_lt_of_le h0 hb.size)⟩
  obtain ⟨m, hm⟩ : ∃ m, ws.length = m := ⟨_, rfl⟩
  rw [hn] at HCK
  rw [hm] at HCK HAL ⊢
  have hrow := hN.row
  rw [hn] at hrow hlen
  have HROW := Hd.mk hrow; have HLT := Hd.mk hN.lt; have HNE := Hd.mk hn; have HOK := Hd.mk hok; have HNF := Hd.mk hN; have HG := Hd.mk hg; have H0 := Hd.mk h0; have HKS := Hd.mk hK; have HWS := Hd.mk hW; have HMM := Hd.mk hm
  clear hN hc hok hrow hm hK hW hg hT h0
  have hlm : m ≤ 1100 := by have := HKS.out.len; have := HMM.out; omega
  obtain ⟨K, hK⟩ : ∃ K, (n + 63) / 64 = K := ⟨_, rfl⟩
  have HK := Hd.mk hK
  clear hK hn
  go_enter Tryd.func54, Tryd.ntmps54
  go_wp2_with (go_at_call 79; go_must (refine Calls.mono HCK.out ?_; rintro e w2 ⟨rfl, hb2⟩; have hz2 := hb2.size; rw [size_alloc, size_alloc] at hz2; have HB2 := Hd.mk (below_seq (below_alloc (below_alloc (Below.refl _ _) _) _) hb2); have hx2 := blk_below (blk_new (w.alloc (.cells #[.int .i64 st, .slice A n c] 58)) (.cells #[.slice (some ⟨g, 0, none⟩) m cc, .int .i64 n] 28) (w.heap.size + 1) (by rw [size_alloc])) hb2; have hy2 := blk_below (blk_alloc (blk_new w (.cells #[.int .i64 st, .slice A n c] 58) w.heap.size rfl) (.cells #[.slice (some ⟨g, 0, none⟩) m cc, .int .i64 n] 28)) hb2; have hx2c0 := blk_cell hx2 0 _ rfl; have hx2f0 := blk_frozen hx2 0; have hx2c1 := blk_cell hx2 1 _ rfl; have hx2f1 := blk_frozen hx2 1; have hx2l := blk_lt hx2; have hy2c0 := blk_cell hy2 0 _ rfl; have hy2f0 := blk_frozen hy2 0; have hy2c1 := blk_cell hy2 1 _ rfl; have hy2f1 := blk_frozen hy2 1; have hy2l := blk_lt hy2; clear hb2))
  refine wp_region_can (.q [0, 1] (.e 2 true (.e 3 false (.q [4] (.done))))) (clsB _) (by kernel_rfl) (by kernel_rfl) (by intro _ _ d _ _ h; cases d <;> exact h) (clsB_drew _) ?_
  refine can_q (l := [⟨_,_,_,_,_,_⟩, ⟨_,_,_,_,_,_⟩]) rfl ?_
  repeat (go_big_quiet_step (fail))
  refine wpQuiet_nil ?_
  refine can_e (o := ⟨_,_,_,_,_,_⟩) rfl (fun K hK => ?_)
  go_wp2_with (go_at_call 23; go_must (refine Calls.mono (HAL.out w2.drew (below_drew1 HB2.out)) ?_; rintro e w3 ⟨A3, n3, c3, rfl, hr3, hb3⟩; rw [size_drew] at hr3 hb3; have HR3 : Hd (Row I w3 (fun k => w2.heap.size ≤ k ∧ k < w3.heap.size) A3 n3 (elemsI ws)) := ⟨hr3⟩; have HB23 := Hd.mk (below_undrew hb3); have HB3 := Hd.mk (below_seq HB2.out HB23.out); have hx3 := blk_below hx2 HB23.out; have hy3 := blk_below hy2 HB23.out; have hz3 := HB23.out.size; clear hr3 hb3))
  refine onK_normal (hK _ _ ⟨clsB _, clsB_of (by first | exact (HB23.out) | exact below_undrew (HB23.out)), fun _ _ h => h, ?_⟩)
  clear hK K
  have hnn : n3 ≤ 70400 := by
    have := HR3.out.1
    have := HEL.out
    omega
  have HFR := Hd.mk (from_calls st A n c A3 n3 c3 (elemsI ws) (fun k => w2.heap.size ≤ k ∧ k < w3.heap.size) w3 (fun k hk => hk.2) HR3.out (by omega))
  refine can_e (o := ⟨_,_,_,_,_,_⟩) rfl (fun K hK => ?_)
  go_wp2_with (go_at_call 80; go_must (refine Calls.mono HFR.out ?_; rintro e w4 ⟨p, g1, v1, rfl, hw4, hb4⟩; have HW4 := Hd.mk hw4; have HB4 := Hd.mk hb4; have hx4 := blk_below hx3 hb4; have hy4 := blk_below hy3 hb4; clear hw4 hb4))
  refine onK_normal (hK _ _ ⟨fun _ => True, trivial, (fun h => by cases h), ?_⟩)
  clear hK K
  refine can_q (l := [⟨_,_,_,_,_,_⟩]) rfl ?_
  repeat (go_big_quiet_step (fail))
  refine wpQuiet_nil ?_
  refine can_done ?_
  clear hx2c0 hx2f0 hx2c1 hx2f1 hx2l
  clear hy2c0 hy2f0 hy2c1 hy2f1 hy2l
  go_wp2_with (go_at_call 81; go_must (refine Calls.mono (driveQ w3.heap.size p g1 n c st A q v1 _ S w4 HNE.out (by omega) (fun k hk => by have := HLT.out k hk; have := HB3.out.size; omega) (HROW.out.below HLT.out (below_seq HB3.out HB4.out)) HW4.out HB4.out.size (epsE_stays HOK.out)) ?_; rintro e w5 ⟨⟨u, rfl⟩, v5, ws5, HP5, HS5, HF5, HB5⟩; have hp5 := HP5.out; unfold wkV at hp5; rw [HK.out] at hp5; have hx5 := (HB5.out.block _ (by omega)).trans hx4; have hy5 := (HB5.out.block _ (by omega)).trans hy4; have hx5c0 := blk_cell hx5 0 _ rfl; have hx5f0 := blk_frozen hx5 0; have hx5c1 := blk_cell hx5 1 _ rfl; have hx5f1 := blk_frozen hx5 1; have hx5l := blk_lt hx5; have hy5c0 := blk_cell hy5 0 _ rfl; have hy5f0 := blk_frozen hy5 0; have hy5c1 := blk_cell hy5 1 _ rfl; have hy5f1 := blk_frozen hy5 1; have hy5l := blk_lt hy5; have hp5c0 := blk_cell hp5 0 _ rfl; have hp5f0 := blk_frozen hp5 0; have hp5c1 := blk_cell hp5 1 _ rfl; have hp5f1 := blk_frozen hp5 1; have hp5c2 := blk_cell hp5 2 _ rfl; have hp5f2 := blk_frozen hp5 2; have hp5c3 := blk_cell hp5 3 _ rfl; have hp5f3 := blk_frozen hp5 3; have hp5c4 := blk_cell hp5 4 _ rfl; have hp5f4 := blk_frozen hp5 4; have hp5l := blk_lt hp5))
  have HBW : Hd (Below w.heap.size w w5) := ⟨below_seq HB3.out (HB4.out.trans HB5.out)⟩
  have hz5 := HBW.out.size
  have hgh := HS5.out.hi
  have hgl := HS5.out.lo
  have HKL : Hd (ws5.length = K) := ⟨by rw [HS5.out.ok.len]; exact HK.out⟩
  have h8 := join_calls (some ⟨g, 0, none⟩) (some ⟨g1, 0, none⟩) cc K g g1 n n ws ws5 w5.drew HKS.out HS5.out.ok ((HWS.out.below HBW.out).move rfl) (HS5.out.wd.move rfl) (by rw [size_drew]; have := HG.out; omega) (by rw [size_drew]; exact hgh) (by have := HG.out; omega) (HTB.out (below_drew1 HBW.out)) (by rw [size_drew]; have := H0.out; omega) hg0
  rw [HMM.out, HKL.out] at h8
  have HJ := Hd.mk h8
  clear h8
  refine wp_region_can (.q [0, 1, 2, 3, 4] (.e 5 false (.done))) (clsB _) (by kernel_rfl) (by kernel_rfl) (by intro _ _ d _ _ h; cases d <;> exact h) (clsB_drew _) ?_
  refine can_q (l := [⟨_,_,_,_,_,_⟩, ⟨_,_,_,_,_,_⟩, ⟨_,_,_,_,_,_⟩, ⟨_,_,_,_,_,_⟩, ⟨_,_,_,_,_,_⟩]) rfl ?_
  repeat (go_big_quiet_step (fail))
  refine wpQuiet_nil ?_
  refine can_e (o := ⟨_,_,_,_,_,_⟩) rfl (fun K hK => ?_)
  go_wp2_with (go_at_call 28; go_must (refine Calls.mono HJ.out ?_; rintro e w6 ⟨rfl, hf6, hw6⟩; have HF6 := Hd.mk hf6; have HW6 := Hd.mk hw6; clear hf6 hw6))
  refine onK_normal (hK _ _ ⟨fun _ => True, trivial, (fun h => by cases h), ?_⟩)
  clear hK K
  refine can_done ?_
  go_wp2
  go_ret
  refine ⟨rfl, _, (joinB_ok HKS.out (elems ws5)).1, HW6.out, join_marks HNE.out (epsE_stays HOK.out) HKS.out HS5.out.ok HF5.out, ?_⟩
  exact ⟨(HBW.out.mono (Nat.zero_le _)).trans ((below_drew1 (Below.refl _ _)).trans HF6.out.zero), fun b hb hx => (HF6.out.same b (by rw [size_drew]; omega) (fun h => hx h.1)).trans (HBW.out.block b hb)⟩
set_option maxRecDepth 20000 in
set_option maxHeartbeats 2000000 in
theorem alive_ok (st : Int) (A : Option Addr) (n c : Nat) (q : List St) (S : Nat → Prop) (g room cc : Nat) (ws : List Nat) (w : World) (hn : q.length = n) (hN : NF w S A q) (hc : checkV st q = 0) (hK : Wok room ws) (hW : Wd w (some ⟨g, 0, none⟩) g ws) (hg : g < w.heap.size) (hT : TabAt 0 Lib.deBruijn64tab w) (h0 : 0 < w.heap.size) :
    Calls Tryd.prog 48 #[.agg #[.int .i64 st, .slice A n c], .agg #[.slice (some ⟨g, 0, none⟩) ws.length cc, .int .i64 room]] w fun e w' => e = .returned (.bool (aliveM q (marksW n ws))) ∧ Below w.heap.size w w' := by
  obtain ⟨r, hr⟩ : ∃ r, aliveM q (marksW n ws) = r := ⟨_, rfl⟩
  rw [hr]
  have HR := Hd.mk hr
  clear hr
  obtain ⟨hok, hlen⟩ := checkV_ok hc
  have HCK := Hd.mk (check_calls st A c q S ((w.alloc (.cells #[.int .i64 st, .slice A q.length c] 58)).alloc (.cells #[.slice (some ⟨g, 0, none⟩) ws.length cc, .int .i64 room] 28)) (fun k hk => by rw [size_alloc, size_alloc]; have := hN.lt k hk; omega) ((hN.row.below hN.lt (below_alloc (below_alloc (Below.refl _ _) _) _))))
  have HC0 := Hd.mk hc
  rw [hc] at HCK
  have HEL := Hd.mk (elemsI_len hK)
  have HTB : Hd (∀ {W : World}, Below w.heap.size w W → TabAt 0 Lib.deBruijn64tab W) := ⟨fun hb j hj => (hb.cell (p := ⟨0, j, none⟩) h0).trans (hT j hj)⟩
  have HAL : Hd (∀ w', Below w.heap.size w w' → _) := ⟨fun w' hb => all_calls (some ⟨g, 0, none⟩) cc g room ws w' hK (hW.below hb) (Nat.lt_of_lt_of_le hg hb.size) (HTB.out hb) (Nat.lt_of_lt_of_le h0 hb.size)⟩
  obtain ⟨m, hm⟩ : ∃ m, ws.length = m := ⟨_, rfl⟩
  rw [hn] at HCK
  rw [hm] at HCK HAL ⊢
  have hrow := hN.row
  rw [hn] at hrow hlen
  have HROW := Hd.mk hrow; have HLT := Hd.mk hN.lt; have HNE := Hd.mk hn; have HOK := Hd.mk hok; have HNF := Hd.mk hN; have HG := Hd.mk hg; have H0 := Hd.mk h0; have HKS := Hd.mk hK; have HWS := Hd.mk hW; have HMM := Hd.mk hm
  clear hN hc hok hrow hm hK hW hg hT h0
  obtain ⟨K, hK⟩ : ∃ K, (n + 63) / 64 = K := ⟨_, rfl⟩
  have HK := Hd.mk hK
  clear hK hn
  go_enter Tryd.func48, Tryd.ntmps48
  go_wp2_with (go_at_call 79; go_must (refine Calls.mono HCK.out ?_; rintro e w2 ⟨rfl, hb2⟩; have hz2 := hb2.size; rw [size_alloc, size_alloc] at hz2; have HB2 := Hd.mk (below_seq (below_alloc (below_alloc (Below.refl _ _) _) _) hb2); have hx2 := blk_below (blk_new (w.alloc (.cells #[.int .i64 st, .slice A n c] 58)) (.cells #[.slice (some ⟨g, 0, none⟩) m cc, .int .i64 room] 28) (w.heap.size + 1) (by rw [size_alloc])) hb2; have hy2 := blk_below (blk_alloc (blk_new w (.cells #[.int .i64 st, .slice A n c] 58) w.heap.size rfl) (.cells #[.slice (some ⟨g, 0, none⟩) m cc, .int .i64 room] 28)) hb2; have hx2c0 := blk_cell hx2 0 _ rfl; have hx2f0 := blk_frozen hx2 0; have hx2c1 := blk_cell hx2 1 _ rfl; have hx2f1 := blk_frozen hx2 1; have hx2l := blk_lt hx2; have hy2c0 := blk_cell hy2 0 _ rfl; have hy2f0 := blk_frozen hy2 0; have hy2c1 := blk_cell hy2 1 _ rfl; have hy2f1 := blk_frozen hy2 1; have hy2l := blk_lt hy2; clear hb2))
  refine wp_region_can (.q [0, 1] (.e 2 true (.e 3 false (.q [4] (.done))))) (clsB _) (by kernel_rfl) (by kernel_rfl) (by intro _ _ d _ _ h; cases d <;> exact h) (clsB_drew _) ?_
  refine can_q (l := [⟨_,_,_,_,_,_⟩, ⟨_,_,_,_,_,_⟩]) rfl ?_
  repeat (go_big_quiet_step (fail))
  refine wpQuiet_nil ?_
  refine can_e (o := ⟨_,_,_,_,_,_⟩) rfl (fun K hK => ?_)
  go_wp2_with (go_at_call 23; go_must (refine Calls.mono (HAL.out w2.drew (below_drew1 HB2.out)) ?_; rintro e w3 ⟨A3, n3, c3, rfl, hr3, hb3⟩; rw [size_drew] at hr3 hb3; have HR3 : Hd (Row I w3 (fun k => w2.heap.size ≤ k ∧ k < w3.heap.size) A3 n3 (elemsI ws)) := ⟨hr3⟩; have HB23 := Hd.mk (below_undrew hb3); have HB3 := Hd.mk (below_seq HB2.out HB23.out); have hx3 := blk_below hx2 HB23.out; have hy3 := blk_below hy2 HB23.out; have hz3 := HB23.out.size; clear hr3 hb3))
  refine onK_normal (hK _ _ ⟨clsB _, clsB_of (by first | exact (HB23.out) | exact below_undrew (HB23.out)), fun _ _ h => h, ?_⟩)
  clear hK K
  have hnn : n3 ≤ 70400 := by
    have := HR3.out.1
    have := HEL.out
    omega
  have HFR := Hd.mk (from_calls st A n c A3 n3 c3 (elemsI ws) (fun k => w2.heap.size ≤ k ∧ k < w3.heap.size) w3 (fun k hk => hk.2) HR3.out (by omega))
  refine can_e (o := ⟨_,_,_,_,_,_⟩) rfl (fun K hK => ?_)
  go_wp2_with (go_at_call 80; go_must (refine Calls.mono HFR.out ?_; rintro e w4 ⟨p, g1, v1, rfl, hw4, hb4⟩; have HW4 := Hd.mk hw4; have HB4 := Hd.mk hb4; have hx4 := blk_below hx3 hb4; have hy4 := blk_below hy3 hb4; clear hw4 hb4))
  refine onK_normal (hK _ _ ⟨fun _ => True, trivial, (fun h => by cases h), ?_⟩)
  clear hK K
  refine can_q (l := [⟨_,_,_,_,_,_⟩]) rfl ?_
  repeat (go_big_quiet_step (fail))
  refine wpQuiet_nil ?_
  refine can_done ?_
  clear hx2c0 hx2f0 hx2c1 hx2f1 hx2l
  clear hy2c0 hy2f0 hy2c1 hy2f1 hy2l
  go_wp2_with (go_at_call 81; go_must (refine Calls.mono (driveA w3.heap.size p g1 n c st A q v1 _ S w4 HNE.out (by omega) (fun k hk => by have := HLT.out k hk; have := HB3.out.size; omega) (HROW.out.below HLT.out (below_seq HB3.out HB4.out)) HW4.out HB4.out.size (anyE_stays HOK.out)) ?_; rintro e w5 ⟨⟨u, rfl⟩, v5, ws5, HP5, HS5, HF5, HB5⟩; have hp5 := HP5.out; unfold wkV at hp5; rw [HK.out] at hp5; have hx5 := (HB5.out.block _ (by omega)).trans hx4; have hy5 := (HB5.out.block _ (by omega)).trans hy4; have hx5c0 := blk_cell hx5 0 _ rfl; have hx5f0 := blk_frozen hx5 0; have hx5c1 := blk_cell hx5 1 _ rfl; have hx5f1 := blk_frozen hx5 1; have hx5l := blk_lt hx5; have hy5c0 := blk_cell hy5 0 _ rfl; have hy5f0 := blk_frozen hy5 0; have hy5c1 := blk_cell hy5 1 _ rfl; have hy5f1 := blk_frozen hy5 1; have hy5l := blk_lt hy5; have hp5c0 := blk_cell hp5 0 _ rfl; have hp5f0 := blk_frozen hp5 0; have hp5c1 := blk_cell hp5 1 _ rfl; have hp5f1 := blk_frozen hp5 1; have hp5c2 := blk_cell hp5 2 _ rfl; have hp5f2 := blk_frozen hp5 2; have hp5c3 := blk_cell hp5 3 _ rfl; have hp5f3 := blk_frozen hp5 3; have hp5c4 := blk_cell hp5 4 _ rfl; have hp5f4 := blk_frozen hp5 4; have hp5l := blk_lt hp5))
  have HBW : Hd (Below w.heap.size w w5) := ⟨below_seq HB3.out (HB4.out.trans HB5.out)⟩
  have hz5 := HBW.out.size
  have hgh := HS5.out.hi
  have hgl := HS5.out.lo
  have HKL : Hd (ws5.length = K) := ⟨by rw [HS5.out.ok.len]; exact HK.out⟩
  have h8 := best_ok st A c q S g1 n K ws5 w5.drew ((HNF.out.below HBW.out).below (below_drew1 (Below.refl _ _))) HC0.out HS5.out.ok (HS5.out.wd.move rfl) (by rw [size_drew]; exact hgh) (HTB.out (below_drew1 HBW.out)) (by rw [size_drew]; have := H0.out; omega)
  rw [HNE.out, HKL.out, close_marks HNE.out (anyE_stays HOK.out) HKS.out HF5.out] at h8
  have HRB : Hd (decide (0 ≤ bestM q (closeM anyE q (marksW n ws))) = r) := ⟨HR.out⟩
  obtain ⟨b, hb⟩ : ∃ b, bestM q (closeM anyE q (marksW n ws)) = b := ⟨_, rfl⟩
  rw [hb] at h8 HRB
  have HJ := Hd.mk h8
  clear h8 hb
  refine wp_region_can (.q [0, 1, 2, 3, 4] (.e 5 false (.q [6, 7] (.done)))) (clsB _) (by kernel_rfl) (by kernel_rfl) (by intro _ _ d _ _ h; cases d <;> exact h) (clsB_drew _) ?_
  refine can_q (l := [⟨_,_,_,_,_,_⟩, ⟨_,_,_,_,_,_⟩, ⟨_,_,_,_,_,_⟩, ⟨_,_,_,_,_,_⟩, ⟨_,_,_,_,_,_⟩]) rfl ?_
  repeat (go_big_quiet_step (fail))
  refine wpQuiet_nil ?_
  refine can_e (o := ⟨_,_,_,_,_,_⟩) rfl (fun K hK => ?_)
  go_wp2_with (go_at_call 47; go_must (refine Calls.mono HJ.out ?_; rintro e w6 ⟨rfl, hb6⟩; have HB6 := Hd.mk hb6; clear hb6))
  refine onK_normal (hK _ _ ⟨fun _ => True, trivial, (fun h => by cases h), ?_⟩)
  clear hK K
  refine can_q (l := [⟨_,_,_,_,_,_⟩, ⟨_,_,_,_,_,_⟩]) rfl ?_
  repeat (go_big_quiet_step (fail))
  refine wpQuiet_nil ?_
  refine can_done ?_
  go_wp2
  go_ret
  exact ⟨by rw [← HRB.out]; rfl, below_seq HBW.out (below_undrew HB6.out)⟩
end Go.Proofs.YtbmpaokicphdjaaDoor.Fn

/- Run. -/
namespace Go.Proofs.YtbmpaokicphdjaaDoor.Fn
open Go Go.RowKit Go.Proofs.YtbmpaokicphdjaaDoor.Can Go.Proofs.YtbmpaokicphdjaaDoor.Base
attribute [local go_sem] clsB AB.cell

def bl (s : ByteArray) : List UInt8 := s.data.toList
theorem bl_len (s : ByteArray) : (bl s).length = s.size := rfl
theorem index_at (X : ByteArray) (q : Nat) (b : UInt8) (h : (bl X)[q]? = some b) (W : World) : (Instr.index 9 (.string X) (.int .i64 q)).run Tryd.prog W = .ok (.int .u8 (b.toNat : Int)) W := by
  obtain ⟨h1, h2⟩ := List.getElem?_eq_some_iff.1 h
  rw [bl_len] at h1
  rw [run_index_string W 9 X .i64 q Tryd.underlying9, dif_pos ⟨by omega, by omega⟩]
  have h3 : X[(q : Int).toNat]'(by rw [Int.toNat_natCast]; exact h1) = b := by
    rw [← h2]
    simp [bl, ByteArray.getElem_eq_getElem_data]
  rw [h3]
theorem runM_snoc (st : Int) (q : List St) (l : List UInt8) (b : UInt8) : runM st q (l ++ [b]) = stepM q b.toNat (runM st q l) := by simp [runM]
set_option maxHeartbeats 1000000 in
theorem run_bad (st : Int) (A : Option Addr) (c : Nat) (q : List St) (S : Nat → Prop) (t : ByteArray) (w : World) (hN : NF w S A q) (hc : checkV st q ≠ 0) :
    Calls Tryd.prog 42 #[.agg #[.int .i64 st, .slice A q.length c], .string t] w fun e w' => e = .returned (.tuple #[.int .i64 (-1), .int .i64 (checkV st q)]) ∧ Below w.heap.size w w' := by
  have HCK := Hd.mk (start_bad st A c q S (w.alloc (.cells #[.int .i64 st, .slice A q.length c] 58)) (hN.below (below_alloc (Below.refl _ _) _)) hc)
  obtain ⟨n, hn⟩ : ∃ m, q.length = m := ⟨_, rfl⟩
  obtain ⟨e0, he0⟩ : ∃ e, checkV st q = e := ⟨_, rfl⟩
  rw [he0] at HCK hc ⊢
  rw [hn] at HCK ⊢
  have hj : (e0 != 0) = true := by simpa using hc
  clear hN hn he0 hc
  go_enter Tryd.func42, Tryd.ntmps42
  go_wp2_with (go_at_call 44; go_must (refine Calls.mono HCK.out ?_; rintro e w2 ⟨rfl, hb2⟩; have HB2 := Hd.mk (below_seq (below_alloc (Below.refl _ _) _) hb2); clear hb2))
  first | go_ret2 | refine bodyPost_ret (results_tmp2 rfl _ _ _) rfl ?_
  exact ⟨rfl, below_seq HB2.out (below_alloc (Below.refl _ _) _)⟩
set_option maxRecDepth 20000 in
set_option maxHeartbeats 2000000 in
theorem run_ok (st : Int) (A : Option Addr) (n c : Nat) (q : List St) (S : Nat → Prop) (t : ByteArray) (w : World) (hn : q.length = n) (hN : NF w S A q) (hc : checkV st q = 0) (ht : t.size ≤ 1000) (hT : TabAt 0 Lib.deBruijn64tab w) (h0 : 0 < w.heap.size) :
    Calls Tryd.prog 42 #[.agg #[.int .i64 st, .slice A n c], .string t] w fun e w' => e = .returned (.tuple #[.int .i64 (bestM q (runM st q (bl t))), .int .i64 0]) ∧ Below w.heap.size w w' := by
  have h8 := start_ok st A c q S (w.alloc (.cells #[.int .i64 st, .slice A q.length c] 58)) (hN.below (below_alloc (Below.refl _ _) _)) hc
  obtain ⟨tn, htn⟩ : ∃ m, t.size = m := ⟨_, rfl⟩
  rw [htn] at ht
  rw [hn] at h8
  unfold setV at h8
  obtain ⟨K, hK⟩ : ∃ K, (n + 63) / 64 = K := ⟨_, rfl⟩
  rw [hK] at h8
  have HST := Hd.mk h8; have HK := Hd.mk hK; have HTN := Hd.mk htn
  have HTB : Hd (∀ {W : World}, Below w.heap.size w W → TabAt 0 Lib.deBruijn64tab W) := ⟨fun hb j hj => (hb.cell (p := ⟨0, j, none⟩) h0).trans (hT j hj)⟩
  have HNE := Hd.mk hn; have HNF := Hd.mk hN; have HC0 := Hd.mk hc; have H0 := Hd.mk h0
  clear h8 hK hn hN hc hT h0
  go_enter Tryd.func42, Tryd.ntmps42
  go_wp2_with (go_at_call 44; go_must (refine Calls.mono HST.out ?_; rintro e w1 ⟨g0, ws0, rfl, hs1, hm1, hb1⟩; have HS1 := Hd.mk hs1; have HM1 := Hd.mk hm1; have hz1 := hb1.size; rw [size_alloc] at hz1; have hy1 := blk_below (blk_new w (.cells #[.int .i64 st, .slice A n c] 58) _ rfl) hb1; have HB1 := Hd.mk (below_seq (below_alloc (Below.refl _ _) _) hb1); have hy1c0 := blk_cell hy1 0 _ rfl; have hy1f0 := blk_frozen hy1 0; have hy1c1 := blk_cell hy1 1 _ rfl; have hy1f1 := blk_frozen hy1 1; have hy1l := blk_lt hy1; clear hs1 hm1 hb1))
  generalize hX : World.alloc w1 _ = X
  have hbx : X.heap[w1.heap.size]? = some (.cells #[.slice (some ⟨g0, 0, none⟩) K K, .int .i64 n] 28 (0, 0)) := by rw [← hX]; exact blk_new _ _ _ rfl
  have hyx : X.heap[w.heap.size]? = some (.cells #[.int .i64 st, .slice A n c] 58 (0, 0)) := by rw [← hX]; exact blk_alloc hy1 _
  have HBX : Hd (Below w.heap.size w X) := ⟨by rw [← hX]; exact below_seq HB1.out (below_alloc (Below.refl _ _) _)⟩
  have HSX : Hd (SetA X 0 g0 n ws0) := ⟨by rw [← hX]; exact (HS1.out.mono (Nat.zero_le _)).below (below_alloc (Below.refl _ _) _)⟩
  have hgx : g0 ≠ w1.heap.size := by have := HS1.out.hi; omega
  obtain ⟨B0, hB0⟩ : ∃ b, w1.heap.size = b := ⟨_, rfl⟩
  rw [hB0] at hbx hgx hz1 ⊢
  clear hy1c0 hy1f0 hy1c1 hy1f1 hy1l
  clear hX hB0 hy1
  have HBOX := Hd.mk hbx; have HYX := Hd.mk hyx
  clear hbx hyx
  go_loopw [19] (fun i wr => ∃ (k g : Nat) (ws : List Nat), k ≤ tn ∧ i = .int .i64 k ∧ Hd (wr.heap[B0]? = some (.cells #[.slice (some ⟨g, 0, none⟩) K K, .int .i64 n] 28 (0, 0))) ∧ Hd (wr.heap[w.heap.size]? = some (.cells #[.int .i64 st, .slice A n c] 58 (0, 0))) ∧ Hd (SetA wr 0 g n ws) ∧ g ≠ B0 ∧ Hd (marksW n ws = runM st q ((bl t).take k)) ∧ Hd (Below w.heap.size w wr)) (fun i _ => tn - (intOf i).toNat)
  case atStart => exact ⟨0, g0, ws0, Nat.zero_le _, rfl, HBOX, HYX, HSX, hgx, ⟨by rw [List.take_zero, HM1.out]; rfl⟩, HBX⟩
  case round =>
    clear HBOX HYX HSX hgx HBX
    obtain ⟨k, g, ws, hk, rfl, HBOX, HYX, HSX, hgx, HM, HB⟩ := hrel
    have hbx := HBOX.out; have hyx := HYX.out
    have hbxc0 := blk_cell hbx 0 _ rfl; have hbxf0 := blk_frozen hbx 0; have hbxc1 := blk_cell hbx 1 _ rfl; have hbxf1 := blk_frozen hbx 1; have hbxl := blk_lt hbx
    have hyxc0 := blk_cell hyx 0 _ rfl; have hyxf0 := blk_frozen hyx 0; have hyxc1 := blk_cell hyx 1 _ rfl; have hyxf1 := blk_frozen hyx 1; have hyxl := blk_lt hyx
    have hzr := HB.out.size
    have hbw := blk_lt HBOX.out
    have hgh := HSX.out.hi
    have HKL : Hd (ws.length = K) := ⟨by rw [HSX.out.ok.len]; exact HK.out⟩
    by_cases hlt : k < tn
    · obtain ⟨b9, hb9⟩ : ∃ b, (bl t)[k]? = some b := ⟨_, List.getElem?_eq_getElem (by rw [bl_len, HTN.out]; exact hlt)⟩
      have HT : Hd ((bl t).take (k + 1) = (bl t).take k ++ [b9]) := ⟨by rw [List.take_add_one, hb9]; rfl⟩
      have hix : ∀ W, (Instr.index 9 (.string t) (.int .i64 k)).run Tryd.prog W = .ok (.int .u8 (b9.toNat : Int)) W := index_at t k b9 hb9
      have h8 := step_ok st A c q S g n K b9.toNat b9.toNat_lt ws wr.drew (HNF.out.below (below_seq HB.out (below_drew1 (Below.refl _ _)))) HC0.out HSX.out.ok (HSX.out.wd.move rfl) (by rw [size_drew]; exact hgh) (HTB.out (below_drew1 HB.out)) (by rw [size_drew]; have := H0.out; omega)
      unfold setV at h8
      rw [HNE.out, HKL.out, HK.out] at h8
      have HJ := Hd.mk h8
      clear h8 hb9
      go_wp2
      refine wp_region_can (.q [0, 1, 2, 3, 4] (.e 5 false (.q [6, 7, 8] (.e 9 false (.done))))) (clsB _) (by kernel_rfl) (by kernel_rfl) (by intro _ _ d _ _ h; cases d <;> exact h) (clsB_drew _) ?_
      refine can_q (l := [⟨_,_,_,_,_,_⟩, ⟨_,_,_,_,_,_⟩, ⟨_,_,_,_,_,_⟩, ⟨_,_,_,_,_,_⟩, ⟨_,_,_,_,_,_⟩]) rfl ?_
      repeat (go_big_quiet_step (fail))
      refine wpQuiet_nil ?_
      refine can_e (o := ⟨_,_,_,_,_,_⟩) rfl (fun K hK => ?_)
      go_wp2_with (go_at_call 45; go_must (refine Calls.mono HJ.out ?_; rintro e w3 ⟨g3, ws3, rfl, hs3, hm3, hb3⟩; rw [size_drew] at hs3; have HS3 := Hd.mk hs3; have HM3 := Hd.mk hm3; have HB3 := Hd.mk (below_undrew hb3); have hbx3 := blk_below hbx HB3.out; have hyx3 := blk_below hyx HB3.out; clear hs3 hm3 hb3))
      refine onK_normal (hK _ _ ⟨fun _ => True, trivial, (fun h => by cases h), ?_⟩)
      clear hK K
      refine can_q (l := [⟨_,_,_,_,_,_⟩, ⟨_,_,_,_,_,_⟩, ⟨_,_,_,_,_,_⟩]) rfl ?_
      repeat (go_big_quiet_step (fail))
      refine wpQuiet_nil ?_
      clear hbxc0 hbxf0 hbxc1 hbxf1 hbxl
      clear hyxc0 hyxf0 hyxc1 hyxf1 hyxl
      have hbx3c0 := blk_cell hbx3 0 _ rfl; have hbx3f0 := blk_frozen hbx3 0; have hbx3c1 := blk_cell hbx3 1 _ rfl; have hbx3f1 := blk_frozen hbx3 1; have hbx3l := blk_lt hbx3
      refine can_e (o := ⟨_,_,_,_,_,_⟩) rfl (fun K hK => ?_)
      go_wp2_with fail
      refine onK_normal (hK _ _ ⟨fun _ => True, trivial, (fun h => by cases h), ?_⟩)
      clear hK K
      refine can_done ?_
      go_wp2
      have hg3 := HS3.out.lo
      go_roundw
      case rel =>
        refine ⟨k + 1, g3, ws3, by omega, by go_num, ⟨blk_set (blk_set hbx3 0 _ _ rfl) 1 _ _ rfl⟩, ⟨blk_far (blk_far hyx3 (by show ¬ w.heap.size = B0; omega) _) (by show ¬ w.heap.size = B0; omega) _⟩, ⟨(HS3.out.mono (Nat.zero_le _)).move (by rw [size_set, size_set]; exact Nat.le_refl _) ((Below.heap_setCell _ _ _ _ (by show ¬ g3 = B0; omega)).trans (Below.heap_setCell _ _ _ _ (by show ¬ g3 = B0; omega)))⟩, by omega, ⟨by rw [HT.out, runM_snoc, ← HM.out]; exact HM3.out⟩, ⟨below_set (below_set (below_seq HB.out HB3.out) (by omega) _ _) (by omega) _ _⟩⟩
      case measure => simp [intOf]; omega
    · obtain rfl : k = tn := by omega
      have h8 := best_ok st A c q S g n K ws wr (HNF.out.below HB.out) HC0.out HSX.out.ok HSX.out.wd hgh (HTB.out HB.out) (by have := H0.out; omega)
      rw [HNE.out, HKL.out, HM.out, List.take_of_length_le (by rw [bl_len, HTN.out]; exact Nat.le_refl _)] at h8
      have HJ := Hd.mk h8
      clear h8
      go_wp2_with (go_at_call 47; go_must (refine Calls.mono HJ.out ?_; rintro e w6 ⟨rfl, hb6⟩; have HB6 := Hd.mk hb6; clear hb6))
      first | go_ret2 | refine bodyPost_ret (results_tmp2 rfl _ _ _) rfl ?_
      exact ⟨rfl, below_seq HB.out HB6.out⟩
end Go.Proofs.YtbmpaokicphdjaaDoor.Fn
