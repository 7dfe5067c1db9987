/- Join: all of a set's numbers, added to another one. -/
import Derived.Test.YtbmpaokicphdjaaDoorB7
import Derived.RangeFuncFrom
namespace Go.Proofs.YtbmpaokicphdjaaDoor.Fn
open Go Go.RowKit Go.Shelf Go.Proofs.YtbmpaokicphdjaaDoor.Can Go.Proofs.YtbmpaokicphdjaaDoor.Base
attribute [local go_sem] Oper.semAt_some

theorem each_calls (A : Option Addr) (m c room : Nat) (w : World) :
    Calls Tryd.prog 72 #[.agg #[.slice A m c, .int .i64 room]] w fun e w' => e = .returned (.func (.func 104) #[] #[.pointer (some ⟨w.heap.size, 0, none⟩)]) ∧ w' = w.alloc (.cells #[.slice A m c, .int .i64 room] 28) := by
  go_enter Tryd.func72, Tryd.ntmps72
  go_wp2
  go_ret
  exact ⟨rfl, rfl⟩
theorem each_stops (n : Nat) (hn : 1 ≤ n) (Bx g c : Nat) (A : Option Addr) (ws : List Nat) (hlt : ∀ x ∈ ws, x < 18446744073709551616) (hlen : ws.length ≤ 2000) (w : World) (hBx : Bx < w.heap.size) (hB : w.cell? ⟨Bx, 0, none⟩ = some (.slice A ws.length c)) (hW : Wd w A g ws) (hT : TabAt 0 Lib.deBruijn64tab w) (h0 : 0 < w.heap.size) :
    SeqStopsK Fence.wide n Tryd.prog 104 #[.pointer (some ⟨Bx, 0, none⟩)] (fun x : Nat => #[Value.int .i64 (x : Int)]) (Kept (fun k => k = g ∨ k = Bx ∨ k = 0)) (fun ys => ys = elems ws) (fun _ => True) (64 * ws.length) w := fun l J Jx W hW' _ _ hY hJ => by
  refine each_in n hn l Bx g c A ws hlt hlen J Jx hY W ((hW'.cell (p := ⟨Bx, 0, none⟩) hBx).trans hB) (hW.below hW') (fun j hj => (hW'.cell (p := ⟨0, j, none⟩) h0).trans (hT j hj)) hJ
theorem kept_b {K : Nat → Prop} {w : World} (hK : ∀ k, K k → k < w.heap.size) (W : World) (l : Nat) (o o' : Obj) (hl : w.heap.size ≤ l) (_ : W.heap[l]? = some o) (_ : o.isCells = false) (_ : o.isWalk = false) : Kept K W (W.putObj l o') := fun k hk =>
  World.putObj_heap_other (by have := hK k hk; omega)
theorem Fr.put {X : Nat → Prop} {w W : World} {D : Nat} (h : Fr X w W) (hD : w.heap.size ≤ D) (o : Obj) : Fr X w (W.putObj D o) :=
  ⟨h.zero.grown (grownBy_putObj' W D o) (Nat.zero_le _) (fun _ _ => Nat.zero_le _), fun b hb hx => (World.putObj_heap_other (by omega)).trans (h.same b hb hx)⟩
/-- Blocks below B abide what the law turns. -/
theorem turn_keeps {W W' : World} {row : Option Nat} {B k : Nat} (hg : W.grownBy W' row) (hr : ∀ r, row = some r → B ≤ r ∧ ∃ o : Obj, W.heap[r]? = some o ∧ o.isCells = false) (hk : k < B) (hkW : k < W.heap.size) : W'.heap[k]? = W.heap[k]? :=
  hg.block k hkW (fun h => by have := (hr k h.symm).1; omega)
def joinB (room : Nat) (ws : List Nat) (l : List Nat) : List Nat × Bool := l.foldl (fun (s : List Nat × Bool) (n : Nat) => (addW room s.1 (n : Int), s.2 || addO room s.1 (n : Int))) (ws, false)
theorem joinB_snoc (room : Nat) (ws : List Nat) (l : List Nat) (n : Nat) : joinB room ws (l ++ [n]) = (addW room (joinB room ws l).1 n, (joinB room ws l).2 || addO room (joinB room ws l).1 n) := by simp [joinB]
theorem fold_ok {room n : Nat} (l : List Nat) (s : List Nat × Bool) (h : Wok room s.1 ∧ s.1.length = n) : Wok room (l.foldl (fun (s : List Nat × Bool) (n : Nat) => (addW room s.1 (n : Int), s.2 || addO room s.1 (n : Int))) s).1 ∧ (l.foldl (fun (s : List Nat × Bool) (n : Nat) => (addW room s.1 (n : Int), s.2 || addO room s.1 (n : Int))) s).1.length = n := by
  induction l generalizing s with
  | nil => exact h
  | cons x l ih => exact ih _ ⟨h.1.add _, by rw [addW_len]; exact h.2⟩
theorem joinB_ok {room : Nat} {ws : List Nat} (h : Wok room ws) (l : List Nat) : Wok room (joinB room ws l).1 ∧ (joinB room ws l).1.length = ws.length := fold_ok l (ws, false) ⟨h, rfl⟩
theorem keepsO_fr {X : Nat → Prop} {W W' : World} (h : Fr X W W') (hX : ∀ k o, X k → W.heap[k]? = some o → o.isCells = true) : KeepsOthers W W' :=
  ⟨h.size, fun k o hk ho => (h.same k (blk_lt hk) (fun hx => by rw [hX k o hx hk] at ho; cases ho)).trans hk⟩
theorem Wd.isCells {w : World} {A : Option Addr} {g : Nat} {ws : List Nat} (h : Wd w A g ws) : ∀ k o, (k = g ∧ ws ≠ []) → w.heap[k]? = some o → o.isCells = true := by
  rintro k o ⟨rfl, hne⟩ ho
  rcases h with h | ⟨_, r, h⟩
  · exact absurd h hne
  · rw [h] at ho; cases ho; rfl
set_option maxRecDepth 100000 in
set_option maxHeartbeats 4000000 in
theorem join_calls (A1 A2 : Option Addr) (c1 c2 g1 g2 r1 r2 : Nat) (ws1 ws2 : List Nat) (w : World) (hK1 : Wok r1 ws1) (hK2 : Wok r2 ws2) (h1 : Wd w A1 g1 ws1) (h2 : Wd w A2 g2 ws2) (hg1 : g1 < w.heap.size) (hg2 : g2 < w.heap.size) (hne : g1 ≠ g2) (hT : TabAt 0 Lib.deBruijn64tab w) (h0 : 0 < w.heap.size) (hg0 : g1 ≠ 0) :
    Calls Tryd.prog 28 #[.agg #[.slice A1 ws1.length c1, .int .i64 r1], .agg #[.slice A2 ws2.length c2, .int .i64 r2]] w fun e w' => e = .returned (.bool (joinB r1 ws1 (elems ws2)).2) ∧ Fr (fun k => k = g1 ∧ ws1 ≠ []) w w' ∧ Wd w' A1 g1 (joinB r1 ws1 (elems ws2)).1 := by
  refine (callsIn_wide (n := 6)).1 ?_
  refine callsIn_of_wp_marks Tryd.func28 rfl trivial ?_ rfl
  simp only [Tryd.ntmps28, List.size_toArray, List.length_cons, List.length_nil, Nat.reduceAdd, Nat.reduceSub, Array.replicate_succ, Array.replicate_zero, List.push_toArray, List.append_toArray, List.nil_append, List.cons_append]
  have hm1 : ws1.length ≤ 1100 := by have := hK1.len; have := hK1.small; omega
  have hm2 : ws2.length ≤ 1100 := by have := hK2.len; have := hK2.small; omega
  obtain ⟨m1, hm1e⟩ : ∃ m, ws1.length = m := ⟨_, rfl⟩
  obtain ⟨m2, hm2e⟩ : ∃ m, ws2.length = m := ⟨_, rfl⟩
  have HK1 := Hd.mk hK1; have HK2 := Hd.mk hK2; have H1 := Hd.mk h1; have H2 := Hd.mk h2; have HT := Hd.mk hT; have HM1 := Hd.mk hm1e; have HM2 := Hd.mk hm2e; have HNE := Hd.mk hne; have HG0 := Hd.mk hg0
  rw [hm1e] at hm1 ⊢
  rw [hm2e] at hm2 ⊢
  clear hK1 hK2 h1 h2 hT hm1e hm2e hne hg0
  gi_wp2_with (refine ⟨trivial, ?_⟩; gi_at_call 72; refine (callsIn_wide.2 (each_calls A2 m2 c2 r2 _)).mono ?_; rintro e w' ⟨rfl, rfl⟩)
  generalize hV : World.alloc _ _ = V
  have HBV : Below w.heap.size w V := below_of hV (by repeat (first | (with_reducible assumption) | (with_reducible exact Below.refl _ _) | (with_reducible apply below_drewL) | (with_reducible apply below_alloc) | (with_reducible apply below_drew1) | (with_reducible apply below_drewN) | (refine below_set ?_ (by first | omega | (simp only [size_alloc, size_drew, size_set]; omega)) _ _)))
  have zV : Hd (V.heap.size = w.heap.size + 1 + 1 + 1 + 1) := ⟨by rw [← hV]; simp only [size_alloc]⟩
  have V0 := at_of hV (blk_alloc (blk_alloc (blk_alloc (blk_new _ _ _ rfl) _) _) _)
  have V0l := blk_lt V0
  have V1 := at_of hV (blk_alloc (blk_alloc (blk_new _ _ _ rfl) _) _)
  simp only [size_alloc] at V1
  have V1l := blk_lt V1
  have V2 := at_of hV (blk_alloc (blk_new _ _ _ rfl) _)
  simp only [size_alloc] at V2
  have V2l := blk_lt V2
  have V3 := at_of hV (blk_new _ _ _ rfl)
  simp only [size_alloc] at V3
  have V3l := blk_lt V3
  clear hV
  have hzV : V.heap.size = w.heap.size + 4 := by rw [zV.out]
  have HV := Hd.mk HBV
  obtain ⟨Bx, hBx⟩ : ∃ Bx, w.heap.size + 1 + 1 + 1 = Bx := ⟨_, rfl⟩
  rw [hBx] at V3 V3l ⊢
  have hV3c : V.cell? ⟨Bx, 0, none⟩ = some (.slice A2 ws2.length c2) := by rw [HM2.out]; exact blk_cell V3 0 _ rfl
  have HTV : Hd (TabAt 0 Lib.deBruijn64tab V) := ⟨fun j hj => (HBV.cell (p := ⟨0, j, none⟩) h0).trans (HT.out j hj)⟩
  have HI0 := And.intro (H1.out.below HBV) (And.intro V0 (And.intro V2 (And.intro (Fr.of_below (X := fun k => k = g1 ∧ ws1 ≠ []) HBV) (Nat.le_refl V.heap.size))))
  have HSEQ := each_stops 5 (by omega) Bx g2 c2 A2 ws2 HK2.out.lt (by rw [HM2.out]; omega) V V3l hV3c (H2.out.below HBV) HTV.out (by omega)
  have hJ : ∀ pre, (joinB r1 ws1 pre).1.length = m1 := fun pre => by rw [(joinB_ok HK1.out pre).2, HM1.out]
  have HJ := Hd.mk hJ
  clear V0 V1 V2 V3 V0l V1l V2l V3l zV HBV hV3c hJ
  refine wpIn_rangeFunc_ownF rfl (by omega) (gf := 104) (lb := #[.pointer (some ⟨Bx, 0, none⟩)]) rfl trivial (enters_of Tryd.func104 (by kernel_rfl) rfl)
    HSEQ (fun h k => h.trans k) (kept_b (fun k hk => by rcases hk with rfl | rfl | rfl <;> omega)) (Below.refl _ _) (fun _ => rfl)
    (fun pre W => Wd W A1 g1 (joinB r1 ws1 pre).1 ∧ W.heap[w.heap.size]? = some (.cells #[.slice A1 m1 c1, .int .i64 r1] 28 (0, 0)) ∧ W.heap[w.heap.size + 1 + 1]? = some (.cells #[.bool (joinB r1 ws1 pre).2] 4 (0, 0)) ∧ Fr (fun k => k = g1 ∧ ws1 ≠ []) w W ∧ V.heap.size ≤ W.heap.size)
    (fun _ _ _ => False)
    (fun s A B row hs hg hr => ⟨hs.1.move (turn_keeps hg hr (by omega) (by have := hs.2.2.2.2; omega)), (turn_keeps hg hr (by omega) (blk_lt hs.2.1)).trans hs.2.1, (turn_keeps hg hr (by omega) (blk_lt hs.2.2.1)).trans hs.2.2.1, ⟨hs.2.2.2.1.zero.grown hg (Nat.zero_le _) (fun _ _ => Nat.zero_le _), fun b hb hx => (turn_keeps hg hr (by omega) (by have := hs.2.2.2.2; omega)).trans (hs.2.2.2.1.same b hb hx)⟩, Nat.le_trans hs.2.2.2.2 hg.size⟩)
    (fun _ _ _ _ _ hs _ _ => hs)
    HI0
    (fun x => { tmps := #[.agg #[.slice A1 m1 c1, .int .i64 r1], .agg #[.slice A2 m2 c2, .int .i64 r2], .pointer (some ⟨w.heap.size, 0, none⟩), .pointer (some ⟨w.heap.size + 1, 0, none⟩), .bool false, .pointer (some ⟨w.heap.size + 1 + 1, 0, none⟩), .int .i64 x, .agg #[.slice A2 m2 c2, .int .i64 r2], .func (.func 104) #[] #[.pointer (some ⟨Bx, 0, none⟩)], .int .i64 x, undef, undef, undef, undef], defers := [] }) ?assign ?body ?done ?stop
  case assign =>
    intro l x W K hK
    gi_wp2
    exact hK
  case body =>
    clear HI0 HSEQ
    rintro l pre x W ⟨hWd, hs, hb, hf, hVW⟩ _
    have HWd := Hd.mk hWd; have HS := Hd.mk hs; have HB := Hd.mk hb; have HF := Hd.mk hf
    have HE := Hd.mk (joinB_snoc r1 ws1 pre x)
    have HOK := Hd.mk (joinB_ok HK1.out pre)
    clear hWd hb hf
    have hsc0 := blk_cell hs 0 _ rfl; have hsf0 := blk_frozen hs 0; have hsc1 := blk_cell hs 1 _ rfl; have hsf1 := blk_frozen hs 1; have hsl := blk_lt hs
    have hne2 : ¬ w.heap.size + 1 + 1 = g1 := by omega
    cases hO : addO r1 (joinB r1 ws1 pre).1 x with
    | true =>
      have HO := Hd.mk hO; clear hO
      gi_wp2_with (refine ⟨trivial, ?_⟩; gi_at_call 21; have h9 := add_calls A1 c1 g1 r1 x (joinB r1 ws1 pre).1 W HOK.out.1 HWd.out; rw [HJ.out, HO.out] at h9; refine (CallsIn.inRound l (callsIn_wide.2 h9)).mono ?_; clear h9; rintro e w2 ⟨rfl, hf2, hw2⟩; have hq2 := hf2.blk HB.out (fun h => hne2 h.1); have HF2 := Hd.mk hf2; have HW2 := Hd.mk hw2; clear hf2 hw2; have hq2c0 := blk_cell hq2 0 _ rfl; have hq2f0 := blk_frozen hq2 0; have hq2l := blk_lt hq2)
      have hs2 := HF2.out.blk HS.out (fun h => by have := h.1; omega)
      have hfs := Fr.set (X := fun k => k = w.heap.size + 1 + 1) (Fr.refl _ w2) (.inl rfl) 0 (.bool true)
      have hz2 := HF2.out.size
      refine ⟨(keepsO_fr HF2.out HWd.out.isCells).trans (KeepsOthers.setCell _ _ _), ?_, ?_⟩
      · intro k hk
        have hk1 : k < W.heap.size ∧ ¬ k = g1 ∧ ¬ k = w.heap.size + 1 + 1 := by have := HNE.out; have := HG0.out; rcases hk with rfl | rfl | rfl <;> omega
        exact (hfs.same k (by omega) hk1.2.2).trans (HF2.out.same k hk1.1 (fun h => hk1.2.1 h.1))
      · dsimp only
        rw [HE.out, HO.out, Bool.or_true]
        refine ⟨HW2.out.move (hfs.same g1 (by omega) (fun h => hne2 h.symm)), blk_far hs2 (by show ¬ w.heap.size = w.heap.size + 1 + 1; omega) _, blk_set hq2 0 _ _ rfl, ?_, by rw [size_set]; omega⟩
        exact (HF.out.trans (HF2.out.mono fun b hb => ⟨hb.1, fun h => hb.2 (List.eq_nil_of_length_eq_zero (by rw [HJ.out, ← HM1.out, h]; rfl))⟩)).set (.inr (by omega)) 0 _
    | false =>
      have HO := Hd.mk hO; clear hO
      gi_wp2_with (refine ⟨trivial, ?_⟩; gi_at_call 21; have h9 := add_calls A1 c1 g1 r1 x (joinB r1 ws1 pre).1 W HOK.out.1 HWd.out; rw [HJ.out, HO.out] at h9; refine (CallsIn.inRound l (callsIn_wide.2 h9)).mono ?_; clear h9; rintro e w2 ⟨rfl, hf2, hw2⟩; have hq2 := hf2.blk HB.out (fun h => hne2 h.1); have HF2 := Hd.mk hf2; have HW2 := Hd.mk hw2; clear hf2 hw2; have hq2c0 := blk_cell hq2 0 _ rfl; have hq2f0 := blk_frozen hq2 0; have hq2l := blk_lt hq2)
      have hs2 := HF2.out.blk HS.out (fun h => by have := h.1; omega)
      have hz2 := HF2.out.size
      refine ⟨keepsO_fr HF2.out HWd.out.isCells, ?_, ?_⟩
      · intro k hk
        have hk1 : k < W.heap.size ∧ ¬ k = g1 := by have := HNE.out; have := HG0.out; rcases hk with rfl | rfl | rfl <;> omega
        exact HF2.out.same k hk1.1 (fun h => hk1.2 h.1)
      · dsimp only
        rw [HE.out, HO.out, Bool.or_false]
        refine ⟨HW2.out, hs2, hq2, ?_, by omega⟩
        exact HF.out.trans (HF2.out.mono fun b hb => ⟨hb.1, fun h => hb.2 (List.eq_nil_of_length_eq_zero (by rw [HJ.out, ← HM1.out, h]; rfl))⟩)
  case done =>
    clear HSEQ HI0
    rintro D ys W hD rfl ⟨hWd, hs, hb, hf, hVW⟩ hK
    have hz := hf.size
    have hbc0 := blk_cell hb 0 _ rfl; have hbf0 := blk_frozen hb 0; have hbl := blk_lt hb
    gi_wp2
    refine ⟨by simp, .inl ⟨_, _, rfl, run_takeDeferred hK, ?_⟩⟩
    refine ⟨_, results_tmp rfl _ _ _, rfl, ?_, ?_⟩
    · exact Fr.put hf (by omega) _
    · exact hWd.move (World.putObj_heap_other (by omega))
  case stop =>
    rintro D c pre W _ _ h _
    exact h.elim
end Go.Proofs.YtbmpaokicphdjaaDoor.Fn
