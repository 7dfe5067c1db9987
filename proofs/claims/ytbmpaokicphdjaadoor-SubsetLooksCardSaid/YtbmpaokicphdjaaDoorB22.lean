/- BitsSame: the walk. -/
import Derived.Test.YtbmpaokicphdjaaDoorB21
import Derived.Test.YtbmpaokicphdjaaDoorBag
import Derived.Deep.DeepCutAuto
import Derived.Deep.CutBlock
set_option linter.unusedVariables false
set_option linter.unusedSimpArgs false
namespace Go.Proofs.YtbmpaokicphdjaaDoor.Fn
open Go Go.RowKit Go.Proofs.YtbmpaokicphdjaaDoor.Can Go.Proofs.YtbmpaokicphdjaaDoor.Base
attribute [local go_sem] clsB AB.cell

/-- A set that has been made, in words of its own. -/
def setF (room : Nat) (ws : List Nat) : Fact where
  p := fun w o v => ∃ g, o = some g ∧ v = .agg #[.slice (some ⟨g, 0, none⟩) ((room + 63) / 64) ((room + 63) / 64), .int .i64 room] ∧ Wd w (some ⟨g, 0, none⟩) g ws
  move := by rintro w w' o v hm ⟨g, rfl, h1, h2⟩; exact ⟨g, rfl, h1, h2.move (hm g rfl)⟩
set_option maxRecDepth 20000 in
set_option maxHeartbeats 2000000 in
theorem bsame_calls (r0 r1 : Nat) (hr0 : r0 ≤ 65535) (hr1 : r1 ≤ 65535) (A1 A2 : Option Addr) (c1 c2 : Nat) (xs ys : List Int) (S : Nat → Prop) (w : World) (hS : ∀ k, S k → k < w.heap.size) (hC1 : Row I w S A1 xs.length xs) (hC2 : Row I w S A2 ys.length ys) (hT : TabAt 0 Lib.deBruijn64tab w) (h0 : 0 < w.heap.size) :
    Calls Tryd.prog 3 #[.agg #[.int .u16 r0, .int .u16 r1], .slice A1 xs.length c1, .slice A2 ys.length c2] w fun e w' => e = .returned (.bool true) ∧ Below w.heap.size w w' := by
  obtain ⟨n1, hn1⟩ : ∃ n, xs.length = n := ⟨_, rfl⟩
  obtain ⟨n2, hn2⟩ : ∃ n, ys.length = n := ⟨_, rfl⟩
  rw [hn1] at hC1 ⊢
  rw [hn2] at hC2 ⊢
  have hmN1 := hC1.le
  have hmN2 := hC2.le
  have HS := Hd.mk hS; have HC1 := Hd.mk hC1; have HC2 := Hd.mk hC2; have HT := Hd.mk hT; have H0 := Hd.mk h0; have HN1 := Hd.mk hn1; have HN2 := Hd.mk hn2
  clear hn1 hn2 hS hC1 hC2 hT h0
  have tabB : ∀ {W : World}, Below w.heap.size w W → TabAt 0 Lib.deBruijn64tab W := fun hb j hj => (hb.cell (p := ⟨0, j, none⟩) H0.out).trans (HT.out j hj)
  have TAB := Hd.mk @tabB; clear tabB
  by_cases h60 : 60 < n1 ∨ 60 < n2
  · have aliveA : ∀ {W : World}, Below w.heap.size w W → Calls Tryd.prog 14 #[] W fun e w' => e = .returned (.bool true) ∧ Below W.heap.size W w' := fun hb => alive_calls _ (TAB.out hb) (Nat.lt_of_lt_of_le H0.out hb.size)
    have AL := Hd.mk @aliveA; clear aliveA
    rcases h60 with h60 | h60
    · go_enter Tryd.func3, Tryd.ntmps3
      go_wp2_with (go_at_call 14; go_must (refine Calls.mono (AL.out (below_alloc (Below.refl _ _) _)) ?_; rintro e w2 ⟨rfl, hb2⟩))
      go_ret
      exact ⟨rfl, below_seq (below_alloc (Below.refl _ _) _) hb2⟩
    · by_cases h61 : 60 < n1
      · go_enter Tryd.func3, Tryd.ntmps3
        go_wp2_with (go_at_call 14; go_must (refine Calls.mono (AL.out (below_alloc (Below.refl _ _) _)) ?_; rintro e w2 ⟨rfl, hb2⟩))
        go_ret
        exact ⟨rfl, below_seq (below_alloc (Below.refl _ _) _) hb2⟩
      · go_enter Tryd.func3, Tryd.ntmps3
        go_wp2_with (go_at_call 14; go_must (refine Calls.mono (AL.out (below_alloc (Below.refl _ _) _)) ?_; rintro e w2 ⟨rfl, hb2⟩))
        go_ret
        exact ⟨rfl, below_seq (below_alloc (Below.refl _ _) _) hb2⟩
  have h61 : ¬ 60 < n1 := fun h => h60 (.inl h)
  have h62 : ¬ 60 < n2 := fun h => h60 (.inr h)
  clear h60
  go_enter Tryd.func3, Tryd.ntmps3
  go_wp2
  generalize hV : World.alloc _ _ = V
  have HBV : Below w.heap.size w V := below_of hV (by repeat (first | (with_reducible assumption) | (with_reducible exact Below.refl _ _) | (with_reducible apply below_drewL) | (with_reducible apply below_alloc) | (with_reducible apply below_drew1) | (with_reducible apply below_drewN) | (refine below_set ?_ (by first | omega | (simp only [size_alloc, size_drew, size_set]; omega)) _ _)))
  have zV : Hd (V.heap.size = w.heap.size + 1) := ⟨by rw [← hV]; simp only [size_alloc]⟩
  have V0 := at_of hV (blk_new _ _ _ rfl)
  have V0l := blk_lt V0
  clear hV
  have HV0 := Hd.mk V0
  have V0c0 := blk_cell V0 0 _ rfl; have V0f0 := blk_frozen V0 0; have V0c1 := blk_cell V0 1 _ rfl; have V0f1 := blk_frozen V0 1; have V0l := blk_lt V0
  have HBV' := Hd.mk HBV
  clear zV HBV
  refine wp_region_can (.q [0, 1, 2, 3, 5, 6, 7, 8] (.inv [4, 9, 10, 11] (.e 12 false (.e 13 false (.done))))) (clsB _) (by kernel_rfl) (by kernel_rfl) (by intro _ _ d _ _ h; cases d <;> exact h) (clsB_drew _) ?_
  refine can_q (l := [⟨_,_,_,_,_,_⟩, ⟨_,_,_,_,_,_⟩, ⟨_,_,_,_,_,_⟩, ⟨_,_,_,_,_,_⟩, ⟨_,_,_,_,_,_⟩, ⟨_,_,_,_,_,_⟩, ⟨_,_,_,_,_,_⟩, ⟨_,_,_,_,_,_⟩]) rfl ?_
  repeat (go_big_quiet_step (fail))
  refine wpQuiet_nil ?_
  obtain ⟨F, hF4, hF9, hF10, hF11⟩ : ∃ F : Nat → Fact, F 4 = setF r0 (ofW r0 xs) ∧ F 9 = setF r1 (ofW r1 ys) ∧ F 10 = boxF #[.slice none 0 0, .int .i64 0] 28 ∧ F 11 = boxF #[.slice none 0 0, .int .i64 0] 28 := ⟨fun i => if i = 4 then setF r0 (ofW r0 xs) else if i = 9 then setF r1 (ofW r1 ys) else boxF #[.slice none 0 0, .int .i64 0] 28, rfl, rfl, rfl, rfl⟩
  have HF4 := Hd.mk hF4; have HF9 := Hd.mk hF9; have HF10 := Hd.mk hF10; have HF11 := Hd.mk hF11
  clear hF4 hF9 hF10 hF11
  refine can_bag V F [(4, 30), (9, 35), (10, 7), (11, 8)] (fun _ => undef) rfl rfl (by decide) (by decide) (below_drew1 (Below.refl _ _)) (fun U hU => clsB_of hU) ?_ ?_
  · intro x hx
    simp only [List.mem_cons, List.not_mem_nil, or_false] at hx
    rcases hx with rfl | rfl | rfl | rfl <;> (intro D W O U hB hd hp; have HB := Hd.mk hB.below; clear hp hd hB; simp only [putL, Act.put, List.setIfInBounds_toArray, List.set_cons_succ, List.set_cons_zero]; refine op_of_list (o := ⟨_,_,_,_,_,_⟩) rfl (fun K hK => ?_))
    · go_wp2_with (go_at_call 15; go_must (have h9 := of_calls r0 A1 n1 c1 xs S U (fun q hq => Nat.lt_of_lt_of_le (HS.out q hq) (Nat.le_trans HBV'.out.size HB.out.size)) (HC1.out.below HS.out (below_seq HBV'.out HB.out)); rw [roomR_id (by omega)] at h9; refine Calls.mono h9 ?_; clear h9; rintro e w2 ⟨g, rfl, hg, hgl, hw2, hb2⟩; have HB2 := Hd.mk hb2; have HW2 := Hd.mk hw2; have HG2 := Hd.mk (And.intro hg hgl); clear hb2 hw2 hg hgl))
      exact onK_normal (hK _ _ ⟨_, some g, rfl, HB2.out, fun k hk => by cases hk; exact HG2.out, by rw [HF4.out]; exact ⟨g, rfl, rfl, HW2.out⟩⟩)
    · go_wp2_with (go_at_call 15; go_must (have h9 := of_calls r1 A2 n2 c2 ys S U (fun q hq => Nat.lt_of_lt_of_le (HS.out q hq) (Nat.le_trans HBV'.out.size HB.out.size)) (HC2.out.below HS.out (below_seq HBV'.out HB.out)); rw [roomR_id (by omega)] at h9; refine Calls.mono h9 ?_; clear h9; rintro e w2 ⟨g, rfl, hg, hgl, hw2, hb2⟩; have HB2 := Hd.mk hb2; have HW2 := Hd.mk hw2; have HG2 := Hd.mk (And.intro hg hgl); clear hb2 hw2 hg hgl))
      exact onK_normal (hK _ _ ⟨_, some g, rfl, HB2.out, fun k hk => by cases hk; exact HG2.out, by rw [HF9.out]; exact ⟨g, rfl, rfl, HW2.out⟩⟩)
    · go_wp2_with fail
      exact onK_normal (hK _ _ (made_alloc HF10.out))
    · go_wp2_with fail
      exact onK_normal (hK _ _ (made_alloc HF11.out))
  · intro D W O U hB hall
    have e4 := hB.yes 4 (hall 4 (by decide))
    have e9 := hB.yes 9 (hall 9 (by decide))
    have e10 := hB.yes 10 (hall 10 (by decide))
    have e11 := hB.yes 11 (hall 11 (by decide))
    rw [HF4.out] at e4
    rw [HF9.out] at e9
    rw [HF10.out] at e10
    rw [HF11.out] at e11
    obtain ⟨g1, o4, v4, hw1⟩ := e4
    obtain ⟨g2, o9, v9, hw2⟩ := e9
    obtain ⟨p7, o10, v10, hp7⟩ := e10
    obtain ⟨p8, o11, v11, hp8⟩ := e11
    have d78 : ¬ p7 = p8 := fun e => hB.tags.dist 10 11 p7 (by decide) o10 (by rw [o11, e])
    have d71 : ¬ p7 = g1 := fun e => hB.tags.dist 10 4 p7 (by decide) o10 (by rw [o4, e])
    have d72 : ¬ p7 = g2 := fun e => hB.tags.dist 10 9 p7 (by decide) o10 (by rw [o9, e])
    have d81 : ¬ p8 = g1 := fun e => hB.tags.dist 11 4 p8 (by decide) o11 (by rw [o4, e])
    have d82 : ¬ p8 = g2 := fun e => hB.tags.dist 11 9 p8 (by decide) o11 (by rw [o9, e])
    have t1 := hB.tags.lt 4 g1 o4
    have t2 := hB.tags.lt 9 g2 o9
    have t7 := hB.tags.lt 10 p7 o10
    have t8 := hB.tags.lt 11 p8 o11
    have HBU := Hd.mk hB.below
    have HW1 := Hd.mk hw1; have HW2 := Hd.mk hw2; have HP7 := Hd.mk hp7; have HP8 := Hd.mk hp8
    simp only [putL, Act.put, List.setIfInBounds_toArray, List.set_cons_succ, List.set_cons_zero]
    rw [v4, v9, v10, v11]
    have hp7c0 := blk_cell hp7 0 _ rfl; have hp7f0 := blk_frozen hp7 0; have hp7c1 := blk_cell hp7 1 _ rfl; have hp7f1 := blk_frozen hp7 1; have hp7l := blk_lt hp7
    have hp8c0 := blk_cell hp8 0 _ rfl; have hp8f0 := blk_frozen hp8 0; have hp8c1 := blk_cell hp8 1 _ rfl; have hp8f1 := blk_frozen hp8 1; have hp8l := blk_lt hp8
    clear hB hall o4 o9 o10 o11 v4 v9 v10 v11 hw1 hw2 HF4 HF9 HF10 HF11 hp7 hp8
    refine can_e (o := ⟨_,_,_,_,_,_⟩) rfl (fun K hK => ?_)
    go_wp2_with fail
    refine onK_normal (hK _ _ ⟨fun _ => True, trivial, (fun h => by cases h), ?_⟩)
    clear hK K
    refine can_e (o := ⟨_,_,_,_,_,_⟩) rfl (fun K hK => ?_)
    go_wp2_with fail
    refine onK_normal (hK _ _ ⟨fun _ => True, trivial, (fun h => by cases h), ?_⟩)
    clear hK K
    refine can_done ?_
    go_wp2
    generalize hX : World.setCell _ _ _ = X
    obtain ⟨K0, hK0⟩ : ∃ K, (r0 + 63) / 64 = K := ⟨_, rfl⟩
    obtain ⟨K1, hK1⟩ : ∃ K, (r1 + 63) / 64 = K := ⟨_, rfl⟩
    rw [hK0, hK1] at hX ⊢
    have HK0 : Hd (Wok r0 (ofW r0 xs) ∧ (ofW r0 xs).length = K0) := ⟨ofW_ok (by omega) _, by rw [ofW_len, hK0]⟩
    have HK1 : Hd (Wok r1 (ofW r1 ys) ∧ (ofW r1 ys).length = K1) := ⟨ofW_ok (by omega) _, by rw [ofW_len, hK1]⟩
    have hx7 : X.heap[p7]? = some (.cells #[.slice (some ⟨g1, 0, none⟩) K0 K0, .int .i64 r0] 28 (0, 0)) := by rw [← hX]; exact blk_far (blk_far (blk_set (blk_set HP7.out 0 _ _ rfl) 1 _ _ rfl) d78 _) d78 _
    have hx8 : X.heap[p8]? = some (.cells #[.slice (some ⟨g2, 0, none⟩) K1 K1, .int .i64 r1] 28 (0, 0)) := by rw [← hX]; exact blk_set (blk_set (blk_far (blk_far HP8.out (Ne.symm d78) _) (Ne.symm d78) _) 0 _ _ rfl) 1 _ _ rfl
    have hfr : Fr (fun k => k = p7 ∨ k = p8) U X := by rw [← hX]; exact Fr.set (Fr.set (Fr.set (Fr.set (Fr.refl _ U) (.inl (.inl rfl)) _ _) (.inl (.inl rfl)) _ _) (.inl (.inr rfl)) _ _) (.inl (.inr rfl)) _ _
    have HX1 : Hd (Wd X (some ⟨g1, 0, none⟩) g1 (ofW r0 xs)) := ⟨HW1.out.fr hfr (by rintro (h | h); exact d71 h.symm; exact d81 h.symm)⟩
    have HX2 : Hd (Wd X (some ⟨g2, 0, none⟩) g2 (ofW r1 ys)) := ⟨HW2.out.fr hfr (by rintro (h | h); exact d72 h.symm; exact d82 h.symm)⟩
    have hzV : w.heap.size < V.heap.size := V0l
    have HX0 : Hd (X.heap[w.heap.size]? = some (.cells #[.int .u16 r0, .int .u16 r1] 23 (0, 0))) := ⟨hfr.blk (blk_below HV0.out HBU.out) (by rintro (h | h) <;> omega)⟩
    have HBX : Hd (Below w.heap.size w X) := ⟨(below_seq HBV'.out HBU.out).trans (hfr.below (by have := HBU.out.size; omega) (fun b hb => by rintro (h | h) <;> omega))⟩
    have hzX : U.heap.size ≤ X.heap.size := hfr.size
    have HX7 := Hd.mk hx7; have HX8 := Hd.mk hx8
    have hwX : w.heap.size < X.heap.size := blk_lt HX0.out
    have hg1X : g1 < X.heap.size := by omega
    have hg2X : g2 < X.heap.size := by omega
    clear hX hx7 hx8 hfr HW1 HW2 HP7 HP8 hp7c0 hp7c1 hp7f0 hp7f1 hp8c0 hp8c1 hp8f0 hp8f1 hp7l hp8l V0c0 V0c1 V0f0 V0f1 hzX HV0 HBU HBV'
    have HE0 : Hd (∀ r : Nat, r ≤ 65536 → elemsI (ofW r []) = []) := ⟨fun r hr => by
      refine List.eq_nil_iff_forall_not_mem.2 fun x hx => ?_
      have := ((mem_elemsI (ofW_ok hr []) x).1 hx).2
      unfold ofW at this
      rw [List.foldl_nil, made_bit _ _ hr] at this
      cases this⟩
    go_loopw [9, 38] (fun v i wr => ∃ (k n9 c9 : Nat) (A9 : Option Addr), k ≤ n1 ∧ i = .int .i64 k ∧ v = .slice A9 n9 c9 ∧ Hd (Below X.heap.size X wr) ∧ Hd (Lst wr (fun q => X.heap.size ≤ q ∧ q < wr.heap.size) A9 n9 c9 (elemsI (ofW r0 (xs.take k))))) (fun _ i _ => n1 - (intOf i).toNat)
    case atStart => exact ⟨0, 0, 0, none, Nat.zero_le _, rfl, rfl, ⟨Below.refl _ _⟩, ⟨by rw [List.take_zero, HE0.out r0 (by omega)]; exact ⟨Row.nil _ _ _ _, Nat.le_refl _, fun _ => rfl⟩⟩⟩
    case round =>
      obtain ⟨k, n9, c9, A9, hk, rfl, rfl, HB, HL⟩ := hrel
      by_cases hlt : k < n1
      · obtain ⟨b, off, x, rfl, _, hb, hx, hcell⟩ := (HC1.out.below HS.out (below_seq HBX.out (HB.out.mono (by omega)))).get_int k hlt
        have HT : Hd (xs.take (k + 1) = xs.take k ++ [x]) := ⟨by rw [List.take_add_one, hx]; rfl⟩
        have hb0 := blk_below HX0.out HB.out
        have HK9 : Hd (Wok r0 (ofW r0 (xs.take k))) := ⟨ofW_ok (by omega) _⟩
        clear hx
        have hb0c0 := blk_cell hb0 0 _ rfl; have hb0f0 := blk_frozen hb0 0; have hb0c1 := blk_cell hb0 1 _ rfl; have hb0f1 := blk_frozen hb0 1; have hb0l := blk_lt hb0
        go_wp2_with (go_at_call 16; go_must (refine Calls.mono (radd_calls A9 n9 c9 r0 (ofW r0 (xs.take k)) x _ wr (fun q hq => hq.2) HL.out HK9.out) ?_; rintro e w2 ⟨A4, n4, c4, rfl, hl4, hb4⟩; have HL4 := Hd.mk hl4; have HB4 := Hd.mk hb4; clear hl4 hb4))
        go_roundw
        case rel =>
          exact ⟨k + 1, n4, c4, A4, by omega, by go_num, rfl, ⟨below_seq HB.out HB4.out⟩, ⟨by
            rw [HT.out, ofW_snoc]
            exact HL4.out.mono fun q hq => by
              have := HB4.out.size; have := HB.out.size
              rcases hq with hq | hq
              · exact ⟨hq.1, by omega⟩
              · exact ⟨by omega, hq.2⟩⟩⟩
        case measure => simp [intOf]; omega
      · obtain rfl : k = n1 := by omega
        rw [← HN1.out, List.take_length] at HL
        obtain ⟨Y, hY⟩ : ∃ Y : World, Y = wr := ⟨_, rfl⟩
        subst hY
        have HY := Hd.mk HB.out
        have HLY := Hd.mk HL.out
        have hzY := HB.out.size
        clear HB HL
        go_wp2
        go_loopw [10, 51] (fun v i wr => ∃ (j n8 c8 : Nat) (A8 : Option Addr), j ≤ n2 ∧ i = .int .i64 j ∧ v = .slice A8 n8 c8 ∧ Hd (Below Y.heap.size Y wr) ∧ Hd (Lst wr (fun q => Y.heap.size ≤ q ∧ q < wr.heap.size) A8 n8 c8 (elemsI (ofW r1 (ys.take j))))) (fun _ i _ => n2 - (intOf i).toNat)
        case atStart => exact ⟨0, 0, 0, none, Nat.zero_le _, rfl, rfl, ⟨Below.refl _ _⟩, ⟨by rw [List.take_zero, HE0.out r1 (by omega)]; exact ⟨Row.nil _ _ _ _, Nat.le_refl _, fun _ => rfl⟩⟩⟩
        case round =>
          obtain ⟨j, n8, c8, A8, hj, rfl, rfl, HB, HL⟩ := hrel
          by_cases hlt2 : j < n2
          · obtain ⟨b, off, x, rfl, _, hb, hx, hcell⟩ := (HC2.out.below HS.out (below_seq HBX.out (below_seq HY.out HB.out))).get_int j hlt2
            have HT : Hd (ys.take (j + 1) = ys.take j ++ [x]) := ⟨by rw [List.take_add_one, hx]; rfl⟩
            have hb0 := blk_below HX0.out (below_seq HY.out HB.out)
            have HK9 : Hd (Wok r1 (ofW r1 (ys.take j))) := ⟨ofW_ok (by omega) _⟩
            clear hx
            have hb0c0 := blk_cell hb0 0 _ rfl; have hb0f0 := blk_frozen hb0 0; have hb0c1 := blk_cell hb0 1 _ rfl; have hb0f1 := blk_frozen hb0 1; have hb0l := blk_lt hb0
            go_wp2_with (go_at_call 16; go_must (refine Calls.mono (radd_calls A8 n8 c8 r1 (ofW r1 (ys.take j)) x _ wr (fun q hq => hq.2) HL.out HK9.out) ?_; rintro e w2 ⟨A4, n4, c4, rfl, hl4, hb4⟩; have HL4 := Hd.mk hl4; have HB4 := Hd.mk hb4; clear hl4 hb4))
            go_roundw
            case rel =>
              exact ⟨j + 1, n4, c4, A4, by omega, by go_num, rfl, ⟨below_seq HB.out HB4.out⟩, ⟨by
                rw [HT.out, ofW_snoc]
                exact HL4.out.mono fun q hq => by
                  have := HB4.out.size; have := HB.out.size
                  rcases hq with hq | hq
                  · exact ⟨hq.1, by omega⟩
                  · exact ⟨by omega, hq.2⟩⟩⟩
            case measure => simp [intOf]; omega
          · obtain rfl : j = n2 := by omega
            rw [← HN2.out, List.take_length] at HL
            obtain ⟨Z, hZ⟩ : ∃ Z : World, Z = wr := ⟨_, rfl⟩
            subst hZ
            have HYZ := Hd.mk HB.out
            have HLZ := Hd.mk HL.out
            have HLYZ := Hd.mk (HLY.out.below (fun q hq => hq.2) HYZ.out)
            have HXZ := Hd.mk (below_seq HY.out HYZ.out)
            have hzZ := HYZ.out.size
            clear HB HL HLY
            obtain ⟨W1, hW1⟩ : ∃ W, ofW r0 xs = W := ⟨_, rfl⟩
            obtain ⟨W2, hW2⟩ : ∃ W, ofW r1 ys = W := ⟨_, rfl⟩
            rw [hW1] at HK0 HX1 HLYZ
            rw [hW2] at HK1 HX2 HLZ
            obtain ⟨same, hsame⟩ : ∃ same, decide (elemsI W1 = elemsI W2) = same := ⟨_, rfl⟩
            have HSM := Hd.mk hsame
            clear hW1 hW2 hsame
            go_upto_region 16 with (go_at_call 17; go_must (refine Calls.mono (same_calls A9 A8 n9 n8 c9 c8 (elemsI W1) (elemsI W2) same _ _ Z (fun q hq => by have := hq.2; omega) (fun q hq => hq.2) HLYZ.out.row HLZ.out.row HSM.out) ?_; rintro e w2 ⟨rfl, hb2⟩; have HB2 := Hd.mk hb2; clear hb2))
            have HX2' := Hd.mk (below_seq HXZ.out HB2.out)
            have hzw2 := HB2.out.size
            go_cut [86] (fun v wx => v = .bool false ∧ Hd (Below w2.heap.size w2 wx))
            case first =>
              have q7 := blk_below HX7.out HX2'.out
              have q8 := blk_below HX8.out HX2'.out
              have q0 := blk_below HX0.out HX2'.out
              have HA1 := Hd.mk (HX1.out.below HX2'.out); have HA2 := Hd.mk (HX2.out.below HX2'.out)
              have q7c0 := blk_cell q7 0 _ rfl; have q7f0 := blk_frozen q7 0; have q7c1 := blk_cell q7 1 _ rfl; have q7f1 := blk_frozen q7 1; have q7l := blk_lt q7
              have q8c0 := blk_cell q8 0 _ rfl; have q8f0 := blk_frozen q8 0; have q8c1 := blk_cell q8 1 _ rfl; have q8f1 := blk_frozen q8 1; have q8l := blk_lt q8
              have q0c0 := blk_cell q0 0 _ rfl; have q0f0 := blk_frozen q0 0; have q0c1 := blk_cell q0 1 _ rfl; have q0f1 := blk_frozen q0 1; have q0l := blk_lt q0
              clear q7 q8 q0
              cases same with
              | false =>
                have hss : (false != false) = false := rfl
                go_wp2
                refine wp_region_can (.q [0, 1, 3] (.e 2 false (.q [4, 5, 6, 7, 8, 9, 10, 11, 12, 13, 14, 15, 17] (.e 16 true (.e 18 false (.q [19, 20, 21] (.done))))))) (clsB _) (by kernel_rfl) (by kernel_rfl) (by intro _ _ d _ _ h; cases d <;> exact h) (clsB_drew _) ?_
                refine can_q (l := [⟨_,_,_,_,_,_⟩, ⟨_,_,_,_,_,_⟩, ⟨_,_,_,_,_,_⟩]) rfl ?_
                repeat (go_big_quiet_step (fail))
                refine wpQuiet_nil ?_
                refine can_e (o := ⟨_,_,_,_,_,_⟩) rfl (fun K hK => ?_)
                go_wp2_with (go_at_call 18; go_must (have h9 := setsame_calls (some ⟨g1, 0, none⟩) (some ⟨g2, 0, none⟩) K0 K1 g1 g2 r0 r1 W1 W2 w2.drew HK0.out.1 HK1.out.1 HA1.out HA2.out; rw [HK0.out.2, HK1.out.2, HSM.out] at h9; refine Calls.mono h9 ?_; clear h9; rintro e w3 ⟨rfl, hb3⟩; replace hb3 := below_undrew hb3; have HB3 := Hd.mk hb3; clear hb3))
                refine onK_normal (hK _ _ ⟨clsB _, clsB_of (by first | exact (HB3.out) | exact below_undrew (HB3.out)), fun _ _ h => h, ?_⟩)
                clear hK K
                refine can_q (l := [⟨_,_,_,_,_,_⟩, ⟨_,_,_,_,_,_⟩, ⟨_,_,_,_,_,_⟩, ⟨_,_,_,_,_,_⟩, ⟨_,_,_,_,_,_⟩, ⟨_,_,_,_,_,_⟩, ⟨_,_,_,_,_,_⟩, ⟨_,_,_,_,_,_⟩, ⟨_,_,_,_,_,_⟩, ⟨_,_,_,_,_,_⟩, ⟨_,_,_,_,_,_⟩, ⟨_,_,_,_,_,_⟩, ⟨_,_,_,_,_,_⟩]) rfl ?_
                repeat (go_big_quiet_step (fail))
                refine wpQuiet_nil ?_
                refine can_e (o := ⟨_,_,_,_,_,_⟩) rfl (fun K hK => ?_)
                go_wp2_with fail
                refine onK_normal (hK _ _ ⟨clsB _, clsB_of (by first | exact (HB3.out) | exact below_undrew (HB3.out)), fun _ _ h => h, ?_⟩)
                clear hK K
                refine can_e (o := ⟨_,_,_,_,_,_⟩) rfl (fun K hK => ?_)
                go_wp2_with fail
                refine onK_normal (hK _ _ ⟨fun _ => True, trivial, (fun h => by cases h), ?_⟩)
                clear hK K
                refine can_q (l := [⟨_,_,_,_,_,_⟩, ⟨_,_,_,_,_,_⟩, ⟨_,_,_,_,_,_⟩]) rfl ?_
                repeat (go_big_quiet_step (fail))
                refine wpQuiet_nil ?_
                refine can_done ?_
                go_wp2
                go_meet
                case rel => exact ⟨rfl, HB3⟩
              | true =>
                have hss : (true != true) = false := rfl
                have hEQ : elemsI W1 = elemsI W2 := of_decide_eq_true HSM.out
                by_cases hrr : r0 = r1
                · have hre : ((r0 : Int) == (r1 : Int)) = true := by simp; omega
                  have hww : W1 = W2 := by
                    have h1 := (sameW_iff HK0.out.1 HK1.out.1).2 hEQ
                    have hl : W1.length = W2.length := by rw [HK0.out.1.len, HK1.out.1.len, hrr]
                    apply List.ext_getElem hl
                    intro i h2 h3
                    have := h1 i
                    rwa [List.getD_eq_getElem?_getD, List.getD_eq_getElem?_getD, List.getElem?_eq_getElem h2, List.getElem?_eq_getElem h3] at this
                  obtain ⟨hh, hhe⟩ : ∃ h, hashW W1 = h := ⟨_, rfl⟩
                  have hhs : ((hh : Int) != (hh : Int)) = false := by simp
                  have HH1 := Hd.mk hhe; have HH2 : Hd (hashW W2 = hh) := ⟨by rw [← hww]; exact hhe⟩
                  clear hww hhe hEQ hrr
                  go_wp2
                  refine wp_region_can (.q [0, 1, 3] (.e 2 false (.q [4, 5, 6, 7, 8, 9, 10, 11, 12, 13, 14, 15, 17] (.e 16 true (.e 18 false (.q [19, 20, 21] (.done))))))) (clsB _) (by kernel_rfl) (by kernel_rfl) (by intro _ _ d _ _ h; cases d <;> exact h) (clsB_drew _) ?_
                  refine can_q (l := [⟨_,_,_,_,_,_⟩, ⟨_,_,_,_,_,_⟩, ⟨_,_,_,_,_,_⟩]) rfl ?_
                  repeat (go_big_quiet_step (fail))
                  refine wpQuiet_nil ?_
                  refine can_e (o := ⟨_,_,_,_,_,_⟩) rfl (fun K hK => ?_)
                  go_wp2_with (go_at_call 18; go_must (have h9 := setsame_calls (some ⟨g1, 0, none⟩) (some ⟨g2, 0, none⟩) K0 K1 g1 g2 r0 r1 W1 W2 w2.drew HK0.out.1 HK1.out.1 HA1.out HA2.out; rw [HK0.out.2, HK1.out.2, HSM.out] at h9; refine Calls.mono h9 ?_; clear h9; rintro e w3 ⟨rfl, hb3⟩; replace hb3 := below_undrew hb3; have HB3 := Hd.mk hb3; clear hb3))
                  refine onK_normal (hK _ _ ⟨clsB _, clsB_of (by first | exact (HB3.out) | exact below_undrew (HB3.out)), fun _ _ h => h, ?_⟩)
                  clear hK K
                  refine can_q (l := [⟨_,_,_,_,_,_⟩, ⟨_,_,_,_,_,_⟩, ⟨_,_,_,_,_,_⟩, ⟨_,_,_,_,_,_⟩, ⟨_,_,_,_,_,_⟩, ⟨_,_,_,_,_,_⟩, ⟨_,_,_,_,_,_⟩, ⟨_,_,_,_,_,_⟩, ⟨_,_,_,_,_,_⟩, ⟨_,_,_,_,_,_⟩, ⟨_,_,_,_,_,_⟩, ⟨_,_,_,_,_,_⟩, ⟨_,_,_,_,_,_⟩]) rfl ?_
                  repeat (go_big_quiet_step (fail))
                  refine wpQuiet_nil ?_
                  refine can_e (o := ⟨_,_,_,_,_,_⟩) rfl (fun K hK => ?_)
                  go_wp2_with (go_at_call 19; go_must (have h9 := hash_calls (some ⟨g1, 0, none⟩) K0 g1 r0 W1 w3 HK0.out.1 (HA1.out.below HB3.out); rw [HK0.out.2, HH1.out] at h9; refine Calls.mono h9 ?_; clear h9; rintro e w4 ⟨rfl, hb4⟩; have HB4 := Hd.mk (below_seq HB3.out hb4); clear hb4))
                  refine onK_normal (hK _ _ ⟨clsB _, clsB_of (by first | exact (HB4.out) | exact below_undrew (HB4.out)), fun _ _ h => h, ?_⟩)
                  clear hK K
                  refine can_e (o := ⟨_,_,_,_,_,_⟩) rfl (fun K hK => ?_)
                  go_wp2_with (go_at_call 19; go_must (have h9 := hash_calls (some ⟨g2, 0, none⟩) K1 g2 r1 W2 w4 HK1.out.1 (HA2.out.below HB4.out); rw [HK1.out.2, HH2.out] at h9; refine Calls.mono h9 ?_; clear h9; rintro e w5 ⟨rfl, hb5⟩; have HB5 := Hd.mk (below_seq HB4.out hb5); clear hb5))
                  refine onK_normal (hK _ _ ⟨fun _ => True, trivial, (fun h => by cases h), ?_⟩)
                  clear hK K
                  refine can_q (l := [⟨_,_,_,_,_,_⟩, ⟨_,_,_,_,_,_⟩, ⟨_,_,_,_,_,_⟩]) rfl ?_
                  repeat (go_big_quiet_step (fail))
                  refine wpQuiet_nil ?_
                  refine can_done ?_
                  go_wp2
                  go_meet
                  case rel => exact ⟨rfl, HB5⟩
                · have hre : ((r0 : Int) == (r1 : Int)) = false := by simp; omega
                  clear hEQ hrr
                  go_wp2
                  refine wp_region_can (.q [0, 1, 3] (.e 2 false (.q [4, 5, 6, 7, 8, 9, 10, 11, 12, 13, 14, 15, 17] (.e 16 true (.e 18 false (.q [19, 20, 21] (.done))))))) (clsB _) (by kernel_rfl) (by kernel_rfl) (by intro _ _ d _ _ h; cases d <;> exact h) (clsB_drew _) ?_
                  refine can_q (l := [⟨_,_,_,_,_,_⟩, ⟨_,_,_,_,_,_⟩, ⟨_,_,_,_,_,_⟩]) rfl ?_
                  repeat (go_big_quiet_step (fail))
                  refine wpQuiet_nil ?_
                  refine can_e (o := ⟨_,_,_,_,_,_⟩) rfl (fun K hK => ?_)
                  go_wp2_with (go_at_call 18; go_must (have h9 := setsame_calls (some ⟨g1, 0, none⟩) (some ⟨g2, 0, none⟩) K0 K1 g1 g2 r0 r1 W1 W2 w2.drew HK0.out.1 HK1.out.1 HA1.out HA2.out; rw [HK0.out.2, HK1.out.2, HSM.out] at h9; refine Calls.mono h9 ?_; clear h9; rintro e w3 ⟨rfl, hb3⟩; replace hb3 := below_undrew hb3; have HB3 := Hd.mk hb3; clear hb3))
                  refine onK_normal (hK _ _ ⟨clsB _, clsB_of (by first | exact (HB3.out) | exact below_undrew (HB3.out)), fun _ _ h => h, ?_⟩)
                  clear hK K
                  refine can_q (l := [⟨_,_,_,_,_,_⟩, ⟨_,_,_,_,_,_⟩, ⟨_,_,_,_,_,_⟩, ⟨_,_,_,_,_,_⟩, ⟨_,_,_,_,_,_⟩, ⟨_,_,_,_,_,_⟩, ⟨_,_,_,_,_,_⟩, ⟨_,_,_,_,_,_⟩, ⟨_,_,_,_,_,_⟩, ⟨_,_,_,_,_,_⟩, ⟨_,_,_,_,_,_⟩, ⟨_,_,_,_,_,_⟩, ⟨_,_,_,_,_,_⟩]) rfl ?_
                  repeat (go_big_quiet_step (fail))
                  refine wpQuiet_nil ?_
                  refine can_e (o := ⟨_,_,_,_,_,_⟩) rfl (fun K hK => ?_)
                  go_wp2_with fail
                  refine onK_normal (hK _ _ ⟨clsB _, clsB_of (by first | exact (HB3.out) | exact below_undrew (HB3.out)), fun _ _ h => h, ?_⟩)
                  clear hK K
                  refine can_e (o := ⟨_,_,_,_,_,_⟩) rfl (fun K hK => ?_)
                  go_wp2_with fail
                  refine onK_normal (hK _ _ ⟨fun _ => True, trivial, (fun h => by cases h), ?_⟩)
                  clear hK K
                  refine can_q (l := [⟨_,_,_,_,_,_⟩, ⟨_,_,_,_,_,_⟩, ⟨_,_,_,_,_,_⟩]) rfl ?_
                  repeat (go_big_quiet_step (fail))
                  refine wpQuiet_nil ?_
                  refine can_done ?_
                  go_wp2
                  go_meet
                  case rel => exact ⟨rfl, HB3⟩
            case rest =>
              obtain ⟨rfl, HBC⟩ := hcut
              have HXM := Hd.mk (below_seq HX2'.out HBC.out)
              have q7 := blk_below HX7.out HXM.out
              have HA1 := Hd.mk (HX1.out.below HXM.out)
              have HLM := Hd.mk (HLYZ.out.below (fun q hq => by have := hq.2; omega) (below_seq HB2.out HBC.out))
              have q7c0 := blk_cell q7 0 _ rfl; have q7f0 := blk_frozen q7 0; have q7c1 := blk_cell q7 1 _ rfl; have q7f1 := blk_frozen q7 1; have q7l := blk_lt q7
              go_wp2_with (go_at_call 20; go_must (have h9 := copy_calls (some ⟨g1, 0, none⟩) K0 g1 r0 W1 wc HK0.out.1 HA1.out; rw [HK0.out.2] at h9; refine Calls.mono h9 ?_; clear h9; rintro e w3 ⟨g3, rfl, hg3, hgl3, hw3, hb3⟩; have HW3 := Hd.mk hw3; have HB3 := Hd.mk hb3; have HG3 := Hd.mk (And.intro hg3 hgl3); clear hw3 hb3 hg3 hgl3))
              generalize hV3 : World.alloc w3 _ = V3
              have hv16 : V3.heap[w3.heap.size]? = some (.cells #[.slice (some ⟨g3, 0, none⟩) K0 K0, .int .i64 r0] 28 (0, 0)) := by rw [← hV3]; exact blk_new _ _ _ rfl
              have HBV3 : Hd (Below wc.heap.size wc V3) := ⟨by rw [← hV3]; exact below_alloc HB3.out _⟩
              have HZ3 : Hd (Wd V3 (some ⟨g3, 0, none⟩) g3 W1) := ⟨by rw [← hV3]; exact HW3.out.below (below_alloc (Below.refl _ _) _)⟩
              have hg3a := HG3.out.1
              have hg3b := HG3.out.2
              have HX3 := Hd.mk (HA1.out.below HBV3.out)
              have HL3 := Hd.mk (HLM.out.below (fun q hq => by have := hq.2; have := HBC.out.size; omega) HBV3.out)
              have HXV3 := Hd.mk (below_seq HXM.out HBV3.out)
              have q73 := blk_below q7 HBV3.out
              have hzc := HBC.out.size
              have hzVV := HBV3.out.size
              have hYc : Y.heap.size ≤ wc.heap.size := by omega
              have hp7c : p7 < wc.heap.size := Nat.lt_of_lt_of_le (blk_lt HX7.out) HXM.out.size
              have hg1c : g1 < wc.heap.size := Nat.lt_of_lt_of_le hg1X HXM.out.size
              have hwc : w.heap.size < wc.heap.size := Nat.lt_of_lt_of_le hwX HXM.out.size
              clear hzc hzY hzZ hzw2 hwX hg1X hg2X hzV t1 t2 t7 t8 d78 d71 d72 d81 d82 V0l
              clear hV3
              generalize w3.heap.size = p16 at *
              clear q7c0 q7f0 q7c1 q7f1 q7l
              have HQ7 := Hd.mk q73; have HQ16 := Hd.mk hv16
              have q7l3 := blk_lt q73
              have hv16l3 := blk_lt hv16
              have q73c0 := blk_cell q73 0 _ rfl; have q73f0 := blk_frozen q73 0; have q73c1 := blk_cell q73 1 _ rfl; have q73f1 := blk_frozen q73 1; have q73l := blk_lt q73
              have hv16c0 := blk_cell hv16 0 _ rfl; have hv16f0 := blk_frozen hv16 0; have hv16c1 := blk_cell hv16 1 _ rfl; have hv16f1 := blk_frozen hv16 1; have hv16l := blk_lt hv16
              obtain ⟨hh, hhe⟩ : ∃ h, hashW W1 = h := ⟨_, rfl⟩
              have hhs : ((hh : Int) != (hh : Int)) = false := by simp
              have HHE := Hd.mk hhe
              clear hhe
              go_wp2
              refine wp_region_can (.q [0, 1] (.e 2 false (.q [3, 4, 5, 7] (.e 6 true (.e 8 false (.q [9, 10] (.done))))))) (clsB _) (by kernel_rfl) (by kernel_rfl) (by intro _ _ d _ _ h; cases d <;> exact h) (clsB_drew _) ?_
              refine can_q (l := [⟨_,_,_,_,_,_⟩, ⟨_,_,_,_,_,_⟩]) rfl ?_
              repeat (go_big_quiet_step (fail))
              refine wpQuiet_nil ?_
              refine can_e (o := ⟨_,_,_,_,_,_⟩) rfl (fun K hK => ?_)
              go_wp2_with (go_at_call 18; go_must (have h9 := setsame_calls (some ⟨g3, 0, none⟩) (some ⟨g1, 0, none⟩) K0 K0 g3 g1 r0 r0 W1 W1 V3.drew HK0.out.1 HK0.out.1 HZ3.out HX3.out; rw [HK0.out.2, decide_eq_true rfl] at h9; refine Calls.mono h9 ?_; clear h9; rintro e w4 ⟨rfl, hb4⟩; replace hb4 := below_undrew hb4; have HB4 := Hd.mk hb4; clear hb4))
              refine onK_normal (hK _ _ ⟨clsB _, clsB_of (by first | exact (HB4.out) | exact below_undrew (HB4.out)), fun _ _ h => h, ?_⟩)
              clear hK K
              refine can_q (l := [⟨_,_,_,_,_,_⟩, ⟨_,_,_,_,_,_⟩, ⟨_,_,_,_,_,_⟩, ⟨_,_,_,_,_,_⟩]) rfl ?_
              repeat (go_big_quiet_step (fail))
              refine wpQuiet_nil ?_
              refine can_e (o := ⟨_,_,_,_,_,_⟩) rfl (fun K hK => ?_)
              go_wp2_with (go_at_call 19; go_must (have h9 := hash_calls (some ⟨g3, 0, none⟩) K0 g3 r0 W1 w4 HK0.out.1 (HZ3.out.below HB4.out); rw [HK0.out.2, HHE.out] at h9; refine Calls.mono h9 ?_; clear h9; rintro e w5 ⟨rfl, hb5⟩; have HB5 := Hd.mk (below_seq HB4.out hb5); clear hb5))
              refine onK_normal (hK _ _ ⟨clsB _, clsB_of (by first | exact (HB5.out) | exact below_undrew (HB5.out)), fun _ _ h => h, ?_⟩)
              clear hK K
              refine can_e (o := ⟨_,_,_,_,_,_⟩) rfl (fun K hK => ?_)
              go_wp2_with (go_at_call 19; go_must (have h9 := hash_calls (some ⟨g1, 0, none⟩) K0 g1 r0 W1 w5 HK0.out.1 (HX3.out.below HB5.out); rw [HK0.out.2, HHE.out] at h9; refine Calls.mono h9 ?_; clear h9; rintro e w6 ⟨rfl, hb6⟩; have HB6 := Hd.mk (below_seq HB5.out hb6); clear hb6))
              refine onK_normal (hK _ _ ⟨fun _ => True, trivial, (fun h => by cases h), ?_⟩)
              clear hK K
              refine can_q (l := [⟨_,_,_,_,_,_⟩, ⟨_,_,_,_,_,_⟩]) rfl ?_
              repeat (go_big_quiet_step (fail))
              refine wpQuiet_nil ?_
              refine can_done ?_
              clear q73c0 q73f0 q73c1 q73f1 q73l
              clear hv16c0 hv16f0 hv16c1 hv16f1 hv16l
              have q76 := blk_below HQ7.out HB6.out
              have q166 := blk_below HQ16.out HB6.out
              have q76c0 := blk_cell q76 0 _ rfl; have q76f0 := blk_frozen q76 0; have q76c1 := blk_cell q76 1 _ rfl; have q76f1 := blk_frozen q76 1; have q76l := blk_lt q76
              have q166c0 := blk_cell q166 0 _ rfl; have q166f0 := blk_frozen q166 0; have q166c1 := blk_cell q166 1 _ rfl; have q166f1 := blk_frozen q166 1; have q166l := blk_lt q166
              have hz6 := HB6.out.size
              go_wp2_with (first
                | (go_at_call 14; go_must (have hq_ := HB9; clear hq_; refine Calls.mono (alive_calls _ (TAB.out HB10.out) (Nat.lt_of_lt_of_le H0.out HB10.out.size)) ?_; rintro e w11 ⟨rfl, hb11⟩; have HB11 := Hd.mk (below_seq HB10.out hb11); clear hb11))
                | (go_at_call 17; have hq_ := HR9; clear hq_; go_must (refine Calls.mono (same_calls A3 A9 n3 n9 c3 c9 (elemsI W1) (elemsI W1) true _ _ w9 (fun q hq => hq.2) (fun q hq => by have := hq.2; have := HB9.out.size; omega) HR9.out HLW9.out.row (decide_eq_true rfl)) ?_; rintro e w10 ⟨rfl, hb10⟩; have HB10 := Hd.mk (below_seq HBW9.out hb10); clear hb10))
                | (go_at_call 23; have hq_ := HFB; clear hq_; go_must (have h9 := all_calls (some ⟨g1, 0, none⟩) K0 g1 r0 W1 w8 HK0.out.1 HXW8.out hg1w8 (TAB.out HBW8.out) (by omega); rw [HK0.out.2] at h9; refine Calls.mono h9 ?_; clear h9; rintro e w9 ⟨A3, n3, c3, rfl, hr9, hb9⟩; have HR9 : Hd (Row I w9 (fun q => w8.heap.size ≤ q ∧ q < w9.heap.size) A3 n3 (elemsI W1)) := ⟨hr9⟩; have HB9 := Hd.mk hb9; have HBW9 := Hd.mk (below_seq HBW8.out hb9); have HLW9 := Hd.mk (HLW8.out.below (fun q hq => by have := hq.2; omega) hb9); clear hr9 hb9))
                | (go_at_call 22; have hq_ := HFA; clear hq_; go_must (have h9 := less_calls (some ⟨g3, 0, none⟩) K0 g3 r0 0 (addW r0 W1 7) w7 (HK0.out.1.add 7) HWA.out; rw [addW_len, HK0.out.2] at h9; refine Calls.mono h9 ?_; clear h9; rintro e w8 ⟨rfl, hf8, -⟩; have HFB := Hd.mk (HFA.out.trans (hf8.mono (Y := fun k => k = g3) (fun _ h => h.1))); have hz8 := hf8.size; have q78 := HFB.out.blk q76 (by show ¬ p7 = g3; omega); have HBW8 : Hd (Below w.heap.size w w8) := ⟨(below_seq HBX.out (below_seq HXV3.out HB6.out)).trans (HFB.out.below (by omega) (fun b hb h => by have h' : b = g3 := h; omega))⟩; have HXW8 : Hd (Wd w8 (some ⟨g1, 0, none⟩) g1 W1) := ⟨(HX3.out.below HB6.out).fr HFB.out (by show ¬ g1 = g3; omega)⟩; have HLW8 := Hd.mk ((HL3.out.below (fun q hq => by have := hq.2; omega) HB6.out).fr HFB.out (fun q hq => ⟨by have := hq.2; omega, by show ¬ q = g3; have := hq.2; omega⟩)); have hYw8 : Y.heap.size ≤ w8.heap.size := (by omega); have hw8 : w.heap.size < w8.heap.size := (by omega); have hg1w8 : g1 < w8.heap.size := (by omega); clear q76c0 q76f0 q76c1 q76f1 q76l; have q78c0 := blk_cell q78 0 _ rfl; have q78f0 := blk_frozen q78 0; have q78c1 := blk_cell q78 1 _ rfl; have q78f1 := blk_frozen q78 1; have q78l := blk_lt q78; clear hf8))
                | (go_at_call 21; go_must (have h9 := add_calls (some ⟨g3, 0, none⟩) K0 g3 r0 7 W1 w6 HK0.out.1 (HZ3.out.below HB6.out); rw [HK0.out.2] at h9; refine Calls.mono h9 ?_; clear h9; rintro e w7 ⟨rfl, hf7, hw7⟩; have HFA := Hd.mk (hf7.mono (Y := fun k => k = g3) (fun _ h => h.1)); have HWA := Hd.mk hw7; have hz7 := hf7.size; have q167 := hf7.blk q166 (fun h => by have h' : p16 = g3 := h.1; omega); clear q166c0 q166f0 q166c1 q166f1 q166l; have q167c0 := blk_cell q167 0 _ rfl; have q167f0 := blk_frozen q167 0; have q167c1 := blk_cell q167 1 _ rfl; have q167f1 := blk_frozen q167 1; have q167l := blk_lt q167; clear hf7 hw7)))
              go_ret
              exact ⟨rfl, HB11.out⟩
end Go.Proofs.YtbmpaokicphdjaaDoor.Fn
