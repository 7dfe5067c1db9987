/- What Tokens, the law's spots, and Pure compute. -/
import Derived.Test.YtcejfnnimfpahaaS9
namespace Go.Proofs.Ytcejfnnimfpahaa.Fn
open Go Go.RowKit Go.Proofs.Ytcejfnnimfpahaa.Can Go.Proofs.Ytcejfnnimfpahaa.Base
attribute [local go_sem] clsB AB.cell

theorem info29 : (Try.prog.info? 29).map (fun i => (i.zero, i.size, i.bytes)) = some (some (tokV tok0), 6, 48) := by kernel_rfl
theorem info27 : (Try.prog.info? 27).map (fun i => (i.zero, i.size, i.bytes)) = some (some (spotV ⟨0, 0⟩), 2, 16) := by kernel_rfl
set_option maxHeartbeats 1000000 in
theorem tokens_calls (A : Option Addr) (n c : Nat) (L : List E) (S : Nat → Prop) (w : World) (hS : ∀ k, S k → k < w.heap.size) (hC : Row eT w S A n L) (hn : n ≤ 1000000) :
    Calls Try.prog 6 #[.slice A n c] w fun e w' => ∃ A' c', e = .returned (.slice A' n c') ∧ Row tokT w' (fun k => w.heap.size ≤ k ∧ k < w'.heap.size) A' n (L.map (·.tok)) ∧ Below w.heap.size w w' := by
  have HL := Hd.mk hC.1
  have HC := Hd.mk hC; have HS := Hd.mk hS; clear hC hS
  go_enter Try.func6, Try.ntmps6
  go_wp2
  go_loopw [3, 8] (fun v i wr => ∃ (k : Nat), k ≤ n ∧ i = .int .i64 k ∧ Hd (Mine tokT wr w.heap.size 29 v ((L.take k).map (·.tok))) ∧ Hd (Below w.heap.size w wr)) (fun _ i _ => n - (intOf i).toNat)
  case atStart => exact ⟨0, Nat.zero_le _, rfl, ⟨Mine.nil _ _ _ _⟩, ⟨Below.refl _ _⟩⟩
  case round =>
    obtain ⟨k, hk, rfl, HM, HB⟩ := hrel
    obtain ⟨A2, z, c2, rfl, hz, hc2, hA2, hR2⟩ := HM.out.formN
    have hzk : z = k := by rw [hz, List.length_map, List.length_take, HL.out]; omega
    subst hzk
    have HR2 := Hd.mk hR2; have HZ := Hd.mk hz; clear hz hR2 hA2
    by_cases hlt : z < n
    · obtain ⟨b, off, e, rfl, hb1, hx, c0, c1, d0, d1, d2, d3, d4, d5⟩ := e_get (HC.out.below HS.out HB.out) z hlt
      have HT : Hd ((L.take (z + 1)).map (·.tok) = (L.take z).map (·.tok) ++ [e.tok]) := ⟨by rw [List.take_add_one, hx]; simp⟩
      clear hx
      go_wp2_with (at_builtin; go_must (refine append_snoc tokT tok_flat rfl (.tmp 12) (.tmp 15) 24 29 _ 48 rfl Try.underlying24 info29 rfl (by decide) (by decide) w.heap.size (.slice A2 z c2) ((L.take z).map (·.tok)) e.tok (tokE e.tok) (wr.heap.size + 1) rfl rfl (blk_new _ _ _ (by rw [size_alloc])) rfl (HM.out.below (by repeat (first | (with_reducible assumption) | (with_reducible exact Below.refl _ _) | (with_reducible apply below_drewL) | (with_reducible apply below_alloc) | (with_reducible apply below_drew1) | (with_reducible apply below_drewN) | (refine below_set ?_ (by first | omega | (simp only [size_alloc, size_drew, size_set]; omega)) _ _)))) (HM.out.ne_new (by omega)) (by simp only [size_alloc, size_drew]; have := HB.out.size; omega) (by rw [← HZ.out]; omega) ?_; intro v2 w2 hM2 hb2 hk2 hat2; replace hb2 := Hd.mk (Below.trans (below_alloc (below_alloc HB.out _) _) hb2); have HM2 := Hd.mk hM2; clear hM2 hk2 hat2))
      go_roundw
      case rel => exact ⟨z + 1, by omega, by go_num, ⟨by rw [HT.out]; exact HM2.out⟩, hb2⟩
      case measure => simp [intOf]; omega
    · obtain rfl : z = n := by omega
      have hL : L.take z = L := by rw [← HL.out, List.take_length]
      go_wp2
      go_ret
      exact ⟨A2, c2, rfl, by have := HR2.out; rwa [hL] at this, HB.out⟩
set_option maxHeartbeats 1000000 in
theorem spots_calls (A : Option Addr) (n c : Nat) (L : List E) (S : Nat → Prop) (w : World) (hS : ∀ k, S k → k < w.heap.size) (hC : Row eT w S A n L) (hn : n ≤ 1000000) :
    Calls Try.prog 15 #[.slice A n c] w fun e w' => ∃ A' c', e = .returned (.slice A' n c') ∧ Row spotT w' (fun k => w.heap.size ≤ k ∧ k < w'.heap.size) A' n (L.map (·.at_)) ∧ Below w.heap.size w w' := by
  have HL := Hd.mk hC.1
  have HC := Hd.mk hC; have HS := Hd.mk hS; clear hC hS
  go_enter Try.func15, Try.ntmps15
  go_wp2
  go_loopw [3, 8] (fun v i wr => ∃ (k : Nat), k ≤ n ∧ i = .int .i64 k ∧ Hd (Mine spotT wr w.heap.size 27 v ((L.take k).map (·.at_))) ∧ Hd (Below w.heap.size w wr)) (fun _ i _ => n - (intOf i).toNat)
  case atStart => exact ⟨0, Nat.zero_le _, rfl, ⟨Mine.nil _ _ _ _⟩, ⟨Below.refl _ _⟩⟩
  case round =>
    obtain ⟨k, hk, rfl, HM, HB⟩ := hrel
    obtain ⟨A2, z, c2, rfl, hz, hc2, hA2, hR2⟩ := HM.out.formN
    have hzk : z = k := by rw [hz, List.length_map, List.length_take, HL.out]; omega
    subst hzk
    have HR2 := Hd.mk hR2; have HZ := Hd.mk hz; clear hz hR2 hA2
    by_cases hlt : z < n
    · obtain ⟨b, off, e, rfl, hb1, hx, c0, c1, d0, d1, d2, d3, d4, d5⟩ := e_get (HC.out.below HS.out HB.out) z hlt
      have HT : Hd ((L.take (z + 1)).map (·.at_) = (L.take z).map (·.at_) ++ [e.at_]) := ⟨by rw [List.take_add_one, hx]; simp⟩
      clear hx
      go_wp2_with (at_builtin; go_must (refine append_snoc spotT spot_flat rfl (.tmp 12) (.tmp 15) 40 27 _ 16 rfl Try.underlying40 info27 rfl (by decide) (by decide) w.heap.size (.slice A2 z c2) ((L.take z).map (·.at_)) e.at_ (spotE e.at_) (wr.heap.size + 1) rfl rfl (blk_new _ _ _ (by rw [size_alloc])) rfl (HM.out.below (by repeat (first | (with_reducible assumption) | (with_reducible exact Below.refl _ _) | (with_reducible apply below_drewL) | (with_reducible apply below_alloc) | (with_reducible apply below_drew1) | (with_reducible apply below_drewN) | (refine below_set ?_ (by first | omega | (simp only [size_alloc, size_drew, size_set]; omega)) _ _)))) (HM.out.ne_new (by omega)) (by simp only [size_alloc, size_drew]; have := HB.out.size; omega) (by rw [← HZ.out]; omega) ?_; intro v2 w2 hM2 hb2 hk2 hat2; replace hb2 := Hd.mk (Below.trans (below_alloc (below_alloc HB.out _) _) hb2); have HM2 := Hd.mk hM2; clear hM2 hk2 hat2))
      go_roundw
      case rel => exact ⟨z + 1, by omega, by go_num, ⟨by rw [HT.out]; exact HM2.out⟩, hb2⟩
      case measure => simp [intOf]; omega
    · obtain rfl : z = n := by omega
      have hL : L.take z = L := by rw [← HL.out, List.take_length]
      go_wp2
      go_ret
      exact ⟨A2, c2, rfl, by have := HR2.out; rwa [hL] at this, HB.out⟩
/-- No mode was set. -/
def pureL (l : List Ev) : Bool := l.all fun v => !(goodB v && v.op == 9)
theorem pure_upto {l : List Ev} {k : Nat} {v : Ev} (hx : l[k]? = some v) (h : (goodB v && v.op == 9) = true) : pureL l = false := by
  unfold pureL
  rw [List.all_eq_false]
  exact ⟨v, List.mem_of_getElem? hx, by simp [h]⟩
theorem pure_step {l : List Ev} {k : Nat} {v : Ev} (hx : l[k]? = some v) (hp : pureL (l.take k) = true) (h : (goodB v && v.op == 9) = false) : pureL (l.take (k + 1)) = true := by
  unfold pureL at *
  rw [List.take_add_one, hx, List.all_append, hp]
  simp only [Option.toList_some, List.all_cons, List.all_nil, h]
  rfl
theorem pure_calls (A : Option Addr) (n c : Nat) (L : List Ev) (S : Nat → Prop) (w : World) (hS : ∀ k, S k → k < w.heap.size) (hC : Row evT w S A n L) :
    Calls Try.prog 18 #[.slice A n c] w fun e w' => e = .returned (.bool (pureL L)) ∧ Below w.heap.size w w' := by
  have hn := hC.le
  have HL := Hd.mk hC.1
  obtain ⟨bb, hbb⟩ : ∃ bb, pureL L = bb := ⟨_, rfl⟩
  rw [hbb]
  have HBB := Hd.mk hbb
  have HC := Hd.mk hC; have HS := Hd.mk hS; clear hC hS hbb
  go_enter Try.func18, Try.ntmps18
  go_wp2
  go_loopw [7] (fun i wr => ∃ (k : Nat), k ≤ n ∧ i = .int .i64 k ∧ Hd (pureL (L.take k) = true) ∧ Hd (Below w.heap.size w wr)) (fun i _ => n - (intOf i).toNat)
  case atStart => exact ⟨0, Nat.zero_le _, rfl, ⟨rfl⟩, ⟨Below.refl _ _⟩⟩
  case round =>
    obtain ⟨k, hk, rfl, HP, HB⟩ := hrel
    by_cases hlt : k < n
    · obtain ⟨a, off, v, rfl, ha, hx, c0, c1, c2, c3, c4, c5, c6, c7, c8, c9, c10, c11, c12, c13⟩ := ev_get (HC.out.below HS.out HB.out) k hlt
      have HX := Hd.mk hx; clear hx
      cases hg : goodB v with
      | false =>
        have HG := Hd.mk hg; clear hg
        have HP2 := Hd.mk (pure_step HX.out HP.out (by rw [HG.out]; rfl))
        go_wp2_with (go_at_call 27; go_must (refine Calls.mono (good_calls v _) ?_; rintro e w2 ⟨he, hb2⟩; rw [HG.out] at he; subst he))
        go_roundw
        case rel => exact ⟨k + 1, by omega, by go_num, HP2, ⟨below_seq HB.out (below_seq (below_alloc (Below.refl _ _) _) hb2)⟩⟩
        case measure => simp [intOf]; omega
      | true =>
        have HG := Hd.mk hg; clear hg
        by_cases h9 : v.op = 9
        · have h9J : (v.op == 9) = true := by simpa using h9
          obtain rfl : bb = false := by rw [← HBB.out]; exact pure_upto HX.out (by rw [HG.out, h9J]; rfl)
          clear h9
          go_wp2_with (go_at_call 27; go_must (refine Calls.mono (good_calls v _) ?_; rintro e w2 ⟨he, hb2⟩; rw [HG.out] at he; subst he; have hv2 := blk_below (blk_new _ _ _ rfl) hb2; have hv2c0 := blk_cell hv2 0 _ rfl; have hv2f0 := blk_frozen hv2 0; have hv2c1 := blk_cell hv2 1 _ rfl; have hv2f1 := blk_frozen hv2 1; have hv2c2 := blk_cell hv2 2 _ rfl; have hv2f2 := blk_frozen hv2 2; have hv2c3 := blk_cell hv2 3 _ rfl; have hv2f3 := blk_frozen hv2 3; have hv2c4 := blk_cell hv2 4 _ rfl; have hv2f4 := blk_frozen hv2 4; have hv2c5 := blk_cell hv2 5 _ rfl; have hv2f5 := blk_frozen hv2 5; have hv2c6 := blk_cell hv2 6 _ rfl; have hv2f6 := blk_frozen hv2 6; have hv2c7 := blk_cell hv2 7 _ rfl; have hv2f7 := blk_frozen hv2 7; have hv2c8 := blk_cell hv2 8 _ rfl; have hv2f8 := blk_frozen hv2 8; have hv2c9 := blk_cell hv2 9 _ rfl; have hv2f9 := blk_frozen hv2 9; have hv2c10 := blk_cell hv2 10 _ rfl; have hv2f10 := blk_frozen hv2 10; have hv2c11 := blk_cell hv2 11 _ rfl; have hv2f11 := blk_frozen hv2 11; have hv2c12 := blk_cell hv2 12 _ rfl; have hv2f12 := blk_frozen hv2 12; have hv2c13 := blk_cell hv2 13 _ rfl; have hv2f13 := blk_frozen hv2 13; have hv2l := blk_lt hv2; clear hv2))
          go_ret
          exact ⟨rfl, below_seq HB.out (below_seq (below_alloc (Below.refl _ _) _) hb2)⟩
        · have h9J : (v.op == 9) = false := by simpa using h9
          have HP2 := Hd.mk (pure_step HX.out HP.out (by rw [HG.out, h9J]; rfl))
          clear h9
          go_wp2_with (go_at_call 27; go_must (refine Calls.mono (good_calls v _) ?_; rintro e w2 ⟨he, hb2⟩; rw [HG.out] at he; subst he; have hv2 := blk_below (blk_new _ _ _ rfl) hb2; have hv2c0 := blk_cell hv2 0 _ rfl; have hv2f0 := blk_frozen hv2 0; have hv2c1 := blk_cell hv2 1 _ rfl; have hv2f1 := blk_frozen hv2 1; have hv2c2 := blk_cell hv2 2 _ rfl; have hv2f2 := blk_frozen hv2 2; have hv2c3 := blk_cell hv2 3 _ rfl; have hv2f3 := blk_frozen hv2 3; have hv2c4 := blk_cell hv2 4 _ rfl; have hv2f4 := blk_frozen hv2 4; have hv2c5 := blk_cell hv2 5 _ rfl; have hv2f5 := blk_frozen hv2 5; have hv2c6 := blk_cell hv2 6 _ rfl; have hv2f6 := blk_frozen hv2 6; have hv2c7 := blk_cell hv2 7 _ rfl; have hv2f7 := blk_frozen hv2 7; have hv2c8 := blk_cell hv2 8 _ rfl; have hv2f8 := blk_frozen hv2 8; have hv2c9 := blk_cell hv2 9 _ rfl; have hv2f9 := blk_frozen hv2 9; have hv2c10 := blk_cell hv2 10 _ rfl; have hv2f10 := blk_frozen hv2 10; have hv2c11 := blk_cell hv2 11 _ rfl; have hv2f11 := blk_frozen hv2 11; have hv2c12 := blk_cell hv2 12 _ rfl; have hv2f12 := blk_frozen hv2 12; have hv2c13 := blk_cell hv2 13 _ rfl; have hv2f13 := blk_frozen hv2 13; have hv2l := blk_lt hv2; clear hv2))
          go_roundw
          case rel => exact ⟨k + 1, by omega, by go_num, HP2, ⟨below_seq HB.out (below_seq (below_alloc (Below.refl _ _) _) hb2)⟩⟩
          case measure => simp [intOf]; omega
    · obtain rfl : k = n := by omega
      obtain rfl : bb = true := by rw [← HBB.out]; have := HP.out; rwa [← HL.out, List.take_length] at this
      go_wp2
      go_ret
      exact ⟨rfl, HB.out⟩
end Go.Proofs.Ytcejfnnimfpahaa.Fn
