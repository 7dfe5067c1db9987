/- Texts: V10, V11, V12, V13. -/
import Derived.Test.YtoambcpjdcehhaaGreatVB
import Derived.Test.YtoambcpjdcehhaaGreatStr
import Derived.Deep.DeepCutAuto
import Derived.Deep.CutBlock
import Derived.Laws.DeepStrings4
/- What Tokens, the law's spots, and Pure compute. -/
set_option linter.unusedVariables false
set_option linter.unusedSimpArgs false
namespace Go.Proofs.YtoambcpjdcehhaaGreat.Fn
open Go Go.RowKit Go.Proofs.YtoambcpjdcehhaaGreat.Can Go.Proofs.YtoambcpjdcehhaaGreat.Base
attribute [local go_sem] clsB AB.cell

theorem info29 : (Tryz.prog.info? 43).map (fun i => (i.zero, i.size, i.bytes)) = some (some (tokV tok0), 6, 48) := by kernel_rfl
theorem info27 : (Tryz.prog.info? 57).map (fun i => (i.zero, i.size, i.bytes)) = some (some (spotV ⟨0, 0⟩), 2, 16) := by kernel_rfl
set_option maxHeartbeats 1000000 in
theorem tokens_calls (A : Option Addr) (n c : Nat) (L : List E) (S : Nat → Prop) (w : World) (hS : ∀ k, S k → k < w.heap.size) (hC : Row eT w S A n L) (hn : n ≤ 1000000) :
    Calls Tryz.prog 34 #[.slice A n c] w fun e w' => ∃ A' c', e = .returned (.slice A' n c') ∧ Row tokT w' (fun k => w.heap.size ≤ k ∧ k < w'.heap.size) A' n (L.map (·.tok)) ∧ Below w.heap.size w w' := by
  have HL := Hd.mk hC.1
  have HC := Hd.mk hC; have HS := Hd.mk hS; clear hC hS
  go_enter Tryz.func34, Tryz.ntmps34
  go_wp2
  go_loopw [3, 8] (fun v i wr => ∃ (k : Nat), k ≤ n ∧ i = .int .i64 k ∧ Hd (Mine tokT wr w.heap.size 43 v ((L.take k).map (·.tok))) ∧ Hd (Below w.heap.size w wr)) (fun _ i _ => n - (intOf i).toNat)
  case atStart => exact ⟨0, Nat.zero_le _, rfl, ⟨Mine.nil _ _ _ _⟩, ⟨Below.refl _ _⟩⟩
  case round =>
    obtain ⟨k, hk, rfl, HM, HB⟩ := hrel
    obtain ⟨A2, z, c2, rfl, hz, hc2, hA2, hR2⟩ := HM.out.formN
    have hzk : z = k := by rw [hz, List.length_map, List.length_take, HL.out]; omega
    subst hzk
    have HR2 := Hd.mk hR2; have HZ := Hd.mk hz; clear hz hR2 hA2
    by_cases hlt : z < n
    · obtain ⟨b, off, e, rfl, hb1, hx, c0, c1, d0, d1, d2, d3, d4, d5⟩ := e_get (HC.out.below HS.out HB.out) z hlt
      have HT : Hd ((L.take (z + 1)).map (·.tok) = (L.take z).map (·.tok) ++ [e.tok]) := ⟨by rw [List.take_add_one, hx]; simp⟩
      clear hx
      go_wp2_with (at_builtin; go_must (refine append_snoc tokT tok_flat rfl (.tmp 12) (.tmp 15) 86 43 _ 48 rfl Tryz.underlying86 info29 rfl (by decide) (by decide) w.heap.size (.slice A2 z c2) ((L.take z).map (·.tok)) e.tok (tokE e.tok) (wr.heap.size + 1) rfl rfl (blk_new _ _ _ (by rw [size_alloc])) rfl (HM.out.below (by repeat (first | (with_reducible assumption) | (with_reducible exact Below.refl _ _) | (with_reducible apply below_drewL) | (with_reducible apply below_alloc) | (with_reducible apply below_drew1) | (with_reducible apply below_drewN) | (refine below_set ?_ (by first | omega | (simp only [size_alloc, size_drew, size_set]; omega)) _ _)))) (HM.out.ne_new (by omega)) (by simp only [size_alloc, size_drew]; have := HB.out.size; omega) (by rw [← HZ.out]; omega) ?_; intro v2 w2 hM2 hb2 hk2 hat2; replace hb2 := Hd.mk (Below.trans (below_alloc (below_alloc HB.out _) _) hb2); have HM2 := Hd.mk hM2; clear hM2 hk2 hat2))
      go_roundw
      case rel => exact ⟨z + 1, by omega, by go_num, ⟨by rw [HT.out]; exact HM2.out⟩, hb2⟩
      case measure => simp [intOf]; omega
    · obtain rfl : z = n := by omega
      have hL : L.take z = L := by rw [← HL.out, List.take_length]
      go_wp2
      go_ret
      exact ⟨A2, c2, rfl, by have := HR2.out; rwa [hL] at this, HB.out⟩
set_option maxHeartbeats 1000000 in
theorem spots_calls (A : Option Addr) (n c : Nat) (L : List E) (S : Nat → Prop) (w : World) (hS : ∀ k, S k → k < w.heap.size) (hC : Row eT w S A n L) (hn : n ≤ 1000000) :
    Calls Tryz.prog 31 #[.slice A n c] w fun e w' => ∃ A' c', e = .returned (.slice A' n c') ∧ Row spotT w' (fun k => w.heap.size ≤ k ∧ k < w'.heap.size) A' n (L.map (·.at_)) ∧ Below w.heap.size w w' := by
  have HL := Hd.mk hC.1
  have HC := Hd.mk hC; have HS := Hd.mk hS; clear hC hS
  go_enter Tryz.func31, Tryz.ntmps31
  go_wp2
  go_loopw [3, 8] (fun v i wr => ∃ (k : Nat), k ≤ n ∧ i = .int .i64 k ∧ Hd (Mine spotT wr w.heap.size 57 v ((L.take k).map (·.at_))) ∧ Hd (Below w.heap.size w wr)) (fun _ i _ => n - (intOf i).toNat)
  case atStart => exact ⟨0, Nat.zero_le _, rfl, ⟨Mine.nil _ _ _ _⟩, ⟨Below.refl _ _⟩⟩
  case round =>
    obtain ⟨k, hk, rfl, HM, HB⟩ := hrel
    obtain ⟨A2, z, c2, rfl, hz, hc2, hA2, hR2⟩ := HM.out.formN
    have hzk : z = k := by rw [hz, List.length_map, List.length_take, HL.out]; omega
    subst hzk
    have HR2 := Hd.mk hR2; have HZ := Hd.mk hz; clear hz hR2 hA2
    by_cases hlt : z < n
    · obtain ⟨b, off, e, rfl, hb1, hx, c0, c1, d0, d1, d2, d3, d4, d5⟩ := e_get (HC.out.below HS.out HB.out) z hlt
      have HT : Hd ((L.take (z + 1)).map (·.at_) = (L.take z).map (·.at_) ++ [e.at_]) := ⟨by rw [List.take_add_one, hx]; simp⟩
      clear hx
      go_wp2_with (at_builtin; go_must (refine append_snoc spotT spot_flat rfl (.tmp 12) (.tmp 15) 64 57 _ 16 rfl Tryz.underlying64 info27 rfl (by decide) (by decide) w.heap.size (.slice A2 z c2) ((L.take z).map (·.at_)) e.at_ (spotE e.at_) (wr.heap.size + 1) rfl rfl (blk_new _ _ _ (by rw [size_alloc])) rfl (HM.out.below (by repeat (first | (with_reducible assumption) | (with_reducible exact Below.refl _ _) | (with_reducible apply below_drewL) | (with_reducible apply below_alloc) | (with_reducible apply below_drew1) | (with_reducible apply below_drewN) | (refine below_set ?_ (by first | omega | (simp only [size_alloc, size_drew, size_set]; omega)) _ _)))) (HM.out.ne_new (by omega)) (by simp only [size_alloc, size_drew]; have := HB.out.size; omega) (by rw [← HZ.out]; omega) ?_; intro v2 w2 hM2 hb2 hk2 hat2; replace hb2 := Hd.mk (Below.trans (below_alloc (below_alloc HB.out _) _) hb2); have HM2 := Hd.mk hM2; clear hM2 hk2 hat2))
      go_roundw
      case rel => exact ⟨z + 1, by omega, by go_num, ⟨by rw [HT.out]; exact HM2.out⟩, hb2⟩
      case measure => simp [intOf]; omega
    · obtain rfl : z = n := by omega
      have hL : L.take z = L := by rw [← HL.out, List.take_length]
      go_wp2
      go_ret
      exact ⟨A2, c2, rfl, by have := HR2.out; rwa [hL] at this, HB.out⟩
/-- No mode was set. -/
def pureL (l : List Ev) : Bool := l.all fun v => !(goodB v && v.op == 9)
theorem pure_upto {l : List Ev} {k : Nat} {v : Ev} (hx : l[k]? = some v) (h : (goodB v && v.op == 9) = true) : pureL l = false := by
  unfold pureL
  rw [List.all_eq_false]
  exact ⟨v, List.mem_of_getElem? hx, by simp [h]⟩
theorem pure_step {l : List Ev} {k : Nat} {v : Ev} (hx : l[k]? = some v) (hp : pureL (l.take k) = true) (h : (goodB v && v.op == 9) = false) : pureL (l.take (k + 1)) = true := by
  unfold pureL at *
  rw [List.take_add_one, hx, List.all_append, hp]
  simp only [Option.toList_some, List.all_cons, List.all_nil, h]
  rfl
theorem pure_calls (A : Option Addr) (n c : Nat) (L : List Ev) (S : Nat → Prop) (w : World) (hS : ∀ k, S k → k < w.heap.size) (hC : Row evT w S A n L) :
    Calls Tryz.prog 17 #[.slice A n c] w fun e w' => e = .returned (.bool (pureL L)) ∧ Below w.heap.size w w' := by
  have hn := hC.le
  have HL := Hd.mk hC.1
  obtain ⟨bb, hbb⟩ : ∃ bb, pureL L = bb := ⟨_, rfl⟩
  rw [hbb]
  have HBB := Hd.mk hbb
  have HC := Hd.mk hC; have HS := Hd.mk hS; clear hC hS hbb
  go_enter Tryz.func17, Tryz.ntmps17
  go_wp2
  go_loopw [7] (fun i wr => ∃ (k : Nat), k ≤ n ∧ i = .int .i64 k ∧ Hd (pureL (L.take k) = true) ∧ Hd (Below w.heap.size w wr)) (fun i _ => n - (intOf i).toNat)
  case atStart => exact ⟨0, Nat.zero_le _, rfl, ⟨rfl⟩, ⟨Below.refl _ _⟩⟩
  case round =>
    obtain ⟨k, hk, rfl, HP, HB⟩ := hrel
    by_cases hlt : k < n
    · obtain ⟨a, off, v, rfl, ha, hx, c0, c1, c2, c3, c4, c5, c6, c7, c8, c9, c10, c11, c12, c13⟩ := ev_get (HC.out.below HS.out HB.out) k hlt
      have HX := Hd.mk hx; clear hx
      cases hg : goodB v with
      | false =>
        have HG := Hd.mk hg; clear hg
        have HP2 := Hd.mk (pure_step HX.out HP.out (by rw [HG.out]; rfl))
        go_wp2_with (go_at_call 41; go_must (refine Calls.mono (good_calls v _) ?_; rintro e w2 ⟨he, hb2⟩; rw [HG.out] at he; subst he))
        go_roundw
        case rel => exact ⟨k + 1, by omega, by go_num, HP2, ⟨below_seq HB.out (below_seq (below_alloc (Below.refl _ _) _) hb2)⟩⟩
        case measure => simp [intOf]; omega
      | true =>
        have HG := Hd.mk hg; clear hg
        by_cases h9 : v.op = 9
        · have h9J : (v.op == 9) = true := by simpa using h9
          obtain rfl : bb = false := by rw [← HBB.out]; exact pure_upto HX.out (by rw [HG.out, h9J]; rfl)
          clear h9
          go_wp2_with (go_at_call 41; go_must (refine Calls.mono (good_calls v _) ?_; rintro e w2 ⟨he, hb2⟩; rw [HG.out] at he; subst he; have hv2 := blk_below (blk_new _ _ _ rfl) hb2; have hv2c0 := blk_cell hv2 0 _ rfl; have hv2f0 := blk_frozen hv2 0; have hv2c1 := blk_cell hv2 1 _ rfl; have hv2f1 := blk_frozen hv2 1; have hv2c2 := blk_cell hv2 2 _ rfl; have hv2f2 := blk_frozen hv2 2; have hv2c3 := blk_cell hv2 3 _ rfl; have hv2f3 := blk_frozen hv2 3; have hv2c4 := blk_cell hv2 4 _ rfl; have hv2f4 := blk_frozen hv2 4; have hv2c5 := blk_cell hv2 5 _ rfl; have hv2f5 := blk_frozen hv2 5; have hv2c6 := blk_cell hv2 6 _ rfl; have hv2f6 := blk_frozen hv2 6; have hv2c7 := blk_cell hv2 7 _ rfl; have hv2f7 := blk_frozen hv2 7; have hv2c8 := blk_cell hv2 8 _ rfl; have hv2f8 := blk_frozen hv2 8; have hv2c9 := blk_cell hv2 9 _ rfl; have hv2f9 := blk_frozen hv2 9; have hv2c10 := blk_cell hv2 10 _ rfl; have hv2f10 := blk_frozen hv2 10; have hv2c11 := blk_cell hv2 11 _ rfl; have hv2f11 := blk_frozen hv2 11; have hv2c12 := blk_cell hv2 12 _ rfl; have hv2f12 := blk_frozen hv2 12; have hv2c13 := blk_cell hv2 13 _ rfl; have hv2f13 := blk_frozen hv2 13; have hv2l := blk_lt hv2; clear hv2))
          go_ret
          exact ⟨rfl, below_seq HB.out (below_seq (below_alloc (Below.refl _ _) _) hb2)⟩
        · have h9J : (v.op == 9) = false := by simpa using h9
          have HP2 := Hd.mk (pure_step HX.out HP.out (by rw [HG.out, h9J]; rfl))
          clear h9
          go_wp2_with (go_at_call 41; go_must (refine Calls.mono (good_calls v _) ?_; rintro e w2 ⟨he, hb2⟩; rw [HG.out] at he; subst he; have hv2 := blk_below (blk_new _ _ _ rfl) hb2; have hv2c0 := blk_cell hv2 0 _ rfl; have hv2f0 := blk_frozen hv2 0; have hv2c1 := blk_cell hv2 1 _ rfl; have hv2f1 := blk_frozen hv2 1; have hv2c2 := blk_cell hv2 2 _ rfl; have hv2f2 := blk_frozen hv2 2; have hv2c3 := blk_cell hv2 3 _ rfl; have hv2f3 := blk_frozen hv2 3; have hv2c4 := blk_cell hv2 4 _ rfl; have hv2f4 := blk_frozen hv2 4; have hv2c5 := blk_cell hv2 5 _ rfl; have hv2f5 := blk_frozen hv2 5; have hv2c6 := blk_cell hv2 6 _ rfl; have hv2f6 := blk_frozen hv2 6; have hv2c7 := blk_cell hv2 7 _ rfl; have hv2f7 := blk_frozen hv2 7; have hv2c8 := blk_cell hv2 8 _ rfl; have hv2f8 := blk_frozen hv2 8; have hv2c9 := blk_cell hv2 9 _ rfl; have hv2f9 := blk_frozen hv2 9; have hv2c10 := blk_cell hv2 10 _ rfl; have hv2f10 := blk_frozen hv2 10; have hv2c11 := blk_cell hv2 11 _ rfl; have hv2f11 := blk_frozen hv2 11; have hv2c12 := blk_cell hv2 12 _ rfl; have hv2f12 := blk_frozen hv2 12; have hv2c13 := blk_cell hv2 13 _ rfl; have hv2f13 := blk_frozen hv2 13; have hv2l := blk_lt hv2; clear hv2))
          go_roundw
          case rel => exact ⟨k + 1, by omega, by go_num, HP2, ⟨below_seq HB.out (below_seq (below_alloc (Below.refl _ _) _) hb2)⟩⟩
          case measure => simp [intOf]; omega
    · obtain rfl : k = n := by omega
      obtain rfl : bb = true := by rw [← HBB.out]; have := HP.out; rwa [← HL.out, List.take_length] at this
      go_wp2
      go_ret
      exact ⟨rfl, HB.out⟩
end Go.Proofs.YtoambcpjdcehhaaGreat.Fn

/- Whether takes are joined; pieces of texts. -/
set_option linter.unusedVariables false
set_option linter.unusedSimpArgs false
namespace Go.Proofs.YtoambcpjdcehhaaGreat.Fn
open Go Go.RowKit Go.Proofs.YtoambcpjdcehhaaGreat.Can Go.Proofs.YtoambcpjdcehhaaGreat.Base
attribute [local go_sem] clsB AB.cell

def badT (t : Tok) (at_ : Int) : Prop := ¬ t.f = at_ ∨ t.a < t.f ∨ t.t < t.a
instance (t : Tok) (at_ : Int) : Decidable (badT t at_) := by unfold badT; infer_instance
def joinF (dst : Int) : Int → List Tok → Bool
  | at_, [] => at_ == dst
  | at_, t :: l => if badT t at_ then false else joinF dst t.t l
theorem join_step {dst at_ : Int} {l : List Tok} {k : Nat} {t : Tok} (hx : l[k]? = some t) : joinF dst at_ (l.drop k) = if badT t at_ then false else joinF dst t.t (l.drop (k + 1)) := by
  obtain ⟨hlt, he⟩ := List.getElem?_eq_some_iff.1 hx
  rw [List.drop_eq_getElem_cons hlt, he]
  rfl
set_option maxHeartbeats 1000000 in
theorem joined_calls (A : Option Addr) (n c : Nat) (L : List E) (dst : Int) (S : Nat → Prop) (w : World) (hS : ∀ k, S k → k < w.heap.size) (hC : Row eT w S A n L) :
    Calls Tryz.prog 15 #[.slice A n c, .int .i64 dst] w fun e w' => e = .returned (.bool (joinF dst 0 (L.map (·.tok)))) ∧ Below w.heap.size w w' := by
  have hn := hC.le
  have HL := Hd.mk hC.1
  obtain ⟨bb, hbb⟩ : ∃ bb, joinF dst 0 (L.map (·.tok)) = bb := ⟨_, rfl⟩
  rw [hbb]
  have HBB := Hd.mk hbb
  have HC := Hd.mk hC; have HS := Hd.mk hS; clear hC hS hbb
  go_enter Tryz.func15, Tryz.ntmps15
  go_wp2
  go_loopw [5, 11] (fun x i wr => ∃ (k : Nat) (at_ : Int), k ≤ n ∧ i = .int .i64 k ∧ x = .int .i64 at_ ∧ Hd (joinF dst 0 (L.map (·.tok)) = joinF dst at_ ((L.map (·.tok)).drop k)) ∧ Hd (Below w.heap.size w wr)) (fun _ i _ => n - (intOf i).toNat)
  case atStart => exact ⟨0, 0, Nat.zero_le _, rfl, rfl, ⟨by rw [List.drop_zero]⟩, ⟨Below.refl _ _⟩⟩
  case round =>
    obtain ⟨k, at_, hk, rfl, rfl, HJ, HB⟩ := hrel
    by_cases hlt : k < n
    · obtain ⟨b, off, e, rfl, hb1, hx, c0, c1, d0, d1, d2, d3, d4, d5⟩ := e_get (HC.out.below HS.out HB.out) k hlt
      have HX : Hd ((L.map (·.tok))[k]? = some e.tok) := ⟨by simp [hx]⟩
      clear hx
      rcases Classical.em (¬ e.tok.f = at_) with a1 | a1
      · have aJ : (e.tok.f == at_) = false := by simpa using a1
        have aN : (e.tok.f != at_) = true := by simpa using a1
        have hbb2 : bb = false := by rw [← HBB.out, HJ.out, join_step HX.out, if_pos (by unfold badT; first | exact .inl a1 | exact .inr (.inl a2) | exact .inr (.inr a3))]
        subst hbb2
        go_wp2
        go_ret
        exact ⟨rfl, by have := HB.out; exact (by repeat (first | (with_reducible assumption) | (with_reducible exact Below.refl _ _) | (with_reducible apply below_drewL) | (with_reducible apply below_alloc) | (with_reducible apply below_drew1) | (with_reducible apply below_drewN) | (refine below_set ?_ (by first | omega | (simp only [size_alloc, size_drew, size_set]; omega)) _ _)))⟩
      have aJ : (e.tok.f == at_) = true := by simpa using a1
      have aN : (e.tok.f != at_) = false := by simpa using a1
      have a1' : e.tok.f = at_ := by simpa using a1
      rcases Classical.em (e.tok.a < e.tok.f) with a2 | a2
      ·
        have hbb2 : bb = false := by rw [← HBB.out, HJ.out, join_step HX.out, if_pos (by unfold badT; first | exact .inl a1 | exact .inr (.inl a2) | exact .inr (.inr a3))]
        subst hbb2
        clear a1 a1'
        go_wp2
        go_ret
        exact ⟨rfl, by have := HB.out; exact (by repeat (first | (with_reducible assumption) | (with_reducible exact Below.refl _ _) | (with_reducible apply below_drewL) | (with_reducible apply below_alloc) | (with_reducible apply below_drew1) | (with_reducible apply below_drewN) | (refine below_set ?_ (by first | omega | (simp only [size_alloc, size_drew, size_set]; omega)) _ _)))⟩
      rcases Classical.em (e.tok.t < e.tok.a) with a3 | a3
      ·
        have hbb2 : bb = false := by rw [← HBB.out, HJ.out, join_step HX.out, if_pos (by unfold badT; first | exact .inl a1 | exact .inr (.inl a2) | exact .inr (.inr a3))]
        subst hbb2
        clear a1 a1'
        go_wp2
        go_ret
        exact ⟨rfl, by have := HB.out; exact (by repeat (first | (with_reducible assumption) | (with_reducible exact Below.refl _ _) | (with_reducible apply below_drewL) | (with_reducible apply below_alloc) | (with_reducible apply below_drew1) | (with_reducible apply below_drewN) | (refine below_set ?_ (by first | omega | (simp only [size_alloc, size_drew, size_set]; omega)) _ _)))⟩
      · have HJ2 : Hd (joinF dst 0 (L.map (·.tok)) = joinF dst e.tok.t ((L.map (·.tok)).drop (k + 1))) := ⟨by rw [HJ.out, join_step HX.out, if_neg (by unfold badT; rintro (h | h | h); exact h a1'; exact a2 h; exact a3 h)]⟩
        clear a1 a1'
        go_wp2
        go_roundw
        case rel => exact ⟨k + 1, e.tok.t, by omega, by go_num, rfl, HJ2, ⟨by have := HB.out; exact (by repeat (first | (with_reducible assumption) | (with_reducible exact Below.refl _ _) | (with_reducible apply below_drewL) | (with_reducible apply below_alloc) | (with_reducible apply below_drew1) | (with_reducible apply below_drewN) | (refine below_set ?_ (by first | omega | (simp only [size_alloc, size_drew, size_set]; omega)) _ _)))⟩⟩
        case measure => simp [intOf]; omega
    · obtain rfl : k = n := by omega
      have hj : joinF dst 0 (L.map (·.tok)) = (at_ == dst) := by rw [HJ.out, List.drop_eq_nil_of_le (by rw [List.length_map, HL.out]; exact Nat.le_refl _)]; rfl
      have HE : Hd (bb = (at_ == dst)) := ⟨by rw [← HBB.out, hj]⟩
      clear hj
      go_wp2
      go_ret
      exact ⟨ret_bool (by rw [HE.out]), HB.out⟩
end Go.Proofs.YtoambcpjdcehhaaGreat.Fn

/- Pieces of texts; the bytes of takes. -/
set_option linter.unusedVariables false
set_option linter.unusedSimpArgs false
namespace Go.Proofs.YtoambcpjdcehhaaGreat.Fn
open Go Go.RowKit Go.Proofs.YtoambcpjdcehhaaGreat.Can Go.Proofs.YtoambcpjdcehhaaGreat.Base
attribute [local go_sem] clsB AB.cell

def loI (f : Int) : Int := if f < 0 then 0 else f
def hiI (s : ByteArray) (t : Int) : Int := if (s.size : Int) < t then s.size else t
/-- The part of a text between two places, as far as it has it. -/
def cutB (s : ByteArray) (f t : Int) : ByteArray := if hiI s t ≤ loI f then ByteArray.empty else s.extract (loI f).toNat (hiI s t).toNat
theorem cutB_size (s : ByteArray) (f t : Int) : (cutB s f t).size ≤ s.size := by
  unfold cutB
  split
  · exact Nat.zero_le _
  · rw [ByteArray.size_extract]; omega
theorem cut_calls (s : ByteArray) (f t : Int) (w : World) : Calls Tryz.prog 69 #[.string s, .int .i64 f, .int .i64 t] w fun e w' => e = .returned (.string (cutB s f t)) ∧ w' = w := by
  obtain ⟨lo, hlo⟩ : ∃ lo, loI f = lo := ⟨_, rfl⟩
  obtain ⟨hi, hhi⟩ : ∃ hi, hiI s t = hi := ⟨_, rfl⟩
  have hlo0 : 0 ≤ lo := by rw [← hlo]; unfold loI; split <;> omega
  have hhis : hi ≤ s.size := by rw [← hhi]; unfold hiI; split <;> omega
  have HLO : Hd ((if f < 0 then 0 else f) = lo) := ⟨hlo⟩
  have HHI : Hd ((if (s.size : Int) < t then (s.size : Int) else t) = hi) := ⟨hhi⟩
  unfold cutB
  rw [hlo, hhi]
  clear hlo hhi
  by_cases hc : hi ≤ lo
  · rw [if_pos hc]
    go_enter Tryz.func69, Tryz.ntmps69
    go_wp2_with (first | (refine max_int rfl (.tmp 7) (.const (.int .i64 0)) _ rfl .i64 f 0 lo rfl rfl HLO.out ?_) | (refine min_int rfl (.tmp 9) (.tmp 11) _ rfl .i64 t s.size hi rfl rfl HHI.out ?_))
    go_ret
    exact ⟨rfl, rfl⟩
  · rw [if_neg hc]
    obtain ⟨a, rfl⟩ : ∃ a : Nat, lo = a := ⟨lo.toNat, by omega⟩
    obtain ⟨b, rfl⟩ : ∃ b : Nat, hi = b := ⟨hi.toNat, by omega⟩
    go_enter Tryz.func69, Tryz.ntmps69
    go_wp2_with (first | (refine max_int rfl (.tmp 7) (.const (.int .i64 0)) _ rfl .i64 f 0 a rfl rfl HLO.out ?_) | (refine min_int rfl (.tmp 9) (.tmp 11) _ rfl .i64 t s.size b rfl rfl HHI.out ?_))
    go_ret
    exact ⟨by first | rfl | simp, rfl⟩
theorem text_calls (s : ByteArray) (t : Tok) (w : World) : Calls Tryz.prog 40 #[.string s, tokV t] w fun e w' => e = .returned (.tuple #[.string (cutB s t.f t.a), .string (cutB s t.a t.t)]) ∧ Below w.heap.size w w' := by
  unfold tokV
  go_enter Tryz.func40, Tryz.ntmps40
  go_wp2
  refine wp_region_can (.q [0, 1, 2, 3, 4, 6, 7, 8, 9, 10] (.e 5 true (.e 11 false (.q [12, 13] (.done))))) (clsB _) (by kernel_rfl) (by kernel_rfl) (by intro _ _ d _ _ h; cases d <;> exact h) (clsB_drew _) ?_
  refine can_q (l := [⟨_,_,_,_,_,_⟩, ⟨_,_,_,_,_,_⟩, ⟨_,_,_,_,_,_⟩, ⟨_,_,_,_,_,_⟩, ⟨_,_,_,_,_,_⟩, ⟨_,_,_,_,_,_⟩, ⟨_,_,_,_,_,_⟩, ⟨_,_,_,_,_,_⟩, ⟨_,_,_,_,_,_⟩, ⟨_,_,_,_,_,_⟩]) rfl ?_
  repeat (go_big_quiet_step (fail))
  refine wpQuiet_nil ?_
  refine can_e (o := ⟨_,_,_,_,_,_⟩) rfl (fun K hK => ?_)
  go_wp2_with (go_at_call 69; go_must (refine Calls.mono (cut_calls s t.f t.a _) ?_; rintro e w2 ⟨rfl, rfl⟩))
  refine onK_normal (hK _ _ ⟨clsB _, clsB_of (by first | exact ((Below.refl _ _)) | exact below_undrew ((Below.refl _ _))), fun _ _ h => h, ?_⟩)
  clear hK K
  refine can_e (o := ⟨_,_,_,_,_,_⟩) rfl (fun K hK => ?_)
  go_wp2_with (go_at_call 69; go_must (refine Calls.mono (cut_calls s t.a t.t _) ?_; rintro e w2 ⟨rfl, rfl⟩))
  refine onK_normal (hK _ _ ⟨fun _ => True, trivial, (fun h => by cases h), ?_⟩)
  clear hK K
  refine can_q (l := [⟨_,_,_,_,_,_⟩, ⟨_,_,_,_,_,_⟩]) rfl ?_
  repeat (go_big_quiet_step (fail))
  refine wpQuiet_nil ?_
  refine can_done ?_
  go_wp2
  go_ret2
  exact ⟨rfl, (by repeat (first | (with_reducible assumption) | (with_reducible exact Below.refl _ _) | (with_reducible apply below_drewL) | (with_reducible apply below_alloc) | (with_reducible apply below_drew1) | (with_reducible apply below_drewN) | (refine below_set ?_ (by first | omega | (simp only [size_alloc, size_drew, size_set]; omega)) _ _)))⟩
/-- The bytes of tokens, of a text. -/
def bytesU (s : ByteArray) (l : List Tok) : List UInt8 := l.flatMap fun t => bl (cutB s t.f t.a) ++ bl (cutB s t.a t.t)
theorem bytesU_snoc (s : ByteArray) (l : List Tok) (t : Tok) : bytesU s (l ++ [t]) = (bytesU s l ++ bl (cutB s t.f t.a)) ++ bl (cutB s t.a t.t) := by simp [bytesU]
theorem bytesU_len (s : ByteArray) (l : List Tok) (hs : s.size ≤ 100000) : (bytesU s l).length ≤ l.length * 200000 := by
  induction l with
  | nil => exact Nat.zero_le _
  | cons t l ih =>
    have h1 := cutB_size s t.f t.a
    have h2 := cutB_size s t.a t.t
    have : bytesU s (t :: l) = (bl (cutB s t.f t.a) ++ bl (cutB s t.a t.t)) ++ bytesU s l := by simp [bytesU]
    rw [this, List.length_append, List.length_append, bl_len, bl_len, List.length_cons]
    omega
theorem info5 : (Tryz.prog.info? 5).map (fun i => (i.zero, i.size, i.bytes)) = some (some (.int .u8 0), 1, 1) := by kernel_rfl
set_option maxHeartbeats 1000000 in
theorem bytes_calls (s : ByteArray) (A : Option Addr) (n c : Nat) (L : List E) (S : Nat → Prop) (w : World) (hS : ∀ k, S k → k < w.heap.size) (hC : Row eT w S A n L) (hs : s.size ≤ 100000) (hn : n ≤ 100000) :
    Calls Tryz.prog 16 #[.string s, .slice A n c] w fun e w' => e = .returned (.string ⟨(bytesU s (L.map (·.tok))).toArray⟩) ∧ Below w.heap.size w w' := by
  have HL := Hd.mk hC.1
  have HC := Hd.mk hC; have HS := Hd.mk hS; clear hC hS
  go_enter Tryz.func16, Tryz.ntmps16
  go_wp2
  go_loopw [5, 12] (fun v i wr => ∃ (k : Nat), k ≤ n ∧ i = .int .i64 k ∧ Hd (Mine bT wr w.heap.size 5 v (bytesU s ((L.take k).map (·.tok)))) ∧ Hd (Below w.heap.size w wr)) (fun _ i _ => n - (intOf i).toNat)
  case atStart => exact ⟨0, Nat.zero_le _, rfl, ⟨Mine.nil _ _ _ _⟩, ⟨Below.refl _ _⟩⟩
  case round =>
    obtain ⟨k, hk, rfl, HM, HB⟩ := hrel
    have HLE : Hd ((bytesU s ((L.take k).map (·.tok))).length ≤ k * 200000) := ⟨by have := bytesU_len s ((L.take k).map (·.tok)) hs; rw [List.length_map, List.length_take, HL.out, Nat.min_eq_left hk] at this; exact this⟩
    obtain ⟨A2, z, c2, rfl, hz, hc2, hA2, hR2⟩ := HM.out.formN
    have HR2 := Hd.mk hR2; have HZ := Hd.mk hz; clear hz hR2 hA2
    by_cases hlt : k < n
    · obtain ⟨b, off, e, rfl, hb1, hx, c0, c1, d0, d1, d2, d3, d4, d5⟩ := e_get (HC.out.below HS.out HB.out) k hlt
      have HT : Hd (bytesU s ((L.take (k + 1)).map (·.tok)) = (bytesU s ((L.take k).map (·.tok)) ++ bl (cutB s e.tok.f e.tok.a)) ++ bl (cutB s e.tok.a e.tok.t)) := ⟨by rw [List.take_add_one, hx, List.map_append]; exact bytesU_snoc s _ _⟩
      have h1 := cutB_size s e.tok.f e.tok.a
      have h2 := cutB_size s e.tok.a e.tok.t
      obtain ⟨B1, hB1⟩ : ∃ B, cutB s e.tok.f e.tok.a = B := ⟨_, rfl⟩
      obtain ⟨B2, hB2⟩ : ∃ B, cutB s e.tok.a e.tok.t = B := ⟨_, rfl⟩
      rw [hB1] at h1 HT
      rw [hB2] at h2 HT
      have HB1 := Hd.mk hB1; have HB2 := Hd.mk hB2
      clear hx hB1 hB2
      go_wp2_with (first
        | (go_at_call 40; go_must (refine Calls.mono (text_calls s e.tok _) ?_; rintro e9 w2 ⟨he, hb2⟩; rw [HB1.out, HB2.out] at he; subst he; have HM2 := Hd.mk ((HM.out.below (below_alloc (Below.refl _ _) _)).below hb2); have HW2 := Hd.mk (below_seq HB.out (below_seq (below_alloc (Below.refl _ _) _) hb2)); clear hb2))
        | (at_builtin; have hq_ := HM3; clear hq_; go_must (refine append_str rfl (.tmp 25) (.tmp 26) 72 9 5 rfl Tryz.underlying72 Tryz.underlying9 info5 w.heap.size v3 _ B2 rfl rfl HM3.out HW3.out.size (by have := HLE.out; rw [List.length_append, bl_len]; omega) ?_; intro v4 w4 hM4 hb4 _; have HM4 := Hd.mk hM4; have HW4 := Hd.mk (HW3.out.trans hb4); clear hM4 hb4))
        | (at_builtin; go_must (refine append_str rfl (.tmp 23) (.tmp 24) 72 9 5 rfl Tryz.underlying72 Tryz.underlying9 info5 w.heap.size (.slice A2 z c2) _ B1 rfl rfl HM2.out HW2.out.size (by have := HLE.out; omega) ?_; intro v3 w3 hM3 hb3 _; have HM3 := Hd.mk hM3; have HW3 := Hd.mk (HW2.out.trans hb3); clear hM3 hb3)))
      go_roundw
      case rel => exact ⟨k + 1, by omega, by go_num, ⟨by rw [HT.out]; exact HM4.out⟩, HW4⟩
      case measure => simp [intOf]; omega
    · obtain rfl : k = n := by omega
      have hL : L.take k = L := by rw [← HL.out, List.take_length]
      rw [hL] at HR2 HLE
      have hconv := conv_back (P := Tryz.prog) 72 9 5 Tryz.underlying72 Tryz.underlying5 Tryz.underlying9 HR2.out (c := c2) (by have := HLE.out; omega)
      go_wp2
      go_ret
      exact ⟨rfl, HB.out⟩
end Go.Proofs.YtoambcpjdcehhaaGreat.Fn

/- The law's own example. -/
set_option linter.unusedVariables false
set_option linter.unusedSimpArgs false
namespace Go.Proofs.YtoambcpjdcehhaaGreat.Fn
open Go Go.RowKit Go.Proofs.YtoambcpjdcehhaaGreat.Can Go.Proofs.YtoambcpjdcehhaaGreat.Base
attribute [local go_sem] clsB AB.cell
attribute [local go_sem high] eq31_same

theorem counts_calls (k n e rn t0 t1 t2 t3 t4 t5 : Int) (d : ByteArray) (w : World) :
    Calls Tryz.prog 9 #[.agg #[.int .i64 k, .int .i64 n, .string d], .agg #[.int .i64 e, .int .i64 rn, .int .i64 t0, .int .i64 t1, .int .i64 t2, .int .i64 t3, .int .i64 t4, .int .i64 t5]] w fun r w' =>
      r = .returned (.agg #[.int .i64 2, .int .i64 0, .int .i64 0, .int .i64 k, .int .i64 n, .string d, .int .i64 e, .int .i64 rn, .int .i64 t0, .int .i64 t1, .int .i64 t2, .int .i64 t3, .int .i64 t4, .int .i64 t5]) ∧ Below w.heap.size w w' := by
  go_enter Tryz.func9, Tryz.ntmps9
  go_wp2
  refine bodyPost_ret (results_cell_row rfl _ _ (w.heap.size + 2) 47 _ (0, 0) _ rfl (blk_new _ _ _ (by rw [size_alloc, size_alloc])) Tryz.underlying47 rfl (by kernel_rfl)) rfl ?_
  exact ⟨rfl, (by repeat (first | (with_reducible assumption) | (with_reducible exact Below.refl _ _) | (with_reducible apply below_drewL) | (with_reducible apply below_alloc) | (with_reducible apply below_drew1) | (with_reducible apply below_drewN) | (refine below_set ?_ (by first | omega | (simp only [size_alloc, size_drew, size_set]; omega)) _ _)))⟩
def exA : Tok := ⟨1, 0, 0, 0, 1, 0⟩
def exB : Tok := ⟨1, 0, 1, 2, 3, 0⟩
def e0 : Ev := ⟨2, 0, 0, 4, 0, ByteArray.empty, 0, 0, exA⟩
def e1 : Ev := ⟨2, 0, 0, 6, 0, ByteArray.empty, 0, 4, tok0⟩
def e2 : Ev := ⟨2, 0, 0, 4, 0, ByteArray.empty, 0, 0, exB⟩
def e3 : Ev := ⟨2, 0, 0, 7, 4, ByteArray.empty, 0, 0, tok0⟩
def e4 : Ev := ⟨2, 0, 0, 5, 0, ByteArray.empty, 0, 0, tok0⟩
def exH : List Ev := [e0, e1, e2, e3, e4]
def exH3 : List Ev := [e0, e1, e2]
def exH4 : List Ev := [e0, e1, e2, e3]
def exL : List E := [⟨⟨0, 0⟩, exA⟩, ⟨⟨1, 0⟩, exB⟩]
theorem run3 : (runM 0 exH3).s.l = exL := by decide +kernel
theorem run4 : (runM 0 exH4).s.l = [⟨⟨0, 0⟩, exA⟩] := by decide +kernel
theorem run5 : (runM 0 exH).s.l = [] := by decide +kernel
theorem wf5 : EvWf exH := by intro v hv; simp [exH] at hv; rcases hv with rfl | rfl | rfl | rfl | rfl <;> exact ⟨rfl, rfl⟩
theorem wf3 : EvWf exH3 := fun v hv => wf5 v (by simp [exH3] at hv; simp [exH]; rcases hv with h | h | h <;> simp [h])
theorem wf4 : EvWf exH4 := fun v hv => wf5 v (by simp [exH4] at hv; simp [exH]; rcases hv with h | h | h | h <;> simp [h])
theorem pure5 : pureL exH = true := by decide +kernel
theorem join3 : joinF 3 0 (exL.map (·.tok)) = true := by decide +kernel
def abcd : ByteArray := ⟨#[97, 98, 99, 100]⟩
theorem byt3 : (⟨(bytesU abcd (exL.map (·.tok))).toArray⟩ : ByteArray) = ⟨#[97, 98, 99]⟩ := by decide +kernel
theorem abcd_size : abcd.size ≤ 100000 := by decide +kernel
theorem exH3_len : exH3.length ≤ 1000000 := by decide
theorem exH4_len : exH4.length ≤ 1000000 := by decide
theorem exH_len : exH.length ≤ 1000000 := by decide
set_option maxRecDepth 20000 in
set_option maxHeartbeats 4000000 in
theorem alive_calls (w : World) : Calls Tryz.prog 7 #[] w fun e w' => e = .returned (.bool true) ∧ Below w.heap.size w w' := by
  go_enter Tryz.func7, Tryz.ntmps7
  go_wp2
  generalize hV : World.alloc _ _ = V
  have HBV : Below w.heap.size w V := below_of hV (by repeat (first | (with_reducible assumption) | (with_reducible exact Below.refl _ _) | (with_reducible apply below_drewL) | (with_reducible apply below_alloc) | (with_reducible apply below_drew1) | (with_reducible apply below_drewN) | (refine below_set ?_ (by first | omega | (simp only [size_alloc, size_drew, size_set]; omega)) _ _)))
  have zV : Hd (V.heap.size = w.heap.size + 1 + 1) := ⟨by rw [← hV]; simp only [size_alloc]⟩
  have V0 := at_of hV (blk_alloc (blk_new _ _ _ rfl) _)
  have V0l := blk_lt V0
  have V1 := at_of hV (blk_new _ _ _ rfl)
  simp only [size_alloc] at V1
  have V1l := blk_lt V1
  clear hV
  have HV := Hd.mk HBV
  have HV1 := Hd.mk V1
  have V0c0 := blk_cell V0 0 _ rfl
  have V0f0 := blk_frozen V0 0
  have V0c1 := blk_cell V0 1 _ rfl
  have V0f1 := blk_frozen V0 1
  have V0c2 := blk_cell V0 2 _ rfl
  have V0f2 := blk_frozen V0 2
  have V0c3 := blk_cell V0 3 _ rfl
  have V0f3 := blk_frozen V0 3
  have V0c4 := blk_cell V0 4 _ rfl
  have V0f4 := blk_frozen V0 4
  have V0c5 := blk_cell V0 5 _ rfl
  have V0f5 := blk_frozen V0 5
  have V1c0 := blk_cell V1 0 _ rfl
  have V1f0 := blk_frozen V1 0
  have V1c1 := blk_cell V1 1 _ rfl
  have V1f1 := blk_frozen V1 1
  have V1c2 := blk_cell V1 2 _ rfl
  have V1f2 := blk_frozen V1 2
  have V1c3 := blk_cell V1 3 _ rfl
  have V1f3 := blk_frozen V1 3
  have V1c4 := blk_cell V1 4 _ rfl
  have V1f4 := blk_frozen V1 4
  have V1c5 := blk_cell V1 5 _ rfl
  have V1f5 := blk_frozen V1 5
  clear HBV
  refine wp_region_can (.q [0, 1, 2, 4, 5, 7, 8, 9, 11, 12, 14, 15] (.e 3 true (.e 6 true (.e 10 true (.e 13 true (.e 16 false (.e 17 false (.q [18] (.done))))))))) (clsB _) (by kernel_rfl) (by kernel_rfl) (by intro _ _ d _ _ h; cases d <;> exact h) (clsB_drew _) ?_
  refine can_q (l := [⟨_,_,_,_,_,_⟩, ⟨_,_,_,_,_,_⟩, ⟨_,_,_,_,_,_⟩, ⟨_,_,_,_,_,_⟩, ⟨_,_,_,_,_,_⟩, ⟨_,_,_,_,_,_⟩, ⟨_,_,_,_,_,_⟩, ⟨_,_,_,_,_,_⟩, ⟨_,_,_,_,_,_⟩, ⟨_,_,_,_,_,_⟩, ⟨_,_,_,_,_,_⟩, ⟨_,_,_,_,_,_⟩]) rfl ?_
  repeat (go_big_quiet_step (fail))
  refine wpQuiet_nil ?_
  refine can_e (o := ⟨_,_,_,_,_,_⟩) rfl (fun K hK => ?_)
  go_wp2_with (go_at_call 9; go_must (refine Calls.mono (counts_calls 4 0 0 0 1 0 0 0 1 0 ByteArray.empty _) ?_; rintro e w1 ⟨rfl, hb1⟩; replace hb1 := below_undrew hb1; have HB1 := Hd.mk hb1; clear hb1))
  refine onK_normal (hK _ _ ⟨clsB _, clsB_of (by first | exact (HB1.out) | exact below_undrew (HB1.out)), fun _ _ h => h, ?_⟩)
  clear hK K
  refine can_e (o := ⟨_,_,_,_,_,_⟩) rfl (fun K hK => ?_)
  go_wp2_with (go_at_call 9; go_must (refine Calls.mono (counts_calls 6 0 0 4 0 0 0 0 0 0 ByteArray.empty _) ?_; rintro e w2 ⟨rfl, hb2⟩; have HB2 := Hd.mk (below_seq HB1.out hb2); clear hb2))
  refine onK_normal (hK _ _ ⟨clsB _, clsB_of (by first | exact (HB2.out) | exact below_undrew (HB2.out)), fun _ _ h => h, ?_⟩)
  clear hK K
  refine can_e (o := ⟨_,_,_,_,_,_⟩) rfl (fun K hK => ?_)
  go_wp2_with (go_at_call 9; go_must (refine Calls.mono (counts_calls 4 0 0 0 1 0 1 2 3 0 ByteArray.empty _) ?_; rintro e w3 ⟨rfl, hb3⟩; have HB3 := Hd.mk (below_seq HB2.out hb3); clear hb3))
  refine onK_normal (hK _ _ ⟨clsB _, clsB_of (by first | exact (HB3.out) | exact below_undrew (HB3.out)), fun _ _ h => h, ?_⟩)
  clear hK K
  refine can_e (o := ⟨_,_,_,_,_,_⟩) rfl (fun K hK => ?_)
  go_wp2_with (go_at_call 9; go_must (refine Calls.mono (counts_calls 7 4 0 0 0 0 0 0 0 0 ByteArray.empty _) ?_; rintro e w4 ⟨rfl, hb4⟩; have HB4 := Hd.mk (below_seq HB3.out hb4); clear hb4))
  refine onK_normal (hK _ _ ⟨clsB _, clsB_of (by first | exact (HB4.out) | exact below_undrew (HB4.out)), fun _ _ h => h, ?_⟩)
  clear hK K
  refine can_e (o := ⟨_,_,_,_,_,_⟩) rfl (fun K hK => ?_)
  go_wp2_with (go_at_call 9; go_must (refine Calls.mono (counts_calls 5 0 0 0 0 0 0 0 0 0 ByteArray.empty _) ?_; rintro e w5 ⟨rfl, hb5⟩; have HB5 := Hd.mk (below_seq HB4.out hb5); clear hb5))
  refine onK_normal (hK _ _ ⟨fun _ => True, trivial, (fun h => by cases h), ?_⟩)
  clear hK K
  refine can_e (o := ⟨_,_,_,_,_,_⟩) rfl (fun K hK => ?_)
  go_wp2_with fail
  refine onK_normal (hK _ _ ⟨fun _ => True, trivial, (fun h => by cases h), ?_⟩)
  clear hK K
  refine can_q (l := [⟨_,_,_,_,_,_⟩]) rfl ?_
  repeat (go_big_quiet_step (fail))
  refine wpQuiet_nil ?_
  refine can_done ?_
  generalize hU : World.alloc w5 _ = U
  have hg : U.heap[w5.heap.size]? = some (.cells (flatC evE exH ++ []).toArray 47 (0, 0)) := by rw [← hU]; exact blk_new _ _ _ rfl
  have hbU : Below V.heap.size V U := by rw [← hU]; exact below_alloc HB5.out _
  have hblk : Blk evE U 47 w5.heap.size exH := ⟨[], hg⟩
  have hrow : Row evT U (fun b => b = w5.heap.size) (some ⟨w5.heap.size, 0, none⟩) 5 exH := hblk.row ev_len ev_one rfl (by decide)
  have HU := Hd.mk hbU
  have hgl : w5.heap.size < U.heap.size := blk_lt hg
  clear hU hg hblk HB1 HB2 HB3 HB4 HB5 hbU
  generalize w5.heap.size = g at *
  have HR5 : Hd (Row evT U (fun b => b = g) (some ⟨g, 0, none⟩) 5 exH) := ⟨hrow⟩
  have HR3 : Hd (Row evT U (fun b => b = g) (some ⟨g, 0, none⟩) 3 exH3) := ⟨hrow.take 3 (by decide)⟩
  have HR4 : Hd (Row evT U (fun b => b = g) (some ⟨g, 0, none⟩) 4 exH4) := ⟨hrow.take 4 (by decide)⟩
  have HGl := Hd.mk hgl
  clear hrow
  go_wp2_with (go_at_call 14; go_must (refine Calls.mono (of_calls 0 (some ⟨g, 0, none⟩) 5 exH3 (fun b => b = g) U (by rintro k rfl; exact HGl.out) HR3.out wf3 exH3_len) ?_; rintro e w6 ⟨A6, n6, c6, rfl, hr6, hb6⟩; rw [run3] at hr6; have hn6 : n6 = 2 := hr6.1.symm; subst hn6; have HR6 := Hd.mk hr6; have HB6 := Hd.mk hb6; clear hr6 hb6))
  obtain ⟨b6, off6, y6, rfl, hb6, hx6, c0, c1, d0, d1, d2, d3, d4, d5⟩ := e_get HR6.out 1 (by decide)
  obtain rfl : y6 = ⟨⟨1, 0⟩, exB⟩ := by simpa [exL] using hx6.symm
  have hv6 := blk_below HV1.out (below_seq HU.out HB6.out)
  have hv6c0 := blk_cell hv6 0 _ rfl; have hv6f0 := blk_frozen hv6 0; have hv6c1 := blk_cell hv6 1 _ rfl; have hv6f1 := blk_frozen hv6 1; have hv6c2 := blk_cell hv6 2 _ rfl; have hv6f2 := blk_frozen hv6 2; have hv6c3 := blk_cell hv6 3 _ rfl; have hv6f3 := blk_frozen hv6 3; have hv6c4 := blk_cell hv6 4 _ rfl; have hv6f4 := blk_frozen hv6 4; have hv6c5 := blk_cell hv6 5 _ rfl; have hv6f5 := blk_frozen hv6 5; have hv6l := blk_lt hv6
  have q0 : w6.cell? ⟨b6, off6 + 8, none⟩ = some (.int .i64 1) := c0
  have q1 : w6.cell? ⟨b6, off6 + 8 + 1, none⟩ = some (.int .i64 0) := c1
  have q2 : w6.cell? ⟨b6, off6 + 8 + 2, none⟩ = some (.int .i64 1) := d0
  have q3 : w6.cell? ⟨b6, off6 + 8 + 2 + 1, none⟩ = some (.int .i64 0) := d1
  have q4 : w6.cell? ⟨b6, off6 + 8 + 2 + 2, none⟩ = some (.int .i64 1) := d2
  have q5 : w6.cell? ⟨b6, off6 + 8 + 2 + 3, none⟩ = some (.int .i64 2) := d3
  have q6 : w6.cell? ⟨b6, off6 + 8 + 2 + 4, none⟩ = some (.int .i64 3) := d4
  have q7 : w6.cell? ⟨b6, off6 + 8 + 2 + 5, none⟩ = some (.int .i64 0) := d5
  clear c0 c1 d0 d1 d2 d3 d4 d5 hx6 V0 V1 V0c0 V0f0 V0c1 V0f1 V0c2 V0f2 V0c3 V0f3 V0c4 V0f4 V0c5 V0f5 V1c0 V1f0 V1c1 V1f1 V1c2 V1f2 V1c3 V1f3 V1c4 V1f4 V1c5 V1f5 hv6
  refine wp_region_can (.q [0, 1, 2, 3, 4, 5, 6, 7, 8, 9, 10, 11, 12, 13] (.e 14 false (.q [15, 16, 17] (.e 18 false (.q [19, 20, 21, 22, 23] (.e 24 false (.q [25, 26, 27, 28, 29] (.e 30 false (.q [31, 32, 33, 34, 35] (.e 36 false (.q [37, 38] (.done)))))))))))) (clsB _) (by kernel_rfl) (by kernel_rfl) (by intro _ _ d _ _ h; cases d <;> exact h) (clsB_drew _) ?_
  refine can_q (l := [⟨_,_,_,_,_,_⟩, ⟨_,_,_,_,_,_⟩, ⟨_,_,_,_,_,_⟩, ⟨_,_,_,_,_,_⟩, ⟨_,_,_,_,_,_⟩, ⟨_,_,_,_,_,_⟩, ⟨_,_,_,_,_,_⟩, ⟨_,_,_,_,_,_⟩, ⟨_,_,_,_,_,_⟩, ⟨_,_,_,_,_,_⟩, ⟨_,_,_,_,_,_⟩, ⟨_,_,_,_,_,_⟩, ⟨_,_,_,_,_,_⟩, ⟨_,_,_,_,_,_⟩]) rfl ?_
  repeat (go_big_quiet_step (fail))
  refine wpQuiet_nil ?_
  refine can_e (o := ⟨_,_,_,_,_,_⟩) rfl (fun K hK => ?_)
  go_wp2_with (go_at_call 15; go_must (refine Calls.mono (joined_calls (some ⟨b6, off6, none⟩) 2 c6 exL 3 _ w6.drew (fun k h => h.2) (HR6.out.below (fun k h => h.2) (below_drew1 (Below.refl _ _)))) ?_; rintro e w7 ⟨he, hb7⟩; rw [join3] at he; subst he; replace hb7 := below_undrew hb7; have HB7 := Hd.mk hb7; clear hb7))
  refine onK_normal (hK _ _ ⟨fun _ => True, trivial, (fun h => by cases h), ?_⟩)
  clear hK K
  refine can_q (l := [⟨_,_,_,_,_,_⟩, ⟨_,_,_,_,_,_⟩, ⟨_,_,_,_,_,_⟩]) rfl ?_
  repeat (go_big_quiet_step (fail))
  refine wpQuiet_nil ?_
  refine can_e (o := ⟨_,_,_,_,_,_⟩) rfl (fun K hK => ?_)
  go_wp2_with (go_at_call 16; go_must (refine Calls.mono (bytes_calls abcd (some ⟨b6, off6, none⟩) 2 c6 exL (fun k => U.heap.size ≤ k ∧ k < w7.heap.size) w7 (fun k h => h.2) ((HR6.out.below (fun k h => h.2) HB7.out).mono fun k h => ⟨h.1, Nat.lt_of_lt_of_le h.2 HB7.out.size⟩) abcd_size (by omega)) ?_; rintro e w8 ⟨he, hb8⟩; rw [byt3] at he; subst he; have HB8 := Hd.mk (below_seq HB7.out hb8); clear hb8))
  refine onK_normal (hK _ _ ⟨fun _ => True, trivial, (fun h => by cases h), ?_⟩)
  clear hK K
  refine can_q (l := [⟨_,_,_,_,_,_⟩, ⟨_,_,_,_,_,_⟩, ⟨_,_,_,_,_,_⟩, ⟨_,_,_,_,_,_⟩, ⟨_,_,_,_,_,_⟩]) rfl ?_
  repeat (go_big_quiet_step (fail))
  refine wpQuiet_nil ?_
  refine can_e (o := ⟨_,_,_,_,_,_⟩) rfl (fun K hK => ?_)
  go_wp2_with (go_at_call 14; go_must (refine Calls.mono (of_calls 0 (some ⟨g, 0, none⟩) 5 exH4 (fun b => b = g) w8 (by rintro k rfl; exact Nat.lt_of_lt_of_le HGl.out (below_seq HB6.out HB8.out).size) (HR4.out.below (by rintro k rfl; exact HGl.out) (below_seq HB6.out HB8.out)) wf4 exH4_len) ?_; rintro e w9 ⟨A9, n9, c9, rfl, hr9, hb9⟩; rw [run4] at hr9; have hn9 : n9 = 1 := hr9.1.symm; subst hn9; have HB9 := Hd.mk (below_seq HB8.out hb9); clear hr9 hb9))
  refine onK_normal (hK _ _ ⟨fun _ => True, trivial, (fun h => by cases h), ?_⟩)
  clear hK K
  refine can_q (l := [⟨_,_,_,_,_,_⟩, ⟨_,_,_,_,_,_⟩, ⟨_,_,_,_,_,_⟩, ⟨_,_,_,_,_,_⟩, ⟨_,_,_,_,_,_⟩]) rfl ?_
  repeat (go_big_quiet_step (fail))
  refine wpQuiet_nil ?_
  refine can_e (o := ⟨_,_,_,_,_,_⟩) rfl (fun K hK => ?_)
  go_wp2_with (go_at_call 14; go_must (refine Calls.mono (of_calls 0 (some ⟨g, 0, none⟩) 5 exH (fun b => b = g) w9 (by rintro k rfl; exact Nat.lt_of_lt_of_le HGl.out (below_seq HB6.out HB9.out).size) (HR5.out.below (by rintro k rfl; exact HGl.out) (below_seq HB6.out HB9.out)) wf5 exH_len) ?_; rintro e w10 ⟨A10, n10, c10, rfl, hr10, hb10⟩; rw [run5] at hr10; have hn10 : n10 = 0 := hr10.1.symm; subst hn10; have HB10 := Hd.mk (below_seq HB9.out hb10); clear hr10 hb10))
  refine onK_normal (hK _ _ ⟨fun _ => True, trivial, (fun h => by cases h), ?_⟩)
  clear hK K
  refine can_q (l := [⟨_,_,_,_,_,_⟩, ⟨_,_,_,_,_,_⟩, ⟨_,_,_,_,_,_⟩, ⟨_,_,_,_,_,_⟩, ⟨_,_,_,_,_,_⟩]) rfl ?_
  repeat (go_big_quiet_step (fail))
  refine wpQuiet_nil ?_
  refine can_e (o := ⟨_,_,_,_,_,_⟩) rfl (fun K hK => ?_)
  go_wp2_with (go_at_call 17; go_must (refine Calls.mono (pure_calls (some ⟨g, 0, none⟩) 5 5 exH (fun b => b = g) w10 (by rintro k rfl; exact Nat.lt_of_lt_of_le HGl.out (below_seq HB6.out HB10.out).size) (HR5.out.below (by rintro k rfl; exact HGl.out) (below_seq HB6.out HB10.out))) ?_; rintro e w11 ⟨he, hb11⟩; rw [pure5] at he; subst he; have HB11 := Hd.mk (below_seq HB10.out hb11); clear hb11))
  refine onK_normal (hK _ _ ⟨fun _ => True, trivial, (fun h => by cases h), ?_⟩)
  clear hK K
  refine can_q (l := [⟨_,_,_,_,_,_⟩, ⟨_,_,_,_,_,_⟩]) rfl ?_
  repeat (go_big_quiet_step (fail))
  refine wpQuiet_nil ?_
  refine can_done ?_
  go_wp2
  go_ret
  exact ⟨rfl, below_seq (below_seq HV.out HU.out) (below_seq HB6.out HB11.out)⟩
end Go.Proofs.YtoambcpjdcehhaaGreat.Fn
