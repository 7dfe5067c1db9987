/- Whether takes are joined; pieces of texts. -/
import Derived.Test.YtcejfnnimfpahaaS10
import Derived.Test.YtcejfnnimfpahaaStr
import Derived.Deep.DeepCutAuto
import Derived.Deep.CutBlock
namespace Go.Proofs.Ytcejfnnimfpahaa.Fn
open Go Go.RowKit Go.Proofs.Ytcejfnnimfpahaa.Can Go.Proofs.Ytcejfnnimfpahaa.Base
attribute [local go_sem] clsB AB.cell

def badT (t : Tok) (at_ : Int) : Prop := ¬ t.f = at_ ∨ t.a < t.f ∨ t.t < t.a
instance (t : Tok) (at_ : Int) : Decidable (badT t at_) := by unfold badT; infer_instance
def joinF (dst : Int) : Int → List Tok → Bool
  | at_, [] => at_ == dst
  | at_, t :: l => if badT t at_ then false else joinF dst t.t l
theorem join_step {dst at_ : Int} {l : List Tok} {k : Nat} {t : Tok} (hx : l[k]? = some t) : joinF dst at_ (l.drop k) = if badT t at_ then false else joinF dst t.t (l.drop (k + 1)) := by
  obtain ⟨hlt, he⟩ := List.getElem?_eq_some_iff.1 hx
  rw [List.drop_eq_getElem_cons hlt, he]
  rfl
set_option maxHeartbeats 1000000 in
theorem joined_calls (A : Option Addr) (n c : Nat) (L : List E) (dst : Int) (S : Nat → Prop) (w : World) (hS : ∀ k, S k → k < w.heap.size) (hC : Row eT w S A n L) :
    Calls Try.prog 7 #[.slice A n c, .int .i64 dst] w fun e w' => e = .returned (.bool (joinF dst 0 (L.map (·.tok)))) ∧ Below w.heap.size w w' := by
  have hn := hC.le
  have HL := Hd.mk hC.1
  obtain ⟨bb, hbb⟩ : ∃ bb, joinF dst 0 (L.map (·.tok)) = bb := ⟨_, rfl⟩
  rw [hbb]
  have HBB := Hd.mk hbb
  have HC := Hd.mk hC; have HS := Hd.mk hS; clear hC hS hbb
  go_enter Try.func7, Try.ntmps7
  go_wp2
  go_loopw [5, 11] (fun x i wr => ∃ (k : Nat) (at_ : Int), k ≤ n ∧ i = .int .i64 k ∧ x = .int .i64 at_ ∧ Hd (joinF dst 0 (L.map (·.tok)) = joinF dst at_ ((L.map (·.tok)).drop k)) ∧ Hd (Below w.heap.size w wr)) (fun _ i _ => n - (intOf i).toNat)
  case atStart => exact ⟨0, 0, Nat.zero_le _, rfl, rfl, ⟨by rw [List.drop_zero]⟩, ⟨Below.refl _ _⟩⟩
  case round =>
    obtain ⟨k, at_, hk, rfl, rfl, HJ, HB⟩ := hrel
    by_cases hlt : k < n
    · obtain ⟨b, off, e, rfl, hb1, hx, c0, c1, d0, d1, d2, d3, d4, d5⟩ := e_get (HC.out.below HS.out HB.out) k hlt
      have HX : Hd ((L.map (·.tok))[k]? = some e.tok) := ⟨by simp [hx]⟩
      clear hx
      rcases Classical.em (¬ e.tok.f = at_) with a1 | a1
      · have aJ : (e.tok.f == at_) = false := by simpa using a1
        have aN : (e.tok.f != at_) = true := by simpa using a1
        have hbb2 : bb = false := by rw [← HBB.out, HJ.out, join_step HX.out, if_pos (by unfold badT; first | exact .inl a1 | exact .inr (.inl a2) | exact .inr (.inr a3))]
        subst hbb2
        go_wp2
        go_ret
        exact ⟨rfl, by have := HB.out; exact (by repeat (first | (with_reducible assumption) | (with_reducible exact Below.refl _ _) | (with_reducible apply below_drewL) | (with_reducible apply below_alloc) | (with_reducible apply below_drew1) | (with_reducible apply below_drewN) | (refine below_set ?_ (by first | omega | (simp only [size_alloc, size_drew, size_set]; omega)) _ _)))⟩
      have aJ : (e.tok.f == at_) = true := by simpa using a1
      have aN : (e.tok.f != at_) = false := by simpa using a1
      have a1' : e.tok.f = at_ := by simpa using a1
      rcases Classical.em (e.tok.a < e.tok.f) with a2 | a2
      ·
        have hbb2 : bb = false := by rw [← HBB.out, HJ.out, join_step HX.out, if_pos (by unfold badT; first | exact .inl a1 | exact .inr (.inl a2) | exact .inr (.inr a3))]
        subst hbb2
        clear a1 a1'
        go_wp2
        go_ret
        exact ⟨rfl, by have := HB.out; exact (by repeat (first | (with_reducible assumption) | (with_reducible exact Below.refl _ _) | (with_reducible apply below_drewL) | (with_reducible apply below_alloc) | (with_reducible apply below_drew1) | (with_reducible apply below_drewN) | (refine below_set ?_ (by first | omega | (simp only [size_alloc, size_drew, size_set]; omega)) _ _)))⟩
      rcases Classical.em (e.tok.t < e.tok.a) with a3 | a3
      ·
        have hbb2 : bb = false := by rw [← HBB.out, HJ.out, join_step HX.out, if_pos (by unfold badT; first | exact .inl a1 | exact .inr (.inl a2) | exact .inr (.inr a3))]
        subst hbb2
        clear a1 a1'
        go_wp2
        go_ret
        exact ⟨rfl, by have := HB.out; exact (by repeat (first | (with_reducible assumption) | (with_reducible exact Below.refl _ _) | (with_reducible apply below_drewL) | (with_reducible apply below_alloc) | (with_reducible apply below_drew1) | (with_reducible apply below_drewN) | (refine below_set ?_ (by first | omega | (simp only [size_alloc, size_drew, size_set]; omega)) _ _)))⟩
      · have HJ2 : Hd (joinF dst 0 (L.map (·.tok)) = joinF dst e.tok.t ((L.map (·.tok)).drop (k + 1))) := ⟨by rw [HJ.out, join_step HX.out, if_neg (by unfold badT; rintro (h | h | h); exact h a1'; exact a2 h; exact a3 h)]⟩
        clear a1 a1'
        go_wp2
        go_roundw
        case rel => exact ⟨k + 1, e.tok.t, by omega, by go_num, rfl, HJ2, ⟨by have := HB.out; exact (by repeat (first | (with_reducible assumption) | (with_reducible exact Below.refl _ _) | (with_reducible apply below_drewL) | (with_reducible apply below_alloc) | (with_reducible apply below_drew1) | (with_reducible apply below_drewN) | (refine below_set ?_ (by first | omega | (simp only [size_alloc, size_drew, size_set]; omega)) _ _)))⟩⟩
        case measure => simp [intOf]; omega
    · obtain rfl : k = n := by omega
      have hj : joinF dst 0 (L.map (·.tok)) = (at_ == dst) := by rw [HJ.out, List.drop_eq_nil_of_le (by rw [List.length_map, HL.out]; exact Nat.le_refl _)]; rfl
      have HE : Hd (bb = (at_ == dst)) := ⟨by rw [← HBB.out, hj]⟩
      clear hj
      go_wp2
      go_ret
      exact ⟨ret_bool (by rw [HE.out]), HB.out⟩
/-- Where the one ahead ends. -/
def endOf (l : List Tok) (k : Nat) : Int := if k = 0 then 0 else (l.getD (k - 1) tok0).t
set_option maxHeartbeats 1000000 in
theorem rjoined_calls (A : Option Addr) (n c : Nat) (L : List Tok) (dst : Int) (S : Nat → Prop) (w : World) (hS : ∀ k, S k → k < w.heap.size) (hC : Row tokT w S A n L) :
    Calls Try.prog 8 #[.slice A n c, .int .i64 dst] w fun e w' => e = .returned (.bool (joinF dst 0 L)) ∧ Below w.heap.size w w' := by
  have hn := hC.le
  have HL := Hd.mk hC.1
  obtain ⟨bb, hbb⟩ : ∃ bb, joinF dst 0 L = bb := ⟨_, rfl⟩
  rw [hbb]
  have HBB := Hd.mk hbb
  have HC := Hd.mk hC; have HS := Hd.mk hS; clear hC hS hbb
  go_enter Try.func8, Try.ntmps8
  go_wp2
  go_loopw [5] (fun i wr => ∃ (k : Nat), k ≤ n ∧ i = .int .i64 k ∧ Hd (joinF dst 0 L = joinF dst (endOf L k) (L.drop k)) ∧ Hd (Below w.heap.size w wr)) (fun i _ => n - (intOf i).toNat)
  case atStart => exact ⟨0, Nat.zero_le _, rfl, ⟨by rw [List.drop_zero]; rfl⟩, ⟨Below.refl _ _⟩⟩
  case round =>
    obtain ⟨k, hk, rfl, HJ, HB⟩ := hrel
    by_cases hlt : k < n
    · obtain ⟨b, off, x, rfl, hb1, hx, d0, d1, d2, d3, d4, d5⟩ := tok_get (HC.out.below HS.out HB.out) k hlt
      have HX := Hd.mk hx; clear hx
      obtain ⟨at_, hat⟩ : ∃ at_, endOf L k = at_ := ⟨_, rfl⟩
      rw [hat] at HJ
      have hend : endOf L (k + 1) = x.t := by unfold endOf; rw [if_neg (by omega), Nat.add_sub_cancel, List.getD_eq_getElem?_getD, HX.out]; rfl
      have HEND := Hd.mk hend; have HAT := Hd.mk hat
      clear hend hat
      go_upto_if 14 with fail
      go_cut [6, 14] (fun t6 _ wx => t6 = .int .i64 at_ ∧ wr = wx)
      case first =>
        rcases Nat.eq_zero_or_pos k with hk0 | hk0
        · subst hk0
          obtain rfl : at_ = 0 := by rw [← HAT.out]; rfl
          go_wp2
          go_meet
          case rel => exact ⟨rfl, rfl⟩
        · obtain ⟨b2, off2, y, hA2, hb2, hy, e0, e1, e2, e3, e4, e5⟩ := tok_get (HC.out.below HS.out HB.out) (k - 1) (by omega)
          cases hA2
          obtain rfl : at_ = y.t := by rw [← HAT.out]; unfold endOf; rw [if_neg (by omega), List.getD_eq_getElem?_getD, hy]; rfl
          obtain ⟨k1, hk1⟩ : ∃ k1, k - 1 = k1 := ⟨_, rfl⟩
          rw [hk1] at e0 e1 e2 e3 e4 e5
          have hkI : (k : Int) - 1 = (k1 : Int) := by omega
          have hk1n : k1 < n := by omega
          have hk0I : (0 : Int) < k := by omega
          clear hy hk1
          go_wp2
          go_meet
          case rel => exact ⟨rfl, rfl⟩
      case rest =>
        obtain ⟨rfl, rfl⟩ := hcut
        rcases Classical.em (¬ x.f = at_) with a1 | a1
        · have aJ : (x.f == at_) = false := by simpa using a1
          have aN : (x.f != at_) = true := by simpa using a1
          have hbb2 : bb = false := by rw [← HBB.out, HJ.out, join_step HX.out, if_pos (by unfold badT; first | exact .inl a1 | exact .inr (.inl a2) | exact .inr (.inr a3))]
          subst hbb2
          go_wp2
          refine wp_region_can (.q (0 :: 1 :: 2 :: 3 :: 4 :: 5 :: 6 :: 7 :: 8 :: 9 :: 10 :: 11 :: 12 :: 13 :: 14 :: 15 :: 16 :: 17 :: 18 :: 19 :: 20 :: 21 :: 22 :: 23 :: 24 :: 25 :: 26 :: 27 :: 28 :: 29 :: 30 :: 31 :: 32 :: []) (.done)) (clsB _) (by kernel_rfl) (by kernel_rfl) (by intro _ _ d _ _ h; cases d <;> exact h) (clsB_drew _) ?_
          refine can_q (l := ⟨_,_,_,_,_,_⟩ :: ⟨_,_,_,_,_,_⟩ :: ⟨_,_,_,_,_,_⟩ :: ⟨_,_,_,_,_,_⟩ :: ⟨_,_,_,_,_,_⟩ :: ⟨_,_,_,_,_,_⟩ :: ⟨_,_,_,_,_,_⟩ :: ⟨_,_,_,_,_,_⟩ :: ⟨_,_,_,_,_,_⟩ :: ⟨_,_,_,_,_,_⟩ :: ⟨_,_,_,_,_,_⟩ :: ⟨_,_,_,_,_,_⟩ :: ⟨_,_,_,_,_,_⟩ :: ⟨_,_,_,_,_,_⟩ :: ⟨_,_,_,_,_,_⟩ :: ⟨_,_,_,_,_,_⟩ :: ⟨_,_,_,_,_,_⟩ :: ⟨_,_,_,_,_,_⟩ :: ⟨_,_,_,_,_,_⟩ :: ⟨_,_,_,_,_,_⟩ :: ⟨_,_,_,_,_,_⟩ :: ⟨_,_,_,_,_,_⟩ :: ⟨_,_,_,_,_,_⟩ :: ⟨_,_,_,_,_,_⟩ :: ⟨_,_,_,_,_,_⟩ :: ⟨_,_,_,_,_,_⟩ :: ⟨_,_,_,_,_,_⟩ :: ⟨_,_,_,_,_,_⟩ :: ⟨_,_,_,_,_,_⟩ :: ⟨_,_,_,_,_,_⟩ :: ⟨_,_,_,_,_,_⟩ :: ⟨_,_,_,_,_,_⟩ :: ⟨_,_,_,_,_,_⟩ :: []) rfl ?_
          repeat (go_big_quiet_step (fail))
          refine wpQuiet_nil ?_
          refine can_done ?_
          go_wp2
          go_ret
          exact ⟨rfl, by have := HB.out; exact (by repeat (first | (with_reducible assumption) | (with_reducible exact Below.refl _ _) | (with_reducible apply below_drewL) | (with_reducible apply below_alloc) | (with_reducible apply below_drew1) | (with_reducible apply below_drewN) | (refine below_set ?_ (by first | omega | (simp only [size_alloc, size_drew, size_set]; omega)) _ _)))⟩
        have aJ : (x.f == at_) = true := by simpa using a1
        have aN : (x.f != at_) = false := by simpa using a1
        have a1' : x.f = at_ := by simpa using a1
        rcases Classical.em (x.a < x.f) with a2 | a2
        ·
          have a2D : decide (x.a < x.f) = true := by simpa using a2
          have hbb2 : bb = false := by rw [← HBB.out, HJ.out, join_step HX.out, if_pos (by unfold badT; first | exact .inl a1 | exact .inr (.inl a2) | exact .inr (.inr a3))]
          subst hbb2
          clear a1 a1'
          go_wp2
          refine wp_region_can (.q (0 :: 1 :: 2 :: 3 :: 4 :: 5 :: 6 :: 7 :: 8 :: 9 :: 10 :: 11 :: 12 :: 13 :: 14 :: 15 :: 16 :: 17 :: 18 :: 19 :: 20 :: 21 :: 22 :: 23 :: 24 :: 25 :: 26 :: 27 :: 28 :: 29 :: 30 :: 31 :: 32 :: []) (.done)) (clsB _) (by kernel_rfl) (by kernel_rfl) (by intro _ _ d _ _ h; cases d <;> exact h) (clsB_drew _) ?_
          refine can_q (l := ⟨_,_,_,_,_,_⟩ :: ⟨_,_,_,_,_,_⟩ :: ⟨_,_,_,_,_,_⟩ :: ⟨_,_,_,_,_,_⟩ :: ⟨_,_,_,_,_,_⟩ :: ⟨_,_,_,_,_,_⟩ :: ⟨_,_,_,_,_,_⟩ :: ⟨_,_,_,_,_,_⟩ :: ⟨_,_,_,_,_,_⟩ :: ⟨_,_,_,_,_,_⟩ :: ⟨_,_,_,_,_,_⟩ :: ⟨_,_,_,_,_,_⟩ :: ⟨_,_,_,_,_,_⟩ :: ⟨_,_,_,_,_,_⟩ :: ⟨_,_,_,_,_,_⟩ :: ⟨_,_,_,_,_,_⟩ :: ⟨_,_,_,_,_,_⟩ :: ⟨_,_,_,_,_,_⟩ :: ⟨_,_,_,_,_,_⟩ :: ⟨_,_,_,_,_,_⟩ :: ⟨_,_,_,_,_,_⟩ :: ⟨_,_,_,_,_,_⟩ :: ⟨_,_,_,_,_,_⟩ :: ⟨_,_,_,_,_,_⟩ :: ⟨_,_,_,_,_,_⟩ :: ⟨_,_,_,_,_,_⟩ :: ⟨_,_,_,_,_,_⟩ :: ⟨_,_,_,_,_,_⟩ :: ⟨_,_,_,_,_,_⟩ :: ⟨_,_,_,_,_,_⟩ :: ⟨_,_,_,_,_,_⟩ :: ⟨_,_,_,_,_,_⟩ :: ⟨_,_,_,_,_,_⟩ :: []) rfl ?_
          repeat (go_big_quiet_step (fail))
          refine wpQuiet_nil ?_
          refine can_done ?_
          go_wp2
          go_ret
          exact ⟨rfl, by have := HB.out; exact (by repeat (first | (with_reducible assumption) | (with_reducible exact Below.refl _ _) | (with_reducible apply below_drewL) | (with_reducible apply below_alloc) | (with_reducible apply below_drew1) | (with_reducible apply below_drewN) | (refine below_set ?_ (by first | omega | (simp only [size_alloc, size_drew, size_set]; omega)) _ _)))⟩
        have a2D : decide (x.a < x.f) = false := by simpa using a2
        rcases Classical.em (x.t < x.a) with a3 | a3
        ·
          have a3D : decide (x.t < x.a) = true := by simpa using a3
          have hbb2 : bb = false := by rw [← HBB.out, HJ.out, join_step HX.out, if_pos (by unfold badT; first | exact .inl a1 | exact .inr (.inl a2) | exact .inr (.inr a3))]
          subst hbb2
          clear a1 a1'
          go_wp2
          refine wp_region_can (.q (0 :: 1 :: 2 :: 3 :: 4 :: 5 :: 6 :: 7 :: 8 :: 9 :: 10 :: 11 :: 12 :: 13 :: 14 :: 15 :: 16 :: 17 :: 18 :: 19 :: 20 :: 21 :: 22 :: 23 :: 24 :: 25 :: 26 :: 27 :: 28 :: 29 :: 30 :: 31 :: 32 :: []) (.done)) (clsB _) (by kernel_rfl) (by kernel_rfl) (by intro _ _ d _ _ h; cases d <;> exact h) (clsB_drew _) ?_
          refine can_q (l := ⟨_,_,_,_,_,_⟩ :: ⟨_,_,_,_,_,_⟩ :: ⟨_,_,_,_,_,_⟩ :: ⟨_,_,_,_,_,_⟩ :: ⟨_,_,_,_,_,_⟩ :: ⟨_,_,_,_,_,_⟩ :: ⟨_,_,_,_,_,_⟩ :: ⟨_,_,_,_,_,_⟩ :: ⟨_,_,_,_,_,_⟩ :: ⟨_,_,_,_,_,_⟩ :: ⟨_,_,_,_,_,_⟩ :: ⟨_,_,_,_,_,_⟩ :: ⟨_,_,_,_,_,_⟩ :: ⟨_,_,_,_,_,_⟩ :: ⟨_,_,_,_,_,_⟩ :: ⟨_,_,_,_,_,_⟩ :: ⟨_,_,_,_,_,_⟩ :: ⟨_,_,_,_,_,_⟩ :: ⟨_,_,_,_,_,_⟩ :: ⟨_,_,_,_,_,_⟩ :: ⟨_,_,_,_,_,_⟩ :: ⟨_,_,_,_,_,_⟩ :: ⟨_,_,_,_,_,_⟩ :: ⟨_,_,_,_,_,_⟩ :: ⟨_,_,_,_,_,_⟩ :: ⟨_,_,_,_,_,_⟩ :: ⟨_,_,_,_,_,_⟩ :: ⟨_,_,_,_,_,_⟩ :: ⟨_,_,_,_,_,_⟩ :: ⟨_,_,_,_,_,_⟩ :: ⟨_,_,_,_,_,_⟩ :: ⟨_,_,_,_,_,_⟩ :: ⟨_,_,_,_,_,_⟩ :: []) rfl ?_
          repeat (go_big_quiet_step (fail))
          refine wpQuiet_nil ?_
          refine can_done ?_
          go_wp2
          go_ret
          exact ⟨rfl, by have := HB.out; exact (by repeat (first | (with_reducible assumption) | (with_reducible exact Below.refl _ _) | (with_reducible apply below_drewL) | (with_reducible apply below_alloc) | (with_reducible apply below_drew1) | (with_reducible apply below_drewN) | (refine below_set ?_ (by first | omega | (simp only [size_alloc, size_drew, size_set]; omega)) _ _)))⟩
        · have HJ2 : Hd (joinF dst 0 L = joinF dst (endOf L (k + 1)) (L.drop (k + 1))) := ⟨by rw [HJ.out, join_step HX.out, if_neg (by unfold badT; rintro (h | h | h); exact h a1'; exact a2 h; exact a3 h), HEND.out]⟩
          have a3D : decide (x.t < x.a) = false := by simpa using a3
          clear a1 a1'
          go_wp2
          refine wp_region_can (.q (0 :: 1 :: 2 :: 3 :: 4 :: 5 :: 6 :: 7 :: 8 :: 9 :: 10 :: 11 :: 12 :: 13 :: 14 :: 15 :: 16 :: 17 :: 18 :: 19 :: 20 :: 21 :: 22 :: 23 :: 24 :: 25 :: 26 :: 27 :: 28 :: 29 :: 30 :: 31 :: 32 :: []) (.done)) (clsB _) (by kernel_rfl) (by kernel_rfl) (by intro _ _ d _ _ h; cases d <;> exact h) (clsB_drew _) ?_
          refine can_q (l := ⟨_,_,_,_,_,_⟩ :: ⟨_,_,_,_,_,_⟩ :: ⟨_,_,_,_,_,_⟩ :: ⟨_,_,_,_,_,_⟩ :: ⟨_,_,_,_,_,_⟩ :: ⟨_,_,_,_,_,_⟩ :: ⟨_,_,_,_,_,_⟩ :: ⟨_,_,_,_,_,_⟩ :: ⟨_,_,_,_,_,_⟩ :: ⟨_,_,_,_,_,_⟩ :: ⟨_,_,_,_,_,_⟩ :: ⟨_,_,_,_,_,_⟩ :: ⟨_,_,_,_,_,_⟩ :: ⟨_,_,_,_,_,_⟩ :: ⟨_,_,_,_,_,_⟩ :: ⟨_,_,_,_,_,_⟩ :: ⟨_,_,_,_,_,_⟩ :: ⟨_,_,_,_,_,_⟩ :: ⟨_,_,_,_,_,_⟩ :: ⟨_,_,_,_,_,_⟩ :: ⟨_,_,_,_,_,_⟩ :: ⟨_,_,_,_,_,_⟩ :: ⟨_,_,_,_,_,_⟩ :: ⟨_,_,_,_,_,_⟩ :: ⟨_,_,_,_,_,_⟩ :: ⟨_,_,_,_,_,_⟩ :: ⟨_,_,_,_,_,_⟩ :: ⟨_,_,_,_,_,_⟩ :: ⟨_,_,_,_,_,_⟩ :: ⟨_,_,_,_,_,_⟩ :: ⟨_,_,_,_,_,_⟩ :: ⟨_,_,_,_,_,_⟩ :: ⟨_,_,_,_,_,_⟩ :: []) rfl ?_
          repeat (go_big_quiet_step (fail))
          refine wpQuiet_nil ?_
          refine can_done ?_
          go_wp2
          go_roundw
          case rel => exact ⟨k + 1, by omega, by go_num, HJ2, ⟨by have := HB.out; exact (by repeat (first | (with_reducible assumption) | (with_reducible exact Below.refl _ _) | (with_reducible apply below_drewL) | (with_reducible apply below_alloc) | (with_reducible apply below_drew1) | (with_reducible apply below_drewN) | (refine below_set ?_ (by first | omega | (simp only [size_alloc, size_drew, size_set]; omega)) _ _)))⟩⟩
          case measure => simp [intOf]; omega
    · obtain rfl : k = n := by omega
      have hj : joinF dst 0 L = (endOf L k == dst) := by rw [HJ.out, List.drop_eq_nil_of_le (by rw [HL.out]; exact Nat.le_refl _)]; rfl
      rcases Nat.eq_zero_or_pos k with hk0 | hk0
      · subst hk0
        have HE : Hd (bb = ((dst == 0))) := ⟨by rw [← HBB.out, hj]; unfold endOf; rw [if_pos rfl]; rw [Bool.eq_iff_iff, beq_iff_eq, beq_iff_eq]; exact eq_comm⟩
        clear hj
        go_wp2
        go_ret
        exact ⟨ret_bool (by rw [HE.out]), HB.out⟩
      · obtain ⟨b2, off2, y, rfl, hb2, hy, e0, e1, e2, e3, e4, e5⟩ := tok_get (HC.out.below HS.out HB.out) (k - 1) (by omega)
        have HE : Hd (bb = (y.t == dst)) := ⟨by rw [← HBB.out, hj]; unfold endOf; rw [if_neg (by omega), List.getD_eq_getElem?_getD, hy]; rfl⟩
        obtain ⟨k1, hk1⟩ : ∃ k1, k - 1 = k1 := ⟨_, rfl⟩
        rw [hk1] at e0 e1 e2 e3 e4 e5
        have hkI : (k : Int) - 1 = (k1 : Int) := by omega
        have hk1n : k1 < k := by omega
        have hk0I : ¬ (k : Int) = 0 := by omega
        have hk0J : ((k : Int) == 0) = false := by simpa using hk0I
        clear hy hk1 hj
        go_wp2
        go_ret
        exact ⟨ret_bool (by rw [HE.out]), HB.out⟩
end Go.Proofs.Ytcejfnnimfpahaa.Fn
