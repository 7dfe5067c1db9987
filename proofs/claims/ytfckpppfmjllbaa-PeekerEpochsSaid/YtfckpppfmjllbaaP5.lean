/- What look computes. -/
import Derived.Test.YtfckpppfmjllbaaP4
namespace Go.Proofs.Ytfckpppfmjllbaa.Fn
open Go Go.RowKit Go.Proofs.Ytfckpppfmjllbaa.Can Go.Proofs.Ytfckpppfmjllbaa.Base
attribute [local go_sem] clsB AB.cell

theorem cut_one {G : Prop} (F : Nat → World → Prop) {C : Nat → World → Prop} (main : (∀ g U, F g U → C g U) → G) (key : ∀ g U, F g U → C g U) : G := main key
def lookP (s : PS) (L : List E) : PS := match getE L ⟨s.a, s.m⟩ with | none => failP s | some t => { s with t := t, a := t.t, m := t.m, le := s.le - 1, ph := if s.le - 1 = 0 then 2 else s.ph }
def lookR (s : PS) (L : List E) : Nat := match getE L ⟨s.a, s.m⟩ with | none => failR s | some _ => 0
def tokC (t : Tok) : Array Value := #[.int .i64 t.k, .int .i64 t.r, .int .i64 t.f, .int .i64 t.a, .int .i64 t.t, .int .i64 t.m]
set_option maxRecDepth 20000 in
set_option maxHeartbeats 2000000 in
theorem look_calls (ep a m : Int) (A : Option Addr) (n c : Nat) (L : List E) (S : Nat → Prop) {p : Nat} {s : PS} {w : World} (h : w.heap[p]? = some (.cells (pkC s) 51 (0, 0))) (hS : ∀ k, S k → k < w.heap.size) (hC : Row eT w S A n L) (ht : s.tr ≤ 1000) (hr : s.re ≤ 16) (hl1 : 1 ≤ s.le) (hl2 : s.le ≤ 16) :
    Calls Try.prog 20 #[.pointer (some ⟨p, 0, none⟩), nowV ep a m A n c] w fun e w' => e = .returned (.int .i64 (lookR s L : Nat)) ∧ w'.heap[p]? = some (.cells (pkC (lookP s L)) 51 (0, 0)) ∧ Fr (fun b => b = p) w w' := by
  have HH := Hd.mk h; have HS := Hd.mk hS; have HC := Hd.mk hC; clear h hS hC
  have hpw := blk_lt HH.out
  unfold nowV
  obtain ⟨t, ht0⟩ : ∃ t, (getE L ⟨s.a, s.m⟩).getD tok0 = t := ⟨_, rfl⟩
  obtain ⟨bb, hbb⟩ : ∃ bb, (getE L ⟨s.a, s.m⟩).isSome = bb := ⟨_, rfl⟩
  have HT := Hd.mk ht0; have HBB := Hd.mk hbb
  clear ht0 hbb
  have hK : ∀ W, Below w.heap.size w W → Calls Try.prog 9 #[.agg #[.int .i64 ep, .int .i64 a, .int .i64 m, .slice A n c], .agg #[.int .i64 s.a, .int .i64 s.m]] W fun e w' => e = .returned (.tuple #[.agg #[.int .i64 t.k, .int .i64 t.r, .int .i64 t.f, .int .i64 t.a, .int .i64 t.t, .int .i64 t.m], .bool bb]) ∧ Below W.heap.size W w' := fun W hW => by
    have := known_calls A n c L ep a m s.a s.m S W (fun k hk => Nat.lt_of_lt_of_le (HS.out k hk) hW.size) (HC.out.below HS.out hW)
    rw [HT.out, HBB.out] at this
    exact this
  have HK := Hd.mk hK; clear hK
  go_enter Try.func20, Try.ntmps20
  go_wp2
  generalize hV : World.alloc _ _ = V
  have HBV : Below w.heap.size w V := below_of hV (by repeat (first | (with_reducible assumption) | (with_reducible exact Below.refl _ _) | (with_reducible apply below_drewL) | (with_reducible apply below_alloc) | (with_reducible apply below_drew1) | (with_reducible apply below_drewN) | (refine below_set ?_ (by first | omega | (simp only [size_alloc, size_drew, size_set]; omega)) _ _)))
  have zV : Hd (V.heap.size = w.heap.size + 1) := ⟨by rw [← hV]; simp only [size_alloc]⟩
  have V0 := at_of hV (blk_new _ _ _ rfl)
  have V0l := blk_lt V0
  clear hV
  have HB := Hd.mk HBV
  have hv := blk_below HH.out HBV
  have HV := Hd.mk hv
  unfold pkC fnV at hv
  have hvc0 := blk_cell hv 0 _ rfl; have hvf0 := blk_frozen hv 0; have hvc1 := blk_cell hv 1 _ rfl; have hvf1 := blk_frozen hv 1; have hvc2 := blk_cell hv 2 _ rfl; have hvf2 := blk_frozen hv 2; have hvc3 := blk_cell hv 3 _ rfl; have hvf3 := blk_frozen hv 3; have hvc4 := blk_cell hv 4 _ rfl; have hvf4 := blk_frozen hv 4; have hvc5 := blk_cell hv 5 _ rfl; have hvf5 := blk_frozen hv 5; have hvc6 := blk_cell hv 6 _ rfl; have hvf6 := blk_frozen hv 6; have hvc7 := blk_cell hv 7 _ rfl; have hvf7 := blk_frozen hv 7; have hvc8 := blk_cell hv 8 _ rfl; have hvf8 := blk_frozen hv 8; have hvc9 := blk_cell hv 9 _ rfl; have hvf9 := blk_frozen hv 9; have hvc10 := blk_cell hv 10 _ rfl; have hvf10 := blk_frozen hv 10; have hvc11 := blk_cell hv 11 _ rfl; have hvf11 := blk_frozen hv 11; have hvc12 := blk_cell hv 12 _ rfl; have hvf12 := blk_frozen hv 12; have hvc13 := blk_cell hv 13 _ rfl; have hvf13 := blk_frozen hv 13; have hvc14 := blk_cell hv 14 _ rfl; have hvf14 := blk_frozen hv 14; have hvc15 := blk_cell hv 15 _ rfl; have hvf15 := blk_frozen hv 15; have hvl := blk_lt hv
  have V0c0 := blk_cell V0 0 _ rfl
  have V0f0 := blk_frozen V0 0
  have V0c1 := blk_cell V0 1 _ rfl
  have V0f1 := blk_frozen V0 1
  have V0c2 := blk_cell V0 2 _ rfl
  have V0f2 := blk_frozen V0 2
  have V0c3 := blk_cell V0 3 _ rfl
  have V0f3 := blk_frozen V0 3
  have hVw : w.heap.size < V.heap.size := V0l
  clear hv V0 HBV zV
  refine wp_region_can (.q [0, 1, 2, 3, 4, 5] (.b 6 false (.q [7, 8, 9] (.e 10 true (.e 11 false (.q [12] (.done))))) 10 true (.e 6 false (.q [7, 8, 9] (.e 11 false (.q [12] (.done))))))) (clsB _) (by kernel_rfl) (by kernel_rfl) (by intro _ _ d _ _ h; cases d <;> exact h) (clsB_drew _) ?_
  refine can_q (l := [⟨_,_,_,_,_,_⟩, ⟨_,_,_,_,_,_⟩, ⟨_,_,_,_,_,_⟩, ⟨_,_,_,_,_,_⟩, ⟨_,_,_,_,_,_⟩, ⟨_,_,_,_,_,_⟩]) rfl ?_
  repeat (go_big_quiet_step (fail))
  refine wpQuiet_nil ?_
  apply cut_one (fun g U => w.heap.size < g ∧ Below V.heap.size V U ∧ U.heap[g]? = some (.cells (tokC t) 35 (0, 0)))
  case main =>
    intro key
    refine can_b (o := ⟨_,_,_,_,_,_⟩) (oj := ⟨_,_,_,_,_,_⟩) rfl rfl (fun K hK => ?_) (fun K hK => ?_)
    · go_wp2_with (go_at_call 9; go_must (refine Calls.mono (HK.out _ (below_drew1 HB.out)) ?_; rintro e w1 ⟨rfl, hb1⟩; replace hb1 := below_undrew hb1))
      refine onK_normal (hK _ _ ⟨clsB _, clsB_of (by first | exact (hb1) | exact below_undrew (hb1)), fun _ _ h => h, ?_⟩)
      clear hK K
      refine can_q (l := [⟨_,_,_,_,_,_⟩, ⟨_,_,_,_,_,_⟩, ⟨_,_,_,_,_,_⟩]) rfl ?_
      repeat (go_big_quiet_step (fail))
      refine wpQuiet_nil ?_
      refine can_e (o := ⟨_,_,_,_,_,_⟩) rfl (fun K hK => ?_)
      go_wp2_with fail
      refine onK_normal (hK _ _ ⟨clsB _, clsB_of (by first | exact ((below_alloc hb1 _)) | exact below_undrew ((below_alloc hb1 _))), fun _ _ h => h, ?_⟩)
      clear hK K
      refine can_e (o := ⟨_,_,_,_,_,_⟩) rfl (fun K hK => ?_)
      go_wp2_with fail
      refine onK_normal (hK _ _ ⟨fun _ => True, trivial, (fun h => by cases h), ?_⟩)
      clear hK K
      refine can_q (l := [⟨_,_,_,_,_,_⟩]) rfl ?_
      repeat (go_big_quiet_step (fail))
      refine wpQuiet_nil ?_
      refine can_done ?_
      have hz := hb1.size
      generalize hU : World.alloc w1 _ = U
      have hg : U.heap[w1.heap.size]? = some (.cells (tokC t) 35 (0, 0)) := by rw [← hU]; exact blk_new _ _ _ rfl
      have hb2 : Below V.heap.size V U := by rw [← hU]; exact below_alloc hb1 _
      generalize w1.heap.size = g at hg hz ⊢
      exact key g U ⟨by omega, hb2, hg⟩
    · go_wp2_with fail
      refine onK_normal (hK _ _ ⟨clsB _, clsB_of (by first | exact ((by repeat (first | (with_reducible assumption) | (with_reducible exact Below.refl _ _) | (with_reducible apply below_drewL) | (with_reducible apply below_alloc) | (with_reducible apply below_drew1) | (with_reducible apply below_drewN) | (refine below_set ?_ (by first | omega | (simp only [size_alloc, size_drew, size_set]; omega)) _ _)))) | exact below_undrew ((by repeat (first | (with_reducible assumption) | (with_reducible exact Below.refl _ _) | (with_reducible apply below_drewL) | (with_reducible apply below_alloc) | (with_reducible apply below_drew1) | (with_reducible apply below_drewN) | (refine below_set ?_ (by first | omega | (simp only [size_alloc, size_drew, size_set]; omega)) _ _))))), fun _ _ h => h, ?_⟩)
      clear hK K
      refine can_e (o := ⟨_,_,_,_,_,_⟩) rfl (fun K hK => ?_)
      go_wp2_with (go_at_call 9; go_must (refine Calls.mono (HK.out _ (below_seq HB.out (by repeat (first | (with_reducible assumption) | (with_reducible exact Below.refl _ _) | (with_reducible apply below_drewL) | (with_reducible apply below_alloc) | (with_reducible apply below_drew1) | (with_reducible apply below_drewN) | (refine below_set ?_ (by first | omega | (simp only [size_alloc, size_drew, size_set]; omega)) _ _))))) ?_; rintro e w1 ⟨rfl, hb1⟩; have hg1 : w1.heap[V.heap.size]? = some (.cells #[.int .i64 0, .int .i64 0, .int .i64 0, .int .i64 0, .int .i64 0, .int .i64 0] 35 (0, 0)) := (hb1.block V.heap.size (by simp only [size_alloc, size_drew]; omega)).trans (by first | exact blk_new V _ _ rfl | exact blk_drew (blk_new V _ _ rfl)); have hb2 : Below V.heap.size V w1 := Below.trans (by first | exact below_alloc (Below.refl _ _) _ | exact below_drew1 (below_alloc (Below.refl _ _) _) | exact below_alloc (below_drew1 (Below.refl _ _)) _) (hb1.mono (by simp only [size_alloc, size_drew]; omega)); have hg1c0 := blk_cell hg1 0 _ rfl; have hg1f0 := blk_frozen hg1 0; have hg1c1 := blk_cell hg1 1 _ rfl; have hg1f1 := blk_frozen hg1 1; have hg1c2 := blk_cell hg1 2 _ rfl; have hg1f2 := blk_frozen hg1 2; have hg1c3 := blk_cell hg1 3 _ rfl; have hg1f3 := blk_frozen hg1 3; have hg1c4 := blk_cell hg1 4 _ rfl; have hg1f4 := blk_frozen hg1 4; have hg1c5 := blk_cell hg1 5 _ rfl; have hg1f5 := blk_frozen hg1 5; have hg1l := blk_lt hg1))
      refine onK_normal (hK _ _ ⟨clsB _, clsB_of (by first | exact ((below_drewL hb2)) | exact below_undrew ((below_drewL hb2))), fun _ _ h => h, ?_⟩)
      clear hK K
      refine can_q (l := [⟨_,_,_,_,_,_⟩, ⟨_,_,_,_,_,_⟩, ⟨_,_,_,_,_,_⟩]) rfl ?_
      repeat (go_big_quiet_step (fail))
      refine wpQuiet_nil ?_
      refine can_e (o := ⟨_,_,_,_,_,_⟩) rfl (fun K hK => ?_)
      go_wp2_with fail
      refine onK_normal (hK _ _ ⟨fun _ => True, trivial, (fun h => by cases h), ?_⟩)
      clear hK K
      refine can_q (l := [⟨_,_,_,_,_,_⟩]) rfl ?_
      repeat (go_big_quiet_step (fail))
      refine wpQuiet_nil ?_
      refine can_done ?_
      generalize hU : World.setCell _ _ _ = U
      have hg : U.heap[V.heap.size]? = some (.cells (tokC t) 35 (0, 0)) := by
        rw [← hU]
        exact blk_set (blk_set (blk_set (blk_set (blk_set (blk_set hg1 0 _ _ rfl) 1 _ _ rfl) 2 _ _ rfl) 3 _ _ rfl) 4 _ _ rfl) 5 _ _ rfl
      have hb3 : Below V.heap.size V U := by rw [← hU]; exact (by repeat (first | (with_reducible assumption) | (with_reducible exact Below.refl _ _) | (with_reducible apply below_drewL) | (with_reducible apply below_alloc) | (with_reducible apply below_drew1) | (with_reducible apply below_drewN) | (refine below_set ?_ (by first | omega | (simp only [size_alloc, size_drew, size_set]; omega)) _ _)))
      have hz : w.heap.size < V.heap.size := hVw
      generalize V.heap.size = g at hg hz ⊢
      exact key g U ⟨by omega, hb3, hg⟩
  case key =>
    rintro g U ⟨hgw, hbU, hgU⟩
    have hu := blk_below HV.out hbU
    have HU := Hd.mk hu
    have HBU : Hd (Below w.heap.size w U) := ⟨below_seq HB.out hbU⟩
    have HGU := Hd.mk hgU
    have hgp : ¬ g = p := by omega
    unfold pkC fnV at hu
    unfold tokC at hgU
    clear hvc0 hvc1 hvc2 hvc3 hvc4 hvc5 hvc6 hvc7 hvc8 hvc9 hvc10 hvc11 hvc12 hvc13 hvc14 hvc15 hvf0 hvf1 hvf2 hvf3 hvf4 hvf5 hvf6 hvf7 hvf8 hvf9 hvf10 hvf11 hvf12 hvf13 hvf14 hvf15 hvl V0c0 V0c1 V0c2 V0c3 V0f0 V0f1 V0f2 V0f3 V0l HV HK
    cases hb : bb with
    | false =>
      subst hb
      have hno : getE L ⟨s.a, s.m⟩ = none := by have := HBB.out; cases h : getE L ⟨s.a, s.m⟩ with | none => rfl | some x => rw [h] at this; cases this
      have HP : Hd (lookP s L = failP s ∧ lookR s L = failR s) := ⟨by unfold lookP lookR; rw [hno]; exact ⟨rfl, rfl⟩⟩
      clear hno hu hgU
      go_wp2_with (go_at_call 21; go_must (refine Calls.mono (failed_calls (s := s) HU.out ht hr) ?_; rintro e w2 ⟨rfl, h2, f2⟩))
      go_ret
      exact ⟨ret_int (by rw [HP.out.2]), by rw [HP.out.1]; exact h2, (Fr.of_below HBU.out).trans f2⟩
    | true =>
      subst hb
      have hyes : getE L ⟨s.a, s.m⟩ = some t := by have := HBB.out; have h9 := HT.out; cases h : getE L ⟨s.a, s.m⟩ with | none => rw [h] at this; cases this | some x => rw [h] at h9; rw [← h9]; rfl
      have HP : Hd (lookP s L = { s with t := t, a := t.t, m := t.m, le := s.le - 1, ph := if s.le - 1 = 0 then 2 else s.ph } ∧ lookR s L = 0) := ⟨by unfold lookP lookR; rw [hyes]; exact ⟨rfl, rfl⟩⟩
      have huc0 := blk_cell hu 0 _ rfl; have huf0 := blk_frozen hu 0; have huc1 := blk_cell hu 1 _ rfl; have huf1 := blk_frozen hu 1; have huc2 := blk_cell hu 2 _ rfl; have huf2 := blk_frozen hu 2; have huc3 := blk_cell hu 3 _ rfl; have huf3 := blk_frozen hu 3; have huc4 := blk_cell hu 4 _ rfl; have huf4 := blk_frozen hu 4; have huc5 := blk_cell hu 5 _ rfl; have huf5 := blk_frozen hu 5; have huc6 := blk_cell hu 6 _ rfl; have huf6 := blk_frozen hu 6; have huc7 := blk_cell hu 7 _ rfl; have huf7 := blk_frozen hu 7; have huc8 := blk_cell hu 8 _ rfl; have huf8 := blk_frozen hu 8; have huc9 := blk_cell hu 9 _ rfl; have huf9 := blk_frozen hu 9; have huc10 := blk_cell hu 10 _ rfl; have huf10 := blk_frozen hu 10; have huc11 := blk_cell hu 11 _ rfl; have huf11 := blk_frozen hu 11; have huc12 := blk_cell hu 12 _ rfl; have huf12 := blk_frozen hu 12; have huc13 := blk_cell hu 13 _ rfl; have huf13 := blk_frozen hu 13; have huc14 := blk_cell hu 14 _ rfl; have huf14 := blk_frozen hu 14; have huc15 := blk_cell hu 15 _ rfl; have huf15 := blk_frozen hu 15; have hul := blk_lt hu
      have hgUc0 := blk_cell hgU 0 _ rfl; have hgUf0 := blk_frozen hgU 0; have hgUc1 := blk_cell hgU 1 _ rfl; have hgUf1 := blk_frozen hgU 1; have hgUc2 := blk_cell hgU 2 _ rfl; have hgUf2 := blk_frozen hgU 2; have hgUc3 := blk_cell hgU 3 _ rfl; have hgUf3 := blk_frozen hgU 3; have hgUc4 := blk_cell hgU 4 _ rfl; have hgUf4 := blk_frozen hgU 4; have hgUc5 := blk_cell hgU 5 _ rfl; have hgUf5 := blk_frozen hgU 5; have hgUl := blk_lt hgU
      clear hyes hu hgU
      have hle : (s.le : Int) - 1 = ((s.le - 1 : Nat) : Int) := by omega
      go_wp2
      refine wp_region_can (.q [0, 1, 2, 3] (.e 4 true (.q [5, 6] (.e 7 false (.q [8, 9] (.e 10 false (.done))))))) (clsB _) (by kernel_rfl) (by kernel_rfl) (by intro _ _ d _ _ h; cases d <;> exact h) (clsB_drew _) ?_
      refine can_q (l := [⟨_,_,_,_,_,_⟩, ⟨_,_,_,_,_,_⟩, ⟨_,_,_,_,_,_⟩, ⟨_,_,_,_,_,_⟩]) rfl ?_
      repeat (go_big_quiet_step (fail))
      refine wpQuiet_nil ?_
      refine can_e (o := ⟨_,_,_,_,_,_⟩) rfl (fun K hK => ?_)
      go_wp2_with (go_at_call 22; go_must (refine Calls.mono (behind_calls t _) ?_; rintro e w5 ⟨rfl, hb5⟩; replace hb5 := below_undrew hb5; have h5 := blk_below HU.out hb5; have H5 := Hd.mk h5; unfold pkC fnV at h5; have HB5 := Hd.mk hb5; clear huc0 huc1 huc2 huc3 huc4 huc5 huc6 huc7 huc8 huc9 huc10 huc11 huc12 huc13 huc14 huc15 huf0 huf1 huf2 huf3 huf4 huf5 huf6 huf7 huf8 huf9 huf10 huf11 huf12 huf13 huf14 huf15; have h5c0 := blk_cell h5 0 _ rfl; have h5f0 := blk_frozen h5 0; have h5c1 := blk_cell h5 1 _ rfl; have h5f1 := blk_frozen h5 1; have h5c2 := blk_cell h5 2 _ rfl; have h5f2 := blk_frozen h5 2; have h5c3 := blk_cell h5 3 _ rfl; have h5f3 := blk_frozen h5 3; have h5c4 := blk_cell h5 4 _ rfl; have h5f4 := blk_frozen h5 4; have h5c5 := blk_cell h5 5 _ rfl; have h5f5 := blk_frozen h5 5; have h5c6 := blk_cell h5 6 _ rfl; have h5f6 := blk_frozen h5 6; have h5c7 := blk_cell h5 7 _ rfl; have h5f7 := blk_frozen h5 7; have h5c8 := blk_cell h5 8 _ rfl; have h5f8 := blk_frozen h5 8; have h5c9 := blk_cell h5 9 _ rfl; have h5f9 := blk_frozen h5 9; have h5c10 := blk_cell h5 10 _ rfl; have h5f10 := blk_frozen h5 10; have h5c11 := blk_cell h5 11 _ rfl; have h5f11 := blk_frozen h5 11; have h5c12 := blk_cell h5 12 _ rfl; have h5f12 := blk_frozen h5 12; have h5c13 := blk_cell h5 13 _ rfl; have h5f13 := blk_frozen h5 13; have h5c14 := blk_cell h5 14 _ rfl; have h5f14 := blk_frozen h5 14; have h5c15 := blk_cell h5 15 _ rfl; have h5f15 := blk_frozen h5 15; have h5l := blk_lt h5; clear h5))
      refine onK_normal (hK _ _ ⟨clsB _, clsB_of (by first | exact (HB5.out) | exact below_undrew (HB5.out)), fun _ _ h => h, ?_⟩)
      clear hK K
      refine can_q (l := [⟨_,_,_,_,_,_⟩, ⟨_,_,_,_,_,_⟩]) rfl ?_
      repeat (go_big_quiet_step (fail))
      refine wpQuiet_nil ?_
      refine can_e (o := ⟨_,_,_,_,_,_⟩) rfl (fun K hK => ?_)
      go_wp2_with fail
      refine onK_normal (hK _ _ ⟨fun _ => True, trivial, (fun h => by cases h), ?_⟩)
      clear hK K
      refine can_q (l := [⟨_,_,_,_,_,_⟩, ⟨_,_,_,_,_,_⟩]) rfl ?_
      repeat (go_big_quiet_step (fail))
      refine wpQuiet_nil ?_
      refine can_e (o := ⟨_,_,_,_,_,_⟩) rfl (fun K hK => ?_)
      go_wp2_with fail
      refine onK_normal (hK _ _ ⟨fun _ => True, trivial, (fun h => by cases h), ?_⟩)
      clear hK K
      refine can_done ?_
      generalize hW : World.setCell _ _ _ = W
      have y1 := blk_set H5.out 9 (.int .i64 t.k) (pkC { s with t := ⟨t.k, s.t.r, s.t.f, s.t.a, s.t.t, s.t.m⟩ }) rfl
      have y2 := blk_set y1 10 (.int .i64 t.r) (pkC { s with t := ⟨t.k, t.r, s.t.f, s.t.a, s.t.t, s.t.m⟩ }) rfl
      have y3 := blk_set y2 11 (.int .i64 t.f) (pkC { s with t := ⟨t.k, t.r, t.f, s.t.a, s.t.t, s.t.m⟩ }) rfl
      have y4 := blk_set y3 12 (.int .i64 t.a) (pkC { s with t := ⟨t.k, t.r, t.f, t.a, s.t.t, s.t.m⟩ }) rfl
      have y5 := blk_set y4 13 (.int .i64 t.t) (pkC { s with t := ⟨t.k, t.r, t.f, t.a, t.t, s.t.m⟩ }) rfl
      have y6 := blk_set y5 14 (.int .i64 t.m) (pkC { s with t := t }) rfl
      have y7 := blk_set y6 6 (.int .i64 t.t) (pkC { s with t := t, a := t.t }) rfl
      have y8 := blk_set y7 7 (.int .i64 t.m) (pkC { s with t := t, a := t.t, m := t.m }) rfl
      have hp9 : W.heap[p]? = some (.cells (pkC { s with t := t, a := t.t, m := t.m }) 51 (0, 0)) := by
        rw [← hW]
        exact y8
      clear y1 y2 y3 y4 y5 y6 y7 y8
      have HF9 : Hd (Fr (fun b => b = p) w W) := ⟨by
        rw [← hW]
        exact (Fr.set (Fr.set (Fr.set (Fr.set (Fr.set (Fr.set (Fr.set (Fr.set (Fr.of_below (X := fun b => b = p) (below_seq HBU.out HB5.out)) (.inl rfl) _ _) (.inl rfl) _ _) (.inl rfl) _ _) (.inl rfl) _ _) (.inl rfl) _ _) (.inl rfl) _ _) (.inl rfl) _ _) (.inl rfl) _ _)⟩
      have HP9 := Hd.mk hp9
      unfold pkC fnV at hp9
      clear hW
      clear h5c0 h5c1 h5c2 h5c3 h5c4 h5c5 h5c6 h5c7 h5c8 h5c9 h5c10 h5c11 h5c12 h5c13 h5c14 h5c15 h5f0 h5f1 h5f2 h5f3 h5f4 h5f5 h5f6 h5f7 h5f8 h5f9 h5f10 h5f11 h5f12 h5f13 h5f14 h5f15 h5l
      have hp9c0 := blk_cell hp9 0 _ rfl; have hp9f0 := blk_frozen hp9 0; have hp9c1 := blk_cell hp9 1 _ rfl; have hp9f1 := blk_frozen hp9 1; have hp9c2 := blk_cell hp9 2 _ rfl; have hp9f2 := blk_frozen hp9 2; have hp9c3 := blk_cell hp9 3 _ rfl; have hp9f3 := blk_frozen hp9 3; have hp9c4 := blk_cell hp9 4 _ rfl; have hp9f4 := blk_frozen hp9 4; have hp9c5 := blk_cell hp9 5 _ rfl; have hp9f5 := blk_frozen hp9 5; have hp9c6 := blk_cell hp9 6 _ rfl; have hp9f6 := blk_frozen hp9 6; have hp9c7 := blk_cell hp9 7 _ rfl; have hp9f7 := blk_frozen hp9 7; have hp9c8 := blk_cell hp9 8 _ rfl; have hp9f8 := blk_frozen hp9 8; have hp9c9 := blk_cell hp9 9 _ rfl; have hp9f9 := blk_frozen hp9 9; have hp9c10 := blk_cell hp9 10 _ rfl; have hp9f10 := blk_frozen hp9 10; have hp9c11 := blk_cell hp9 11 _ rfl; have hp9f11 := blk_frozen hp9 11; have hp9c12 := blk_cell hp9 12 _ rfl; have hp9f12 := blk_frozen hp9 12; have hp9c13 := blk_cell hp9 13 _ rfl; have hp9f13 := blk_frozen hp9 13; have hp9c14 := blk_cell hp9 14 _ rfl; have hp9f14 := blk_frozen hp9 14; have hp9c15 := blk_cell hp9 15 _ rfl; have hp9f15 := blk_frozen hp9 15; have hp9l := blk_lt hp9
      clear hp9
      obtain ⟨le2, hle2⟩ : ∃ le2, s.le - 1 = le2 := ⟨_, rfl⟩
      rw [hle2] at hle
      have HL2 := Hd.mk hle2
      clear hle2
      by_cases h0 : le2 = 0
      · subst h0
        go_wp2
        go_ret
        refine ⟨ret_int (by rw [HP.out.2]; rfl), ?_, Fr.set (Fr.set HF9.out (.inl rfl) _ _) (.inl rfl) _ _⟩
        rw [HP.out.1, HL2.out]
        exact blk_set (blk_set HP9.out 8 _ _ rfl) 15 _ _ rfl
      · have h0I : ¬ (le2 : Int) = 0 := by omega
        have h0J : ((le2 : Int) == 0) = false := by simpa using h0I
        go_wp2
        go_ret
        refine ⟨ret_int (by rw [HP.out.2]; rfl), ?_, Fr.set HF9.out (.inl rfl) _ _⟩
        rw [HP.out.1, HL2.out, if_neg h0]
        exact blk_set HP9.out 8 _ _ rfl
end Go.Proofs.Ytfckpppfmjllbaa.Fn
