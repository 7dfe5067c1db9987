/- What the reference's push computes. -/
import Derived.Test.YtcejfnnimfpahaaS13
import Derived.Test.YtcejfnnimfpahaaTags
namespace Go.Proofs.Ytcejfnnimfpahaa.Fn
open Go Go.RowKit Go.Proofs.Ytcejfnnimfpahaa.Can Go.Proofs.Ytcejfnnimfpahaa.Base
attribute [local go_sem] clsB AB.cell

/-- The reference's state, as a value. -/
structure RS where
  at_ : Spot
  AF : Option Addr
  nF : Nat
  cF : Nat
  AT : Option Addr
  nT : Nat
  cT : Nat
def RS.cells (r : RS) : List Value := [.int .i64 r.at_.at_, .int .i64 r.at_.mode, .slice r.AF r.nF r.cF, .slice r.AT r.nT r.cT]
/-- It reads as s, and leans on the blocks S. -/
structure Rd (w : World) (S : Nat → Prop) (r : RS) (s : St) : Prop where
  at_ : r.at_ = s.at_
  F : Row spotT w S r.AF r.nF (s.l.map (·.at_))
  T : Row tokT w S r.AT r.nT (s.l.map (·.tok))
  capF : r.nF ≤ r.cF
  capT : r.nT ≤ r.cT
  nilF : r.AF = none → r.cF = 0
  nilT : r.AT = none → r.cT = 0
theorem Rd.below {w w' : World} {S : Nat → Prop} {r : RS} {s : St} (h : Rd w S r s) (hS : ∀ k, S k → k < w.heap.size) (hb : Below w.heap.size w w') : Rd w' S r s := ⟨h.at_, h.F.below hS hb, h.T.below hS hb, h.capF, h.capT, h.nilF, h.nilT⟩
theorem Rd.move {w w' : World} {S : Nat → Prop} {r : RS} {s : St} (h : Rd w S r s) (hb : ∀ k, S k → w'.heap[k]? = w.heap[k]?) : Rd w' S r s := ⟨h.at_, h.F.move hb, h.T.move hb, h.capF, h.capT, h.nilF, h.nilT⟩
theorem Rd.mono {w : World} {S S' : Nat → Prop} {r : RS} {s : St} (h : Rd w S r s) (hb : ∀ k, S k → S' k) : Rd w S' r s := ⟨h.at_, h.F.mono hb, h.T.mono hb, h.capF, h.capT, h.nilF, h.nilT⟩
def pushSt (s : St) (t : Tok) : St := ⟨⟨t.t, t.m⟩, s.l ++ [⟨s.at_, t⟩]⟩
/-- The list of spots, as far as it is made. -/
structure PF (z : Nat) (F : List Spot) (sp : Spot) (d5 d8 d12 : Bool) (w : World) (o : Option Nat) (v10 v13 v17 : Value) : Prop where
  m1 : d8 = true → d5 = true
  m2 : d12 = true → d8 = true
  n : d5 = false → o = none
  a : d5 = true → d8 = false → v10.ownBlock = o ∧ Mine spotT w z 27 v10 []
  b : d8 = true → d12 = false → v13.ownBlock = o ∧ Mine spotT w z 27 v13 F
  c : d12 = true → v17.ownBlock = o ∧ Mine spotT w z 27 v17 (F ++ [sp])
theorem PF.keep {z : Nat} {F : List Spot} {sp : Spot} {d5 d8 d12 : Bool} {w w' : World} {o : Option Nat} {v10 v13 v17 : Value} (h : PF z F sp d5 d8 d12 w o v10 v13 v17) (hm : ∀ k, o = some k → w'.heap[k]? = w.heap[k]?) (hz : w.heap.size ≤ w'.heap.size) : PF z F sp d5 d8 d12 w' o v10 v13 v17 :=
  ⟨h.m1, h.m2, h.n, fun h1 h2 => ⟨(h.a h1 h2).1, (h.a h1 h2).2.mv (fun k hk => hm k (by rw [← (h.a h1 h2).1]; exact hk)) hz⟩, fun h1 h2 => ⟨(h.b h1 h2).1, (h.b h1 h2).2.mv (fun k hk => hm k (by rw [← (h.b h1 h2).1]; exact hk)) hz⟩, fun h1 => ⟨(h.c h1).1, (h.c h1).2.mv (fun k hk => hm k (by rw [← (h.c h1).1]; exact hk)) hz⟩⟩
structure PT (z : Nat) (T : List Tok) (d13 d16 : Bool) (w : World) (o : Option Nat) (v18 v21 : Value) : Prop where
  m1 : d16 = true → d13 = true
  n : d13 = false → o = none
  a : d13 = true → d16 = false → v18.ownBlock = o ∧ Mine tokT w z 29 v18 []
  b : d16 = true → v21.ownBlock = o ∧ Mine tokT w z 29 v21 T
theorem PT.keep {z : Nat} {T : List Tok} {d13 d16 : Bool} {w w' : World} {o : Option Nat} {v18 v21 : Value} (h : PT z T d13 d16 w o v18 v21) (hm : ∀ k, o = some k → w'.heap[k]? = w.heap[k]?) (hz : w.heap.size ≤ w'.heap.size) : PT z T d13 d16 w' o v18 v21 :=
  ⟨h.m1, h.n, fun h1 h2 => ⟨(h.a h1 h2).1, (h.a h1 h2).2.mv (fun k hk => hm k (by rw [← (h.a h1 h2).1]; exact hk)) hz⟩, fun h1 => ⟨(h.b h1).1, (h.b h1).2.mv (fun k hk => hm k (by rw [← (h.b h1).1]; exact hk)) hz⟩⟩
/-- A box, if it is made. -/
structure PB (cs : Array Value) (e : TypeId) (d : Bool) (w : World) (o : Option Nat) (v : Value) : Prop where
  n : d = false → o = none
  a : d = true → ∃ g, v = .slice (some ⟨g, 0, none⟩) 1 1 ∧ o = some g ∧ w.heap[g]? = some (.cells cs e (0, 0))
theorem PB.keep {cs : Array Value} {e : TypeId} {d : Bool} {w w' : World} {o : Option Nat} {v : Value} (h : PB cs e d w o v) (hm : ∀ k, o = some k → w'.heap[k]? = w.heap[k]?) : PB cs e d w' o v :=
  ⟨h.n, fun h1 => by obtain ⟨g, h2, h3, h4⟩ := h.a h1; exact ⟨g, h2, h3, (hm g h3).trans h4⟩⟩
set_option maxRecDepth 20000 in
set_option maxHeartbeats 4000000 in
theorem push_calls (r : RS) (s : St) (t : Tok) (S : Nat → Prop) (w : World) (hS : ∀ k, S k → k < w.heap.size) (h : Rd w S r s) (hl : s.l.length ≤ 1000000) :
    Calls Try.prog 24 #[.agg #[.int .i64 r.at_.at_, .int .i64 r.at_.mode, .slice r.AF r.nF r.cF, .slice r.AT r.nT r.cT], tokV t] w fun e w' => ∃ r', e = .returned (.agg #[.int .i64 r'.at_.at_, .int .i64 r'.at_.mode, .slice r'.AF r'.nF r'.cF, .slice r'.AT r'.nT r'.cT]) ∧ Rd w' (fun k => w.heap.size ≤ k ∧ k < w'.heap.size) r' (pushSt s t) ∧ Below w.heap.size w w' := by
  unfold tokV
  obtain ⟨sp, AF, nF, cF, AT, nT, cT⟩ := r
  have hat := h.at_
  simp only [] at hat
  subst hat
  have HS := Hd.mk hS; have HR := Hd.mk h
  have hnF : nF ≤ 1000000 := by have := h.F.1; simp at this; omega
  have hnT : nT ≤ 1000000 := by have := h.T.1; simp at this; omega
  obtain ⟨F, hF⟩ : ∃ F, s.l.map (·.at_) = F := ⟨_, rfl⟩
  obtain ⟨T, hT⟩ : ∃ T, s.l.map (·.tok) = T := ⟨_, rfl⟩
  have HF := Hd.mk hF; have HT := Hd.mk hT
  clear hS h hF hT
  simp only []
  go_enter Try.func24, Try.ntmps24
  go_wp2
  generalize hV : World.alloc _ _ = V
  have HBV : Below w.heap.size w V := below_of hV (by repeat (first | (with_reducible assumption) | (with_reducible exact Below.refl _ _) | (with_reducible apply below_drewL) | (with_reducible apply below_alloc) | (with_reducible apply below_drew1) | (with_reducible apply below_drewN) | (refine below_set ?_ (by first | omega | (simp only [size_alloc, size_drew, size_set]; omega)) _ _)))
  have zV : Hd (V.heap.size = w.heap.size + 1 + 1 + 1) := ⟨by rw [← hV]; simp only [size_alloc]⟩
  have V0 := at_of hV (blk_alloc (blk_alloc (blk_new _ _ _ rfl) _) _)
  have V0l := blk_lt V0
  have V1 := at_of hV (blk_alloc (blk_new _ _ _ rfl) _)
  simp only [size_alloc] at V1
  have V1l := blk_lt V1
  have V2 := at_of hV (blk_new _ _ _ rfl)
  simp only [size_alloc] at V2
  have V2l := blk_lt V2
  clear hV
  have V0c0 := blk_cell V0 0 _ rfl
  have V0f0 := blk_frozen V0 0
  have V0c1 := blk_cell V0 1 _ rfl
  have V0f1 := blk_frozen V0 1
  have V0c2 := blk_cell V0 2 _ rfl
  have V0f2 := blk_frozen V0 2
  have V0c3 := blk_cell V0 3 _ rfl
  have V0f3 := blk_frozen V0 3
  have V1c0 := blk_cell V1 0 _ rfl
  have V1f0 := blk_frozen V1 0
  have V1c1 := blk_cell V1 1 _ rfl
  have V1f1 := blk_frozen V1 1
  have V1c2 := blk_cell V1 2 _ rfl
  have V1f2 := blk_frozen V1 2
  have V1c3 := blk_cell V1 3 _ rfl
  have V1f3 := blk_frozen V1 3
  have V1c4 := blk_cell V1 4 _ rfl
  have V1f4 := blk_frozen V1 4
  have V1c5 := blk_cell V1 5 _ rfl
  have V1f5 := blk_frozen V1 5
  have V2c0 := blk_cell V2 0 _ rfl
  have V2f0 := blk_frozen V2 0
  have V2c1 := blk_cell V2 1 _ rfl
  have V2f1 := blk_frozen V2 1
  have V2c2 := blk_cell V2 2 _ rfl
  have V2f2 := blk_frozen V2 2
  have V2c3 := blk_cell V2 3 _ rfl
  have V2f3 := blk_frozen V2 3
  have HV := Hd.mk HBV
  have HV2 := Hd.mk V2
  clear V0 V1 V2 HBV zV
  refine wp_region_can (.q [0, 1, 2, 3, 4, 6, 7, 9, 10, 14, 15, 17] (.inv [5, 8, 11, 12, 13, 16, 18] (.e 19 true (.q [20] (.e 21 false (.done)))))) (clsB _) (by kernel_rfl) (by kernel_rfl) (by intro _ _ d _ _ h; cases d <;> exact h) (clsB_drew _) ?_
  refine can_q (l := [⟨_,_,_,_,_,_⟩, ⟨_,_,_,_,_,_⟩, ⟨_,_,_,_,_,_⟩, ⟨_,_,_,_,_,_⟩, ⟨_,_,_,_,_,_⟩, ⟨_,_,_,_,_,_⟩, ⟨_,_,_,_,_,_⟩, ⟨_,_,_,_,_,_⟩, ⟨_,_,_,_,_,_⟩, ⟨_,_,_,_,_,_⟩, ⟨_,_,_,_,_,_⟩, ⟨_,_,_,_,_,_⟩]) rfl ?_
  repeat (go_big_quiet_step (fail))
  refine wpQuiet_nil ?_
  refine can_inv (fun D a U => ∃ (v10 v13 v16 v17 v18 v21 v23 : Value) (O : Nat → Option Nat), a = ⟨#[.agg #[.int .i64 s.at_.at_, .int .i64 s.at_.mode, .slice AF nF cF, .slice AT nT cT], .agg #[.int .i64 t.k, .int .i64 t.r, .int .i64 t.f, .int .i64 t.a, .int .i64 t.t, .int .i64 t.m], .pointer (some ⟨w.heap.size, 0, none⟩), .pointer (some ⟨w.heap.size + 1, 0, none⟩), .pointer (some ⟨w.heap.size + 1 + 1, 0, none⟩), .pointer (some ⟨w.heap.size + 1, 4, none⟩), .int .i64 t.t, .pointer (some ⟨w.heap.size + 1, 5, none⟩), .int .i64 t.m, .agg #[.int .i64 t.t, .int .i64 t.m], v10, .pointer (some ⟨w.heap.size, 2, none⟩), .slice AF nF cF, v13, .pointer (some ⟨w.heap.size, 0, none⟩), .agg #[.int .i64 s.at_.at_, .int .i64 s.at_.mode], v16, v17, v18, .pointer (some ⟨w.heap.size, 3, none⟩), .slice AT nT cT, v21, .agg #[.int .i64 t.k, .int .i64 t.r, .int .i64 t.f, .int .i64 t.a, .int .i64 t.t, .int .i64 t.m], v23, undef, undef], []⟩ ∧ Hd (Below V.heap.size V U) ∧ Hd (Tags V.heap.size U O) ∧
    Hd (PF V.heap.size F s.at_ (D 5) (D 8) (D 12) U (O 0) v10 v13 v17) ∧ Hd (PB (spotE s.at_).toArray 27 (D 11) U (O 1) v16) ∧ Hd (PT V.heap.size T (D 13) (D 16) U (O 2) v18 v21) ∧ Hd (PB (tokE t).toArray 29 (D 18) U (O 3) v23)) ?_ ?_ ?_ ?_
  · exact ⟨_, _, _, _, _, _, _, fun _ => none, rfl, ⟨below_drew1 (Below.refl _ _)⟩, ⟨Tags.nil _ _⟩, ⟨⟨fun h => (by cases h), fun h => (by cases h), fun _ => rfl, fun h => (by cases h), fun h => (by cases h), fun h => (by cases h)⟩⟩, ⟨⟨fun _ => rfl, fun h => (by cases h)⟩⟩, ⟨⟨fun h => (by cases h), fun _ => rfl, fun h => (by cases h), fun h => (by cases h)⟩⟩, ⟨⟨fun _ => rfl, fun h => (by cases h)⟩⟩⟩
  · rintro D a U ⟨_, _, _, _, _, _, _, _, _, hb, _⟩
    exact clsB_of hb.out
  · intro i hi
    simp only [List.mem_cons, List.not_mem_nil, or_false] at hi
    rcases hi with rfl | rfl | rfl | rfl | rfl | rfl | rfl
    · rintro D a U ⟨v10, v13, v16, v17, v18, v21, v23, O, rfl, HB, HTg, HPF, HPB, HPT, HPC⟩ hd hp
      have hzU := HB.out.size
      have HU := Hd.mk hzU
      refine op_of_list (o := ⟨_,_,_,_,_,_⟩) rfl (fun K hK => ?_)
      go_wp2_with fail
      refine onK_normal (hK _ _ ⟨_, v13, v16, v17, v18, v21, v23, putO O 0 (some U.heap.size), rfl, ⟨below_alloc HB.out _⟩, ⟨HTg.out.step (.inr rfl) HU.out (by rw [size_alloc]; omega) (fun k hk => by cases hk; rw [size_alloc]; omega)⟩, ⟨⟨fun _ => rfl, HPF.out.m2, fun h => (by cases h), fun _ _ => ⟨by rw [putO_same]; rfl, Mine.empty spotT U rfl HU.out⟩, fun h => absurd (HPF.out.m1 h) (by rw [hd]; simp), fun h => absurd (HPF.out.m1 (HPF.out.m2 h)) (by rw [hd]; simp)⟩⟩, ⟨by rw [putO_ne (by decide)]; exact HPB.out.keep (fun k hk => Below.heap_alloc U _ k (HTg.out.lt 1 k hk).2)⟩, ⟨by rw [putO_ne (by decide)]; exact HPT.out.keep (fun k hk => Below.heap_alloc U _ k (HTg.out.lt 2 k hk).2) (by first | exact hz1 | (rw [size_alloc]; omega))⟩, ⟨by rw [putO_ne (by decide)]; exact HPC.out.keep (fun k hk => Below.heap_alloc U _ k (HTg.out.lt 3 k hk).2)⟩⟩)
    · rintro D a U ⟨v10, v13, v16, v17, v18, v21, v23, O, rfl, HB, HTg, HPF, HPB, HPT, HPC⟩ hd hp
      have hzU := HB.out.size
      have HU := Hd.mk hzU
      have h5 : D 5 = true := hp 5 (of_decide_eq_true (by kernel_rfl)) (by decide)
      obtain ⟨how, hM0⟩ := HPF.out.a h5 hd
      have HOW := Hd.mk how; have HM0 := Hd.mk hM0; clear how hM0
      refine op_of_list (o := ⟨_,_,_,_,_,_⟩) rfl (fun K hK => ?_)
      go_wp2_with (at_builtin; go_must (refine append_row spotT spot_flat rfl (.tmp 10) (.tmp 12) 40 27 _ 16 rfl Try.underlying40 info27 rfl (by decide) (by decide) V.heap.size v10 [] F AF nF cF rfl rfl HR.out.nilF HM0.out (by rw [← HF.out]; exact HR.out.F.below HS.out (HV.out.trans (HB.out.mono HV.out.size))) (fun k hk => ⟨by have := HS.out k hk; have := HV.out.size; omega, HM0.out.ne_old (by have := HS.out k hk; have := HV.out.size; omega)⟩) hzU (by simp only [List.length_nil]; omega) ?_; intro v1 w1 hM1 hb1 hk1 hat1; have HM1 := Hd.mk hM1; have HB1 := Hd.mk hb1; have HAT := Hd.mk hat1; have HKK : Hd (∀ k, k < U.heap.size → O 0 ≠ some k → w1.heap[k]? = U.heap[k]?) := ⟨fun k hk hne => hk1 k hk (by rw [HOW.out]; exact hne)⟩; clear hM1 hb1 hk1 hat1))
      have hz1 := HB1.out.size
      refine onK_normal (hK _ _ ⟨v10, v1, v16, v17, v18, v21, v23, putO O 0 v1.ownBlock, rfl, ⟨HB.out.trans HB1.out⟩, ⟨HTg.out.step (by rw [← HOW.out]; exact HAT.out) HU.out HB1.out.size (fun k hk => (HM1.out.lt hk).1)⟩, ⟨⟨fun _ => h5, fun _ => rfl, fun h => absurd h5 (by rw [show D 5 = false from h]; simp), fun _ h => (by cases h), fun _ _ => ⟨by rw [putO_same], by have := HM1.out; rwa [List.nil_append] at this⟩, fun h => absurd (HPF.out.m2 h) (by rw [hd]; simp)⟩⟩, ⟨by rw [putO_ne (by decide)]; exact HPB.out.keep (fun k hk => HTg.out.other (c := 0) (j := 1) HKK.out (by decide) hk)⟩, ⟨by rw [putO_ne (by decide)]; exact HPT.out.keep (fun k hk => HTg.out.other (c := 0) (j := 2) HKK.out (by decide) hk) (by first | exact hz1 | (rw [size_alloc]; omega))⟩, ⟨by rw [putO_ne (by decide)]; exact HPC.out.keep (fun k hk => HTg.out.other (c := 0) (j := 3) HKK.out (by decide) hk)⟩⟩)
    · rintro D a U ⟨v10, v13, v16, v17, v18, v21, v23, O, rfl, HB, HTg, HPF, HPB, HPT, HPC⟩ hd hp
      have hzU := HB.out.size
      have HU := Hd.mk hzU
      refine op_of_list (o := ⟨_,_,_,_,_,_⟩) rfl (fun K hK => ?_)
      go_wp2_with fail
      refine onK_normal (hK _ _ ⟨v10, v13, _, v17, v18, v21, v23, putO O 1 (some U.heap.size), rfl, ⟨below_alloc HB.out _⟩, ⟨HTg.out.step (.inr rfl) HU.out (by rw [size_alloc]; omega) (fun k hk => by cases hk; rw [size_alloc]; omega)⟩, ⟨by rw [putO_ne (by decide)]; exact HPF.out.keep (fun k hk => Below.heap_alloc U _ k (HTg.out.lt 0 k hk).2) (by first | exact hz1 | (rw [size_alloc]; omega))⟩, ⟨⟨fun h => (by cases h), fun _ => ⟨U.heap.size, rfl, by rw [putO_same], blk_new _ _ _ rfl⟩⟩⟩, ⟨by rw [putO_ne (by decide)]; exact HPT.out.keep (fun k hk => Below.heap_alloc U _ k (HTg.out.lt 2 k hk).2) (by first | exact hz1 | (rw [size_alloc]; omega))⟩, ⟨by rw [putO_ne (by decide)]; exact HPC.out.keep (fun k hk => Below.heap_alloc U _ k (HTg.out.lt 3 k hk).2)⟩⟩)
    · rintro D a U ⟨v10, v13, v16, v17, v18, v21, v23, O, rfl, HB, HTg, HPF, HPB, HPT, HPC⟩ hd hp
      have hzU := HB.out.size
      have HU := Hd.mk hzU
      have h8 : D 8 = true := hp 8 (of_decide_eq_true (by kernel_rfl)) (by decide)
      have h11 : D 11 = true := hp 11 (of_decide_eq_true (by kernel_rfl)) (by decide)
      obtain ⟨how, hM0⟩ := HPF.out.b h8 hd
      obtain ⟨g, rfl, hOg, hbox⟩ := HPB.out.a h11
      have HOW := Hd.mk how; have HM0 := Hd.mk hM0; have HBX := Hd.mk hbox; have HOG := Hd.mk hOg; clear how hM0 hbox hOg
      have HLF : Hd (F.length = nF) := ⟨by rw [← HF.out]; exact HR.out.F.1⟩
      refine op_of_list (o := ⟨_,_,_,_,_,_⟩) rfl (fun K hK => ?_)
      go_wp2_with (at_builtin; go_must (refine append_snoc spotT spot_flat rfl (.tmp 13) (.tmp 16) 40 27 _ 16 rfl Try.underlying40 info27 rfl (by decide) (by decide) V.heap.size v13 F s.at_ (spotE s.at_) g rfl rfl HBX.out rfl HM0.out (by rw [HOW.out]; exact HTg.out.dist 1 0 g (by decide) HOG.out) hzU (by rw [HLF.out]; omega) ?_; intro v1 w1 hM1 hb1 hk1 hat1; have HM1 := Hd.mk hM1; have HB1 := Hd.mk hb1; have HAT := Hd.mk hat1; have HKK : Hd (∀ k, k < U.heap.size → O 0 ≠ some k → w1.heap[k]? = U.heap[k]?) := ⟨fun k hk hne => hk1 k hk (by rw [HOW.out]; exact hne)⟩; clear hM1 hb1 hk1 hat1))
      have hz1 := HB1.out.size
      refine onK_normal (hK _ _ ⟨v10, v13, _, v1, v18, v21, v23, putO O 0 v1.ownBlock, rfl, ⟨HB.out.trans HB1.out⟩, ⟨HTg.out.step (by rw [← HOW.out]; exact HAT.out) HU.out HB1.out.size (fun k hk => (HM1.out.lt hk).1)⟩, ⟨⟨HPF.out.m1, fun _ => h8, fun h => absurd (HPF.out.m1 h8) (by rw [show D 5 = false from h]; simp), fun _ h => absurd h8 (by rw [show D 8 = false from h]; simp), fun _ h => (by cases h), fun _ => ⟨by rw [putO_same], HM1.out⟩⟩⟩, ⟨by rw [putO_ne (by decide)]; exact HPB.out.keep (fun k hk => HTg.out.other (c := 0) (j := 1) HKK.out (by decide) hk)⟩, ⟨by rw [putO_ne (by decide)]; exact HPT.out.keep (fun k hk => HTg.out.other (c := 0) (j := 2) HKK.out (by decide) hk) (by first | exact hz1 | (rw [size_alloc]; omega))⟩, ⟨by rw [putO_ne (by decide)]; exact HPC.out.keep (fun k hk => HTg.out.other (c := 0) (j := 3) HKK.out (by decide) hk)⟩⟩)
    · rintro D a U ⟨v10, v13, v16, v17, v18, v21, v23, O, rfl, HB, HTg, HPF, HPB, HPT, HPC⟩ hd hp
      have hzU := HB.out.size
      have HU := Hd.mk hzU
      refine op_of_list (o := ⟨_,_,_,_,_,_⟩) rfl (fun K hK => ?_)
      go_wp2_with fail
      refine onK_normal (hK _ _ ⟨v10, v13, v16, v17, _, v21, v23, putO O 2 (some U.heap.size), rfl, ⟨below_alloc HB.out _⟩, ⟨HTg.out.step (.inr rfl) HU.out (by rw [size_alloc]; omega) (fun k hk => by cases hk; rw [size_alloc]; omega)⟩, ⟨by rw [putO_ne (by decide)]; exact HPF.out.keep (fun k hk => Below.heap_alloc U _ k (HTg.out.lt 0 k hk).2) (by first | exact hz1 | (rw [size_alloc]; omega))⟩, ⟨by rw [putO_ne (by decide)]; exact HPB.out.keep (fun k hk => Below.heap_alloc U _ k (HTg.out.lt 1 k hk).2)⟩, ⟨⟨fun _ => rfl, fun h => (by cases h), fun _ _ => ⟨by rw [putO_same]; rfl, Mine.empty tokT U rfl HU.out⟩, fun h => absurd (HPT.out.m1 h) (by rw [hd]; simp)⟩⟩, ⟨by rw [putO_ne (by decide)]; exact HPC.out.keep (fun k hk => Below.heap_alloc U _ k (HTg.out.lt 3 k hk).2)⟩⟩)
    · rintro D a U ⟨v10, v13, v16, v17, v18, v21, v23, O, rfl, HB, HTg, HPF, HPB, HPT, HPC⟩ hd hp
      have hzU := HB.out.size
      have HU := Hd.mk hzU
      have h13 : D 13 = true := hp 13 (of_decide_eq_true (by kernel_rfl)) (by decide)
      obtain ⟨how, hM0⟩ := HPT.out.a h13 hd
      have HOW := Hd.mk how; have HM0 := Hd.mk hM0; clear how hM0
      refine op_of_list (o := ⟨_,_,_,_,_,_⟩) rfl (fun K hK => ?_)
      go_wp2_with (at_builtin; go_must (refine append_row tokT tok_flat rfl (.tmp 18) (.tmp 20) 24 29 _ 48 rfl Try.underlying24 info29 rfl (by decide) (by decide) V.heap.size v18 [] T AT nT cT rfl rfl HR.out.nilT HM0.out (by rw [← HT.out]; exact HR.out.T.below HS.out (HV.out.trans (HB.out.mono HV.out.size))) (fun k hk => ⟨by have := HS.out k hk; have := HV.out.size; omega, HM0.out.ne_old (by have := HS.out k hk; have := HV.out.size; omega)⟩) hzU (by simp only [List.length_nil]; omega) ?_; intro v1 w1 hM1 hb1 hk1 hat1; have HM1 := Hd.mk hM1; have HB1 := Hd.mk hb1; have HAT := Hd.mk hat1; have HKK : Hd (∀ k, k < U.heap.size → O 2 ≠ some k → w1.heap[k]? = U.heap[k]?) := ⟨fun k hk hne => hk1 k hk (by rw [HOW.out]; exact hne)⟩; clear hM1 hb1 hk1 hat1))
      have hz1 := HB1.out.size
      refine onK_normal (hK _ _ ⟨v10, v13, v16, v17, v18, v1, v23, putO O 2 v1.ownBlock, rfl, ⟨HB.out.trans HB1.out⟩, ⟨HTg.out.step (by rw [← HOW.out]; exact HAT.out) HU.out HB1.out.size (fun k hk => (HM1.out.lt hk).1)⟩, ⟨by rw [putO_ne (by decide)]; exact HPF.out.keep (fun k hk => HTg.out.other (c := 2) (j := 0) HKK.out (by decide) hk) (by first | exact hz1 | (rw [size_alloc]; omega))⟩, ⟨by rw [putO_ne (by decide)]; exact HPB.out.keep (fun k hk => HTg.out.other (c := 2) (j := 1) HKK.out (by decide) hk)⟩, ⟨⟨fun _ => h13, fun h => absurd h13 (by rw [show D 13 = false from h]; simp), fun _ h => (by cases h), fun _ => ⟨by rw [putO_same], by have := HM1.out; rwa [List.nil_append] at this⟩⟩⟩, ⟨by rw [putO_ne (by decide)]; exact HPC.out.keep (fun k hk => HTg.out.other (c := 2) (j := 3) HKK.out (by decide) hk)⟩⟩)
    · rintro D a U ⟨v10, v13, v16, v17, v18, v21, v23, O, rfl, HB, HTg, HPF, HPB, HPT, HPC⟩ hd hp
      have hzU := HB.out.size
      have HU := Hd.mk hzU
      refine op_of_list (o := ⟨_,_,_,_,_,_⟩) rfl (fun K hK => ?_)
      go_wp2_with fail
      refine onK_normal (hK _ _ ⟨v10, v13, v16, v17, v18, v21, _, putO O 3 (some U.heap.size), rfl, ⟨below_alloc HB.out _⟩, ⟨HTg.out.step (.inr rfl) HU.out (by rw [size_alloc]; omega) (fun k hk => by cases hk; rw [size_alloc]; omega)⟩, ⟨by rw [putO_ne (by decide)]; exact HPF.out.keep (fun k hk => Below.heap_alloc U _ k (HTg.out.lt 0 k hk).2) (by first | exact hz1 | (rw [size_alloc]; omega))⟩, ⟨by rw [putO_ne (by decide)]; exact HPB.out.keep (fun k hk => Below.heap_alloc U _ k (HTg.out.lt 1 k hk).2)⟩, ⟨by rw [putO_ne (by decide)]; exact HPT.out.keep (fun k hk => Below.heap_alloc U _ k (HTg.out.lt 2 k hk).2) (by first | exact hz1 | (rw [size_alloc]; omega))⟩, ⟨⟨fun h => (by cases h), fun _ => ⟨U.heap.size, rfl, by rw [putO_same], blk_new _ _ _ rfl⟩⟩⟩⟩)
  · rintro D a U ⟨v10, v13, v16, v17, v18, v21, v23, O, rfl, HB, HTg, HPF, HPB, HPT, HPC⟩ hall
    obtain ⟨how, hM0⟩ := HPF.out.c (hall 12 (by decide))
    obtain ⟨how2, hM2⟩ := HPT.out.b (hall 16 (by decide))
    obtain ⟨g, rfl, hOg, hbox⟩ := HPC.out.a (hall 18 (by decide))
    obtain ⟨A1, n1, c1, rfl, hn1, hc1, hA1, hr1⟩ := hM0.formN
    have HR1 := Hd.mk hr1; have HA1 := Hd.mk hA1; have HOW := Hd.mk how; have HOW2 := Hd.mk how2; have HM0 := Hd.mk hM0; have HM2 := Hd.mk hM2; have HBX := Hd.mk hbox; have HOG := Hd.mk hOg
    have HLT : Hd (T.length = nT) := ⟨by rw [← HT.out]; exact HR.out.T.1⟩
    have hc2 := blk_below HV2.out HB.out
    have hzU := HB.out.size
    clear how hM0 how2 hM2 hbox hOg hr1 hA1 hn1 hall
    have HC2 := Hd.mk hc2
    clear hc2
    refine can_e (o := ⟨_,_,_,_,_,_⟩) rfl (fun K hK => ?_)
    go_wp2_with (at_builtin; go_must (refine append_snoc tokT tok_flat rfl (.tmp 21) (.tmp 23) 24 29 _ 48 rfl Try.underlying24 info29 rfl (by decide) (by decide) V.heap.size v21 T t (tokE t) g rfl rfl HBX.out rfl HM2.out (by rw [HOW2.out]; exact HTg.out.dist 3 2 g (by decide) HOG.out) hzU (by rw [HLT.out]; omega) ?_; intro v4 w4 hM4 hb4 hk4 hat4; obtain ⟨A4, n4, c4, rfl, hn4, hc4, hA4, hr4⟩ := hM4.formN; have HR4 := Hd.mk hr4; have HA4 := Hd.mk hA4; have HB4 := Hd.mk (HB.out.trans hb4); have HM1 := Hd.mk (HM0.out.mv (w' := w4) (fun k hk => hk4 k (HM0.out.lt hk).1 (by rw [HOW2.out]; exact HTg.out.dist 0 2 k (by decide) (by rw [← HOW.out]; exact hk))) hb4.size); have hc5 := hk4 (w.heap.size + 1 + 1) (blk_lt HC2.out) (by rw [HOW2.out]; intro h; have := (HTg.out.lt 2 _ h).1; omega); replace hc5 := hc5.trans HC2.out; clear hM4 hb4 hk4 hat4 hr4 hA4 hn4; have hc5c0 := blk_cell hc5 0 _ rfl; have hc5f0 := blk_frozen hc5 0; have hc5c1 := blk_cell hc5 1 _ rfl; have hc5f1 := blk_frozen hc5 1; have hc5c2 := blk_cell hc5 2 _ rfl; have hc5f2 := blk_frozen hc5 2; have hc5c3 := blk_cell hc5 3 _ rfl; have hc5f3 := blk_frozen hc5 3; have hc5l := blk_lt hc5))
    refine onK_normal (hK _ _ ⟨clsB _, clsB_of (by first | exact (HB4.out) | exact below_undrew (HB4.out)), fun _ _ h => h, ?_⟩)
    clear hK K
    refine can_q (l := [⟨_,_,_,_,_,_⟩]) rfl ?_
    repeat (go_big_quiet_step (fail))
    refine wpQuiet_nil ?_
    refine can_e (o := ⟨_,_,_,_,_,_⟩) rfl (fun K hK => ?_)
    go_wp2_with fail
    refine onK_normal (hK _ _ ⟨fun _ => True, trivial, (fun h => by cases h), ?_⟩)
    clear hK K
    refine can_done ?_
    go_wp2
    refine bodyPost_ret (results_cell_row rfl _ _ (w.heap.size + 1 + 1) 42 #[.int .i64 t.t, .int .i64 t.m, .slice A1 n1 c1, .slice A4 n4 c4] (0, 0) _ rfl (blk_set (blk_set (blk_set (blk_set hc5 0 _ _ rfl) 1 _ _ rfl) 2 _ _ rfl) 3 _ _ rfl) Try.underlying42 rfl (by kernel_rfl)) rfl ?_
    have hfr := Fr.set (Fr.set (Fr.set (Fr.set (Fr.refl (fun k => k = w.heap.size + 1 + 1) w4) (.inl rfl) 0 (.int .i64 t.t)) (.inl rfl) 1 (.int .i64 t.m)) (.inl rfl) 2 (.slice A1 n1 c1)) (.inl rfl) 3 (.slice A4 n4 c4)
    obtain ⟨A1', n1', c1', he1, _, hc1', _, hr1'⟩ := HM1.out.formN
    cases he1
    have hVs := HV.out.size
    refine ⟨⟨⟨t.t, t.m⟩, A1, n1, c1, A4, n4, c4⟩, rfl, ⟨rfl, ?_, ?_, hc1', hc4, HA1.out, HA4.out⟩, ?_⟩
    · have hrow := (hfr.row hr1' (fun k hk => ⟨hk.2, by have := hk.1; show ¬ k = _; omega⟩)).mono (S' := fun k => w.heap.size ≤ k ∧ k < (((w4.setCell ⟨w.heap.size + 1 + 1, 0, none⟩ (.int .i64 t.t)).setCell ⟨w.heap.size + 1 + 1, 1, none⟩ (.int .i64 t.m)).setCell ⟨w.heap.size + 1 + 1, 2, none⟩ (.slice A1 n1 c1) |>.setCell ⟨w.heap.size + 1 + 1, 3, none⟩ (.slice A4 n4 c4)).heap.size) fun k hk => ⟨by have := hk.1; omega, by simp only [size_set]; exact hk.2⟩
      have e1 : (s.l ++ [(⟨s.at_, t⟩ : E)]).map (fun x : E => x.at_) = F ++ [s.at_] := by rw [List.map_append, HF.out]; rfl
      rw [← e1] at hrow
      exact hrow
    · have hrow := (hfr.row HR4.out (fun k hk => ⟨hk.2, by have := hk.1; show ¬ k = _; omega⟩)).mono (S' := fun k => w.heap.size ≤ k ∧ k < (((w4.setCell ⟨w.heap.size + 1 + 1, 0, none⟩ (.int .i64 t.t)).setCell ⟨w.heap.size + 1 + 1, 1, none⟩ (.int .i64 t.m)).setCell ⟨w.heap.size + 1 + 1, 2, none⟩ (.slice A1 n1 c1) |>.setCell ⟨w.heap.size + 1 + 1, 3, none⟩ (.slice A4 n4 c4)).heap.size) fun k hk => ⟨by have := hk.1; omega, by simp only [size_set]; exact hk.2⟩
      have e1 : (s.l ++ [(⟨s.at_, t⟩ : E)]).map (fun x : E => x.tok) = T ++ [t] := by rw [List.map_append, HT.out]; rfl
      rw [← e1] at hrow
      exact hrow
    · exact (HV.out.trans (HB4.out.mono HV.out.size)).trans (hfr.below (n := w.heap.size) (by have := HB4.out.size; omega) (fun b hb hx => by omega))
end Go.Proofs.Ytcejfnnimfpahaa.Fn
