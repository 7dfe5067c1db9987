/- Texts: I10, I11, I12, I13. -/
import Derived.Test.YtoambcpjdcehhaaGreatIB
import Derived.Deep.DeepCutAuto
import Derived.Deep.CutBlock
/- PushBack. -/
set_option linter.unusedVariables false
set_option linter.unusedSimpArgs false
namespace Go.Proofs.YtoambcpjdcehhaaGreat.Id
open Go Go.RowKit Go.Shelf Go.Proofs.YtoambcpjdcehhaaGreat.Can Go.Proofs.YtoambcpjdcehhaaGreat.Base Go.Proofs.YtoambcpjdcehhaaGreat.Tb
open Go.Proofs.YtoambcpjdcehhaaGreat.Fn hiding get_calls
attribute [local go_sem] clsB AB.cell

section
variable {w U w' : World} {C : Cf} {B : Nat} {s s' : Cu} {v : Value} {F F' : Nat → Prop} {l : Lx} {o : Opn} {e : Ending}

set_option maxRecDepth 20000 in
set_option maxHeartbeats 4000000 in
theorem iback_none (h : CW w C B s v F) (hk : o.k = 5) (htr : s.tr = []) : Calls Tryz.prog 54 #[.pointer (some ⟨C.p, 0, none⟩), opV o] w fun e w' => Done w w' C B v F l s o e := by
  have hn0 : s.now.n = 0 := by rw [← h.now.row.1, htr]; rfl
  have HPO := Hd.mk (fun W => Fn.pop_none s.now.A s.now.c s.now.d W)
  have HH := Hd.mk h
  have HK := Hd.mk hk
  have ho := h.obj
  unfold cuC at ho
  unfold opV
  have hoc0 := blk_cell ho 0 _ rfl; have hof0 := blk_frozen ho 0; have hoc1 := blk_cell ho 1 _ rfl; have hof1 := blk_frozen ho 1; have hoc2 := blk_cell ho 2 _ rfl; have hof2 := blk_frozen ho 2; have hoc3 := blk_cell ho 3 _ rfl; have hof3 := blk_frozen ho 3; have hoc4 := blk_cell ho 4 _ rfl; have hof4 := blk_frozen ho 4; have hoc5 := blk_cell ho 5 _ rfl; have hof5 := blk_frozen ho 5; have hoc6 := blk_cell ho 6 _ rfl; have hof6 := blk_frozen ho 6; have hoc7 := blk_cell ho 7 _ rfl; have hof7 := blk_frozen ho 7; have hoc8 := blk_cell ho 8 _ rfl; have hof8 := blk_frozen ho 8; have hoc9 := blk_cell ho 9 _ rfl; have hof9 := blk_frozen ho 9; have hoc10 := blk_cell ho 10 _ rfl; have hof10 := blk_frozen ho 10; have hoc11 := blk_cell ho 11 _ rfl; have hof11 := blk_frozen ho 11; have hoc12 := blk_cell ho 12 _ rfl; have hof12 := blk_frozen ho 12; have hoc13 := blk_cell ho 13 _ rfl; have hof13 := blk_frozen ho 13; have hoc14 := blk_cell ho 14 _ rfl; have hof14 := blk_frozen ho 14; have hoc15 := blk_cell ho 15 _ rfl; have hof15 := blk_frozen ho 15; have hoc16 := blk_cell ho 16 _ rfl; have hof16 := blk_frozen ho 16; have hol := blk_lt ho
  have hp := h.cells
  have HO := Hd.mk ho
  have hv0 := blk_alloc (blk_new w (.cells #[.int .i64 o.k, .int .i64 o.n, .string o.data] 41 (0, 0)) _ rfl) (.cells #[.int .i64 0, .int .i64 0, .int .i64 0, .int .i64 0, .int .i64 0, .int .i64 0, .int .i64 0, .int .i64 0] 45 (0, 0))
  have hv1 := blk_new (w.alloc (.cells #[.int .i64 o.k, .int .i64 o.n, .string o.data] 41 (0, 0))) (.cells #[.int .i64 0, .int .i64 0, .int .i64 0, .int .i64 0, .int .i64 0, .int .i64 0, .int .i64 0, .int .i64 0] 45 (0, 0)) (w.heap.size + 1) (by rw [size_alloc])
  have HV0 := Hd.mk hv0; have HV1 := Hd.mk hv1
  clear h ho hk hv0 hv1
  have HN0 := Hd.mk hn0
  rw [hn0] at hoc15
  clear hn0 htr
  go_enter Tryz.func54, Tryz.ntmps54
  go_wp2_with (first
    | (go_at_call 22; go_must (generalize hG : World.alloc (World.alloc w2 _) _ = G; have HBG : Hd (Below w.heap.size w G) := ⟨by rw [← hG]; exact below_alloc (below_alloc HB2.out _) _⟩; have HG1 := Hd.mk (at_of hG (blk_alloc (blk_alloc HX1.out _) _)); refine Calls.mono (fail_calls _ _) ?_; rintro e w4 ⟨rfl, hb4⟩; have HB4 := Hd.mk (below_seq HBG.out hb4); have HI1 := Hd.mk (blk_below HG1.out hb4); have h14 := HI1.out; clear hb4 hG; have h14c0 := blk_cell h14 0 _ rfl; have h14f0 := blk_frozen h14 0; have h14c1 := blk_cell h14 1 _ rfl; have h14f1 := blk_frozen h14 1; have h14c2 := blk_cell h14 2 _ rfl; have h14f2 := blk_frozen h14 2; have h14c3 := blk_cell h14 3 _ rfl; have h14f3 := blk_frozen h14 3; have h14c4 := blk_cell h14 4 _ rfl; have h14f4 := blk_frozen h14 4; have h14c5 := blk_cell h14 5 _ rfl; have h14f5 := blk_frozen h14 5; have h14c6 := blk_cell h14 6 _ rfl; have h14f6 := blk_frozen h14 6; have h14c7 := blk_cell h14 7 _ rfl; have h14f7 := blk_frozen h14 7; have h14l := blk_lt h14))
    | (go_at_call 80; go_must (refine Calls.mono (HPO.out _) ?_; rintro e w2 ⟨rfl, hb2⟩; have hx1 := blk_below HV1.out hb2; have HX1 := Hd.mk hx1; have HB2 := Hd.mk (below_seq (a := w) (by repeat (first | (with_reducible assumption) | (with_reducible exact Below.refl _ _) | (with_reducible apply below_drewL) | (with_reducible apply below_alloc) | (with_reducible apply below_drew1) | (with_reducible apply below_drewN) | (refine below_set ?_ (by first | omega | (simp only [size_alloc, size_drew, size_set]; omega)) _ _))) hb2); have hw1l := blk_lt hx1; clear hb2 hx1)))
  refine bodyPost_ret (results_cell_row rfl _ _ (w.heap.size + 1) 45 #[.int .i64 13, .int .i64 0, .int .i64 0, .int .i64 0, .int .i64 0, .int .i64 0, .int .i64 0, .int .i64 0] (0,0) _ rfl (blk_eight HI1.out _ _ _ _ _ _ _ _) Tryz.underlying45 rfl (by kernel_rfl)) rfl ?_
  exact Done.fail HH.out ((fr_eight (Fr.of_below (X := fun _ => False) HB4.out) (.inr (by omega)) _ _ _ _ _ _ _ _).below (Nat.le_refl _) (fun _ _ h => h)) 13 (by decide) rfl
set_option maxRecDepth 20000 in
set_option maxHeartbeats 4000000 in
theorem iback_some (h : CW w C B s v F) (hk : o.k = 5) (tr : List Spot) (q : Spot) (htr : s.tr = tr ++ [q]) : Calls Tryz.prog 54 #[.pointer (some ⟨C.p, 0, none⟩), opV o] w fun e w' => Done w w' C B v F l s o e := by
  obtain ⟨n, hn⟩ : ∃ n, tr.length = n := ⟨_, rfl⟩
  have hrow := h.now.row
  rw [htr] at hrow
  have hn0 : s.now.n = n + 1 := by rw [← hrow.1, List.length_append, hn]; rfl
  rw [hn0] at hrow
  have hln : ((n + 1 : Nat) : Int) ≤ newD C.P.trail := by have h1 := h.now.len; rw [htr, List.length_append, hn] at h1; exact h1
  have hdp := newD_pos C.P.trail
  have hcap := h.now.cap
  rw [hn0] at hcap
  have HPO := Hd.mk (fun W (hW : Below w.heap.size w W) => Fn.pop_to s.now.A s.now.c n tr s.now.d q F W (fun k hk => Nat.lt_of_lt_of_le (h.frz k hk).1 hW.size) (hrow.move (fun b hb => hW.block b (h.frz b hb).1)) (by omega) hcap)
  have HRW : Hd (Row spotT w F s.now.A n tr) := ⟨by have := hrow.take n (by omega); rwa [List.take_append_of_le_length (by omega), ← hn, List.take_length, hn] at this⟩
  have HNN : Hd (s.now.A = none → n = 0) := ⟨fun he => absurd he (hrow.some_of (by omega))⟩
  have HLN : Hd ((tr.length : Int) ≤ depthOf C) := ⟨by rw [hn]; show (n : Int) ≤ newD C.P.trail; omega⟩
  have HTR := Hd.mk htr
  clear hcap hdp hln hrow htr hn
  have HH := Hd.mk h
  have HK := Hd.mk hk
  have ho := h.obj
  unfold cuC at ho
  unfold opV
  have hoc0 := blk_cell ho 0 _ rfl; have hof0 := blk_frozen ho 0; have hoc1 := blk_cell ho 1 _ rfl; have hof1 := blk_frozen ho 1; have hoc2 := blk_cell ho 2 _ rfl; have hof2 := blk_frozen ho 2; have hoc3 := blk_cell ho 3 _ rfl; have hof3 := blk_frozen ho 3; have hoc4 := blk_cell ho 4 _ rfl; have hof4 := blk_frozen ho 4; have hoc5 := blk_cell ho 5 _ rfl; have hof5 := blk_frozen ho 5; have hoc6 := blk_cell ho 6 _ rfl; have hof6 := blk_frozen ho 6; have hoc7 := blk_cell ho 7 _ rfl; have hof7 := blk_frozen ho 7; have hoc8 := blk_cell ho 8 _ rfl; have hof8 := blk_frozen ho 8; have hoc9 := blk_cell ho 9 _ rfl; have hof9 := blk_frozen ho 9; have hoc10 := blk_cell ho 10 _ rfl; have hof10 := blk_frozen ho 10; have hoc11 := blk_cell ho 11 _ rfl; have hof11 := blk_frozen ho 11; have hoc12 := blk_cell ho 12 _ rfl; have hof12 := blk_frozen ho 12; have hoc13 := blk_cell ho 13 _ rfl; have hof13 := blk_frozen ho 13; have hoc14 := blk_cell ho 14 _ rfl; have hof14 := blk_frozen ho 14; have hoc15 := blk_cell ho 15 _ rfl; have hof15 := blk_frozen ho 15; have hoc16 := blk_cell ho 16 _ rfl; have hof16 := blk_frozen ho 16; have hol := blk_lt ho
  have hp := h.cells
  have HO := Hd.mk ho
  have hv0 := blk_alloc (blk_new w (.cells #[.int .i64 o.k, .int .i64 o.n, .string o.data] 41 (0, 0)) _ rfl) (.cells #[.int .i64 0, .int .i64 0, .int .i64 0, .int .i64 0, .int .i64 0, .int .i64 0, .int .i64 0, .int .i64 0] 45 (0, 0))
  have hv1 := blk_new (w.alloc (.cells #[.int .i64 o.k, .int .i64 o.n, .string o.data] 41 (0, 0))) (.cells #[.int .i64 0, .int .i64 0, .int .i64 0, .int .i64 0, .int .i64 0, .int .i64 0, .int .i64 0, .int .i64 0] 45 (0, 0)) (w.heap.size + 1) (by rw [size_alloc])
  have HV0 := Hd.mk hv0; have HV1 := Hd.mk hv1
  clear h ho hk hv0 hv1
  rw [hn0] at hoc15
  clear hn0
  go_enter Tryz.func54, Tryz.ntmps54
  go_upto_region 4 with (first
    | (go_at_call 80; go_must (with_reducible refine Calls.mono (HPO.out _ (by repeat (first | (with_reducible assumption) | (with_reducible exact Below.refl _ _) | (with_reducible apply below_drewL) | (with_reducible apply below_alloc) | (with_reducible apply below_drew1) | (with_reducible apply below_drewN) | (refine below_set ?_ (by first | omega | (simp only [size_alloc, size_drew, size_set]; omega)) _ _)))) ?_; rintro e w2 ⟨rfl, hb2⟩; have HX1 := Hd.mk (blk_below HV1.out hb2); have HB2 := Hd.mk (below_seq (a := w) (by repeat (first | (with_reducible assumption) | (with_reducible exact Below.refl _ _) | (with_reducible apply below_drewL) | (with_reducible apply below_alloc) | (with_reducible apply below_drew1) | (with_reducible apply below_drewN) | (refine below_set ?_ (by first | omega | (simp only [size_alloc, size_drew, size_set]; omega)) _ _))) hb2); have hw1l := blk_lt HX1.out; have HO2 := Hd.mk (blk_below HO.out HB2.out); clear hoc0 hof0 hoc1 hof1 hoc2 hof2 hoc3 hof3 hoc4 hof4 hoc5 hof5 hoc6 hof6 hoc7 hof7 hoc8 hof8 hoc9 hof9 hoc10 hof10 hoc11 hof11 hoc12 hof12 hoc13 hof13 hoc14 hof14 hoc15 hof15 hoc16 hof16 hol; clear hb2)))
  generalize hZ : World.alloc _ _ = Z
  have HBZ : Below w2.heap.size w2 Z := below_of hZ (by repeat (first | (with_reducible assumption) | (with_reducible exact Below.refl _ _) | (with_reducible apply below_drewL) | (with_reducible apply below_alloc) | (with_reducible apply below_drew1) | (with_reducible apply below_drewN) | (refine below_set ?_ (by first | omega | (simp only [size_alloc, size_drew, size_set]; omega)) _ _)))
  have zZ : Hd (Z.heap.size = w2.heap.size + 1 + 1) := ⟨by rw [← hZ]; simp only [size_alloc]⟩
  have Z0 := at_of hZ (blk_alloc (blk_new _ _ _ rfl) _)
  have Z0l := blk_lt Z0
  have Z1 := at_of hZ (blk_new _ _ _ rfl)
  simp only [size_alloc] at Z1
  have Z1l := blk_lt Z1
  clear hZ
  have HBZ2 := Hd.mk (below_seq HB2.out HBZ)
  have HZ1 := Hd.mk (blk_below HX1.out HBZ)
  have HOZ := Hd.mk (blk_below HO2.out HBZ)
  have hz2 := HB2.out.size
  have Z0c0 := blk_cell Z0 0 _ rfl
  have Z0f0 := blk_frozen Z0 0
  have Z0c1 := blk_cell Z0 1 _ rfl
  have Z0f1 := blk_frozen Z0 1
  have Z1c0 := blk_cell Z1 0 _ rfl
  have Z1f0 := blk_frozen Z1 0
  have Z1c1 := blk_cell Z1 1 _ rfl
  have Z1f1 := blk_frozen Z1 1
  have hoz := HOZ.out
  have hz1 := HZ1.out
  have hozc0 := blk_cell hoz 0 _ rfl; have hozf0 := blk_frozen hoz 0; have hozc1 := blk_cell hoz 1 _ rfl; have hozf1 := blk_frozen hoz 1; have hozc2 := blk_cell hoz 2 _ rfl; have hozf2 := blk_frozen hoz 2; have hozc3 := blk_cell hoz 3 _ rfl; have hozf3 := blk_frozen hoz 3; have hozc4 := blk_cell hoz 4 _ rfl; have hozf4 := blk_frozen hoz 4; have hozc5 := blk_cell hoz 5 _ rfl; have hozf5 := blk_frozen hoz 5; have hozc6 := blk_cell hoz 6 _ rfl; have hozf6 := blk_frozen hoz 6; have hozc7 := blk_cell hoz 7 _ rfl; have hozf7 := blk_frozen hoz 7; have hozc8 := blk_cell hoz 8 _ rfl; have hozf8 := blk_frozen hoz 8; have hozc9 := blk_cell hoz 9 _ rfl; have hozf9 := blk_frozen hoz 9; have hozc10 := blk_cell hoz 10 _ rfl; have hozf10 := blk_frozen hoz 10; have hozc11 := blk_cell hoz 11 _ rfl; have hozf11 := blk_frozen hoz 11; have hozc12 := blk_cell hoz 12 _ rfl; have hozf12 := blk_frozen hoz 12; have hozc13 := blk_cell hoz 13 _ rfl; have hozf13 := blk_frozen hoz 13; have hozc14 := blk_cell hoz 14 _ rfl; have hozf14 := blk_frozen hoz 14; have hozc15 := blk_cell hoz 15 _ rfl; have hozf15 := blk_frozen hoz 15; have hozc16 := blk_cell hoz 16 _ rfl; have hozf16 := blk_frozen hoz 16; have hozl := blk_lt hoz
  have hz1c0 := blk_cell hz1 0 _ rfl; have hz1f0 := blk_frozen hz1 0; have hz1c1 := blk_cell hz1 1 _ rfl; have hz1f1 := blk_frozen hz1 1; have hz1c2 := blk_cell hz1 2 _ rfl; have hz1f2 := blk_frozen hz1 2; have hz1c3 := blk_cell hz1 3 _ rfl; have hz1f3 := blk_frozen hz1 3; have hz1c4 := blk_cell hz1 4 _ rfl; have hz1f4 := blk_frozen hz1 4; have hz1c5 := blk_cell hz1 5 _ rfl; have hz1f5 := blk_frozen hz1 5; have hz1c6 := blk_cell hz1 6 _ rfl; have hz1f6 := blk_frozen hz1 6; have hz1c7 := blk_cell hz1 7 _ rfl; have hz1f7 := blk_frozen hz1 7; have hz1l := blk_lt hz1
  clear hoz zZ HBZ Z0 Z1
  go_upto_region 5 with (fail)
  generalize hG : World.setCell _ _ _ = G
  have hpw : C.p ≠ w.heap.size + 1 := by omega
  have HG1 : Hd (G.heap[w.heap.size + 1]? = some (.cells #[.int .i64 0, .int .i64 0, .int .i64 0, .int .i64 0, .int .i64 0, .int .i64 0, .int .i64 0, .int .i64 0] 45 (0, 0))) := ⟨by rw [← hG]; exact (Below.heap_setCell _ _ _ _ hpw.symm).trans ((Below.heap_setCell _ _ _ _ hpw.symm).trans ((Below.heap_setCell _ _ _ _ hpw.symm).trans ((Below.heap_setCell _ _ _ _ hpw.symm).trans HZ1.out)))⟩
  have HGO : Hd (G.heap[C.p]? = some (.cells (cuC C { s with now := ⟨q, s.now.d, s.now.A, n, n⟩, tr := tr } v) 74 (0, 0))) := ⟨by rw [← hG]; exact blk_set (blk_set (blk_set (blk_set HOZ.out 12 _ _ rfl) 13 _ _ rfl) 14 _ _ rfl) 15 _ _ rfl⟩
  have HGF : Hd (Fr (fun b => b = C.p ∨ b = w.heap.size + 1) Z G) := ⟨by rw [← hG]; exact ((((Fr.refl (fun b => b = C.p ∨ b = w.heap.size + 1) Z).set (g := C.p) (.inl (.inl rfl)) 12 _).set (g := C.p) (.inl (.inl rfl)) 13 _).set (g := C.p) (.inl (.inl rfl)) 14 _).set (g := C.p) (.inl (.inl rfl)) 15 _⟩
  clear hozc0 hozf0 hozc1 hozf1 hozc2 hozf2 hozc3 hozf3 hozc4 hozf4 hozc5 hozf5 hozc6 hozf6 hozc7 hozf7 hozc8 hozf8 hozc9 hozf9 hozc10 hozf10 hozc11 hozf11 hozc12 hozf12 hozc13 hozf13 hozc14 hozf14 hozc15 hozf15 hozc16 hozf16 hozl
  clear hz1c0 hz1f0 hz1c1 hz1f1 hz1c2 hz1f2 hz1c3 hz1f3 hz1c4 hz1f4 hz1c5 hz1f5 hz1c6 hz1f6 hz1c7 hz1f7 hz1l
  clear hG hz1 Z0c0 Z0f0 Z0c1 Z0f1 Z1c0 Z1f0 Z1c1 Z1f1 Z0l Z1l
  have hg1 := HG1.out
  have hg1c0 := blk_cell hg1 0 _ rfl; have hg1f0 := blk_frozen hg1 0; have hg1c1 := blk_cell hg1 1 _ rfl; have hg1f1 := blk_frozen hg1 1; have hg1c2 := blk_cell hg1 2 _ rfl; have hg1f2 := blk_frozen hg1 2; have hg1c3 := blk_cell hg1 3 _ rfl; have hg1f3 := blk_frozen hg1 3; have hg1c4 := blk_cell hg1 4 _ rfl; have hg1f4 := blk_frozen hg1 4; have hg1c5 := blk_cell hg1 5 _ rfl; have hg1f5 := blk_frozen hg1 5; have hg1c6 := blk_cell hg1 6 _ rfl; have hg1f6 := blk_frozen hg1 6; have hg1c7 := blk_cell hg1 7 _ rfl; have hg1f7 := blk_frozen hg1 7; have hg1l := blk_lt hg1
  clear hg1
  go_wp2
  refine bodyPost_ret (results_cell_row rfl _ _ (w.heap.size + 1) 45 #[.int .i64 0, .int .i64 0, .int .i64 0, .int .i64 0, .int .i64 0, .int .i64 0, .int .i64 0, .int .i64 0] (0,0) _ rfl (blk_eight HG1.out _ _ _ _ _ _ _ _) Tryz.underlying45 rfl (by kernel_rfl)) rfl ?_
  obtain ⟨g1, g2⟩ := CW.turn (s' := { s with now := ⟨q, s.now.d, s.now.A, n, n⟩, tr := tr }) (F' := F) HH.out HBZ2.out (fr_eight HGF.out (g := w.heap.size + 1) (.inl (.inr rfl)) (.int .i64 0) (.int .i64 0) (.int .i64 0) (.int .i64 0) (.int .i64 0) (.int .i64 0) (.int .i64 0) (.int .i64 0))
    (fun b hb => hb.imp id (fun hb => ⟨by omega, fun hF => by have := (HH.out.frz b hF).1; omega⟩)) ((eight_same hpw _ _ _ _ _ _ _ _).trans HGO.out) rfl rfl (fun _ h => h) (fun _ h => .inl h) ⟨HRW.out.move (fun b hb => HBZ2.out.block b (HH.out.frz b hb).1), Nat.le_refl _, HNN.out, HH.out.now.dep, HLN.out⟩
  exact ⟨⟨0, 0, tok0⟩, _, v, F, rfl, .back s o 0 tok0 ⟨q, s.now.d, s.now.A, n, n⟩ tr HK.out HTR.out rfl, g1, g2⟩
theorem iback_calls (h : CW w C B s v F) (hk : o.k = 5) : Calls Tryz.prog 54 #[.pointer (some ⟨C.p, 0, none⟩), opV o] w fun e w' => Done w w' C B v F l s o e := by
  rcases List.eq_nil_or_concat s.tr with h0 | ⟨tr, q, h0⟩
  · exact iback_none h hk h0
  · rw [List.concat_eq_append] at h0; exact iback_some h hk tr q h0
end
end Go.Proofs.YtoambcpjdcehhaaGreat.Id

/- Mark, Release. -/
set_option linter.unusedVariables false
set_option linter.unusedSimpArgs false
namespace Go.Proofs.YtoambcpjdcehhaaGreat.Id
open Go Go.RowKit Go.Shelf Go.Proofs.YtoambcpjdcehhaaGreat.Can Go.Proofs.YtoambcpjdcehhaaGreat.Base Go.Proofs.YtoambcpjdcehhaaGreat.Tb
open Go.Proofs.YtoambcpjdcehhaaGreat.Fn hiding get_calls
attribute [local go_sem] clsB AB.cell

section
variable {w U w' : World} {C : Cf} {B : Nat} {s s' : Cu} {v : Value} {F F' : Nat → Prop} {l : Lx} {o : Opn} {e : Ending}
theorem first_free : ∀ L : List Slot, (∀ s : Slot, s ∈ L → s.taken = true) ∨ ∃ (i : Nat) (s : Slot), L[i]? = some s ∧ s.taken = false ∧ ∀ j, j < i → ∀ x : Slot, L[j]? = some x → x.taken = true
  | [] => .inl (fun s hs => by cases hs)
  | a :: L => by
    cases ha : a.taken with
    | false => exact .inr ⟨0, a, rfl, ha, fun j hj => by omega⟩
    | true =>
      rcases first_free L with h | ⟨i, s, h1, h2, h3⟩
      · exact .inl (fun s hs => by rcases List.mem_cons.1 hs with rfl | hs; exact ha; exact h s hs)
      · refine .inr ⟨i + 1, s, by simpa using h1, h2, fun j hj x hx => ?_⟩
        cases j with
        | zero => obtain rfl : a = x := by simpa using hx
                  exact ha
        | succ j => exact h3 j (by omega) x (by simpa using hx)
/-- A slot has been written. -/
theorem CW.marks {q : Slot × List Spot} {i Bm : Nat} (h : CW w C B s v F) (hb : Below w.heap.size w U) (hB : Bm ≤ B + 1) (hT : Tab w' C.T C.R C.m C.m Bm (s.L.set i q.1)) (hf : Fr (fun b => b = C.R) U w') (hq : q.1.taken = true → SvOk U F (depthOf C) q.1.v q.2) :
    CW w' C (B + 1) { s with ls := s.ls.set i q } v F ∧ CG w w' C v v F F := by
  have h1 := h.below hb
  have hz := hb.size
  have hL : (({ s with ls := s.ls.set i q } : Cu)).L = s.L.set i q.1 := by unfold Cu.L; exact List.map_set
  refine ⟨⟨hf.blk h1.obj h.pR, ?_, ?_, ?_, ?_, fun k hk => ⟨Nat.lt_of_lt_of_le (h1.frz k hk).1 hf.size, (h1.frz k hk).2⟩, h.np, h.nT, h.nR, h.pT, h.pR, h.bp, h.bT', h.bR⟩, ⟨?_, .inl rfl, fun k hk => .inl hk⟩⟩
  · exact Base.Own.move h1.txt (fun k hk => by
      have hk' : v.ownBlock = some k := by rcases hk with hk | hk; exact hk.elim; exact hk
      exact hf.same k (h1.txt.lt hk').1 (fun he => h.nR (by rw [← he]; exact hk'))) hf.size
  · rw [hL]; exact hT.more hB
  · exact h1.now.move fun b hb9 => hf.same b (h1.frz b hb9).1 (h1.frz b hb9).2.2.2.2.1
  · intro x hx htk
    have hx' : SvOk U F (depthOf C) x.1.v x.2 := by
      rcases List.mem_or_eq_of_mem_set hx with hx | rfl
      · exact h1.slots x hx htk
      · exact hq htk
    exact hx'.move fun b hb9 => hf.same b (h1.frz b hb9).1 (h1.frz b hb9).2.2.2.2.1
  · exact ((Fr.of_below hb).mono (X := fun b => b = C.p) (fun _ h => .inl h)).trans (hf.mono fun _ h => .inr (.inr (.inl h)))
/-- A block that is not the cursor's is written. -/
theorem CW.aside {w1 : World} {B' : Nat} {v' : Value} {g : Nat} (h : CW w1 C B' s' v' F' ∧ CG w w1 C v v' F F') (hf : Fr (fun b => b = g) w1 w') (hw : w.heap.size ≤ g) (hp : g ≠ C.p) (hT : g ≠ C.T) (hR : g ≠ C.R) (hv : v'.ownBlock ≠ some g) (hF : ¬ F' g) : CW w' C B' s' v' F' ∧ CG w w' C v v' F F' := by
  obtain ⟨h1, h2⟩ := h
  refine ⟨h1.move hf.size (hf.same _ h1.cells (fun he => hp he.symm)) (hf.same _ (blk_lt h1.tab.str) (fun he => hT he.symm)) (hf.same _ h1.tab.row.lt (fun he => hR he.symm)) (Base.Own.move h1.txt (fun k hk => by
      have hk' : v'.ownBlock = some k := by rcases hk with hk | hk; exact hk.elim; exact hk
      exact hf.same k (h1.txt.lt hk').1 (fun he => hv (by rw [← he]; exact hk'))) hf.size) (fun b hb => hf.same b (h1.frz b hb).1 (fun he => hF (by rw [← he]; exact hb))), ⟨?_, h2.own, h2.new⟩⟩
  exact h2.fr.trans_lt hf h2.fr.size (fun q hq he => by omega)

set_option maxRecDepth 20000 in
set_option maxHeartbeats 4000000 in
theorem imark_calls (h : CW w C B s v F) (hk : o.k = 6) (hB : B ≤ 1000000) : Calls Tryz.prog 55 #[.pointer (some ⟨C.p, 0, none⟩), opV o] w fun e w' => Done w w' C B v F l s o e := by
  have HL := Hd.mk (fun W (hW : Below w.heap.size w W) => low_calls' s.now s.tr F W (depthOf C) (h.now.move (fun b hb => hW.block b (h.frz b hb).1)) (fun k hk => Nat.lt_of_lt_of_le (h.frz k hk).1 hW.size))
  have hls : s.ls.length = C.m := by rw [← h.tab.len]; unfold Cu.L; rw [List.length_map]
  have HLS := Hd.mk hls
  have HLO : Hd (lowL s.now.at_.at_ s.tr = lowS s) := ⟨rfl⟩
  rw [HLO.out] at HL
  generalize lowS s = lo at HL HLO
  rcases first_free s.L with hall | ⟨i, q, hq1, hq2, hq3⟩
  · have HS := Hd.mk (fun W (hW : Below w.heap.size w W) => Fn.setfull_calls s.now lo (h.tab.below hW) hall)
    unfold svV at HL HS
    clear hall hls
    have HH := Hd.mk h
    have HK := Hd.mk hk
    have ho := h.obj
    unfold cuC at ho
    unfold opV
    have hoc0 := blk_cell ho 0 _ rfl; have hof0 := blk_frozen ho 0; have hoc1 := blk_cell ho 1 _ rfl; have hof1 := blk_frozen ho 1; have hoc2 := blk_cell ho 2 _ rfl; have hof2 := blk_frozen ho 2; have hoc3 := blk_cell ho 3 _ rfl; have hof3 := blk_frozen ho 3; have hoc4 := blk_cell ho 4 _ rfl; have hof4 := blk_frozen ho 4; have hoc5 := blk_cell ho 5 _ rfl; have hof5 := blk_frozen ho 5; have hoc6 := blk_cell ho 6 _ rfl; have hof6 := blk_frozen ho 6; have hoc7 := blk_cell ho 7 _ rfl; have hof7 := blk_frozen ho 7; have hoc8 := blk_cell ho 8 _ rfl; have hof8 := blk_frozen ho 8; have hoc9 := blk_cell ho 9 _ rfl; have hof9 := blk_frozen ho 9; have hoc10 := blk_cell ho 10 _ rfl; have hof10 := blk_frozen ho 10; have hoc11 := blk_cell ho 11 _ rfl; have hof11 := blk_frozen ho 11; have hoc12 := blk_cell ho 12 _ rfl; have hof12 := blk_frozen ho 12; have hoc13 := blk_cell ho 13 _ rfl; have hof13 := blk_frozen ho 13; have hoc14 := blk_cell ho 14 _ rfl; have hof14 := blk_frozen ho 14; have hoc15 := blk_cell ho 15 _ rfl; have hof15 := blk_frozen ho 15; have hoc16 := blk_cell ho 16 _ rfl; have hof16 := blk_frozen ho 16; have hol := blk_lt ho
    have hp := h.cells
    have HO := Hd.mk ho
    have hv0 := blk_alloc (blk_new w (.cells #[.int .i64 o.k, .int .i64 o.n, .string o.data] 41 (0, 0)) _ rfl) (.cells #[.int .i64 0, .int .i64 0, .int .i64 0, .int .i64 0, .int .i64 0, .int .i64 0, .int .i64 0, .int .i64 0] 45 (0, 0))
    have hv1 := blk_new (w.alloc (.cells #[.int .i64 o.k, .int .i64 o.n, .string o.data] 41 (0, 0))) (.cells #[.int .i64 0, .int .i64 0, .int .i64 0, .int .i64 0, .int .i64 0, .int .i64 0, .int .i64 0, .int .i64 0] 45 (0, 0)) (w.heap.size + 1) (by rw [size_alloc])
    have HV0 := Hd.mk hv0; have HV1 := Hd.mk hv1
    clear h ho hk hv0 hv1
    go_enter Tryz.func55, Tryz.ntmps55
    go_wp2
    generalize hV : World.alloc _ _ = V
    have HBV : Below w.heap.size w V := below_of hV (by repeat (first | (with_reducible assumption) | (with_reducible exact Below.refl _ _) | (with_reducible apply below_drewL) | (with_reducible apply below_alloc) | (with_reducible apply below_drew1) | (with_reducible apply below_drewN) | (refine below_set ?_ (by first | omega | (simp only [size_alloc, size_drew, size_set]; omega)) _ _)))
    have zV : Hd (V.heap.size = w.heap.size + 1 + 1) := ⟨by rw [← hV]; simp only [size_alloc]⟩
    have V0 := at_of hV (blk_alloc (blk_new _ _ _ rfl) _)
    have V0l := blk_lt V0
    have V1 := at_of hV (blk_new _ _ _ rfl)
    simp only [size_alloc] at V1
    have V1l := blk_lt V1
    clear hV
    have ho := blk_below HO.out HBV
    have hoc0 := blk_cell ho 0 _ rfl; have hof0 := blk_frozen ho 0; have hoc1 := blk_cell ho 1 _ rfl; have hof1 := blk_frozen ho 1; have hoc2 := blk_cell ho 2 _ rfl; have hof2 := blk_frozen ho 2; have hoc3 := blk_cell ho 3 _ rfl; have hof3 := blk_frozen ho 3; have hoc4 := blk_cell ho 4 _ rfl; have hof4 := blk_frozen ho 4; have hoc5 := blk_cell ho 5 _ rfl; have hof5 := blk_frozen ho 5; have hoc6 := blk_cell ho 6 _ rfl; have hof6 := blk_frozen ho 6; have hoc7 := blk_cell ho 7 _ rfl; have hof7 := blk_frozen ho 7; have hoc8 := blk_cell ho 8 _ rfl; have hof8 := blk_frozen ho 8; have hoc9 := blk_cell ho 9 _ rfl; have hof9 := blk_frozen ho 9; have hoc10 := blk_cell ho 10 _ rfl; have hof10 := blk_frozen ho 10; have hoc11 := blk_cell ho 11 _ rfl; have hof11 := blk_frozen ho 11; have hoc12 := blk_cell ho 12 _ rfl; have hof12 := blk_frozen ho 12; have hoc13 := blk_cell ho 13 _ rfl; have hof13 := blk_frozen ho 13; have hoc14 := blk_cell ho 14 _ rfl; have hof14 := blk_frozen ho 14; have hoc15 := blk_cell ho 15 _ rfl; have hof15 := blk_frozen ho 15; have hoc16 := blk_cell ho 16 _ rfl; have hof16 := blk_frozen ho 16; have hol := blk_lt ho
    have HB0 := Hd.mk HBV
    have HV1' := Hd.mk V1
    clear zV ho
    refine wp_region_can (.q [0, 1, 2, 3, 4, 5, 6, 7, 8, 9, 10, 11] (.e 12 true (.e 13 false (.q [14, 15, 16, 17, 18] (.done))))) (clsB _) (by kernel_rfl) (by kernel_rfl) (by intro _ _ d _ _ h; cases d <;> exact h) (clsB_drew _) ?_
    refine can_q (l := [⟨_,_,_,_,_,_⟩, ⟨_,_,_,_,_,_⟩, ⟨_,_,_,_,_,_⟩, ⟨_,_,_,_,_,_⟩, ⟨_,_,_,_,_,_⟩, ⟨_,_,_,_,_,_⟩, ⟨_,_,_,_,_,_⟩, ⟨_,_,_,_,_,_⟩, ⟨_,_,_,_,_,_⟩, ⟨_,_,_,_,_,_⟩, ⟨_,_,_,_,_,_⟩, ⟨_,_,_,_,_,_⟩]) rfl ?_
    repeat (go_big_quiet_step (fail))
    refine wpQuiet_nil ?_
    refine can_e (o := ⟨_,_,_,_,_,_⟩) rfl (fun K hK => ?_)
    go_wp2_with (go_at_call 82; go_must (with_reducible refine Calls.mono (HL.out _ (by exact below_drew1 HB0.out)) ?_; rintro e w3 ⟨rfl, hb3⟩; replace hb3 := below_undrew hb3))
    have HB3 := Hd.mk (below_seq HB0.out hb3)
    have HU1 := Hd.mk (blk_below HV1'.out hb3)
    refine onK_normal (hK _ _ ⟨clsB _, clsB_of (by first | exact (hb3) | exact below_undrew (hb3)), fun _ _ h => h, ?_⟩)
    clear hK K
    refine can_e (o := ⟨_,_,_,_,_,_⟩) rfl (fun K hK => ?_)
    go_wp2_with (go_at_call 81; go_must (with_reducible refine Calls.mono (HS.out _ HB3.out) ?_; rintro e w4 ⟨rfl, hb4⟩))
    have HB4 := Hd.mk (below_seq HB3.out hb4)
    have HU4 := Hd.mk (blk_below HU1.out hb4)
    refine onK_normal (hK _ _ ⟨fun _ => True, trivial, (fun h => by cases h), ?_⟩)
    clear hK K
    refine can_q (l := [⟨_,_,_,_,_,_⟩, ⟨_,_,_,_,_,_⟩, ⟨_,_,_,_,_,_⟩, ⟨_,_,_,_,_,_⟩, ⟨_,_,_,_,_,_⟩]) rfl ?_
    repeat (go_big_quiet_step (fail))
    refine wpQuiet_nil ?_
    refine can_done ?_
    clear hoc0 hof0 hoc1 hof1 hoc2 hof2 hoc3 hof3 hoc4 hof4 hoc5 hof5 hoc6 hof6 hoc7 hof7 hoc8 hof8 hoc9 hof9 hoc10 hof10 hoc11 hof11 hoc12 hof12 hoc13 hof13 hoc14 hof14 hoc15 hof15 hoc16 hof16 hol
    have hv4 := HU4.out
    have hv4c0 := blk_cell hv4 0 _ rfl; have hv4f0 := blk_frozen hv4 0; have hv4c1 := blk_cell hv4 1 _ rfl; have hv4f1 := blk_frozen hv4 1; have hv4c2 := blk_cell hv4 2 _ rfl; have hv4f2 := blk_frozen hv4 2; have hv4c3 := blk_cell hv4 3 _ rfl; have hv4f3 := blk_frozen hv4 3; have hv4c4 := blk_cell hv4 4 _ rfl; have hv4f4 := blk_frozen hv4 4; have hv4c5 := blk_cell hv4 5 _ rfl; have hv4f5 := blk_frozen hv4 5; have hv4c6 := blk_cell hv4 6 _ rfl; have hv4f6 := blk_frozen hv4 6; have hv4c7 := blk_cell hv4 7 _ rfl; have hv4f7 := blk_frozen hv4 7; have hv4l := blk_lt hv4
    clear hv4 hb3 hb4 V0 V1 V1l V0l HBV
    go_wp2
    refine bodyPost_ret (results_cell_row rfl _ _ (w.heap.size + 1) 45 #[.int .i64 6, .int .i64 0, .int .i64 0, .int .i64 0, .int .i64 0, .int .i64 0, .int .i64 0, .int .i64 0] (0,0) _ rfl (blk_eight HU4.out _ _ _ _ _ _ _ _) Tryz.underlying45 rfl (by kernel_rfl)) rfl ?_
    exact Done.fail HH.out ((fr_eight (Fr.of_below (X := fun _ => False) HB4.out) (.inr (by omega)) _ _ _ _ _ _ _ _).below (Nat.le_refl _) (fun _ _ h => h)) 6 (by first | assumption | decide) rfl
  · obtain ⟨t, hqt⟩ : ∃ t, s.ls[i]? = some (q, t) := by
      unfold Cu.L at hq1
      rw [List.getElem?_map] at hq1
      obtain ⟨⟨a, t⟩, h1, h2⟩ := Option.map_eq_some_iff.1 hq1
      have h2' : a = q := h2
      subst h2'
      exact ⟨t, h1⟩
    have HQT := Hd.mk hqt
    have HQ2 := Hd.mk hq2
    have HS := Hd.mk (fun W (hW : Below w.heap.size w W) => Fn.set_calls s.now lo (h.tab.below hW) hB hq3 hq1 hq2)
    unfold svV at HL HS
    have HNB : Hd (numb C.m i q = numb s.ls.length i q) := ⟨by rw [hls]⟩
    clear hls hq1 hq2 hq3 hqt
    obtain ⟨nb, hnb⟩ : ∃ n, numb C.m i q = n := ⟨_, rfl⟩
    rw [hnb] at HS HNB
    clear hnb
    have HH := Hd.mk h
    have HK := Hd.mk hk
    have ho := h.obj
    unfold cuC at ho
    unfold opV
    have hoc0 := blk_cell ho 0 _ rfl; have hof0 := blk_frozen ho 0; have hoc1 := blk_cell ho 1 _ rfl; have hof1 := blk_frozen ho 1; have hoc2 := blk_cell ho 2 _ rfl; have hof2 := blk_frozen ho 2; have hoc3 := blk_cell ho 3 _ rfl; have hof3 := blk_frozen ho 3; have hoc4 := blk_cell ho 4 _ rfl; have hof4 := blk_frozen ho 4; have hoc5 := blk_cell ho 5 _ rfl; have hof5 := blk_frozen ho 5; have hoc6 := blk_cell ho 6 _ rfl; have hof6 := blk_frozen ho 6; have hoc7 := blk_cell ho 7 _ rfl; have hof7 := blk_frozen ho 7; have hoc8 := blk_cell ho 8 _ rfl; have hof8 := blk_frozen ho 8; have hoc9 := blk_cell ho 9 _ rfl; have hof9 := blk_frozen ho 9; have hoc10 := blk_cell ho 10 _ rfl; have hof10 := blk_frozen ho 10; have hoc11 := blk_cell ho 11 _ rfl; have hof11 := blk_frozen ho 11; have hoc12 := blk_cell ho 12 _ rfl; have hof12 := blk_frozen ho 12; have hoc13 := blk_cell ho 13 _ rfl; have hof13 := blk_frozen ho 13; have hoc14 := blk_cell ho 14 _ rfl; have hof14 := blk_frozen ho 14; have hoc15 := blk_cell ho 15 _ rfl; have hof15 := blk_frozen ho 15; have hoc16 := blk_cell ho 16 _ rfl; have hof16 := blk_frozen ho 16; have hol := blk_lt ho
    have hp := h.cells
    have HO := Hd.mk ho
    have hv0 := blk_alloc (blk_new w (.cells #[.int .i64 o.k, .int .i64 o.n, .string o.data] 41 (0, 0)) _ rfl) (.cells #[.int .i64 0, .int .i64 0, .int .i64 0, .int .i64 0, .int .i64 0, .int .i64 0, .int .i64 0, .int .i64 0] 45 (0, 0))
    have hv1 := blk_new (w.alloc (.cells #[.int .i64 o.k, .int .i64 o.n, .string o.data] 41 (0, 0))) (.cells #[.int .i64 0, .int .i64 0, .int .i64 0, .int .i64 0, .int .i64 0, .int .i64 0, .int .i64 0, .int .i64 0] 45 (0, 0)) (w.heap.size + 1) (by rw [size_alloc])
    have HV0 := Hd.mk hv0; have HV1 := Hd.mk hv1
    clear h ho hk hv0 hv1
    go_enter Tryz.func55, Tryz.ntmps55
    go_wp2
    generalize hV : World.alloc _ _ = V
    have HBV : Below w.heap.size w V := below_of hV (by repeat (first | (with_reducible assumption) | (with_reducible exact Below.refl _ _) | (with_reducible apply below_drewL) | (with_reducible apply below_alloc) | (with_reducible apply below_drew1) | (with_reducible apply below_drewN) | (refine below_set ?_ (by first | omega | (simp only [size_alloc, size_drew, size_set]; omega)) _ _)))
    have zV : Hd (V.heap.size = w.heap.size + 1 + 1) := ⟨by rw [← hV]; simp only [size_alloc]⟩
    have V0 := at_of hV (blk_alloc (blk_new _ _ _ rfl) _)
    have V0l := blk_lt V0
    have V1 := at_of hV (blk_new _ _ _ rfl)
    simp only [size_alloc] at V1
    have V1l := blk_lt V1
    clear hV
    have ho := blk_below HO.out HBV
    have hoc0 := blk_cell ho 0 _ rfl; have hof0 := blk_frozen ho 0; have hoc1 := blk_cell ho 1 _ rfl; have hof1 := blk_frozen ho 1; have hoc2 := blk_cell ho 2 _ rfl; have hof2 := blk_frozen ho 2; have hoc3 := blk_cell ho 3 _ rfl; have hof3 := blk_frozen ho 3; have hoc4 := blk_cell ho 4 _ rfl; have hof4 := blk_frozen ho 4; have hoc5 := blk_cell ho 5 _ rfl; have hof5 := blk_frozen ho 5; have hoc6 := blk_cell ho 6 _ rfl; have hof6 := blk_frozen ho 6; have hoc7 := blk_cell ho 7 _ rfl; have hof7 := blk_frozen ho 7; have hoc8 := blk_cell ho 8 _ rfl; have hof8 := blk_frozen ho 8; have hoc9 := blk_cell ho 9 _ rfl; have hof9 := blk_frozen ho 9; have hoc10 := blk_cell ho 10 _ rfl; have hof10 := blk_frozen ho 10; have hoc11 := blk_cell ho 11 _ rfl; have hof11 := blk_frozen ho 11; have hoc12 := blk_cell ho 12 _ rfl; have hof12 := blk_frozen ho 12; have hoc13 := blk_cell ho 13 _ rfl; have hof13 := blk_frozen ho 13; have hoc14 := blk_cell ho 14 _ rfl; have hof14 := blk_frozen ho 14; have hoc15 := blk_cell ho 15 _ rfl; have hof15 := blk_frozen ho 15; have hoc16 := blk_cell ho 16 _ rfl; have hof16 := blk_frozen ho 16; have hol := blk_lt ho
    have HB0 := Hd.mk HBV
    have HV1' := Hd.mk V1
    clear zV ho
    refine wp_region_can (.q [0, 1, 2, 3, 4, 5, 6, 7, 8, 9, 10, 11] (.e 12 true (.e 13 false (.q [14, 15, 16, 17, 18] (.done))))) (clsB _) (by kernel_rfl) (by kernel_rfl) (by intro _ _ d _ _ h; cases d <;> exact h) (clsB_drew _) ?_
    refine can_q (l := [⟨_,_,_,_,_,_⟩, ⟨_,_,_,_,_,_⟩, ⟨_,_,_,_,_,_⟩, ⟨_,_,_,_,_,_⟩, ⟨_,_,_,_,_,_⟩, ⟨_,_,_,_,_,_⟩, ⟨_,_,_,_,_,_⟩, ⟨_,_,_,_,_,_⟩, ⟨_,_,_,_,_,_⟩, ⟨_,_,_,_,_,_⟩, ⟨_,_,_,_,_,_⟩, ⟨_,_,_,_,_,_⟩]) rfl ?_
    repeat (go_big_quiet_step (fail))
    refine wpQuiet_nil ?_
    refine can_e (o := ⟨_,_,_,_,_,_⟩) rfl (fun K hK => ?_)
    go_wp2_with (go_at_call 82; go_must (with_reducible refine Calls.mono (HL.out _ (by exact below_drew1 HB0.out)) ?_; rintro e w3 ⟨rfl, hb3⟩; replace hb3 := below_undrew hb3))
    have HB3 := Hd.mk (below_seq HB0.out hb3)
    have HU1 := Hd.mk (blk_below HV1'.out hb3)
    refine onK_normal (hK _ _ ⟨clsB _, clsB_of (by first | exact (hb3) | exact below_undrew (hb3)), fun _ _ h => h, ?_⟩)
    clear hK K
    refine can_e (o := ⟨_,_,_,_,_,_⟩) rfl (fun K hK => ?_)
    go_wp2_with (go_at_call 81; go_must (with_reducible refine Calls.mono (HS.out _ HB3.out) ?_; rintro e w4 ⟨rfl, hT4, hf4⟩))
    have hRl := HH.out.tab.row.lt
    have HU4 := Hd.mk (hf4.blk HU1.out (fun he => by omega))
    have HT4 := Hd.mk hT4
    have HF4 := Hd.mk hf4
    refine onK_normal (hK _ _ ⟨fun _ => True, trivial, (fun h => by cases h), ?_⟩)
    clear hK K
    refine can_q (l := [⟨_,_,_,_,_,_⟩, ⟨_,_,_,_,_,_⟩, ⟨_,_,_,_,_,_⟩, ⟨_,_,_,_,_,_⟩, ⟨_,_,_,_,_,_⟩]) rfl ?_
    repeat (go_big_quiet_step (fail))
    refine wpQuiet_nil ?_
    refine can_done ?_
    clear hoc0 hof0 hoc1 hof1 hoc2 hof2 hoc3 hof3 hoc4 hof4 hoc5 hof5 hoc6 hof6 hoc7 hof7 hoc8 hof8 hoc9 hof9 hoc10 hof10 hoc11 hof11 hoc12 hof12 hoc13 hof13 hoc14 hof14 hoc15 hof15 hoc16 hof16 hol
    have hv4 := HU4.out
    have hv4c0 := blk_cell hv4 0 _ rfl; have hv4f0 := blk_frozen hv4 0; have hv4c1 := blk_cell hv4 1 _ rfl; have hv4f1 := blk_frozen hv4 1; have hv4c2 := blk_cell hv4 2 _ rfl; have hv4f2 := blk_frozen hv4 2; have hv4c3 := blk_cell hv4 3 _ rfl; have hv4f3 := blk_frozen hv4 3; have hv4c4 := blk_cell hv4 4 _ rfl; have hv4f4 := blk_frozen hv4 4; have hv4c5 := blk_cell hv4 5 _ rfl; have hv4f5 := blk_frozen hv4 5; have hv4c6 := blk_cell hv4 6 _ rfl; have hv4f6 := blk_frozen hv4 6; have hv4c7 := blk_cell hv4 7 _ rfl; have hv4f7 := blk_frozen hv4 7; have hv4l := blk_lt hv4
    clear hv4 hb3 hT4 hf4 V0 V1 V1l V0l HBV
    go_wp2
    refine bodyPost_ret (results_cell_row rfl _ _ (w.heap.size + 1) 45 #[.int .i64 0, .int .i64 (nb : Nat), .int .i64 0, .int .i64 0, .int .i64 0, .int .i64 0, .int .i64 0, .int .i64 0] (0,0) _ rfl (blk_eight HU4.out _ _ _ _ _ _ _ _) Tryz.underlying45 rfl (by kernel_rfl)) rfl ?_
    have hTl := blk_lt HH.out.tab.str
    have hm := CW.marks (q := (took q s.now lo, s.tr)) HH.out HB3.out (Nat.le_succ B) HT4.out HF4.out (fun _ => (HH.out.below HB3.out).now)
    obtain ⟨g1, g2⟩ := CW.aside hm (fr_eight (Fr.refl (fun b => b = w.heap.size + 1) w4) (g := w.heap.size + 1) (.inl rfl) (.int .i64 0) (.int .i64 (nb : Nat)) (.int .i64 0) (.int .i64 0) (.int .i64 0) (.int .i64 0) (.int .i64 0) (.int .i64 0)) (by omega) (by omega) (by omega) (by omega) (HH.out.txt.ne_new (by omega)) (fun hF => by have := (HH.out.frz _ hF).1; omega)
    refine ⟨⟨0, (nb : Nat), tok0⟩, _, v, F, rfl, ?_, g1, g2⟩
    have hst := Step.mark (C := C) (l := l) s o i (q, t) tok0 HK.out HQT.out HQ2.out
    rw [← HLO.out]
    have h9 : numb s.ls.length i (q, t).1 = nb := HNB.out.symm
    rw [h9] at hst
    exact hst
set_option maxRecDepth 20000 in
set_option maxHeartbeats 4000000 in
theorem irelease_calls (h : CW w C B s v F) (hk : o.k = 8) (hB : B ≤ 1000000) : Calls Tryz.prog 57 #[.pointer (some ⟨C.p, 0, none⟩), opV o] w fun e w' => Done w w' C B v F l s o e := by
  cases hf : findL s.L o.n with
  | none =>
    have HS := Hd.mk (fun W (hW : Below w.heap.size w W) => Fn.relno_calls (h.tab.below hW) hB hf)
    clear hf
    have HH := Hd.mk h
    have HK := Hd.mk hk
    have ho := h.obj
    unfold cuC at ho
    unfold opV
    have hoc0 := blk_cell ho 0 _ rfl; have hof0 := blk_frozen ho 0; have hoc1 := blk_cell ho 1 _ rfl; have hof1 := blk_frozen ho 1; have hoc2 := blk_cell ho 2 _ rfl; have hof2 := blk_frozen ho 2; have hoc3 := blk_cell ho 3 _ rfl; have hof3 := blk_frozen ho 3; have hoc4 := blk_cell ho 4 _ rfl; have hof4 := blk_frozen ho 4; have hoc5 := blk_cell ho 5 _ rfl; have hof5 := blk_frozen ho 5; have hoc6 := blk_cell ho 6 _ rfl; have hof6 := blk_frozen ho 6; have hoc7 := blk_cell ho 7 _ rfl; have hof7 := blk_frozen ho 7; have hoc8 := blk_cell ho 8 _ rfl; have hof8 := blk_frozen ho 8; have hoc9 := blk_cell ho 9 _ rfl; have hof9 := blk_frozen ho 9; have hoc10 := blk_cell ho 10 _ rfl; have hof10 := blk_frozen ho 10; have hoc11 := blk_cell ho 11 _ rfl; have hof11 := blk_frozen ho 11; have hoc12 := blk_cell ho 12 _ rfl; have hof12 := blk_frozen ho 12; have hoc13 := blk_cell ho 13 _ rfl; have hof13 := blk_frozen ho 13; have hoc14 := blk_cell ho 14 _ rfl; have hof14 := blk_frozen ho 14; have hoc15 := blk_cell ho 15 _ rfl; have hof15 := blk_frozen ho 15; have hoc16 := blk_cell ho 16 _ rfl; have hof16 := blk_frozen ho 16; have hol := blk_lt ho
    have hp := h.cells
    have HO := Hd.mk ho
    have hv0 := blk_alloc (blk_new w (.cells #[.int .i64 o.k, .int .i64 o.n, .string o.data] 41 (0, 0)) _ rfl) (.cells #[.int .i64 0, .int .i64 0, .int .i64 0, .int .i64 0, .int .i64 0, .int .i64 0, .int .i64 0, .int .i64 0] 45 (0, 0))
    have hv1 := blk_new (w.alloc (.cells #[.int .i64 o.k, .int .i64 o.n, .string o.data] 41 (0, 0))) (.cells #[.int .i64 0, .int .i64 0, .int .i64 0, .int .i64 0, .int .i64 0, .int .i64 0, .int .i64 0, .int .i64 0] 45 (0, 0)) (w.heap.size + 1) (by rw [size_alloc])
    have HV0 := Hd.mk hv0; have HV1 := Hd.mk hv1
    clear h ho hk hv0 hv1
    go_enter Tryz.func57, Tryz.ntmps57
    go_wp2
    generalize hV : World.alloc _ _ = V
    have HBV : Below w.heap.size w V := below_of hV (by repeat (first | (with_reducible assumption) | (with_reducible exact Below.refl _ _) | (with_reducible apply below_drewL) | (with_reducible apply below_alloc) | (with_reducible apply below_drew1) | (with_reducible apply below_drewN) | (refine below_set ?_ (by first | omega | (simp only [size_alloc, size_drew, size_set]; omega)) _ _)))
    have zV : Hd (V.heap.size = w.heap.size + 1 + 1) := ⟨by rw [← hV]; simp only [size_alloc]⟩
    have V0 := at_of hV (blk_alloc (blk_new _ _ _ rfl) _)
    have V0l := blk_lt V0
    have V1 := at_of hV (blk_new _ _ _ rfl)
    simp only [size_alloc] at V1
    have V1l := blk_lt V1
    clear hV
    have ho := blk_below HO.out HBV
    have hoc0 := blk_cell ho 0 _ rfl; have hof0 := blk_frozen ho 0; have hoc1 := blk_cell ho 1 _ rfl; have hof1 := blk_frozen ho 1; have hoc2 := blk_cell ho 2 _ rfl; have hof2 := blk_frozen ho 2; have hoc3 := blk_cell ho 3 _ rfl; have hof3 := blk_frozen ho 3; have hoc4 := blk_cell ho 4 _ rfl; have hof4 := blk_frozen ho 4; have hoc5 := blk_cell ho 5 _ rfl; have hof5 := blk_frozen ho 5; have hoc6 := blk_cell ho 6 _ rfl; have hof6 := blk_frozen ho 6; have hoc7 := blk_cell ho 7 _ rfl; have hof7 := blk_frozen ho 7; have hoc8 := blk_cell ho 8 _ rfl; have hof8 := blk_frozen ho 8; have hoc9 := blk_cell ho 9 _ rfl; have hof9 := blk_frozen ho 9; have hoc10 := blk_cell ho 10 _ rfl; have hof10 := blk_frozen ho 10; have hoc11 := blk_cell ho 11 _ rfl; have hof11 := blk_frozen ho 11; have hoc12 := blk_cell ho 12 _ rfl; have hof12 := blk_frozen ho 12; have hoc13 := blk_cell ho 13 _ rfl; have hof13 := blk_frozen ho 13; have hoc14 := blk_cell ho 14 _ rfl; have hof14 := blk_frozen ho 14; have hoc15 := blk_cell ho 15 _ rfl; have hof15 := blk_frozen ho 15; have hoc16 := blk_cell ho 16 _ rfl; have hof16 := blk_frozen ho 16; have hol := blk_lt ho
    have V0c0 := blk_cell V0 0 _ rfl
    have V0f0 := blk_frozen V0 0
    have V0c1 := blk_cell V0 1 _ rfl
    have V0f1 := blk_frozen V0 1
    have V0c2 := blk_cell V0 2 _ rfl
    have V0f2 := blk_frozen V0 2
    have HB0 := Hd.mk HBV
    have HV1' := Hd.mk V1
    clear zV ho
    refine wp_region_can (.q [0, 1, 2, 3, 4, 5] (.e 6 false (.e 7 false (.e 8 false (.done))))) (clsB _) (by kernel_rfl) (by kernel_rfl) (by intro _ _ d _ _ h; cases d <;> exact h) (clsB_drew _) ?_
    refine can_q (l := [⟨_,_,_,_,_,_⟩, ⟨_,_,_,_,_,_⟩, ⟨_,_,_,_,_,_⟩, ⟨_,_,_,_,_,_⟩, ⟨_,_,_,_,_,_⟩, ⟨_,_,_,_,_,_⟩]) rfl ?_
    repeat (go_big_quiet_step (fail))
    refine wpQuiet_nil ?_
    refine can_e (o := ⟨_,_,_,_,_,_⟩) rfl (fun K hK => ?_)
    go_wp2_with (go_at_call 84; go_must (with_reducible refine Calls.mono (HS.out _ (by exact below_drew1 HB0.out)) ?_; rintro e w3 ⟨rfl, hb3⟩; replace hb3 := below_undrew hb3))
    have HB3 := Hd.mk (below_seq HB0.out hb3)
    have HU1 := Hd.mk (blk_below HV1'.out hb3)
    refine onK_normal (hK _ _ ⟨fun _ => True, trivial, (fun h => by cases h), ?_⟩)
    clear hK K
    refine can_e (o := ⟨_,_,_,_,_,_⟩) rfl (fun K hK => ?_)
    go_wp2_with (go_at_call 22; go_must (with_reducible refine Calls.mono (fail_calls _ _) ?_; rintro e w4 ⟨rfl, hb4⟩))
    have HB4 := Hd.mk (below_seq HB3.out hb4)
    have HU4 := Hd.mk (blk_below HU1.out hb4)
    refine onK_normal (hK _ _ ⟨fun _ => True, trivial, (fun h => by cases h), ?_⟩)
    clear hK K
    refine can_e (o := ⟨_,_,_,_,_,_⟩) rfl (fun K hK => ?_)
    clear hoc0 hof0 hoc1 hof1 hoc2 hof2 hoc3 hof3 hoc4 hof4 hoc5 hof5 hoc6 hof6 hoc7 hof7 hoc8 hof8 hoc9 hof9 hoc10 hof10 hoc11 hof11 hoc12 hof12 hoc13 hof13 hoc14 hof14 hoc15 hof15 hoc16 hof16 hol
    have hv4 := HU4.out
    have hv4c0 := blk_cell hv4 0 _ rfl; have hv4f0 := blk_frozen hv4 0; have hv4c1 := blk_cell hv4 1 _ rfl; have hv4f1 := blk_frozen hv4 1; have hv4c2 := blk_cell hv4 2 _ rfl; have hv4f2 := blk_frozen hv4 2; have hv4c3 := blk_cell hv4 3 _ rfl; have hv4f3 := blk_frozen hv4 3; have hv4c4 := blk_cell hv4 4 _ rfl; have hv4f4 := blk_frozen hv4 4; have hv4c5 := blk_cell hv4 5 _ rfl; have hv4f5 := blk_frozen hv4 5; have hv4c6 := blk_cell hv4 6 _ rfl; have hv4f6 := blk_frozen hv4 6; have hv4c7 := blk_cell hv4 7 _ rfl; have hv4f7 := blk_frozen hv4 7; have hv4l := blk_lt hv4
    clear hv4 hb4 V0 V1 V1l HBV
    go_wp2_with fail
    refine onK_normal (hK _ _ ⟨fun _ => True, trivial, (fun h => by cases h), ?_⟩)
    clear hK K
    refine can_done ?_
    go_wp2
    refine bodyPost_ret (results_cell_row rfl _ _ (w.heap.size + 1) 45 #[.int .i64 12, .int .i64 0, .int .i64 0, .int .i64 0, .int .i64 0, .int .i64 0, .int .i64 0, .int .i64 0] (0,0) _ rfl (blk_eight HU4.out _ _ _ _ _ _ _ _) Tryz.underlying45 rfl (by kernel_rfl)) rfl ?_
    exact Done.fail HH.out ((fr_eight (Fr.of_below (X := fun _ => False) HB4.out) (.inr (by omega)) _ _ _ _ _ _ _ _).below (Nat.le_refl _) (fun _ _ h => h)) 12 (by first | assumption | decide) rfl
  | some i =>
    obtain ⟨q, hq1, hq2, -⟩ := findL_slot hf
    obtain ⟨t, hqt⟩ : ∃ t, s.ls[i]? = some (q, t) := by
      unfold Cu.L at hq1
      rw [List.getElem?_map] at hq1
      obtain ⟨⟨a, t⟩, h1, h2⟩ := Option.map_eq_some_iff.1 hq1
      have h2' : a = q := h2
      subst h2'
      exact ⟨t, h1⟩
    have HQT := Hd.mk hqt
    have HQ2 := Hd.mk hq2
    have HF := Hd.mk hf
    have HS := Hd.mk (fun W (hW : Below w.heap.size w W) => Fn.rel_calls (h.tab.below hW) hB hf hq1)
    clear hf hq1 hq2 hqt
    have HH := Hd.mk h
    have HK := Hd.mk hk
    have ho := h.obj
    unfold cuC at ho
    unfold opV
    have hoc0 := blk_cell ho 0 _ rfl; have hof0 := blk_frozen ho 0; have hoc1 := blk_cell ho 1 _ rfl; have hof1 := blk_frozen ho 1; have hoc2 := blk_cell ho 2 _ rfl; have hof2 := blk_frozen ho 2; have hoc3 := blk_cell ho 3 _ rfl; have hof3 := blk_frozen ho 3; have hoc4 := blk_cell ho 4 _ rfl; have hof4 := blk_frozen ho 4; have hoc5 := blk_cell ho 5 _ rfl; have hof5 := blk_frozen ho 5; have hoc6 := blk_cell ho 6 _ rfl; have hof6 := blk_frozen ho 6; have hoc7 := blk_cell ho 7 _ rfl; have hof7 := blk_frozen ho 7; have hoc8 := blk_cell ho 8 _ rfl; have hof8 := blk_frozen ho 8; have hoc9 := blk_cell ho 9 _ rfl; have hof9 := blk_frozen ho 9; have hoc10 := blk_cell ho 10 _ rfl; have hof10 := blk_frozen ho 10; have hoc11 := blk_cell ho 11 _ rfl; have hof11 := blk_frozen ho 11; have hoc12 := blk_cell ho 12 _ rfl; have hof12 := blk_frozen ho 12; have hoc13 := blk_cell ho 13 _ rfl; have hof13 := blk_frozen ho 13; have hoc14 := blk_cell ho 14 _ rfl; have hof14 := blk_frozen ho 14; have hoc15 := blk_cell ho 15 _ rfl; have hof15 := blk_frozen ho 15; have hoc16 := blk_cell ho 16 _ rfl; have hof16 := blk_frozen ho 16; have hol := blk_lt ho
    have hp := h.cells
    have HO := Hd.mk ho
    have hv0 := blk_alloc (blk_new w (.cells #[.int .i64 o.k, .int .i64 o.n, .string o.data] 41 (0, 0)) _ rfl) (.cells #[.int .i64 0, .int .i64 0, .int .i64 0, .int .i64 0, .int .i64 0, .int .i64 0, .int .i64 0, .int .i64 0] 45 (0, 0))
    have hv1 := blk_new (w.alloc (.cells #[.int .i64 o.k, .int .i64 o.n, .string o.data] 41 (0, 0))) (.cells #[.int .i64 0, .int .i64 0, .int .i64 0, .int .i64 0, .int .i64 0, .int .i64 0, .int .i64 0, .int .i64 0] 45 (0, 0)) (w.heap.size + 1) (by rw [size_alloc])
    have HV0 := Hd.mk hv0; have HV1 := Hd.mk hv1
    clear h ho hk hv0 hv1
    go_enter Tryz.func57, Tryz.ntmps57
    go_wp2
    generalize hV : World.alloc _ _ = V
    have HBV : Below w.heap.size w V := below_of hV (by repeat (first | (with_reducible assumption) | (with_reducible exact Below.refl _ _) | (with_reducible apply below_drewL) | (with_reducible apply below_alloc) | (with_reducible apply below_drew1) | (with_reducible apply below_drewN) | (refine below_set ?_ (by first | omega | (simp only [size_alloc, size_drew, size_set]; omega)) _ _)))
    have zV : Hd (V.heap.size = w.heap.size + 1 + 1) := ⟨by rw [← hV]; simp only [size_alloc]⟩
    have V0 := at_of hV (blk_alloc (blk_new _ _ _ rfl) _)
    have V0l := blk_lt V0
    have V1 := at_of hV (blk_new _ _ _ rfl)
    simp only [size_alloc] at V1
    have V1l := blk_lt V1
    clear hV
    have ho := blk_below HO.out HBV
    have hoc0 := blk_cell ho 0 _ rfl; have hof0 := blk_frozen ho 0; have hoc1 := blk_cell ho 1 _ rfl; have hof1 := blk_frozen ho 1; have hoc2 := blk_cell ho 2 _ rfl; have hof2 := blk_frozen ho 2; have hoc3 := blk_cell ho 3 _ rfl; have hof3 := blk_frozen ho 3; have hoc4 := blk_cell ho 4 _ rfl; have hof4 := blk_frozen ho 4; have hoc5 := blk_cell ho 5 _ rfl; have hof5 := blk_frozen ho 5; have hoc6 := blk_cell ho 6 _ rfl; have hof6 := blk_frozen ho 6; have hoc7 := blk_cell ho 7 _ rfl; have hof7 := blk_frozen ho 7; have hoc8 := blk_cell ho 8 _ rfl; have hof8 := blk_frozen ho 8; have hoc9 := blk_cell ho 9 _ rfl; have hof9 := blk_frozen ho 9; have hoc10 := blk_cell ho 10 _ rfl; have hof10 := blk_frozen ho 10; have hoc11 := blk_cell ho 11 _ rfl; have hof11 := blk_frozen ho 11; have hoc12 := blk_cell ho 12 _ rfl; have hof12 := blk_frozen ho 12; have hoc13 := blk_cell ho 13 _ rfl; have hof13 := blk_frozen ho 13; have hoc14 := blk_cell ho 14 _ rfl; have hof14 := blk_frozen ho 14; have hoc15 := blk_cell ho 15 _ rfl; have hof15 := blk_frozen ho 15; have hoc16 := blk_cell ho 16 _ rfl; have hof16 := blk_frozen ho 16; have hol := blk_lt ho
    have V0c0 := blk_cell V0 0 _ rfl
    have V0f0 := blk_frozen V0 0
    have V0c1 := blk_cell V0 1 _ rfl
    have V0f1 := blk_frozen V0 1
    have V0c2 := blk_cell V0 2 _ rfl
    have V0f2 := blk_frozen V0 2
    have HB0 := Hd.mk HBV
    have HV1' := Hd.mk V1
    clear zV ho
    refine wp_region_can (.q [0, 1, 2, 3, 4, 5] (.e 6 false (.e 7 false (.e 8 false (.done))))) (clsB _) (by kernel_rfl) (by kernel_rfl) (by intro _ _ d _ _ h; cases d <;> exact h) (clsB_drew _) ?_
    refine can_q (l := [⟨_,_,_,_,_,_⟩, ⟨_,_,_,_,_,_⟩, ⟨_,_,_,_,_,_⟩, ⟨_,_,_,_,_,_⟩, ⟨_,_,_,_,_,_⟩, ⟨_,_,_,_,_,_⟩]) rfl ?_
    repeat (go_big_quiet_step (fail))
    refine wpQuiet_nil ?_
    refine can_e (o := ⟨_,_,_,_,_,_⟩) rfl (fun K hK => ?_)
    go_wp2_with (go_at_call 84; go_must (with_reducible refine Calls.mono (HS.out _ (by exact below_drew1 HB0.out)) ?_; rintro e w3 ⟨rfl, hT3, hf3⟩))
    have hRl := HH.out.tab.row.lt
    have HT3 := Hd.mk hT3
    have HF3 := Hd.mk hf3
    have HU1 := Hd.mk (hf3.blk (blk_drew HV1'.out) (fun he => by omega))
    clear hT3 hf3
    refine onK_normal (hK _ _ ⟨fun _ => True, trivial, (fun h => by cases h), ?_⟩)
    clear hK K
    refine can_e (o := ⟨_,_,_,_,_,_⟩) rfl (fun K hK => ?_)
    go_wp2_with (go_at_call 22; go_must (with_reducible refine Calls.mono (fail_calls _ _) ?_; rintro e w4 ⟨rfl, hb4⟩))
    have HB4 := Hd.mk hb4
    have HU4 := Hd.mk (blk_below HU1.out hb4)
    refine onK_normal (hK _ _ ⟨fun _ => True, trivial, (fun h => by cases h), ?_⟩)
    clear hK K
    refine can_e (o := ⟨_,_,_,_,_,_⟩) rfl (fun K hK => ?_)
    clear hoc0 hof0 hoc1 hof1 hoc2 hof2 hoc3 hof3 hoc4 hof4 hoc5 hof5 hoc6 hof6 hoc7 hof7 hoc8 hof8 hoc9 hof9 hoc10 hof10 hoc11 hof11 hoc12 hof12 hoc13 hof13 hoc14 hof14 hoc15 hof15 hoc16 hof16 hol
    have hv4 := HU4.out
    have hv4c0 := blk_cell hv4 0 _ rfl; have hv4f0 := blk_frozen hv4 0; have hv4c1 := blk_cell hv4 1 _ rfl; have hv4f1 := blk_frozen hv4 1; have hv4c2 := blk_cell hv4 2 _ rfl; have hv4f2 := blk_frozen hv4 2; have hv4c3 := blk_cell hv4 3 _ rfl; have hv4f3 := blk_frozen hv4 3; have hv4c4 := blk_cell hv4 4 _ rfl; have hv4f4 := blk_frozen hv4 4; have hv4c5 := blk_cell hv4 5 _ rfl; have hv4f5 := blk_frozen hv4 5; have hv4c6 := blk_cell hv4 6 _ rfl; have hv4f6 := blk_frozen hv4 6; have hv4c7 := blk_cell hv4 7 _ rfl; have hv4f7 := blk_frozen hv4 7; have hv4l := blk_lt hv4
    clear hv4 hb4 V0 V1 V1l HBV
    go_wp2_with fail
    refine onK_normal (hK _ _ ⟨fun _ => True, trivial, (fun h => by cases h), ?_⟩)
    clear hK K
    refine can_done ?_
    go_wp2
    refine bodyPost_ret (results_cell_row rfl _ _ (w.heap.size + 1) 45 #[.int .i64 0, .int .i64 0, .int .i64 0, .int .i64 0, .int .i64 0, .int .i64 0, .int .i64 0, .int .i64 0] (0,0) _ rfl (blk_eight HU4.out _ _ _ _ _ _ _ _) Tryz.underlying45 rfl (by kernel_rfl)) rfl ?_
    have hTl := blk_lt HH.out.tab.str
    have hm := turn_more (CW.marks (q := (freed q, [])) HH.out (below_drew1 HB0.out) (Nat.le_refl _) HT3.out HF3.out (fun h9 => by cases h9)) HB4.out
    obtain ⟨g1, g2⟩ := CW.aside hm (fr_eight (Fr.refl (fun b => b = w.heap.size + 1) w4) (g := w.heap.size + 1) (.inl rfl) (.int .i64 0) (.int .i64 0) (.int .i64 0) (.int .i64 0) (.int .i64 0) (.int .i64 0) (.int .i64 0) (.int .i64 0)) (by omega) (by omega) (by omega) (by omega) (HH.out.txt.ne_new (by omega)) (fun hF => by have := (HH.out.frz _ hF).1; omega)
    exact ⟨⟨0, 0, tok0⟩, _, v, F, rfl, Step.release (C := C) (l := l) s o i (q, t) 0 tok0 HK.out HF.out HQT.out HQ2.out rfl, g1, g2⟩
end
end Go.Proofs.YtoambcpjdcehhaaGreat.Id

/- Rewind. -/
set_option linter.unusedVariables false
set_option linter.unusedSimpArgs false
namespace Go.Proofs.YtoambcpjdcehhaaGreat.Id
open Go Go.RowKit Go.Shelf Go.Proofs.YtoambcpjdcehhaaGreat.Can Go.Proofs.YtoambcpjdcehhaaGreat.Base Go.Proofs.YtoambcpjdcehhaaGreat.Tb
open Go.Proofs.YtoambcpjdcehhaaGreat.Fn hiding get_calls
attribute [local go_sem] clsB AB.cell

section
variable {w U w' : World} {C : Cf} {B : Nat} {s s' : Cu} {v : Value} {F F' : Nat → Prop} {l : Lx} {o : Opn} {e : Ending}

theorem four_same {w : World} {g k : Nat} (hne : ¬ k = g) (i0 i1 i2 i3 : Nat) (b0 b1 b2 b3 : Value) : ((((w.setCell ⟨g, i0, none⟩ b0).setCell ⟨g, i1, none⟩ b1).setCell ⟨g, i2, none⟩ b2).setCell ⟨g, i3, none⟩ b3).heap[k]? = w.heap[k]? := by
  rw [Below.heap_setCell _ _ _ k hne, Below.heap_setCell _ _ _ k hne, Below.heap_setCell _ _ _ k hne, Below.heap_setCell _ _ _ k hne]
theorem blk_four {w : World} {g : Nat} {t : TypeId} {fr : Nat × Nat} {a0 a1 a2 a3 : Value} (h : w.heap[g]? = some (.cells #[a0, a1, a2, a3] t fr)) (b0 b1 b2 b3 : Value) : ((((w.setCell ⟨g, 0, none⟩ b0).setCell ⟨g, 1, none⟩ b1).setCell ⟨g, 2, none⟩ b2).setCell ⟨g, 3, none⟩ b3).heap[g]? = some (.cells #[b0, b1, b2, b3] t fr) := by
  have h0 := blk_set h 0 b0 #[b0, a1, a2, a3] rfl
  have h1 := blk_set h0 1 b1 #[b0, b1, a2, a3] rfl
  have h2 := blk_set h1 2 b2 #[b0, b1, b2, a3] rfl
  exact blk_set h2 3 b3 #[b0, b1, b2, b3] rfl
theorem fr_four {X : Nat → Prop} {v w : World} (h : Fr X v w) {g : Nat} (hg : X g ∨ v.heap.size ≤ g) (i0 i1 i2 i3 : Nat) (b0 b1 b2 b3 : Value) : Fr X v ((((w.setCell ⟨g, i0, none⟩ b0).setCell ⟨g, i1, none⟩ b1).setCell ⟨g, i2, none⟩ b2).setCell ⟨g, i3, none⟩ b3) :=
  (((h.set hg i0 b0).set hg i1 b1).set hg i2 b2).set hg i3 b3
set_option maxRecDepth 20000 in
set_option maxHeartbeats 4000000 in
theorem irewind_none (h : CW w C B s v F) (hk : o.k = 7) (hB : B ≤ 1000000) (hf : findL s.L o.n = none) : Calls Tryz.prog 56 #[.pointer (some ⟨C.p, 0, none⟩), opV o] w fun e w' => Done w w' C B v F l s o e := by
  have HS := Hd.mk (fun W (hW : Below w.heap.size w W) => Fn.getno_calls (h.tab.below hW) hB hf)
  obtain ⟨x, hx⟩ : ∃ x, sv0 = x := ⟨_, rfl⟩
  rw [hx] at HS
  clear hf hx
  obtain ⟨⟨xa, xm⟩, xd, xA, xn, xc⟩ := x
  unfold svV at HS
  simp only [] at HS
  have HH := Hd.mk h
  have HK := Hd.mk hk
  have ho := h.obj
  unfold cuC at ho
  unfold opV
  have hoc0 := blk_cell ho 0 _ rfl; have hof0 := blk_frozen ho 0; have hoc1 := blk_cell ho 1 _ rfl; have hof1 := blk_frozen ho 1; have hoc2 := blk_cell ho 2 _ rfl; have hof2 := blk_frozen ho 2; have hoc3 := blk_cell ho 3 _ rfl; have hof3 := blk_frozen ho 3; have hoc4 := blk_cell ho 4 _ rfl; have hof4 := blk_frozen ho 4; have hoc5 := blk_cell ho 5 _ rfl; have hof5 := blk_frozen ho 5; have hoc6 := blk_cell ho 6 _ rfl; have hof6 := blk_frozen ho 6; have hoc7 := blk_cell ho 7 _ rfl; have hof7 := blk_frozen ho 7; have hoc8 := blk_cell ho 8 _ rfl; have hof8 := blk_frozen ho 8; have hoc9 := blk_cell ho 9 _ rfl; have hof9 := blk_frozen ho 9; have hoc10 := blk_cell ho 10 _ rfl; have hof10 := blk_frozen ho 10; have hoc11 := blk_cell ho 11 _ rfl; have hof11 := blk_frozen ho 11; have hoc12 := blk_cell ho 12 _ rfl; have hof12 := blk_frozen ho 12; have hoc13 := blk_cell ho 13 _ rfl; have hof13 := blk_frozen ho 13; have hoc14 := blk_cell ho 14 _ rfl; have hof14 := blk_frozen ho 14; have hoc15 := blk_cell ho 15 _ rfl; have hof15 := blk_frozen ho 15; have hoc16 := blk_cell ho 16 _ rfl; have hof16 := blk_frozen ho 16; have hol := blk_lt ho
  have hp := h.cells
  have HO := Hd.mk ho
  have hv0 := blk_alloc (blk_new w (.cells #[.int .i64 o.k, .int .i64 o.n, .string o.data] 41 (0, 0)) _ rfl) (.cells #[.int .i64 0, .int .i64 0, .int .i64 0, .int .i64 0, .int .i64 0, .int .i64 0, .int .i64 0, .int .i64 0] 45 (0, 0))
  have hv1 := blk_new (w.alloc (.cells #[.int .i64 o.k, .int .i64 o.n, .string o.data] 41 (0, 0))) (.cells #[.int .i64 0, .int .i64 0, .int .i64 0, .int .i64 0, .int .i64 0, .int .i64 0, .int .i64 0, .int .i64 0] 45 (0, 0)) (w.heap.size + 1) (by rw [size_alloc])
  have HV0 := Hd.mk hv0; have HV1 := Hd.mk hv1
  clear h ho hk hv0 hv1
  go_enter Tryz.func56, Tryz.ntmps56
  go_wp2
  generalize hV : World.alloc _ _ = V
  have HBV : Below w.heap.size w V := below_of hV (by repeat (first | (with_reducible assumption) | (with_reducible exact Below.refl _ _) | (with_reducible apply below_drewL) | (with_reducible apply below_alloc) | (with_reducible apply below_drew1) | (with_reducible apply below_drewN) | (refine below_set ?_ (by first | omega | (simp only [size_alloc, size_drew, size_set]; omega)) _ _)))
  have zV : Hd (V.heap.size = w.heap.size + 1 + 1) := ⟨by rw [← hV]; simp only [size_alloc]⟩
  have V0 := at_of hV (blk_alloc (blk_new _ _ _ rfl) _)
  have V0l := blk_lt V0
  have V1 := at_of hV (blk_new _ _ _ rfl)
  simp only [size_alloc] at V1
  have V1l := blk_lt V1
  clear hV
  have ho := blk_below HO.out HBV
  have hoc0 := blk_cell ho 0 _ rfl; have hof0 := blk_frozen ho 0; have hoc1 := blk_cell ho 1 _ rfl; have hof1 := blk_frozen ho 1; have hoc2 := blk_cell ho 2 _ rfl; have hof2 := blk_frozen ho 2; have hoc3 := blk_cell ho 3 _ rfl; have hof3 := blk_frozen ho 3; have hoc4 := blk_cell ho 4 _ rfl; have hof4 := blk_frozen ho 4; have hoc5 := blk_cell ho 5 _ rfl; have hof5 := blk_frozen ho 5; have hoc6 := blk_cell ho 6 _ rfl; have hof6 := blk_frozen ho 6; have hoc7 := blk_cell ho 7 _ rfl; have hof7 := blk_frozen ho 7; have hoc8 := blk_cell ho 8 _ rfl; have hof8 := blk_frozen ho 8; have hoc9 := blk_cell ho 9 _ rfl; have hof9 := blk_frozen ho 9; have hoc10 := blk_cell ho 10 _ rfl; have hof10 := blk_frozen ho 10; have hoc11 := blk_cell ho 11 _ rfl; have hof11 := blk_frozen ho 11; have hoc12 := blk_cell ho 12 _ rfl; have hof12 := blk_frozen ho 12; have hoc13 := blk_cell ho 13 _ rfl; have hof13 := blk_frozen ho 13; have hoc14 := blk_cell ho 14 _ rfl; have hof14 := blk_frozen ho 14; have hoc15 := blk_cell ho 15 _ rfl; have hof15 := blk_frozen ho 15; have hoc16 := blk_cell ho 16 _ rfl; have hof16 := blk_frozen ho 16; have hol := blk_lt ho
  have V0c0 := blk_cell V0 0 _ rfl
  have V0f0 := blk_frozen V0 0
  have V0c1 := blk_cell V0 1 _ rfl
  have V0f1 := blk_frozen V0 1
  have V0c2 := blk_cell V0 2 _ rfl
  have V0f2 := blk_frozen V0 2
  have HB0 := Hd.mk HBV
  have HV1' := Hd.mk V1
  have HZV := Hd.mk zV.out
  have HT := Hd.mk (fun W (hW : Below V.heap.size V W) => HS.out W (below_seq HB0.out hW))
  clear zV ho V1
  refine wp_region_can (.q [0, 1, 2, 3, 4, 5] (.b 6 false (.q [7, 8, 9] (.e 10 true (.e 11 false (.q [12] (.done))))) 10 true (.e 6 false (.q [7, 8, 9] (.e 11 false (.q [12] (.done))))))) (clsB _) (by kernel_rfl) (by kernel_rfl) (by intro _ _ d _ _ h; cases d <;> exact h) (clsB_drew _) ?_
  refine can_q (l := [⟨_,_,_,_,_,_⟩, ⟨_,_,_,_,_,_⟩, ⟨_,_,_,_,_,_⟩, ⟨_,_,_,_,_,_⟩, ⟨_,_,_,_,_,_⟩, ⟨_,_,_,_,_,_⟩]) rfl ?_
  repeat (go_big_quiet_step (fail))
  refine wpQuiet_nil ?_
  apply cut_one (fun g W => V.heap.size ≤ g ∧ Below V.heap.size V W ∧ W.heap[g]? = some (.cells #[.int .i64 0, .int .i64 0, .int .i64 0, .slice none 0 0] 69 (0, 0)))
  case main =>
    intro key
    refine can_b (o := ⟨_,_,_,_,_,_⟩) (oj := ⟨_,_,_,_,_,_⟩) rfl rfl (fun K hK => ?_) (fun K hK => ?_)
    · go_wp2_with (go_at_call 83; go_must (with_reducible refine Calls.mono (HT.out _ ((by repeat (first | (with_reducible assumption) | (with_reducible exact Below.refl _ _) | (with_reducible apply below_drewL) | (with_reducible apply below_alloc) | (with_reducible apply below_drew1) | (with_reducible apply below_drewN) | (refine below_set ?_ (by first | omega | (simp only [size_alloc, size_drew, size_set]; omega)) _ _))))) ?_; rintro e w1 ⟨rfl, hb1⟩; replace hb1 := below_undrew hb1; have hz1 := hb1.size))
      refine onK_normal (hK _ _ ⟨clsB _, clsB_of (by first | exact (hb1) | exact below_undrew (hb1)), fun _ _ h => h, ?_⟩)
      clear hK K
      refine can_q (l := [⟨_,_,_,_,_,_⟩, ⟨_,_,_,_,_,_⟩, ⟨_,_,_,_,_,_⟩]) rfl ?_
      repeat (go_big_quiet_step (fail))
      refine wpQuiet_nil ?_
      refine can_e (o := ⟨_,_,_,_,_,_⟩) rfl (fun K hK => ?_)
      go_wp2_with fail
      refine onK_normal (hK _ _ ⟨clsB _, clsB_of (by first | exact ((below_alloc hb1 _)) | exact below_undrew ((below_alloc hb1 _))), fun _ _ h => h, ?_⟩)
      clear hK K
      generalize hW9 : World.alloc w1 _ = W9
      have k1 : Below V.heap.size V W9 := by rw [← hW9]; exact below_alloc hb1 _
      have k2 : W9.heap[w1.heap.size]? = some (.cells #[.int .i64 0, .int .i64 0, .int .i64 0, .slice none 0 0] 69 (0, 0)) := by rw [← hW9]; exact blk_new _ _ _ rfl
      generalize w1.heap.size = g at k2 hz1 ⊢
      exact key g W9 ⟨hz1, k1, k2⟩
    · go_wp2_with fail
      refine onK_normal (hK _ _ ⟨clsB _, clsB_of (by first | exact ((by repeat (first | (with_reducible assumption) | (with_reducible exact Below.refl _ _) | (with_reducible apply below_drewL) | (with_reducible apply below_alloc) | (with_reducible apply below_drew1) | (with_reducible apply below_drewN) | (refine below_set ?_ (by first | omega | (simp only [size_alloc, size_drew, size_set]; omega)) _ _)))) | exact below_undrew ((by repeat (first | (with_reducible assumption) | (with_reducible exact Below.refl _ _) | (with_reducible apply below_drewL) | (with_reducible apply below_alloc) | (with_reducible apply below_drew1) | (with_reducible apply below_drewN) | (refine below_set ?_ (by first | omega | (simp only [size_alloc, size_drew, size_set]; omega)) _ _))))), fun _ _ h => h, ?_⟩)
      clear hK K
      refine can_e (o := ⟨_,_,_,_,_,_⟩) rfl (fun K hK => ?_)
      go_wp2_with (go_at_call 83; go_must (with_reducible refine Calls.mono (HT.out _ ((by repeat (first | (with_reducible assumption) | (with_reducible exact Below.refl _ _) | (with_reducible apply below_drewL) | (with_reducible apply below_alloc) | (with_reducible apply below_drew1) | (with_reducible apply below_drewN) | (refine below_set ?_ (by first | omega | (simp only [size_alloc, size_drew, size_set]; omega)) _ _))))) ?_; rintro e w1 ⟨rfl, hb1⟩; have hb2 : Below V.heap.size V w1 := (by first | exact below_seq (by repeat (first | (with_reducible assumption) | (with_reducible exact Below.refl _ _) | (with_reducible apply below_drewL) | (with_reducible apply below_alloc) | (with_reducible apply below_drew1) | (with_reducible apply below_drewN) | (refine below_set ?_ (by first | omega | (simp only [size_alloc, size_drew, size_set]; omega)) _ _))) hb1 | exact below_seq (by repeat (first | (with_reducible assumption) | (with_reducible exact Below.refl _ _) | (with_reducible apply below_drewL) | (with_reducible apply below_alloc) | (with_reducible apply below_drew1) | (with_reducible apply below_drewN) | (refine below_set ?_ (by first | omega | (simp only [size_alloc, size_drew, size_set]; omega)) _ _))) (below_undrew hb1)); have hg1 : w1.heap[V.heap.size]? = some (.cells #[.int .i64 0, .int .i64 0, .int .i64 0, .slice none 0 0] 69 (0, 0)) := (by first | exact blk_below (blk_new _ _ _ rfl) hb1 | exact blk_below (blk_drew (blk_new _ _ _ rfl)) hb1)))
      refine onK_normal (hK _ _ ⟨clsB _, clsB_of (by first | exact (hb2) | exact below_undrew (hb2)), fun _ _ h => h, ?_⟩)
      clear hK K
      refine can_q (l := [⟨_,_,_,_,_,_⟩, ⟨_,_,_,_,_,_⟩, ⟨_,_,_,_,_,_⟩]) rfl ?_
      repeat (go_big_quiet_step (fail))
      refine wpQuiet_nil ?_
      generalize hk : V.heap.size = g at hg1 ⊢
      exact key g w1 ⟨by omega, hb2, hg1⟩
  case key =>
    rintro g W ⟨hg, hbW, hgW⟩
    clear hoc0 hof0 hoc1 hof1 hoc2 hof2 hoc3 hof3 hoc4 hof4 hoc5 hof5 hoc6 hof6 hoc7 hof7 hoc8 hof8 hoc9 hof9 hoc10 hof10 hoc11 hof11 hoc12 hof12 hoc13 hof13 hoc14 hof14 hoc15 hof15 hoc16 hof16 hol
    clear V0c0 V0f0 V0c1 V0f1 V0c2 V0f2 V0l
    have HBW := Hd.mk (below_seq HB0.out hbW)
    have hgl := blk_lt hgW
    have hne : ¬ w.heap.size + 1 = g := by have := HZV.out; omega
    have hwg : w.heap.size ≤ g := by have := HZV.out; omega
    have hpg : ¬ C.p = g := by omega
    have HV4 := Hd.mk (blk_below HV1'.out hbW)
    have HGW := Hd.mk hgW
    have hgWc0 := blk_cell hgW 0 _ rfl; have hgWf0 := blk_frozen hgW 0; have hgWc1 := blk_cell hgW 1 _ rfl; have hgWf1 := blk_frozen hgW 1; have hgWc2 := blk_cell hgW 2 _ rfl; have hgWf2 := blk_frozen hgW 2; have hgWc3 := blk_cell hgW 3 _ rfl; have hgWf3 := blk_frozen hgW 3; have hgWl := blk_lt hgW
    clear hbW V0 hg HT
    refine can_e (o := ⟨_,_,_,_,_,_⟩) rfl (fun K hK => ?_)
    go_wp2_with fail
    refine onK_normal (hK _ _ ⟨fun _ => True, trivial, (fun h => by cases h), ?_⟩)
    clear hK K
    refine can_q (l := [⟨_,_,_,_,_,_⟩]) rfl ?_
    repeat (go_big_quiet_step (fail))
    refine wpQuiet_nil ?_
    refine can_done ?_
    generalize hU : World.setCell _ _ _ = U
    have HGU : Hd (U.heap[g]? = some (.cells #[.int .i64 xa, .int .i64 xm, .int .i64 xd, .slice xA xn xc] 69 (0, 0))) := ⟨by rw [← hU]; exact blk_four HGW.out _ _ _ _⟩
    have HV5 : Hd (U.heap[w.heap.size + 1]? = some (.cells #[.int .i64 0, .int .i64 0, .int .i64 0, .int .i64 0, .int .i64 0, .int .i64 0, .int .i64 0, .int .i64 0] 45 (0, 0))) := ⟨by rw [← hU]; exact (four_same hne _ _ _ _ _ _ _ _).trans HV4.out⟩
    have HBU : Hd (Below w.heap.size w U) := ⟨by rw [← hU]; exact (fr_four (Fr.of_below (X := fun _ => False) HBW.out) (.inr hwg) _ _ _ _ _ _ _ _).below (Nat.le_refl _) (fun _ _ h => h)⟩
    have HOU := Hd.mk (blk_below HO.out HBU.out)
    clear hgWc0 hgWf0 hgWc1 hgWf1 hgWc2 hgWf2 hgWc3 hgWf3 hgWl
    clear hU hgW
    have hr := HV5.out
    have hrc0 := blk_cell hr 0 _ rfl; have hrf0 := blk_frozen hr 0; have hrc1 := blk_cell hr 1 _ rfl; have hrf1 := blk_frozen hr 1; have hrc2 := blk_cell hr 2 _ rfl; have hrf2 := blk_frozen hr 2; have hrc3 := blk_cell hr 3 _ rfl; have hrf3 := blk_frozen hr 3; have hrc4 := blk_cell hr 4 _ rfl; have hrf4 := blk_frozen hr 4; have hrc5 := blk_cell hr 5 _ rfl; have hrf5 := blk_frozen hr 5; have hrc6 := blk_cell hr 6 _ rfl; have hrf6 := blk_frozen hr 6; have hrc7 := blk_cell hr 7 _ rfl; have hrf7 := blk_frozen hr 7; have hrl := blk_lt hr
    go_wp2_with (go_at_call 22; go_must (refine Calls.mono (fail_calls _ _) ?_; rintro e w4 ⟨rfl, hb4⟩; have HB4 := Hd.mk (below_seq HBU.out hb4); have HI1 := Hd.mk (blk_below HV5.out hb4); have h14 := HI1.out; clear hrc0 hrf0 hrc1 hrf1 hrc2 hrf2 hrc3 hrf3 hrc4 hrf4 hrc5 hrf5 hrc6 hrf6 hrc7 hrf7 hrl; clear hb4; have h14c0 := blk_cell h14 0 _ rfl; have h14f0 := blk_frozen h14 0; have h14c1 := blk_cell h14 1 _ rfl; have h14f1 := blk_frozen h14 1; have h14c2 := blk_cell h14 2 _ rfl; have h14f2 := blk_frozen h14 2; have h14c3 := blk_cell h14 3 _ rfl; have h14f3 := blk_frozen h14 3; have h14c4 := blk_cell h14 4 _ rfl; have h14f4 := blk_frozen h14 4; have h14c5 := blk_cell h14 5 _ rfl; have h14f5 := blk_frozen h14 5; have h14c6 := blk_cell h14 6 _ rfl; have h14f6 := blk_frozen h14 6; have h14c7 := blk_cell h14 7 _ rfl; have h14f7 := blk_frozen h14 7; have h14l := blk_lt h14))
    refine bodyPost_ret (results_cell_row rfl _ _ (w.heap.size + 1) 45 #[.int .i64 12, .int .i64 0, .int .i64 0, .int .i64 0, .int .i64 0, .int .i64 0, .int .i64 0, .int .i64 0] (0,0) _ rfl (blk_eight HI1.out _ _ _ _ _ _ _ _) Tryz.underlying45 rfl (by kernel_rfl)) rfl ?_
    exact Done.fail HH.out ((fr_eight (Fr.of_below (X := fun _ => False) HB4.out) (.inr (by omega)) _ _ _ _ _ _ _ _).below (Nat.le_refl _) (fun _ _ h => h)) 12 (by first | assumption | decide) rfl
set_option maxRecDepth 20000 in
set_option maxHeartbeats 4000000 in
theorem irewind_some {i : Nat} (h : CW w C B s v F) (hk : o.k = 7) (hB : B ≤ 1000000) (hf : findL s.L o.n = some i) : Calls Tryz.prog 56 #[.pointer (some ⟨C.p, 0, none⟩), opV o] w fun e w' => Done w w' C B v F l s o e := by
  obtain ⟨q, hq1, hq2, -⟩ := findL_slot hf
  obtain ⟨t, hqt⟩ : ∃ t, s.ls[i]? = some (q, t) := by
    unfold Cu.L at hq1
    rw [List.getElem?_map] at hq1
    obtain ⟨⟨a, t⟩, h1, h2⟩ := Option.map_eq_some_iff.1 hq1
    have h2' : a = q := h2
    subst h2'
    exact ⟨t, h1⟩
  have HQT := Hd.mk hqt
  have HQ2 := Hd.mk hq2
  have HFN := Hd.mk hf
  have HS := Hd.mk (fun W (hW : Below w.heap.size w W) => Fn.get_calls (h.tab.below hW) hB hf hq1)
  have hsv : SvOk w F (depthOf C) q.v t := h.slots (q, t) (List.mem_of_getElem? hqt) hq2
  obtain ⟨x, hx⟩ : ∃ x, q.v = x := ⟨_, rfl⟩
  rw [hx] at HS hsv
  have HX := Hd.mk hx
  have HSV := Hd.mk hsv
  clear hf hx hq1 hq2 hqt hsv
  obtain ⟨⟨xa, xm⟩, xd, xA, xn, xc⟩ := x
  unfold svV at HS
  simp only [] at HS
  have HH := Hd.mk h
  have HK := Hd.mk hk
  have ho := h.obj
  unfold cuC at ho
  unfold opV
  have hoc0 := blk_cell ho 0 _ rfl; have hof0 := blk_frozen ho 0; have hoc1 := blk_cell ho 1 _ rfl; have hof1 := blk_frozen ho 1; have hoc2 := blk_cell ho 2 _ rfl; have hof2 := blk_frozen ho 2; have hoc3 := blk_cell ho 3 _ rfl; have hof3 := blk_frozen ho 3; have hoc4 := blk_cell ho 4 _ rfl; have hof4 := blk_frozen ho 4; have hoc5 := blk_cell ho 5 _ rfl; have hof5 := blk_frozen ho 5; have hoc6 := blk_cell ho 6 _ rfl; have hof6 := blk_frozen ho 6; have hoc7 := blk_cell ho 7 _ rfl; have hof7 := blk_frozen ho 7; have hoc8 := blk_cell ho 8 _ rfl; have hof8 := blk_frozen ho 8; have hoc9 := blk_cell ho 9 _ rfl; have hof9 := blk_frozen ho 9; have hoc10 := blk_cell ho 10 _ rfl; have hof10 := blk_frozen ho 10; have hoc11 := blk_cell ho 11 _ rfl; have hof11 := blk_frozen ho 11; have hoc12 := blk_cell ho 12 _ rfl; have hof12 := blk_frozen ho 12; have hoc13 := blk_cell ho 13 _ rfl; have hof13 := blk_frozen ho 13; have hoc14 := blk_cell ho 14 _ rfl; have hof14 := blk_frozen ho 14; have hoc15 := blk_cell ho 15 _ rfl; have hof15 := blk_frozen ho 15; have hoc16 := blk_cell ho 16 _ rfl; have hof16 := blk_frozen ho 16; have hol := blk_lt ho
  have hp := h.cells
  have HO := Hd.mk ho
  have hv0 := blk_alloc (blk_new w (.cells #[.int .i64 o.k, .int .i64 o.n, .string o.data] 41 (0, 0)) _ rfl) (.cells #[.int .i64 0, .int .i64 0, .int .i64 0, .int .i64 0, .int .i64 0, .int .i64 0, .int .i64 0, .int .i64 0] 45 (0, 0))
  have hv1 := blk_new (w.alloc (.cells #[.int .i64 o.k, .int .i64 o.n, .string o.data] 41 (0, 0))) (.cells #[.int .i64 0, .int .i64 0, .int .i64 0, .int .i64 0, .int .i64 0, .int .i64 0, .int .i64 0, .int .i64 0] 45 (0, 0)) (w.heap.size + 1) (by rw [size_alloc])
  have HV0 := Hd.mk hv0; have HV1 := Hd.mk hv1
  clear h ho hk hv0 hv1
  go_enter Tryz.func56, Tryz.ntmps56
  go_wp2
  generalize hV : World.alloc _ _ = V
  have HBV : Below w.heap.size w V := below_of hV (by repeat (first | (with_reducible assumption) | (with_reducible exact Below.refl _ _) | (with_reducible apply below_drewL) | (with_reducible apply below_alloc) | (with_reducible apply below_drew1) | (with_reducible apply below_drewN) | (refine below_set ?_ (by first | omega | (simp only [size_alloc, size_drew, size_set]; omega)) _ _)))
  have zV : Hd (V.heap.size = w.heap.size + 1 + 1) := ⟨by rw [← hV]; simp only [size_alloc]⟩
  have V0 := at_of hV (blk_alloc (blk_new _ _ _ rfl) _)
  have V0l := blk_lt V0
  have V1 := at_of hV (blk_new _ _ _ rfl)
  simp only [size_alloc] at V1
  have V1l := blk_lt V1
  clear hV
  have ho := blk_below HO.out HBV
  have hoc0 := blk_cell ho 0 _ rfl; have hof0 := blk_frozen ho 0; have hoc1 := blk_cell ho 1 _ rfl; have hof1 := blk_frozen ho 1; have hoc2 := blk_cell ho 2 _ rfl; have hof2 := blk_frozen ho 2; have hoc3 := blk_cell ho 3 _ rfl; have hof3 := blk_frozen ho 3; have hoc4 := blk_cell ho 4 _ rfl; have hof4 := blk_frozen ho 4; have hoc5 := blk_cell ho 5 _ rfl; have hof5 := blk_frozen ho 5; have hoc6 := blk_cell ho 6 _ rfl; have hof6 := blk_frozen ho 6; have hoc7 := blk_cell ho 7 _ rfl; have hof7 := blk_frozen ho 7; have hoc8 := blk_cell ho 8 _ rfl; have hof8 := blk_frozen ho 8; have hoc9 := blk_cell ho 9 _ rfl; have hof9 := blk_frozen ho 9; have hoc10 := blk_cell ho 10 _ rfl; have hof10 := blk_frozen ho 10; have hoc11 := blk_cell ho 11 _ rfl; have hof11 := blk_frozen ho 11; have hoc12 := blk_cell ho 12 _ rfl; have hof12 := blk_frozen ho 12; have hoc13 := blk_cell ho 13 _ rfl; have hof13 := blk_frozen ho 13; have hoc14 := blk_cell ho 14 _ rfl; have hof14 := blk_frozen ho 14; have hoc15 := blk_cell ho 15 _ rfl; have hof15 := blk_frozen ho 15; have hoc16 := blk_cell ho 16 _ rfl; have hof16 := blk_frozen ho 16; have hol := blk_lt ho
  have V0c0 := blk_cell V0 0 _ rfl
  have V0f0 := blk_frozen V0 0
  have V0c1 := blk_cell V0 1 _ rfl
  have V0f1 := blk_frozen V0 1
  have V0c2 := blk_cell V0 2 _ rfl
  have V0f2 := blk_frozen V0 2
  have HB0 := Hd.mk HBV
  have HV1' := Hd.mk V1
  have HZV := Hd.mk zV.out
  have HT := Hd.mk (fun W (hW : Below V.heap.size V W) => HS.out W (below_seq HB0.out hW))
  clear zV ho V1
  refine wp_region_can (.q [0, 1, 2, 3, 4, 5] (.b 6 false (.q [7, 8, 9] (.e 10 true (.e 11 false (.q [12] (.done))))) 10 true (.e 6 false (.q [7, 8, 9] (.e 11 false (.q [12] (.done))))))) (clsB _) (by kernel_rfl) (by kernel_rfl) (by intro _ _ d _ _ h; cases d <;> exact h) (clsB_drew _) ?_
  refine can_q (l := [⟨_,_,_,_,_,_⟩, ⟨_,_,_,_,_,_⟩, ⟨_,_,_,_,_,_⟩, ⟨_,_,_,_,_,_⟩, ⟨_,_,_,_,_,_⟩, ⟨_,_,_,_,_,_⟩]) rfl ?_
  repeat (go_big_quiet_step (fail))
  refine wpQuiet_nil ?_
  apply cut_one (fun g W => V.heap.size ≤ g ∧ Below V.heap.size V W ∧ W.heap[g]? = some (.cells #[.int .i64 0, .int .i64 0, .int .i64 0, .slice none 0 0] 69 (0, 0)))
  case main =>
    intro key
    refine can_b (o := ⟨_,_,_,_,_,_⟩) (oj := ⟨_,_,_,_,_,_⟩) rfl rfl (fun K hK => ?_) (fun K hK => ?_)
    · go_wp2_with (go_at_call 83; go_must (with_reducible refine Calls.mono (HT.out _ ((by repeat (first | (with_reducible assumption) | (with_reducible exact Below.refl _ _) | (with_reducible apply below_drewL) | (with_reducible apply below_alloc) | (with_reducible apply below_drew1) | (with_reducible apply below_drewN) | (refine below_set ?_ (by first | omega | (simp only [size_alloc, size_drew, size_set]; omega)) _ _))))) ?_; rintro e w1 ⟨rfl, hb1⟩; replace hb1 := below_undrew hb1; have hz1 := hb1.size))
      refine onK_normal (hK _ _ ⟨clsB _, clsB_of (by first | exact (hb1) | exact below_undrew (hb1)), fun _ _ h => h, ?_⟩)
      clear hK K
      refine can_q (l := [⟨_,_,_,_,_,_⟩, ⟨_,_,_,_,_,_⟩, ⟨_,_,_,_,_,_⟩]) rfl ?_
      repeat (go_big_quiet_step (fail))
      refine wpQuiet_nil ?_
      refine can_e (o := ⟨_,_,_,_,_,_⟩) rfl (fun K hK => ?_)
      go_wp2_with fail
      refine onK_normal (hK _ _ ⟨clsB _, clsB_of (by first | exact ((below_alloc hb1 _)) | exact below_undrew ((below_alloc hb1 _))), fun _ _ h => h, ?_⟩)
      clear hK K
      generalize hW9 : World.alloc w1 _ = W9
      have k1 : Below V.heap.size V W9 := by rw [← hW9]; exact below_alloc hb1 _
      have k2 : W9.heap[w1.heap.size]? = some (.cells #[.int .i64 0, .int .i64 0, .int .i64 0, .slice none 0 0] 69 (0, 0)) := by rw [← hW9]; exact blk_new _ _ _ rfl
      generalize w1.heap.size = g at k2 hz1 ⊢
      exact key g W9 ⟨hz1, k1, k2⟩
    · go_wp2_with fail
      refine onK_normal (hK _ _ ⟨clsB _, clsB_of (by first | exact ((by repeat (first | (with_reducible assumption) | (with_reducible exact Below.refl _ _) | (with_reducible apply below_drewL) | (with_reducible apply below_alloc) | (with_reducible apply below_drew1) | (with_reducible apply below_drewN) | (refine below_set ?_ (by first | omega | (simp only [size_alloc, size_drew, size_set]; omega)) _ _)))) | exact below_undrew ((by repeat (first | (with_reducible assumption) | (with_reducible exact Below.refl _ _) | (with_reducible apply below_drewL) | (with_reducible apply below_alloc) | (with_reducible apply below_drew1) | (with_reducible apply below_drewN) | (refine below_set ?_ (by first | omega | (simp only [size_alloc, size_drew, size_set]; omega)) _ _))))), fun _ _ h => h, ?_⟩)
      clear hK K
      refine can_e (o := ⟨_,_,_,_,_,_⟩) rfl (fun K hK => ?_)
      go_wp2_with (go_at_call 83; go_must (with_reducible refine Calls.mono (HT.out _ ((by repeat (first | (with_reducible assumption) | (with_reducible exact Below.refl _ _) | (with_reducible apply below_drewL) | (with_reducible apply below_alloc) | (with_reducible apply below_drew1) | (with_reducible apply below_drewN) | (refine below_set ?_ (by first | omega | (simp only [size_alloc, size_drew, size_set]; omega)) _ _))))) ?_; rintro e w1 ⟨rfl, hb1⟩; have hb2 : Below V.heap.size V w1 := (by first | exact below_seq (by repeat (first | (with_reducible assumption) | (with_reducible exact Below.refl _ _) | (with_reducible apply below_drewL) | (with_reducible apply below_alloc) | (with_reducible apply below_drew1) | (with_reducible apply below_drewN) | (refine below_set ?_ (by first | omega | (simp only [size_alloc, size_drew, size_set]; omega)) _ _))) hb1 | exact below_seq (by repeat (first | (with_reducible assumption) | (with_reducible exact Below.refl _ _) | (with_reducible apply below_drewL) | (with_reducible apply below_alloc) | (with_reducible apply below_drew1) | (with_reducible apply below_drewN) | (refine below_set ?_ (by first | omega | (simp only [size_alloc, size_drew, size_set]; omega)) _ _))) (below_undrew hb1)); have hg1 : w1.heap[V.heap.size]? = some (.cells #[.int .i64 0, .int .i64 0, .int .i64 0, .slice none 0 0] 69 (0, 0)) := (by first | exact blk_below (blk_new _ _ _ rfl) hb1 | exact blk_below (blk_drew (blk_new _ _ _ rfl)) hb1)))
      refine onK_normal (hK _ _ ⟨clsB _, clsB_of (by first | exact (hb2) | exact below_undrew (hb2)), fun _ _ h => h, ?_⟩)
      clear hK K
      refine can_q (l := [⟨_,_,_,_,_,_⟩, ⟨_,_,_,_,_,_⟩, ⟨_,_,_,_,_,_⟩]) rfl ?_
      repeat (go_big_quiet_step (fail))
      refine wpQuiet_nil ?_
      generalize hk : V.heap.size = g at hg1 ⊢
      exact key g w1 ⟨by omega, hb2, hg1⟩
  case key =>
    rintro g W ⟨hg, hbW, hgW⟩
    clear hoc0 hof0 hoc1 hof1 hoc2 hof2 hoc3 hof3 hoc4 hof4 hoc5 hof5 hoc6 hof6 hoc7 hof7 hoc8 hof8 hoc9 hof9 hoc10 hof10 hoc11 hof11 hoc12 hof12 hoc13 hof13 hoc14 hof14 hoc15 hof15 hoc16 hof16 hol
    clear V0c0 V0f0 V0c1 V0f1 V0c2 V0f2 V0l
    have HBW := Hd.mk (below_seq HB0.out hbW)
    have hgl := blk_lt hgW
    have hne : ¬ w.heap.size + 1 = g := by have := HZV.out; omega
    have hwg : w.heap.size ≤ g := by have := HZV.out; omega
    have hpg : ¬ C.p = g := by omega
    have HV4 := Hd.mk (blk_below HV1'.out hbW)
    have HGW := Hd.mk hgW
    have hgWc0 := blk_cell hgW 0 _ rfl; have hgWf0 := blk_frozen hgW 0; have hgWc1 := blk_cell hgW 1 _ rfl; have hgWf1 := blk_frozen hgW 1; have hgWc2 := blk_cell hgW 2 _ rfl; have hgWf2 := blk_frozen hgW 2; have hgWc3 := blk_cell hgW 3 _ rfl; have hgWf3 := blk_frozen hgW 3; have hgWl := blk_lt hgW
    clear hbW V0 hg HT
    refine can_e (o := ⟨_,_,_,_,_,_⟩) rfl (fun K hK => ?_)
    go_wp2_with fail
    refine onK_normal (hK _ _ ⟨fun _ => True, trivial, (fun h => by cases h), ?_⟩)
    clear hK K
    refine can_q (l := [⟨_,_,_,_,_,_⟩]) rfl ?_
    repeat (go_big_quiet_step (fail))
    refine wpQuiet_nil ?_
    refine can_done ?_
    generalize hU : World.setCell _ _ _ = U
    have HGU : Hd (U.heap[g]? = some (.cells #[.int .i64 xa, .int .i64 xm, .int .i64 xd, .slice xA xn xc] 69 (0, 0))) := ⟨by rw [← hU]; exact blk_four HGW.out _ _ _ _⟩
    have HV5 : Hd (U.heap[w.heap.size + 1]? = some (.cells #[.int .i64 0, .int .i64 0, .int .i64 0, .int .i64 0, .int .i64 0, .int .i64 0, .int .i64 0, .int .i64 0] 45 (0, 0))) := ⟨by rw [← hU]; exact (four_same hne _ _ _ _ _ _ _ _).trans HV4.out⟩
    have HBU : Hd (Below w.heap.size w U) := ⟨by rw [← hU]; exact (fr_four (Fr.of_below (X := fun _ => False) HBW.out) (.inr hwg) _ _ _ _ _ _ _ _).below (Nat.le_refl _) (fun _ _ h => h)⟩
    have HOU := Hd.mk (blk_below HO.out HBU.out)
    clear hgWc0 hgWf0 hgWc1 hgWf1 hgWc2 hgWf2 hgWc3 hgWf3 hgWl
    clear hU hgW
    have hr := HV5.out
    have hgu := HGU.out
    have hou := HOU.out
    have hguc0 := blk_cell hgu 0 _ rfl; have hguf0 := blk_frozen hgu 0; have hguc1 := blk_cell hgu 1 _ rfl; have hguf1 := blk_frozen hgu 1; have hguc2 := blk_cell hgu 2 _ rfl; have hguf2 := blk_frozen hgu 2; have hguc3 := blk_cell hgu 3 _ rfl; have hguf3 := blk_frozen hgu 3; have hgul := blk_lt hgu
    have houc0 := blk_cell hou 0 _ rfl; have houf0 := blk_frozen hou 0; have houc1 := blk_cell hou 1 _ rfl; have houf1 := blk_frozen hou 1; have houc2 := blk_cell hou 2 _ rfl; have houf2 := blk_frozen hou 2; have houc3 := blk_cell hou 3 _ rfl; have houf3 := blk_frozen hou 3; have houc4 := blk_cell hou 4 _ rfl; have houf4 := blk_frozen hou 4; have houc5 := blk_cell hou 5 _ rfl; have houf5 := blk_frozen hou 5; have houc6 := blk_cell hou 6 _ rfl; have houf6 := blk_frozen hou 6; have houc7 := blk_cell hou 7 _ rfl; have houf7 := blk_frozen hou 7; have houc8 := blk_cell hou 8 _ rfl; have houf8 := blk_frozen hou 8; have houc9 := blk_cell hou 9 _ rfl; have houf9 := blk_frozen hou 9; have houc10 := blk_cell hou 10 _ rfl; have houf10 := blk_frozen hou 10; have houc11 := blk_cell hou 11 _ rfl; have houf11 := blk_frozen hou 11; have houc12 := blk_cell hou 12 _ rfl; have houf12 := blk_frozen hou 12; have houc13 := blk_cell hou 13 _ rfl; have houf13 := blk_frozen hou 13; have houc14 := blk_cell hou 14 _ rfl; have houf14 := blk_frozen hou 14; have houc15 := blk_cell hou 15 _ rfl; have houf15 := blk_frozen hou 15; have houc16 := blk_cell hou 16 _ rfl; have houf16 := blk_frozen hou 16; have houl := blk_lt hou
    clear hgu hou
    go_upto_region 4 with (fail)
    generalize hG : World.setCell _ _ _ = G
    have hpw : C.p ≠ w.heap.size + 1 := by omega
    have HG1 : Hd (G.heap[w.heap.size + 1]? = some (.cells #[.int .i64 0, .int .i64 0, .int .i64 0, .int .i64 0, .int .i64 0, .int .i64 0, .int .i64 0, .int .i64 0] 45 (0, 0))) := ⟨by rw [← hG]; exact (four_same hpw.symm _ _ _ _ _ _ _ _).trans HV5.out⟩
    have HGO : Hd (G.heap[C.p]? = some (.cells (cuC C { s with now := ⟨⟨xa, xm⟩, xd, xA, xn, xc⟩, tr := t } v) 74 (0, 0))) := ⟨by rw [← hG]; exact blk_set (blk_set (blk_set (blk_set HOU.out 12 _ _ rfl) 13 _ _ rfl) 14 _ _ rfl) 15 _ _ rfl⟩
    have HGF : Hd (Fr (fun b => b = C.p) U G) := ⟨by rw [← hG]; exact fr_four (Fr.refl (fun b => b = C.p) U) (g := C.p) (.inl rfl) 12 13 14 15 _ _ _ _⟩
    clear hguc0 hguf0 hguc1 hguf1 hguc2 hguf2 hguc3 hguf3 hgul
    clear houc0 houf0 houc1 houf1 houc2 houf2 houc3 houf3 houc4 houf4 houc5 houf5 houc6 houf6 houc7 houf7 houc8 houf8 houc9 houf9 houc10 houf10 houc11 houf11 houc12 houf12 houc13 houf13 houc14 houf14 houc15 houf15 houc16 houf16 houl
    clear hG hr
    go_wp2_with (go_at_call 22; go_must (refine Calls.mono (fail_calls _ _) ?_; rintro e w4 ⟨rfl, hb4⟩; have HB4 := Hd.mk hb4; have HI1 := Hd.mk (blk_below HG1.out hb4); have h14 := HI1.out; clear hb4; have h14c0 := blk_cell h14 0 _ rfl; have h14f0 := blk_frozen h14 0; have h14c1 := blk_cell h14 1 _ rfl; have h14f1 := blk_frozen h14 1; have h14c2 := blk_cell h14 2 _ rfl; have h14f2 := blk_frozen h14 2; have h14c3 := blk_cell h14 3 _ rfl; have h14f3 := blk_frozen h14 3; have h14c4 := blk_cell h14 4 _ rfl; have h14f4 := blk_frozen h14 4; have h14c5 := blk_cell h14 5 _ rfl; have h14f5 := blk_frozen h14 5; have h14c6 := blk_cell h14 6 _ rfl; have h14f6 := blk_frozen h14 6; have h14c7 := blk_cell h14 7 _ rfl; have h14f7 := blk_frozen h14 7; have h14l := blk_lt h14))
    refine bodyPost_ret (results_cell_row rfl _ _ (w.heap.size + 1) 45 #[.int .i64 0, .int .i64 0, .int .i64 0, .int .i64 0, .int .i64 0, .int .i64 0, .int .i64 0, .int .i64 0] (0,0) _ rfl (blk_eight HI1.out _ _ _ _ _ _ _ _) Tryz.underlying45 rfl (by kernel_rfl)) rfl ?_
    have hTl := blk_lt HH.out.tab.str
    have hRl := HH.out.tab.row.lt
    have hsv := HSV.out
    have hm := turn_more (CW.turn (s' := { s with now := ⟨⟨xa, xm⟩, xd, xA, xn, xc⟩, tr := t }) (F' := F) HH.out HBU.out HGF.out (fun b hb => .inl hb) HGO.out rfl rfl (fun _ h => h) (fun _ h => .inl h) (hsv.move (fun b hb => HBU.out.block b (HH.out.frz b hb).1))) HB4.out
    obtain ⟨g1, g2⟩ := CW.aside hm (fr_eight (Fr.refl (fun b => b = w.heap.size + 1) w4) (g := w.heap.size + 1) (.inl rfl) (.int .i64 0) (.int .i64 0) (.int .i64 0) (.int .i64 0) (.int .i64 0) (.int .i64 0) (.int .i64 0) (.int .i64 0)) (by omega) (by omega) (by omega) (by omega) (HH.out.txt.ne_new (by omega)) (fun hF => by have := (HH.out.frz _ hF).1; omega)
    refine ⟨⟨0, 0, tok0⟩, _, v, F, rfl, ?_, g1, g2⟩
    have hst := Step.rewind (C := C) (l := l) s o i (q, t) 0 tok0 HK.out HFN.out HQT.out HQ2.out rfl
    have h9 : (q, t).1.v = ⟨⟨xa, xm⟩, xd, xA, xn, xc⟩ := HX.out
    rw [h9] at hst
    exact hst
theorem irewind_calls (h : CW w C B s v F) (hk : o.k = 7) (hB : B ≤ 1000000) : Calls Tryz.prog 56 #[.pointer (some ⟨C.p, 0, none⟩), opV o] w fun e w' => Done w w' C B v F l s o e := by
  cases hf : findL s.L o.n with
  | none => exact irewind_none h hk hB hf
  | some i => exact irewind_some h hk hB hf
end
end Go.Proofs.YtoambcpjdcehhaaGreat.Id

/- Which operation; Do. -/
set_option linter.unusedVariables false
set_option linter.unusedSimpArgs false
namespace Go.Proofs.YtoambcpjdcehhaaGreat.Id
open Go Go.RowKit Go.Shelf Go.Proofs.YtoambcpjdcehhaaGreat.Can Go.Proofs.YtoambcpjdcehhaaGreat.Base Go.Proofs.YtoambcpjdcehhaaGreat.Tb
open Go.Proofs.YtoambcpjdcehhaaGreat.Fn hiding get_calls
theorem nilDo (fn : Fn) (a b : Array Value) (W : World) : (binOp .eql 76 (.func fn a b) .nilFunc).run Tryz.prog W = .ok (.bool false) W := by
  have h : ∀ d : Nat, (Op.equalIn (d + 1) 76 (.func fn a b) .nilFunc).run Tryz.prog W = .ok false W := fun d => by simp [Op.equalIn, run_underlying Tryz.underlying76]
  simp only [binOp]
  simp [Op.equal, Op.maxDepth, h 9999]
theorem nilDo2 (W : World) : (binOp .eql 76 .nilFunc .nilFunc).run Tryz.prog W = .ok (.bool true) W := by
  have h : ∀ d : Nat, (Op.equalIn (d + 1) 76 .nilFunc .nilFunc).run Tryz.prog W = .ok true W := fun d => by simp [Op.equalIn, run_underlying Tryz.underlying76]
  simp only [binOp]
  simp [Op.equal, Op.maxDepth, h 9999]
attribute [local go_sem] clsB AB.cell nilDo nilDo2
theorem does_1 (w : World) : Calls Tryz.prog 23 #[.int .i64 1] w fun e w' => e = .returned (.func (Fn.func 50) #[] #[]) ∧ w' = w := by
    go_enter Tryz.func23, Tryz.ntmps23
    go_wp2
    go_ret
    exact ⟨rfl, rfl⟩
theorem does_2 (w : World) : Calls Tryz.prog 23 #[.int .i64 2] w fun e w' => e = .returned (.func (Fn.func 51) #[] #[]) ∧ w' = w := by
    go_enter Tryz.func23, Tryz.ntmps23
    go_wp2
    go_ret
    exact ⟨rfl, rfl⟩
theorem does_3 (w : World) : Calls Tryz.prog 23 #[.int .i64 3] w fun e w' => e = .returned (.func (Fn.func 52) #[] #[]) ∧ w' = w := by
    go_enter Tryz.func23, Tryz.ntmps23
    go_wp2
    go_ret
    exact ⟨rfl, rfl⟩
theorem does_4 (w : World) : Calls Tryz.prog 23 #[.int .i64 4] w fun e w' => e = .returned (.func (Fn.func 53) #[] #[]) ∧ w' = w := by
    go_enter Tryz.func23, Tryz.ntmps23
    go_wp2
    go_ret
    exact ⟨rfl, rfl⟩
theorem does_5 (w : World) : Calls Tryz.prog 23 #[.int .i64 5] w fun e w' => e = .returned (.func (Fn.func 54) #[] #[]) ∧ w' = w := by
    go_enter Tryz.func23, Tryz.ntmps23
    go_wp2
    go_ret
    exact ⟨rfl, rfl⟩
theorem does_6 (w : World) : Calls Tryz.prog 23 #[.int .i64 6] w fun e w' => e = .returned (.func (Fn.func 55) #[] #[]) ∧ w' = w := by
    go_enter Tryz.func23, Tryz.ntmps23
    go_wp2
    go_ret
    exact ⟨rfl, rfl⟩
theorem does_7 (w : World) : Calls Tryz.prog 23 #[.int .i64 7] w fun e w' => e = .returned (.func (Fn.func 56) #[] #[]) ∧ w' = w := by
    go_enter Tryz.func23, Tryz.ntmps23
    go_wp2
    go_ret
    exact ⟨rfl, rfl⟩
theorem does_8 (w : World) : Calls Tryz.prog 23 #[.int .i64 8] w fun e w' => e = .returned (.func (Fn.func 57) #[] #[]) ∧ w' = w := by
    go_enter Tryz.func23, Tryz.ntmps23
    go_wp2
    go_ret
    exact ⟨rfl, rfl⟩
theorem does_9 (w : World) : Calls Tryz.prog 23 #[.int .i64 9] w fun e w' => e = .returned (.func (Fn.func 58) #[] #[]) ∧ w' = w := by
    go_enter Tryz.func23, Tryz.ntmps23
    go_wp2
    go_ret
    exact ⟨rfl, rfl⟩
theorem does_none (k : Int) (hk : k < 1 ∨ 9 < k) (w : World) : Calls Tryz.prog 23 #[.int .i64 k] w fun e w' => e = .returned .nilFunc ∧ w' = w := by
    have j1 : (k == 1) = false := by simp; omega
    have j2 : (k == 2) = false := by simp; omega
    have j3 : (k == 3) = false := by simp; omega
    have j4 : (k == 4) = false := by simp; omega
    have j5 : (k == 5) = false := by simp; omega
    have j6 : (k == 6) = false := by simp; omega
    have j7 : (k == 7) = false := by simp; omega
    have j8 : (k == 8) = false := by simp; omega
    have j9 : (k == 9) = false := by simp; omega
    clear hk
    go_enter Tryz.func23, Tryz.ntmps23
    go_wp2
    go_ret
    exact ⟨rfl, rfl⟩
section
variable {w U w' : World} {C : Cf} {B : Nat} {s s' : Cu} {v : Value} {F F' : Nat → Prop} {l : Lx} {o : Opn} {e : Ending}

theorem Done.outer {W w1 : World} {e1 : Ending} (h : CW w C B s v F) (hW : Below w.heap.size w W) (hz : W.heap[w.heap.size + 1]? = some (.cells #[.int .i64 0, .int .i64 0, .int .i64 0, .int .i64 0, .int .i64 0, .int .i64 0, .int .i64 0, .int .i64 0] 45 (0, 0))) (hd : Done W w1 C B v F l s o e1) :
    ∃ r, e1 = .returned (resV r) ∧ w1.heap[w.heap.size + 1]? = some (.cells #[.int .i64 0, .int .i64 0, .int .i64 0, .int .i64 0, .int .i64 0, .int .i64 0, .int .i64 0, .int .i64 0] 45 (0, 0)) ∧ ∀ w', Fr (fun b => b = w.heap.size + 1) w1 w' → Done w w' C B v F l s o (.returned (resV r)) := by
  obtain ⟨r, s', v', F', he, hs, h1, h2⟩ := hd
  have hp := h.cells
  have hTl := blk_lt h.tab.str
  have hRl := h.tab.row.lt
  have hwl := blk_lt hz
  have hz2 := hW.size
  have hown : v.ownBlock ≠ some (w.heap.size + 1) := h.txt.ne_new (by omega)
  refine ⟨r, he, h2.fr.blk hz (fun hx => by rcases hx with hx | hx | hx | hx; omega; omega; omega; exact hown hx), fun w' hf => ?_⟩
  have h3 : CW w1 C (B + 1) s' v' F' ∧ CG w w1 C v v' F F' := ⟨h1, ⟨(Fr.of_below hW).trans h2.fr, h2.own.imp id (fun ⟨g, hg, hg2⟩ => ⟨g, hg, by omega⟩), fun k hk => (h2.new k hk).imp id (fun hk => by omega)⟩⟩
  obtain ⟨g1, g2⟩ := CW.aside (g := w.heap.size + 1) h3 hf (by omega) (by omega) (by omega) (by omega) (by
    rcases h2.own with h9 | ⟨g, h9, h8⟩
    · rw [h9]; exact hown
    · rw [h9]; intro he9; have := Option.some.inj he9; omega) (fun hF => by
    rcases h2.new _ hF with h9 | h9
    · have := (h.frz _ h9).1; omega
    · omega)
  exact ⟨r, s', v', F', rfl, hs, g1, g2⟩
set_option maxRecDepth 20000 in
set_option maxHeartbeats 4000000 in
theorem do_1 {S : Nat → Prop} (h : CW w C B s v F) (hK : Ok C l s) (hr : rightB l = true) (hL : LXC w S C l) (ha : C.P.ahead ≤ 16) (hB : B ≤ 1000000) (hsz : o.data.size ≤ 40) (hk : o.k = 1) : Calls Tryz.prog 10 #[.pointer (some ⟨C.p, 0, none⟩), opV o] w fun e w' => Done w w' C B v F l s o e := by
    have HC : Hd (∀ W, Below w.heap.size w W → Calls Tryz.prog 50 #[.pointer (some ⟨C.p, 0, none⟩), .agg #[.int .i64 1, .int .i64 o.n, .string o.data]] W fun e w' => Done W w' C B v F l s o e) := ⟨fun W hW => by have hh := h.below hW; have hhL := hL.below hW; have hc := ifeed_calls hh hk hK hsz; unfold opV at hc; rw [hk] at hc; exact hc⟩
    clear hL hK hr ha hB hsz
    have hk9 := hk
    have HH := Hd.mk h
    have HK := Hd.mk hk
    have ho := h.obj
    unfold cuC at ho
    unfold opV
    have hoc0 := blk_cell ho 0 _ rfl; have hof0 := blk_frozen ho 0; have hoc1 := blk_cell ho 1 _ rfl; have hof1 := blk_frozen ho 1; have hoc2 := blk_cell ho 2 _ rfl; have hof2 := blk_frozen ho 2; have hoc3 := blk_cell ho 3 _ rfl; have hof3 := blk_frozen ho 3; have hoc4 := blk_cell ho 4 _ rfl; have hof4 := blk_frozen ho 4; have hoc5 := blk_cell ho 5 _ rfl; have hof5 := blk_frozen ho 5; have hoc6 := blk_cell ho 6 _ rfl; have hof6 := blk_frozen ho 6; have hoc7 := blk_cell ho 7 _ rfl; have hof7 := blk_frozen ho 7; have hoc8 := blk_cell ho 8 _ rfl; have hof8 := blk_frozen ho 8; have hoc9 := blk_cell ho 9 _ rfl; have hof9 := blk_frozen ho 9; have hoc10 := blk_cell ho 10 _ rfl; have hof10 := blk_frozen ho 10; have hoc11 := blk_cell ho 11 _ rfl; have hof11 := blk_frozen ho 11; have hoc12 := blk_cell ho 12 _ rfl; have hof12 := blk_frozen ho 12; have hoc13 := blk_cell ho 13 _ rfl; have hof13 := blk_frozen ho 13; have hoc14 := blk_cell ho 14 _ rfl; have hof14 := blk_frozen ho 14; have hoc15 := blk_cell ho 15 _ rfl; have hof15 := blk_frozen ho 15; have hoc16 := blk_cell ho 16 _ rfl; have hof16 := blk_frozen ho 16; have hol := blk_lt ho
    have hp := h.cells
    have HO := Hd.mk ho
    have hv0 := blk_alloc (blk_new w (.cells #[.int .i64 o.k, .int .i64 o.n, .string o.data] 41 (0, 0)) _ rfl) (.cells #[.int .i64 0, .int .i64 0, .int .i64 0, .int .i64 0, .int .i64 0, .int .i64 0, .int .i64 0, .int .i64 0] 45 (0, 0))
    have hv1 := blk_new (w.alloc (.cells #[.int .i64 o.k, .int .i64 o.n, .string o.data] 41 (0, 0))) (.cells #[.int .i64 0, .int .i64 0, .int .i64 0, .int .i64 0, .int .i64 0, .int .i64 0, .int .i64 0, .int .i64 0] 45 (0, 0)) (w.heap.size + 1) (by rw [size_alloc])
    have HV0 := Hd.mk hv0; have HV1 := Hd.mk hv1
    clear h ho hk hv0 hv1
    rw [hk9] at HV0 HV1
    rw [hk9]
    clear hk9
    go_enter Tryz.func10, Tryz.ntmps10
    go_wp2_with (first
      | (go_at_call 50; go_must (with_reducible refine Calls.mono (HC.out _ (HB1.out)) ?_; rintro e w2 hd; obtain ⟨r, rfl, hr2, hd2⟩ := Done.outer HH.out HB1.out HV1.out hd; unfold resV; have HR2 := Hd.mk hr2; have HD2 := Hd.mk hd2; clear hd hd2; have hr2c0 := blk_cell hr2 0 _ rfl; have hr2f0 := blk_frozen hr2 0; have hr2c1 := blk_cell hr2 1 _ rfl; have hr2f1 := blk_frozen hr2 1; have hr2c2 := blk_cell hr2 2 _ rfl; have hr2f2 := blk_frozen hr2 2; have hr2c3 := blk_cell hr2 3 _ rfl; have hr2f3 := blk_frozen hr2 3; have hr2c4 := blk_cell hr2 4 _ rfl; have hr2f4 := blk_frozen hr2 4; have hr2c5 := blk_cell hr2 5 _ rfl; have hr2f5 := blk_frozen hr2 5; have hr2c6 := blk_cell hr2 6 _ rfl; have hr2f6 := blk_frozen hr2 6; have hr2c7 := blk_cell hr2 7 _ rfl; have hr2f7 := blk_frozen hr2 7; have hr2l := blk_lt hr2))
      | (go_at_call 23; go_must (with_reducible refine Calls.mono (does_1 _) ?_; rintro e w1 ⟨rfl, h9⟩; subst h9; have HB1 : Hd (Below w.heap.size w ((w.alloc (.cells #[.int .i64 1, .int .i64 o.n, .string o.data] 41 (0, 0))).alloc (.cells #[.int .i64 0, .int .i64 0, .int .i64 0, .int .i64 0, .int .i64 0, .int .i64 0, .int .i64 0, .int .i64 0] 45 (0, 0)))) := ⟨(by repeat (first | (with_reducible assumption) | (with_reducible exact Below.refl _ _) | (with_reducible apply below_drewL) | (with_reducible apply below_alloc) | (with_reducible apply below_drew1) | (with_reducible apply below_drewN) | (refine below_set ?_ (by first | omega | (simp only [size_alloc, size_drew, size_set]; omega)) _ _)))⟩)))
    refine bodyPost_ret (results_cell_row rfl _ _ (w.heap.size + 1) 45 #[.int .i64 r.e, .int .i64 r.n, .int .i64 r.tok.k, .int .i64 r.tok.r, .int .i64 r.tok.f, .int .i64 r.tok.a, .int .i64 r.tok.t, .int .i64 r.tok.m] (0,0) _ rfl (blk_eight HR2.out _ _ _ _ _ _ _ _) Tryz.underlying45 rfl (by kernel_rfl)) rfl ?_
    exact HD2.out _ (fr_eight (Fr.refl (fun b => b = w.heap.size + 1) w2) (g := w.heap.size + 1) (.inl rfl) _ _ _ _ _ _ _ _)
set_option maxRecDepth 20000 in
set_option maxHeartbeats 4000000 in
theorem do_2 {S : Nat → Prop} (h : CW w C B s v F) (hK : Ok C l s) (hr : rightB l = true) (hL : LXC w S C l) (ha : C.P.ahead ≤ 16) (hB : B ≤ 1000000) (hsz : o.data.size ≤ 40) (hk : o.k = 2) : Calls Tryz.prog 10 #[.pointer (some ⟨C.p, 0, none⟩), opV o] w fun e w' => Done w w' C B v F l s o e := by
    have HC : Hd (∀ W, Below w.heap.size w W → Calls Tryz.prog 51 #[.pointer (some ⟨C.p, 0, none⟩), .agg #[.int .i64 2, .int .i64 o.n, .string o.data]] W fun e w' => Done W w' C B v F l s o e) := ⟨fun W hW => by have hh := h.below hW; have hhL := hL.below hW; have hc := ishut_calls (l := l) hh hk; unfold opV at hc; rw [hk] at hc; exact hc⟩
    clear hL hK hr ha hB hsz
    have hk9 := hk
    have HH := Hd.mk h
    have HK := Hd.mk hk
    have ho := h.obj
    unfold cuC at ho
    unfold opV
    have hoc0 := blk_cell ho 0 _ rfl; have hof0 := blk_frozen ho 0; have hoc1 := blk_cell ho 1 _ rfl; have hof1 := blk_frozen ho 1; have hoc2 := blk_cell ho 2 _ rfl; have hof2 := blk_frozen ho 2; have hoc3 := blk_cell ho 3 _ rfl; have hof3 := blk_frozen ho 3; have hoc4 := blk_cell ho 4 _ rfl; have hof4 := blk_frozen ho 4; have hoc5 := blk_cell ho 5 _ rfl; have hof5 := blk_frozen ho 5; have hoc6 := blk_cell ho 6 _ rfl; have hof6 := blk_frozen ho 6; have hoc7 := blk_cell ho 7 _ rfl; have hof7 := blk_frozen ho 7; have hoc8 := blk_cell ho 8 _ rfl; have hof8 := blk_frozen ho 8; have hoc9 := blk_cell ho 9 _ rfl; have hof9 := blk_frozen ho 9; have hoc10 := blk_cell ho 10 _ rfl; have hof10 := blk_frozen ho 10; have hoc11 := blk_cell ho 11 _ rfl; have hof11 := blk_frozen ho 11; have hoc12 := blk_cell ho 12 _ rfl; have hof12 := blk_frozen ho 12; have hoc13 := blk_cell ho 13 _ rfl; have hof13 := blk_frozen ho 13; have hoc14 := blk_cell ho 14 _ rfl; have hof14 := blk_frozen ho 14; have hoc15 := blk_cell ho 15 _ rfl; have hof15 := blk_frozen ho 15; have hoc16 := blk_cell ho 16 _ rfl; have hof16 := blk_frozen ho 16; have hol := blk_lt ho
    have hp := h.cells
    have HO := Hd.mk ho
    have hv0 := blk_alloc (blk_new w (.cells #[.int .i64 o.k, .int .i64 o.n, .string o.data] 41 (0, 0)) _ rfl) (.cells #[.int .i64 0, .int .i64 0, .int .i64 0, .int .i64 0, .int .i64 0, .int .i64 0, .int .i64 0, .int .i64 0] 45 (0, 0))
    have hv1 := blk_new (w.alloc (.cells #[.int .i64 o.k, .int .i64 o.n, .string o.data] 41 (0, 0))) (.cells #[.int .i64 0, .int .i64 0, .int .i64 0, .int .i64 0, .int .i64 0, .int .i64 0, .int .i64 0, .int .i64 0] 45 (0, 0)) (w.heap.size + 1) (by rw [size_alloc])
    have HV0 := Hd.mk hv0; have HV1 := Hd.mk hv1
    clear h ho hk hv0 hv1
    rw [hk9] at HV0 HV1
    rw [hk9]
    clear hk9
    go_enter Tryz.func10, Tryz.ntmps10
    go_wp2_with (first
      | (go_at_call 51; go_must (with_reducible refine Calls.mono (HC.out _ (HB1.out)) ?_; rintro e w2 hd; obtain ⟨r, rfl, hr2, hd2⟩ := Done.outer HH.out HB1.out HV1.out hd; unfold resV; have HR2 := Hd.mk hr2; have HD2 := Hd.mk hd2; clear hd hd2; have hr2c0 := blk_cell hr2 0 _ rfl; have hr2f0 := blk_frozen hr2 0; have hr2c1 := blk_cell hr2 1 _ rfl; have hr2f1 := blk_frozen hr2 1; have hr2c2 := blk_cell hr2 2 _ rfl; have hr2f2 := blk_frozen hr2 2; have hr2c3 := blk_cell hr2 3 _ rfl; have hr2f3 := blk_frozen hr2 3; have hr2c4 := blk_cell hr2 4 _ rfl; have hr2f4 := blk_frozen hr2 4; have hr2c5 := blk_cell hr2 5 _ rfl; have hr2f5 := blk_frozen hr2 5; have hr2c6 := blk_cell hr2 6 _ rfl; have hr2f6 := blk_frozen hr2 6; have hr2c7 := blk_cell hr2 7 _ rfl; have hr2f7 := blk_frozen hr2 7; have hr2l := blk_lt hr2))
      | (go_at_call 23; go_must (with_reducible refine Calls.mono (does_2 _) ?_; rintro e w1 ⟨rfl, h9⟩; subst h9; have HB1 : Hd (Below w.heap.size w ((w.alloc (.cells #[.int .i64 2, .int .i64 o.n, .string o.data] 41 (0, 0))).alloc (.cells #[.int .i64 0, .int .i64 0, .int .i64 0, .int .i64 0, .int .i64 0, .int .i64 0, .int .i64 0, .int .i64 0] 45 (0, 0)))) := ⟨(by repeat (first | (with_reducible assumption) | (with_reducible exact Below.refl _ _) | (with_reducible apply below_drewL) | (with_reducible apply below_alloc) | (with_reducible apply below_drew1) | (with_reducible apply below_drewN) | (refine below_set ?_ (by first | omega | (simp only [size_alloc, size_drew, size_set]; omega)) _ _)))⟩)))
    refine bodyPost_ret (results_cell_row rfl _ _ (w.heap.size + 1) 45 #[.int .i64 r.e, .int .i64 r.n, .int .i64 r.tok.k, .int .i64 r.tok.r, .int .i64 r.tok.f, .int .i64 r.tok.a, .int .i64 r.tok.t, .int .i64 r.tok.m] (0,0) _ rfl (blk_eight HR2.out _ _ _ _ _ _ _ _) Tryz.underlying45 rfl (by kernel_rfl)) rfl ?_
    exact HD2.out _ (fr_eight (Fr.refl (fun b => b = w.heap.size + 1) w2) (g := w.heap.size + 1) (.inl rfl) _ _ _ _ _ _ _ _)
set_option maxRecDepth 20000 in
set_option maxHeartbeats 4000000 in
theorem do_3 {S : Nat → Prop} (h : CW w C B s v F) (hK : Ok C l s) (hr : rightB l = true) (hL : LXC w S C l) (ha : C.P.ahead ≤ 16) (hB : B ≤ 1000000) (hsz : o.data.size ≤ 40) (hk : o.k = 3) : Calls Tryz.prog 10 #[.pointer (some ⟨C.p, 0, none⟩), opV o] w fun e w' => Done w w' C B v F l s o e := by
    have HC : Hd (∀ W, Below w.heap.size w W → Calls Tryz.prog 52 #[.pointer (some ⟨C.p, 0, none⟩), .agg #[.int .i64 3, .int .i64 o.n, .string o.data]] W fun e w' => Done W w' C B v F l s o e) := ⟨fun W hW => by have hh := h.below hW; have hhL := hL.below hW; have hc := ipeek_calls hh hk hK hr hhL ha; unfold opV at hc; rw [hk] at hc; exact hc⟩
    clear hL hK hr ha hB hsz
    have hk9 := hk
    have HH := Hd.mk h
    have HK := Hd.mk hk
    have ho := h.obj
    unfold cuC at ho
    unfold opV
    have hoc0 := blk_cell ho 0 _ rfl; have hof0 := blk_frozen ho 0; have hoc1 := blk_cell ho 1 _ rfl; have hof1 := blk_frozen ho 1; have hoc2 := blk_cell ho 2 _ rfl; have hof2 := blk_frozen ho 2; have hoc3 := blk_cell ho 3 _ rfl; have hof3 := blk_frozen ho 3; have hoc4 := blk_cell ho 4 _ rfl; have hof4 := blk_frozen ho 4; have hoc5 := blk_cell ho 5 _ rfl; have hof5 := blk_frozen ho 5; have hoc6 := blk_cell ho 6 _ rfl; have hof6 := blk_frozen ho 6; have hoc7 := blk_cell ho 7 _ rfl; have hof7 := blk_frozen ho 7; have hoc8 := blk_cell ho 8 _ rfl; have hof8 := blk_frozen ho 8; have hoc9 := blk_cell ho 9 _ rfl; have hof9 := blk_frozen ho 9; have hoc10 := blk_cell ho 10 _ rfl; have hof10 := blk_frozen ho 10; have hoc11 := blk_cell ho 11 _ rfl; have hof11 := blk_frozen ho 11; have hoc12 := blk_cell ho 12 _ rfl; have hof12 := blk_frozen ho 12; have hoc13 := blk_cell ho 13 _ rfl; have hof13 := blk_frozen ho 13; have hoc14 := blk_cell ho 14 _ rfl; have hof14 := blk_frozen ho 14; have hoc15 := blk_cell ho 15 _ rfl; have hof15 := blk_frozen ho 15; have hoc16 := blk_cell ho 16 _ rfl; have hof16 := blk_frozen ho 16; have hol := blk_lt ho
    have hp := h.cells
    have HO := Hd.mk ho
    have hv0 := blk_alloc (blk_new w (.cells #[.int .i64 o.k, .int .i64 o.n, .string o.data] 41 (0, 0)) _ rfl) (.cells #[.int .i64 0, .int .i64 0, .int .i64 0, .int .i64 0, .int .i64 0, .int .i64 0, .int .i64 0, .int .i64 0] 45 (0, 0))
    have hv1 := blk_new (w.alloc (.cells #[.int .i64 o.k, .int .i64 o.n, .string o.data] 41 (0, 0))) (.cells #[.int .i64 0, .int .i64 0, .int .i64 0, .int .i64 0, .int .i64 0, .int .i64 0, .int .i64 0, .int .i64 0] 45 (0, 0)) (w.heap.size + 1) (by rw [size_alloc])
    have HV0 := Hd.mk hv0; have HV1 := Hd.mk hv1
    clear h ho hk hv0 hv1
    rw [hk9] at HV0 HV1
    rw [hk9]
    clear hk9
    go_enter Tryz.func10, Tryz.ntmps10
    go_wp2_with (first
      | (go_at_call 52; go_must (with_reducible refine Calls.mono (HC.out _ (HB1.out)) ?_; rintro e w2 hd; obtain ⟨r, rfl, hr2, hd2⟩ := Done.outer HH.out HB1.out HV1.out hd; unfold resV; have HR2 := Hd.mk hr2; have HD2 := Hd.mk hd2; clear hd hd2; have hr2c0 := blk_cell hr2 0 _ rfl; have hr2f0 := blk_frozen hr2 0; have hr2c1 := blk_cell hr2 1 _ rfl; have hr2f1 := blk_frozen hr2 1; have hr2c2 := blk_cell hr2 2 _ rfl; have hr2f2 := blk_frozen hr2 2; have hr2c3 := blk_cell hr2 3 _ rfl; have hr2f3 := blk_frozen hr2 3; have hr2c4 := blk_cell hr2 4 _ rfl; have hr2f4 := blk_frozen hr2 4; have hr2c5 := blk_cell hr2 5 _ rfl; have hr2f5 := blk_frozen hr2 5; have hr2c6 := blk_cell hr2 6 _ rfl; have hr2f6 := blk_frozen hr2 6; have hr2c7 := blk_cell hr2 7 _ rfl; have hr2f7 := blk_frozen hr2 7; have hr2l := blk_lt hr2))
      | (go_at_call 23; go_must (with_reducible refine Calls.mono (does_3 _) ?_; rintro e w1 ⟨rfl, h9⟩; subst h9; have HB1 : Hd (Below w.heap.size w ((w.alloc (.cells #[.int .i64 3, .int .i64 o.n, .string o.data] 41 (0, 0))).alloc (.cells #[.int .i64 0, .int .i64 0, .int .i64 0, .int .i64 0, .int .i64 0, .int .i64 0, .int .i64 0, .int .i64 0] 45 (0, 0)))) := ⟨(by repeat (first | (with_reducible assumption) | (with_reducible exact Below.refl _ _) | (with_reducible apply below_drewL) | (with_reducible apply below_alloc) | (with_reducible apply below_drew1) | (with_reducible apply below_drewN) | (refine below_set ?_ (by first | omega | (simp only [size_alloc, size_drew, size_set]; omega)) _ _)))⟩)))
    refine bodyPost_ret (results_cell_row rfl _ _ (w.heap.size + 1) 45 #[.int .i64 r.e, .int .i64 r.n, .int .i64 r.tok.k, .int .i64 r.tok.r, .int .i64 r.tok.f, .int .i64 r.tok.a, .int .i64 r.tok.t, .int .i64 r.tok.m] (0,0) _ rfl (blk_eight HR2.out _ _ _ _ _ _ _ _) Tryz.underlying45 rfl (by kernel_rfl)) rfl ?_
    exact HD2.out _ (fr_eight (Fr.refl (fun b => b = w.heap.size + 1) w2) (g := w.heap.size + 1) (.inl rfl) _ _ _ _ _ _ _ _)
set_option maxRecDepth 20000 in
set_option maxHeartbeats 4000000 in
theorem do_4 {S : Nat → Prop} (h : CW w C B s v F) (hK : Ok C l s) (hr : rightB l = true) (hL : LXC w S C l) (ha : C.P.ahead ≤ 16) (hB : B ≤ 1000000) (hsz : o.data.size ≤ 40) (hk : o.k = 4) : Calls Tryz.prog 10 #[.pointer (some ⟨C.p, 0, none⟩), opV o] w fun e w' => Done w w' C B v F l s o e := by
    have HC : Hd (∀ W, Below w.heap.size w W → Calls Tryz.prog 53 #[.pointer (some ⟨C.p, 0, none⟩), .agg #[.int .i64 4, .int .i64 o.n, .string o.data]] W fun e w' => Done W w' C B v F l s o e) := ⟨fun W hW => by have hh := h.below hW; have hhL := hL.below hW; have hc := itake_calls hh hk hK hr hhL; unfold opV at hc; rw [hk] at hc; exact hc⟩
    clear hL hK hr ha hB hsz
    have hk9 := hk
    have HH := Hd.mk h
    have HK := Hd.mk hk
    have ho := h.obj
    unfold cuC at ho
    unfold opV
    have hoc0 := blk_cell ho 0 _ rfl; have hof0 := blk_frozen ho 0; have hoc1 := blk_cell ho 1 _ rfl; have hof1 := blk_frozen ho 1; have hoc2 := blk_cell ho 2 _ rfl; have hof2 := blk_frozen ho 2; have hoc3 := blk_cell ho 3 _ rfl; have hof3 := blk_frozen ho 3; have hoc4 := blk_cell ho 4 _ rfl; have hof4 := blk_frozen ho 4; have hoc5 := blk_cell ho 5 _ rfl; have hof5 := blk_frozen ho 5; have hoc6 := blk_cell ho 6 _ rfl; have hof6 := blk_frozen ho 6; have hoc7 := blk_cell ho 7 _ rfl; have hof7 := blk_frozen ho 7; have hoc8 := blk_cell ho 8 _ rfl; have hof8 := blk_frozen ho 8; have hoc9 := blk_cell ho 9 _ rfl; have hof9 := blk_frozen ho 9; have hoc10 := blk_cell ho 10 _ rfl; have hof10 := blk_frozen ho 10; have hoc11 := blk_cell ho 11 _ rfl; have hof11 := blk_frozen ho 11; have hoc12 := blk_cell ho 12 _ rfl; have hof12 := blk_frozen ho 12; have hoc13 := blk_cell ho 13 _ rfl; have hof13 := blk_frozen ho 13; have hoc14 := blk_cell ho 14 _ rfl; have hof14 := blk_frozen ho 14; have hoc15 := blk_cell ho 15 _ rfl; have hof15 := blk_frozen ho 15; have hoc16 := blk_cell ho 16 _ rfl; have hof16 := blk_frozen ho 16; have hol := blk_lt ho
    have hp := h.cells
    have HO := Hd.mk ho
    have hv0 := blk_alloc (blk_new w (.cells #[.int .i64 o.k, .int .i64 o.n, .string o.data] 41 (0, 0)) _ rfl) (.cells #[.int .i64 0, .int .i64 0, .int .i64 0, .int .i64 0, .int .i64 0, .int .i64 0, .int .i64 0, .int .i64 0] 45 (0, 0))
    have hv1 := blk_new (w.alloc (.cells #[.int .i64 o.k, .int .i64 o.n, .string o.data] 41 (0, 0))) (.cells #[.int .i64 0, .int .i64 0, .int .i64 0, .int .i64 0, .int .i64 0, .int .i64 0, .int .i64 0, .int .i64 0] 45 (0, 0)) (w.heap.size + 1) (by rw [size_alloc])
    have HV0 := Hd.mk hv0; have HV1 := Hd.mk hv1
    clear h ho hk hv0 hv1
    rw [hk9] at HV0 HV1
    rw [hk9]
    clear hk9
    go_enter Tryz.func10, Tryz.ntmps10
    go_wp2_with (first
      | (go_at_call 53; go_must (with_reducible refine Calls.mono (HC.out _ (HB1.out)) ?_; rintro e w2 hd; obtain ⟨r, rfl, hr2, hd2⟩ := Done.outer HH.out HB1.out HV1.out hd; unfold resV; have HR2 := Hd.mk hr2; have HD2 := Hd.mk hd2; clear hd hd2; have hr2c0 := blk_cell hr2 0 _ rfl; have hr2f0 := blk_frozen hr2 0; have hr2c1 := blk_cell hr2 1 _ rfl; have hr2f1 := blk_frozen hr2 1; have hr2c2 := blk_cell hr2 2 _ rfl; have hr2f2 := blk_frozen hr2 2; have hr2c3 := blk_cell hr2 3 _ rfl; have hr2f3 := blk_frozen hr2 3; have hr2c4 := blk_cell hr2 4 _ rfl; have hr2f4 := blk_frozen hr2 4; have hr2c5 := blk_cell hr2 5 _ rfl; have hr2f5 := blk_frozen hr2 5; have hr2c6 := blk_cell hr2 6 _ rfl; have hr2f6 := blk_frozen hr2 6; have hr2c7 := blk_cell hr2 7 _ rfl; have hr2f7 := blk_frozen hr2 7; have hr2l := blk_lt hr2))
      | (go_at_call 23; go_must (with_reducible refine Calls.mono (does_4 _) ?_; rintro e w1 ⟨rfl, h9⟩; subst h9; have HB1 : Hd (Below w.heap.size w ((w.alloc (.cells #[.int .i64 4, .int .i64 o.n, .string o.data] 41 (0, 0))).alloc (.cells #[.int .i64 0, .int .i64 0, .int .i64 0, .int .i64 0, .int .i64 0, .int .i64 0, .int .i64 0, .int .i64 0] 45 (0, 0)))) := ⟨(by repeat (first | (with_reducible assumption) | (with_reducible exact Below.refl _ _) | (with_reducible apply below_drewL) | (with_reducible apply below_alloc) | (with_reducible apply below_drew1) | (with_reducible apply below_drewN) | (refine below_set ?_ (by first | omega | (simp only [size_alloc, size_drew, size_set]; omega)) _ _)))⟩)))
    refine bodyPost_ret (results_cell_row rfl _ _ (w.heap.size + 1) 45 #[.int .i64 r.e, .int .i64 r.n, .int .i64 r.tok.k, .int .i64 r.tok.r, .int .i64 r.tok.f, .int .i64 r.tok.a, .int .i64 r.tok.t, .int .i64 r.tok.m] (0,0) _ rfl (blk_eight HR2.out _ _ _ _ _ _ _ _) Tryz.underlying45 rfl (by kernel_rfl)) rfl ?_
    exact HD2.out _ (fr_eight (Fr.refl (fun b => b = w.heap.size + 1) w2) (g := w.heap.size + 1) (.inl rfl) _ _ _ _ _ _ _ _)
set_option maxRecDepth 20000 in
set_option maxHeartbeats 4000000 in
theorem do_5 {S : Nat → Prop} (h : CW w C B s v F) (hK : Ok C l s) (hr : rightB l = true) (hL : LXC w S C l) (ha : C.P.ahead ≤ 16) (hB : B ≤ 1000000) (hsz : o.data.size ≤ 40) (hk : o.k = 5) : Calls Tryz.prog 10 #[.pointer (some ⟨C.p, 0, none⟩), opV o] w fun e w' => Done w w' C B v F l s o e := by
    have HC : Hd (∀ W, Below w.heap.size w W → Calls Tryz.prog 54 #[.pointer (some ⟨C.p, 0, none⟩), .agg #[.int .i64 5, .int .i64 o.n, .string o.data]] W fun e w' => Done W w' C B v F l s o e) := ⟨fun W hW => by have hh := h.below hW; have hhL := hL.below hW; have hc := iback_calls (l := l) hh hk; unfold opV at hc; rw [hk] at hc; exact hc⟩
    clear hL hK hr ha hB hsz
    have hk9 := hk
    have HH := Hd.mk h
    have HK := Hd.mk hk
    have ho := h.obj
    unfold cuC at ho
    unfold opV
    have hoc0 := blk_cell ho 0 _ rfl; have hof0 := blk_frozen ho 0; have hoc1 := blk_cell ho 1 _ rfl; have hof1 := blk_frozen ho 1; have hoc2 := blk_cell ho 2 _ rfl; have hof2 := blk_frozen ho 2; have hoc3 := blk_cell ho 3 _ rfl; have hof3 := blk_frozen ho 3; have hoc4 := blk_cell ho 4 _ rfl; have hof4 := blk_frozen ho 4; have hoc5 := blk_cell ho 5 _ rfl; have hof5 := blk_frozen ho 5; have hoc6 := blk_cell ho 6 _ rfl; have hof6 := blk_frozen ho 6; have hoc7 := blk_cell ho 7 _ rfl; have hof7 := blk_frozen ho 7; have hoc8 := blk_cell ho 8 _ rfl; have hof8 := blk_frozen ho 8; have hoc9 := blk_cell ho 9 _ rfl; have hof9 := blk_frozen ho 9; have hoc10 := blk_cell ho 10 _ rfl; have hof10 := blk_frozen ho 10; have hoc11 := blk_cell ho 11 _ rfl; have hof11 := blk_frozen ho 11; have hoc12 := blk_cell ho 12 _ rfl; have hof12 := blk_frozen ho 12; have hoc13 := blk_cell ho 13 _ rfl; have hof13 := blk_frozen ho 13; have hoc14 := blk_cell ho 14 _ rfl; have hof14 := blk_frozen ho 14; have hoc15 := blk_cell ho 15 _ rfl; have hof15 := blk_frozen ho 15; have hoc16 := blk_cell ho 16 _ rfl; have hof16 := blk_frozen ho 16; have hol := blk_lt ho
    have hp := h.cells
    have HO := Hd.mk ho
    have hv0 := blk_alloc (blk_new w (.cells #[.int .i64 o.k, .int .i64 o.n, .string o.data] 41 (0, 0)) _ rfl) (.cells #[.int .i64 0, .int .i64 0, .int .i64 0, .int .i64 0, .int .i64 0, .int .i64 0, .int .i64 0, .int .i64 0] 45 (0, 0))
    have hv1 := blk_new (w.alloc (.cells #[.int .i64 o.k, .int .i64 o.n, .string o.data] 41 (0, 0))) (.cells #[.int .i64 0, .int .i64 0, .int .i64 0, .int .i64 0, .int .i64 0, .int .i64 0, .int .i64 0, .int .i64 0] 45 (0, 0)) (w.heap.size + 1) (by rw [size_alloc])
    have HV0 := Hd.mk hv0; have HV1 := Hd.mk hv1
    clear h ho hk hv0 hv1
    rw [hk9] at HV0 HV1
    rw [hk9]
    clear hk9
    go_enter Tryz.func10, Tryz.ntmps10
    go_wp2_with (first
      | (go_at_call 54; go_must (with_reducible refine Calls.mono (HC.out _ (HB1.out)) ?_; rintro e w2 hd; obtain ⟨r, rfl, hr2, hd2⟩ := Done.outer HH.out HB1.out HV1.out hd; unfold resV; have HR2 := Hd.mk hr2; have HD2 := Hd.mk hd2; clear hd hd2; have hr2c0 := blk_cell hr2 0 _ rfl; have hr2f0 := blk_frozen hr2 0; have hr2c1 := blk_cell hr2 1 _ rfl; have hr2f1 := blk_frozen hr2 1; have hr2c2 := blk_cell hr2 2 _ rfl; have hr2f2 := blk_frozen hr2 2; have hr2c3 := blk_cell hr2 3 _ rfl; have hr2f3 := blk_frozen hr2 3; have hr2c4 := blk_cell hr2 4 _ rfl; have hr2f4 := blk_frozen hr2 4; have hr2c5 := blk_cell hr2 5 _ rfl; have hr2f5 := blk_frozen hr2 5; have hr2c6 := blk_cell hr2 6 _ rfl; have hr2f6 := blk_frozen hr2 6; have hr2c7 := blk_cell hr2 7 _ rfl; have hr2f7 := blk_frozen hr2 7; have hr2l := blk_lt hr2))
      | (go_at_call 23; go_must (with_reducible refine Calls.mono (does_5 _) ?_; rintro e w1 ⟨rfl, h9⟩; subst h9; have HB1 : Hd (Below w.heap.size w ((w.alloc (.cells #[.int .i64 5, .int .i64 o.n, .string o.data] 41 (0, 0))).alloc (.cells #[.int .i64 0, .int .i64 0, .int .i64 0, .int .i64 0, .int .i64 0, .int .i64 0, .int .i64 0, .int .i64 0] 45 (0, 0)))) := ⟨(by repeat (first | (with_reducible assumption) | (with_reducible exact Below.refl _ _) | (with_reducible apply below_drewL) | (with_reducible apply below_alloc) | (with_reducible apply below_drew1) | (with_reducible apply below_drewN) | (refine below_set ?_ (by first | omega | (simp only [size_alloc, size_drew, size_set]; omega)) _ _)))⟩)))
    refine bodyPost_ret (results_cell_row rfl _ _ (w.heap.size + 1) 45 #[.int .i64 r.e, .int .i64 r.n, .int .i64 r.tok.k, .int .i64 r.tok.r, .int .i64 r.tok.f, .int .i64 r.tok.a, .int .i64 r.tok.t, .int .i64 r.tok.m] (0,0) _ rfl (blk_eight HR2.out _ _ _ _ _ _ _ _) Tryz.underlying45 rfl (by kernel_rfl)) rfl ?_
    exact HD2.out _ (fr_eight (Fr.refl (fun b => b = w.heap.size + 1) w2) (g := w.heap.size + 1) (.inl rfl) _ _ _ _ _ _ _ _)
set_option maxRecDepth 20000 in
set_option maxHeartbeats 4000000 in
theorem do_6 {S : Nat → Prop} (h : CW w C B s v F) (hK : Ok C l s) (hr : rightB l = true) (hL : LXC w S C l) (ha : C.P.ahead ≤ 16) (hB : B ≤ 1000000) (hsz : o.data.size ≤ 40) (hk : o.k = 6) : Calls Tryz.prog 10 #[.pointer (some ⟨C.p, 0, none⟩), opV o] w fun e w' => Done w w' C B v F l s o e := by
    have HC : Hd (∀ W, Below w.heap.size w W → Calls Tryz.prog 55 #[.pointer (some ⟨C.p, 0, none⟩), .agg #[.int .i64 6, .int .i64 o.n, .string o.data]] W fun e w' => Done W w' C B v F l s o e) := ⟨fun W hW => by have hh := h.below hW; have hhL := hL.below hW; have hc := imark_calls (l := l) hh hk hB; unfold opV at hc; rw [hk] at hc; exact hc⟩
    clear hL hK hr ha hB hsz
    have hk9 := hk
    have HH := Hd.mk h
    have HK := Hd.mk hk
    have ho := h.obj
    unfold cuC at ho
    unfold opV
    have hoc0 := blk_cell ho 0 _ rfl; have hof0 := blk_frozen ho 0; have hoc1 := blk_cell ho 1 _ rfl; have hof1 := blk_frozen ho 1; have hoc2 := blk_cell ho 2 _ rfl; have hof2 := blk_frozen ho 2; have hoc3 := blk_cell ho 3 _ rfl; have hof3 := blk_frozen ho 3; have hoc4 := blk_cell ho 4 _ rfl; have hof4 := blk_frozen ho 4; have hoc5 := blk_cell ho 5 _ rfl; have hof5 := blk_frozen ho 5; have hoc6 := blk_cell ho 6 _ rfl; have hof6 := blk_frozen ho 6; have hoc7 := blk_cell ho 7 _ rfl; have hof7 := blk_frozen ho 7; have hoc8 := blk_cell ho 8 _ rfl; have hof8 := blk_frozen ho 8; have hoc9 := blk_cell ho 9 _ rfl; have hof9 := blk_frozen ho 9; have hoc10 := blk_cell ho 10 _ rfl; have hof10 := blk_frozen ho 10; have hoc11 := blk_cell ho 11 _ rfl; have hof11 := blk_frozen ho 11; have hoc12 := blk_cell ho 12 _ rfl; have hof12 := blk_frozen ho 12; have hoc13 := blk_cell ho 13 _ rfl; have hof13 := blk_frozen ho 13; have hoc14 := blk_cell ho 14 _ rfl; have hof14 := blk_frozen ho 14; have hoc15 := blk_cell ho 15 _ rfl; have hof15 := blk_frozen ho 15; have hoc16 := blk_cell ho 16 _ rfl; have hof16 := blk_frozen ho 16; have hol := blk_lt ho
    have hp := h.cells
    have HO := Hd.mk ho
    have hv0 := blk_alloc (blk_new w (.cells #[.int .i64 o.k, .int .i64 o.n, .string o.data] 41 (0, 0)) _ rfl) (.cells #[.int .i64 0, .int .i64 0, .int .i64 0, .int .i64 0, .int .i64 0, .int .i64 0, .int .i64 0, .int .i64 0] 45 (0, 0))
    have hv1 := blk_new (w.alloc (.cells #[.int .i64 o.k, .int .i64 o.n, .string o.data] 41 (0, 0))) (.cells #[.int .i64 0, .int .i64 0, .int .i64 0, .int .i64 0, .int .i64 0, .int .i64 0, .int .i64 0, .int .i64 0] 45 (0, 0)) (w.heap.size + 1) (by rw [size_alloc])
    have HV0 := Hd.mk hv0; have HV1 := Hd.mk hv1
    clear h ho hk hv0 hv1
    rw [hk9] at HV0 HV1
    rw [hk9]
    clear hk9
    go_enter Tryz.func10, Tryz.ntmps10
    go_wp2_with (first
      | (go_at_call 55; go_must (with_reducible refine Calls.mono (HC.out _ (HB1.out)) ?_; rintro e w2 hd; obtain ⟨r, rfl, hr2, hd2⟩ := Done.outer HH.out HB1.out HV1.out hd; unfold resV; have HR2 := Hd.mk hr2; have HD2 := Hd.mk hd2; clear hd hd2; have hr2c0 := blk_cell hr2 0 _ rfl; have hr2f0 := blk_frozen hr2 0; have hr2c1 := blk_cell hr2 1 _ rfl; have hr2f1 := blk_frozen hr2 1; have hr2c2 := blk_cell hr2 2 _ rfl; have hr2f2 := blk_frozen hr2 2; have hr2c3 := blk_cell hr2 3 _ rfl; have hr2f3 := blk_frozen hr2 3; have hr2c4 := blk_cell hr2 4 _ rfl; have hr2f4 := blk_frozen hr2 4; have hr2c5 := blk_cell hr2 5 _ rfl; have hr2f5 := blk_frozen hr2 5; have hr2c6 := blk_cell hr2 6 _ rfl; have hr2f6 := blk_frozen hr2 6; have hr2c7 := blk_cell hr2 7 _ rfl; have hr2f7 := blk_frozen hr2 7; have hr2l := blk_lt hr2))
      | (go_at_call 23; go_must (with_reducible refine Calls.mono (does_6 _) ?_; rintro e w1 ⟨rfl, h9⟩; subst h9; have HB1 : Hd (Below w.heap.size w ((w.alloc (.cells #[.int .i64 6, .int .i64 o.n, .string o.data] 41 (0, 0))).alloc (.cells #[.int .i64 0, .int .i64 0, .int .i64 0, .int .i64 0, .int .i64 0, .int .i64 0, .int .i64 0, .int .i64 0] 45 (0, 0)))) := ⟨(by repeat (first | (with_reducible assumption) | (with_reducible exact Below.refl _ _) | (with_reducible apply below_drewL) | (with_reducible apply below_alloc) | (with_reducible apply below_drew1) | (with_reducible apply below_drewN) | (refine below_set ?_ (by first | omega | (simp only [size_alloc, size_drew, size_set]; omega)) _ _)))⟩)))
    refine bodyPost_ret (results_cell_row rfl _ _ (w.heap.size + 1) 45 #[.int .i64 r.e, .int .i64 r.n, .int .i64 r.tok.k, .int .i64 r.tok.r, .int .i64 r.tok.f, .int .i64 r.tok.a, .int .i64 r.tok.t, .int .i64 r.tok.m] (0,0) _ rfl (blk_eight HR2.out _ _ _ _ _ _ _ _) Tryz.underlying45 rfl (by kernel_rfl)) rfl ?_
    exact HD2.out _ (fr_eight (Fr.refl (fun b => b = w.heap.size + 1) w2) (g := w.heap.size + 1) (.inl rfl) _ _ _ _ _ _ _ _)
set_option maxRecDepth 20000 in
set_option maxHeartbeats 4000000 in
theorem do_7 {S : Nat → Prop} (h : CW w C B s v F) (hK : Ok C l s) (hr : rightB l = true) (hL : LXC w S C l) (ha : C.P.ahead ≤ 16) (hB : B ≤ 1000000) (hsz : o.data.size ≤ 40) (hk : o.k = 7) : Calls Tryz.prog 10 #[.pointer (some ⟨C.p, 0, none⟩), opV o] w fun e w' => Done w w' C B v F l s o e := by
    have HC : Hd (∀ W, Below w.heap.size w W → Calls Tryz.prog 56 #[.pointer (some ⟨C.p, 0, none⟩), .agg #[.int .i64 7, .int .i64 o.n, .string o.data]] W fun e w' => Done W w' C B v F l s o e) := ⟨fun W hW => by have hh := h.below hW; have hhL := hL.below hW; have hc := irewind_calls (l := l) hh hk hB; unfold opV at hc; rw [hk] at hc; exact hc⟩
    clear hL hK hr ha hB hsz
    have hk9 := hk
    have HH := Hd.mk h
    have HK := Hd.mk hk
    have ho := h.obj
    unfold cuC at ho
    unfold opV
    have hoc0 := blk_cell ho 0 _ rfl; have hof0 := blk_frozen ho 0; have hoc1 := blk_cell ho 1 _ rfl; have hof1 := blk_frozen ho 1; have hoc2 := blk_cell ho 2 _ rfl; have hof2 := blk_frozen ho 2; have hoc3 := blk_cell ho 3 _ rfl; have hof3 := blk_frozen ho 3; have hoc4 := blk_cell ho 4 _ rfl; have hof4 := blk_frozen ho 4; have hoc5 := blk_cell ho 5 _ rfl; have hof5 := blk_frozen ho 5; have hoc6 := blk_cell ho 6 _ rfl; have hof6 := blk_frozen ho 6; have hoc7 := blk_cell ho 7 _ rfl; have hof7 := blk_frozen ho 7; have hoc8 := blk_cell ho 8 _ rfl; have hof8 := blk_frozen ho 8; have hoc9 := blk_cell ho 9 _ rfl; have hof9 := blk_frozen ho 9; have hoc10 := blk_cell ho 10 _ rfl; have hof10 := blk_frozen ho 10; have hoc11 := blk_cell ho 11 _ rfl; have hof11 := blk_frozen ho 11; have hoc12 := blk_cell ho 12 _ rfl; have hof12 := blk_frozen ho 12; have hoc13 := blk_cell ho 13 _ rfl; have hof13 := blk_frozen ho 13; have hoc14 := blk_cell ho 14 _ rfl; have hof14 := blk_frozen ho 14; have hoc15 := blk_cell ho 15 _ rfl; have hof15 := blk_frozen ho 15; have hoc16 := blk_cell ho 16 _ rfl; have hof16 := blk_frozen ho 16; have hol := blk_lt ho
    have hp := h.cells
    have HO := Hd.mk ho
    have hv0 := blk_alloc (blk_new w (.cells #[.int .i64 o.k, .int .i64 o.n, .string o.data] 41 (0, 0)) _ rfl) (.cells #[.int .i64 0, .int .i64 0, .int .i64 0, .int .i64 0, .int .i64 0, .int .i64 0, .int .i64 0, .int .i64 0] 45 (0, 0))
    have hv1 := blk_new (w.alloc (.cells #[.int .i64 o.k, .int .i64 o.n, .string o.data] 41 (0, 0))) (.cells #[.int .i64 0, .int .i64 0, .int .i64 0, .int .i64 0, .int .i64 0, .int .i64 0, .int .i64 0, .int .i64 0] 45 (0, 0)) (w.heap.size + 1) (by rw [size_alloc])
    have HV0 := Hd.mk hv0; have HV1 := Hd.mk hv1
    clear h ho hk hv0 hv1
    rw [hk9] at HV0 HV1
    rw [hk9]
    clear hk9
    go_enter Tryz.func10, Tryz.ntmps10
    go_wp2_with (first
      | (go_at_call 56; go_must (with_reducible refine Calls.mono (HC.out _ (HB1.out)) ?_; rintro e w2 hd; obtain ⟨r, rfl, hr2, hd2⟩ := Done.outer HH.out HB1.out HV1.out hd; unfold resV; have HR2 := Hd.mk hr2; have HD2 := Hd.mk hd2; clear hd hd2; have hr2c0 := blk_cell hr2 0 _ rfl; have hr2f0 := blk_frozen hr2 0; have hr2c1 := blk_cell hr2 1 _ rfl; have hr2f1 := blk_frozen hr2 1; have hr2c2 := blk_cell hr2 2 _ rfl; have hr2f2 := blk_frozen hr2 2; have hr2c3 := blk_cell hr2 3 _ rfl; have hr2f3 := blk_frozen hr2 3; have hr2c4 := blk_cell hr2 4 _ rfl; have hr2f4 := blk_frozen hr2 4; have hr2c5 := blk_cell hr2 5 _ rfl; have hr2f5 := blk_frozen hr2 5; have hr2c6 := blk_cell hr2 6 _ rfl; have hr2f6 := blk_frozen hr2 6; have hr2c7 := blk_cell hr2 7 _ rfl; have hr2f7 := blk_frozen hr2 7; have hr2l := blk_lt hr2))
      | (go_at_call 23; go_must (with_reducible refine Calls.mono (does_7 _) ?_; rintro e w1 ⟨rfl, h9⟩; subst h9; have HB1 : Hd (Below w.heap.size w ((w.alloc (.cells #[.int .i64 7, .int .i64 o.n, .string o.data] 41 (0, 0))).alloc (.cells #[.int .i64 0, .int .i64 0, .int .i64 0, .int .i64 0, .int .i64 0, .int .i64 0, .int .i64 0, .int .i64 0] 45 (0, 0)))) := ⟨(by repeat (first | (with_reducible assumption) | (with_reducible exact Below.refl _ _) | (with_reducible apply below_drewL) | (with_reducible apply below_alloc) | (with_reducible apply below_drew1) | (with_reducible apply below_drewN) | (refine below_set ?_ (by first | omega | (simp only [size_alloc, size_drew, size_set]; omega)) _ _)))⟩)))
    refine bodyPost_ret (results_cell_row rfl _ _ (w.heap.size + 1) 45 #[.int .i64 r.e, .int .i64 r.n, .int .i64 r.tok.k, .int .i64 r.tok.r, .int .i64 r.tok.f, .int .i64 r.tok.a, .int .i64 r.tok.t, .int .i64 r.tok.m] (0,0) _ rfl (blk_eight HR2.out _ _ _ _ _ _ _ _) Tryz.underlying45 rfl (by kernel_rfl)) rfl ?_
    exact HD2.out _ (fr_eight (Fr.refl (fun b => b = w.heap.size + 1) w2) (g := w.heap.size + 1) (.inl rfl) _ _ _ _ _ _ _ _)
set_option maxRecDepth 20000 in
set_option maxHeartbeats 4000000 in
theorem do_8 {S : Nat → Prop} (h : CW w C B s v F) (hK : Ok C l s) (hr : rightB l = true) (hL : LXC w S C l) (ha : C.P.ahead ≤ 16) (hB : B ≤ 1000000) (hsz : o.data.size ≤ 40) (hk : o.k = 8) : Calls Tryz.prog 10 #[.pointer (some ⟨C.p, 0, none⟩), opV o] w fun e w' => Done w w' C B v F l s o e := by
    have HC : Hd (∀ W, Below w.heap.size w W → Calls Tryz.prog 57 #[.pointer (some ⟨C.p, 0, none⟩), .agg #[.int .i64 8, .int .i64 o.n, .string o.data]] W fun e w' => Done W w' C B v F l s o e) := ⟨fun W hW => by have hh := h.below hW; have hhL := hL.below hW; have hc := irelease_calls (l := l) hh hk hB; unfold opV at hc; rw [hk] at hc; exact hc⟩
    clear hL hK hr ha hB hsz
    have hk9 := hk
    have HH := Hd.mk h
    have HK := Hd.mk hk
    have ho := h.obj
    unfold cuC at ho
    unfold opV
    have hoc0 := blk_cell ho 0 _ rfl; have hof0 := blk_frozen ho 0; have hoc1 := blk_cell ho 1 _ rfl; have hof1 := blk_frozen ho 1; have hoc2 := blk_cell ho 2 _ rfl; have hof2 := blk_frozen ho 2; have hoc3 := blk_cell ho 3 _ rfl; have hof3 := blk_frozen ho 3; have hoc4 := blk_cell ho 4 _ rfl; have hof4 := blk_frozen ho 4; have hoc5 := blk_cell ho 5 _ rfl; have hof5 := blk_frozen ho 5; have hoc6 := blk_cell ho 6 _ rfl; have hof6 := blk_frozen ho 6; have hoc7 := blk_cell ho 7 _ rfl; have hof7 := blk_frozen ho 7; have hoc8 := blk_cell ho 8 _ rfl; have hof8 := blk_frozen ho 8; have hoc9 := blk_cell ho 9 _ rfl; have hof9 := blk_frozen ho 9; have hoc10 := blk_cell ho 10 _ rfl; have hof10 := blk_frozen ho 10; have hoc11 := blk_cell ho 11 _ rfl; have hof11 := blk_frozen ho 11; have hoc12 := blk_cell ho 12 _ rfl; have hof12 := blk_frozen ho 12; have hoc13 := blk_cell ho 13 _ rfl; have hof13 := blk_frozen ho 13; have hoc14 := blk_cell ho 14 _ rfl; have hof14 := blk_frozen ho 14; have hoc15 := blk_cell ho 15 _ rfl; have hof15 := blk_frozen ho 15; have hoc16 := blk_cell ho 16 _ rfl; have hof16 := blk_frozen ho 16; have hol := blk_lt ho
    have hp := h.cells
    have HO := Hd.mk ho
    have hv0 := blk_alloc (blk_new w (.cells #[.int .i64 o.k, .int .i64 o.n, .string o.data] 41 (0, 0)) _ rfl) (.cells #[.int .i64 0, .int .i64 0, .int .i64 0, .int .i64 0, .int .i64 0, .int .i64 0, .int .i64 0, .int .i64 0] 45 (0, 0))
    have hv1 := blk_new (w.alloc (.cells #[.int .i64 o.k, .int .i64 o.n, .string o.data] 41 (0, 0))) (.cells #[.int .i64 0, .int .i64 0, .int .i64 0, .int .i64 0, .int .i64 0, .int .i64 0, .int .i64 0, .int .i64 0] 45 (0, 0)) (w.heap.size + 1) (by rw [size_alloc])
    have HV0 := Hd.mk hv0; have HV1 := Hd.mk hv1
    clear h ho hk hv0 hv1
    rw [hk9] at HV0 HV1
    rw [hk9]
    clear hk9
    go_enter Tryz.func10, Tryz.ntmps10
    go_wp2_with (first
      | (go_at_call 57; go_must (with_reducible refine Calls.mono (HC.out _ (HB1.out)) ?_; rintro e w2 hd; obtain ⟨r, rfl, hr2, hd2⟩ := Done.outer HH.out HB1.out HV1.out hd; unfold resV; have HR2 := Hd.mk hr2; have HD2 := Hd.mk hd2; clear hd hd2; have hr2c0 := blk_cell hr2 0 _ rfl; have hr2f0 := blk_frozen hr2 0; have hr2c1 := blk_cell hr2 1 _ rfl; have hr2f1 := blk_frozen hr2 1; have hr2c2 := blk_cell hr2 2 _ rfl; have hr2f2 := blk_frozen hr2 2; have hr2c3 := blk_cell hr2 3 _ rfl; have hr2f3 := blk_frozen hr2 3; have hr2c4 := blk_cell hr2 4 _ rfl; have hr2f4 := blk_frozen hr2 4; have hr2c5 := blk_cell hr2 5 _ rfl; have hr2f5 := blk_frozen hr2 5; have hr2c6 := blk_cell hr2 6 _ rfl; have hr2f6 := blk_frozen hr2 6; have hr2c7 := blk_cell hr2 7 _ rfl; have hr2f7 := blk_frozen hr2 7; have hr2l := blk_lt hr2))
      | (go_at_call 23; go_must (with_reducible refine Calls.mono (does_8 _) ?_; rintro e w1 ⟨rfl, h9⟩; subst h9; have HB1 : Hd (Below w.heap.size w ((w.alloc (.cells #[.int .i64 8, .int .i64 o.n, .string o.data] 41 (0, 0))).alloc (.cells #[.int .i64 0, .int .i64 0, .int .i64 0, .int .i64 0, .int .i64 0, .int .i64 0, .int .i64 0, .int .i64 0] 45 (0, 0)))) := ⟨(by repeat (first | (with_reducible assumption) | (with_reducible exact Below.refl _ _) | (with_reducible apply below_drewL) | (with_reducible apply below_alloc) | (with_reducible apply below_drew1) | (with_reducible apply below_drewN) | (refine below_set ?_ (by first | omega | (simp only [size_alloc, size_drew, size_set]; omega)) _ _)))⟩)))
    refine bodyPost_ret (results_cell_row rfl _ _ (w.heap.size + 1) 45 #[.int .i64 r.e, .int .i64 r.n, .int .i64 r.tok.k, .int .i64 r.tok.r, .int .i64 r.tok.f, .int .i64 r.tok.a, .int .i64 r.tok.t, .int .i64 r.tok.m] (0,0) _ rfl (blk_eight HR2.out _ _ _ _ _ _ _ _) Tryz.underlying45 rfl (by kernel_rfl)) rfl ?_
    exact HD2.out _ (fr_eight (Fr.refl (fun b => b = w.heap.size + 1) w2) (g := w.heap.size + 1) (.inl rfl) _ _ _ _ _ _ _ _)
set_option maxRecDepth 20000 in
set_option maxHeartbeats 4000000 in
theorem do_9 {S : Nat → Prop} (h : CW w C B s v F) (hK : Ok C l s) (hr : rightB l = true) (hL : LXC w S C l) (ha : C.P.ahead ≤ 16) (hB : B ≤ 1000000) (hsz : o.data.size ≤ 40) (hk : o.k = 9) : Calls Tryz.prog 10 #[.pointer (some ⟨C.p, 0, none⟩), opV o] w fun e w' => Done w w' C B v F l s o e := by
    have HC : Hd (∀ W, Below w.heap.size w W → Calls Tryz.prog 58 #[.pointer (some ⟨C.p, 0, none⟩), .agg #[.int .i64 9, .int .i64 o.n, .string o.data]] W fun e w' => Done W w' C B v F l s o e) := ⟨fun W hW => by have hh := h.below hW; have hhL := hL.below hW; have hc := imode_calls hh hk hhL; unfold opV at hc; rw [hk] at hc; exact hc⟩
    clear hL hK hr ha hB hsz
    have hk9 := hk
    have HH := Hd.mk h
    have HK := Hd.mk hk
    have ho := h.obj
    unfold cuC at ho
    unfold opV
    have hoc0 := blk_cell ho 0 _ rfl; have hof0 := blk_frozen ho 0; have hoc1 := blk_cell ho 1 _ rfl; have hof1 := blk_frozen ho 1; have hoc2 := blk_cell ho 2 _ rfl; have hof2 := blk_frozen ho 2; have hoc3 := blk_cell ho 3 _ rfl; have hof3 := blk_frozen ho 3; have hoc4 := blk_cell ho 4 _ rfl; have hof4 := blk_frozen ho 4; have hoc5 := blk_cell ho 5 _ rfl; have hof5 := blk_frozen ho 5; have hoc6 := blk_cell ho 6 _ rfl; have hof6 := blk_frozen ho 6; have hoc7 := blk_cell ho 7 _ rfl; have hof7 := blk_frozen ho 7; have hoc8 := blk_cell ho 8 _ rfl; have hof8 := blk_frozen ho 8; have hoc9 := blk_cell ho 9 _ rfl; have hof9 := blk_frozen ho 9; have hoc10 := blk_cell ho 10 _ rfl; have hof10 := blk_frozen ho 10; have hoc11 := blk_cell ho 11 _ rfl; have hof11 := blk_frozen ho 11; have hoc12 := blk_cell ho 12 _ rfl; have hof12 := blk_frozen ho 12; have hoc13 := blk_cell ho 13 _ rfl; have hof13 := blk_frozen ho 13; have hoc14 := blk_cell ho 14 _ rfl; have hof14 := blk_frozen ho 14; have hoc15 := blk_cell ho 15 _ rfl; have hof15 := blk_frozen ho 15; have hoc16 := blk_cell ho 16 _ rfl; have hof16 := blk_frozen ho 16; have hol := blk_lt ho
    have hp := h.cells
    have HO := Hd.mk ho
    have hv0 := blk_alloc (blk_new w (.cells #[.int .i64 o.k, .int .i64 o.n, .string o.data] 41 (0, 0)) _ rfl) (.cells #[.int .i64 0, .int .i64 0, .int .i64 0, .int .i64 0, .int .i64 0, .int .i64 0, .int .i64 0, .int .i64 0] 45 (0, 0))
    have hv1 := blk_new (w.alloc (.cells #[.int .i64 o.k, .int .i64 o.n, .string o.data] 41 (0, 0))) (.cells #[.int .i64 0, .int .i64 0, .int .i64 0, .int .i64 0, .int .i64 0, .int .i64 0, .int .i64 0, .int .i64 0] 45 (0, 0)) (w.heap.size + 1) (by rw [size_alloc])
    have HV0 := Hd.mk hv0; have HV1 := Hd.mk hv1
    clear h ho hk hv0 hv1
    rw [hk9] at HV0 HV1
    rw [hk9]
    clear hk9
    go_enter Tryz.func10, Tryz.ntmps10
    go_wp2_with (first
      | (go_at_call 58; go_must (with_reducible refine Calls.mono (HC.out _ (HB1.out)) ?_; rintro e w2 hd; obtain ⟨r, rfl, hr2, hd2⟩ := Done.outer HH.out HB1.out HV1.out hd; unfold resV; have HR2 := Hd.mk hr2; have HD2 := Hd.mk hd2; clear hd hd2; have hr2c0 := blk_cell hr2 0 _ rfl; have hr2f0 := blk_frozen hr2 0; have hr2c1 := blk_cell hr2 1 _ rfl; have hr2f1 := blk_frozen hr2 1; have hr2c2 := blk_cell hr2 2 _ rfl; have hr2f2 := blk_frozen hr2 2; have hr2c3 := blk_cell hr2 3 _ rfl; have hr2f3 := blk_frozen hr2 3; have hr2c4 := blk_cell hr2 4 _ rfl; have hr2f4 := blk_frozen hr2 4; have hr2c5 := blk_cell hr2 5 _ rfl; have hr2f5 := blk_frozen hr2 5; have hr2c6 := blk_cell hr2 6 _ rfl; have hr2f6 := blk_frozen hr2 6; have hr2c7 := blk_cell hr2 7 _ rfl; have hr2f7 := blk_frozen hr2 7; have hr2l := blk_lt hr2))
      | (go_at_call 23; go_must (with_reducible refine Calls.mono (does_9 _) ?_; rintro e w1 ⟨rfl, h9⟩; subst h9; have HB1 : Hd (Below w.heap.size w ((w.alloc (.cells #[.int .i64 9, .int .i64 o.n, .string o.data] 41 (0, 0))).alloc (.cells #[.int .i64 0, .int .i64 0, .int .i64 0, .int .i64 0, .int .i64 0, .int .i64 0, .int .i64 0, .int .i64 0] 45 (0, 0)))) := ⟨(by repeat (first | (with_reducible assumption) | (with_reducible exact Below.refl _ _) | (with_reducible apply below_drewL) | (with_reducible apply below_alloc) | (with_reducible apply below_drew1) | (with_reducible apply below_drewN) | (refine below_set ?_ (by first | omega | (simp only [size_alloc, size_drew, size_set]; omega)) _ _)))⟩)))
    refine bodyPost_ret (results_cell_row rfl _ _ (w.heap.size + 1) 45 #[.int .i64 r.e, .int .i64 r.n, .int .i64 r.tok.k, .int .i64 r.tok.r, .int .i64 r.tok.f, .int .i64 r.tok.a, .int .i64 r.tok.t, .int .i64 r.tok.m] (0,0) _ rfl (blk_eight HR2.out _ _ _ _ _ _ _ _) Tryz.underlying45 rfl (by kernel_rfl)) rfl ?_
    exact HD2.out _ (fr_eight (Fr.refl (fun b => b = w.heap.size + 1) w2) (g := w.heap.size + 1) (.inl rfl) _ _ _ _ _ _ _ _)
set_option maxRecDepth 20000 in
set_option maxHeartbeats 4000000 in
theorem do_none {S : Nat → Prop} (h : CW w C B s v F) (hK : Ok C l s) (hr : rightB l = true) (hL : LXC w S C l) (ha : C.P.ahead ≤ 16) (hB : B ≤ 1000000) (hsz : o.data.size ≤ 40) (hk : o.k < 1 ∨ 9 < o.k) : Calls Tryz.prog 10 #[.pointer (some ⟨C.p, 0, none⟩), opV o] w fun e w' => Done w w' C B v F l s o e := by
  have HDN := Hd.mk (fun W => does_none o.k hk W)
  clear hL hK hr ha hB hsz
  have HH := Hd.mk h
  have HK := Hd.mk hk
  have ho := h.obj
  unfold cuC at ho
  unfold opV
  have hoc0 := blk_cell ho 0 _ rfl; have hof0 := blk_frozen ho 0; have hoc1 := blk_cell ho 1 _ rfl; have hof1 := blk_frozen ho 1; have hoc2 := blk_cell ho 2 _ rfl; have hof2 := blk_frozen ho 2; have hoc3 := blk_cell ho 3 _ rfl; have hof3 := blk_frozen ho 3; have hoc4 := blk_cell ho 4 _ rfl; have hof4 := blk_frozen ho 4; have hoc5 := blk_cell ho 5 _ rfl; have hof5 := blk_frozen ho 5; have hoc6 := blk_cell ho 6 _ rfl; have hof6 := blk_frozen ho 6; have hoc7 := blk_cell ho 7 _ rfl; have hof7 := blk_frozen ho 7; have hoc8 := blk_cell ho 8 _ rfl; have hof8 := blk_frozen ho 8; have hoc9 := blk_cell ho 9 _ rfl; have hof9 := blk_frozen ho 9; have hoc10 := blk_cell ho 10 _ rfl; have hof10 := blk_frozen ho 10; have hoc11 := blk_cell ho 11 _ rfl; have hof11 := blk_frozen ho 11; have hoc12 := blk_cell ho 12 _ rfl; have hof12 := blk_frozen ho 12; have hoc13 := blk_cell ho 13 _ rfl; have hof13 := blk_frozen ho 13; have hoc14 := blk_cell ho 14 _ rfl; have hof14 := blk_frozen ho 14; have hoc15 := blk_cell ho 15 _ rfl; have hof15 := blk_frozen ho 15; have hoc16 := blk_cell ho 16 _ rfl; have hof16 := blk_frozen ho 16; have hol := blk_lt ho
  have hp := h.cells
  have HO := Hd.mk ho
  have hv0 := blk_alloc (blk_new w (.cells #[.int .i64 o.k, .int .i64 o.n, .string o.data] 41 (0, 0)) _ rfl) (.cells #[.int .i64 0, .int .i64 0, .int .i64 0, .int .i64 0, .int .i64 0, .int .i64 0, .int .i64 0, .int .i64 0] 45 (0, 0))
  have hv1 := blk_new (w.alloc (.cells #[.int .i64 o.k, .int .i64 o.n, .string o.data] 41 (0, 0))) (.cells #[.int .i64 0, .int .i64 0, .int .i64 0, .int .i64 0, .int .i64 0, .int .i64 0, .int .i64 0, .int .i64 0] 45 (0, 0)) (w.heap.size + 1) (by rw [size_alloc])
  have HV0 := Hd.mk hv0; have HV1 := Hd.mk hv1
  clear h ho hk hv0 hv1
  go_enter Tryz.func10, Tryz.ntmps10
  go_wp2_with (first
    | (go_at_call 22; go_must (with_reducible refine Calls.mono (fail_calls _ _) ?_; rintro e w2 ⟨rfl, hb2⟩; have HB2 := Hd.mk (below_seq HB1.out hb2); have HR2 := Hd.mk (blk_below HV1.out hb2); have hr2 := HR2.out; clear hb2; have hr2c0 := blk_cell hr2 0 _ rfl; have hr2f0 := blk_frozen hr2 0; have hr2c1 := blk_cell hr2 1 _ rfl; have hr2f1 := blk_frozen hr2 1; have hr2c2 := blk_cell hr2 2 _ rfl; have hr2f2 := blk_frozen hr2 2; have hr2c3 := blk_cell hr2 3 _ rfl; have hr2f3 := blk_frozen hr2 3; have hr2c4 := blk_cell hr2 4 _ rfl; have hr2f4 := blk_frozen hr2 4; have hr2c5 := blk_cell hr2 5 _ rfl; have hr2f5 := blk_frozen hr2 5; have hr2c6 := blk_cell hr2 6 _ rfl; have hr2f6 := blk_frozen hr2 6; have hr2c7 := blk_cell hr2 7 _ rfl; have hr2f7 := blk_frozen hr2 7; have hr2l := blk_lt hr2))
    | (go_at_call 23; go_must (with_reducible refine Calls.mono (HDN.out _) ?_; rintro e w1 ⟨rfl, h9⟩; subst h9; have HB1 : Hd (Below w.heap.size w ((w.alloc (.cells #[.int .i64 o.k, .int .i64 o.n, .string o.data] 41 (0, 0))).alloc (.cells #[.int .i64 0, .int .i64 0, .int .i64 0, .int .i64 0, .int .i64 0, .int .i64 0, .int .i64 0, .int .i64 0] 45 (0, 0)))) := ⟨(by repeat (first | (with_reducible assumption) | (with_reducible exact Below.refl _ _) | (with_reducible apply below_drewL) | (with_reducible apply below_alloc) | (with_reducible apply below_drew1) | (with_reducible apply below_drewN) | (refine below_set ?_ (by first | omega | (simp only [size_alloc, size_drew, size_set]; omega)) _ _)))⟩)))
  refine bodyPost_ret (results_cell_row rfl _ _ (w.heap.size + 1) 45 #[.int .i64 1, .int .i64 0, .int .i64 0, .int .i64 0, .int .i64 0, .int .i64 0, .int .i64 0, .int .i64 0] (0,0) _ rfl (blk_eight HR2.out _ _ _ _ _ _ _ _) Tryz.underlying45 rfl (by kernel_rfl)) rfl ?_
  exact Done.fail HH.out ((fr_eight (Fr.of_below (X := fun _ => False) HB2.out) (.inr (by omega)) _ _ _ _ _ _ _ _).below (Nat.le_refl _) (fun _ _ h => h)) 1 (by first | assumption | decide) rfl
theorem do_calls {S : Nat → Prop} (h : CW w C B s v F) (hK : Ok C l s) (hr : rightB l = true) (hL : LXC w S C l) (ha : C.P.ahead ≤ 16) (hB : B ≤ 1000000) (hsz : o.data.size ≤ 40) : Calls Tryz.prog 10 #[.pointer (some ⟨C.p, 0, none⟩), opV o] w fun e w' => Done w w' C B v F l s o e := by
  by_cases h0 : o.k < 1 ∨ 9 < o.k
  · exact do_none h hK hr hL ha hB hsz h0
  by_cases h1 : o.k = 1
  · exact do_1 h hK hr hL ha hB hsz h1
  by_cases h2 : o.k = 2
  · exact do_2 h hK hr hL ha hB hsz h2
  by_cases h3 : o.k = 3
  · exact do_3 h hK hr hL ha hB hsz h3
  by_cases h4 : o.k = 4
  · exact do_4 h hK hr hL ha hB hsz h4
  by_cases h5 : o.k = 5
  · exact do_5 h hK hr hL ha hB hsz h5
  by_cases h6 : o.k = 6
  · exact do_6 h hK hr hL ha hB hsz h6
  by_cases h7 : o.k = 7
  · exact do_7 h hK hr hL ha hB hsz h7
  by_cases h8 : o.k = 8
  · exact do_8 h hK hr hL ha hB hsz h8
  by_cases h9 : o.k = 9
  · exact do_9 h hK hr hL ha hB hsz h9
  exfalso; omega
end
end Go.Proofs.YtoambcpjdcehhaaGreat.Id
