/- Texts: J5a, J6. -/
import Derived.Test.YtoambcpjdcehhaaGreatJ5
import Derived.Deep.DeepCutAuto
import Derived.Deep.CutBlock
/- What is kept from round to round. -/
set_option linter.unusedVariables false
set_option linter.unusedSimpArgs false
namespace Go.Proofs.YtoambcpjdcehhaaGreat.Id
open Go Go.RowKit Go.Shelf Go.Proofs.YtoambcpjdcehhaaGreat.Can Go.Proofs.YtoambcpjdcehhaaGreat.Base Go.Proofs.YtoambcpjdcehhaaGreat.Tb
open Go.Proofs.YtoambcpjdcehhaaGreat.Fn hiding get_calls

structure Lp (w wr : World) (C : Cf) (l : Lx) (mode : Int) (k : Nat) (hv : Value) (hs : List Ev) (s : Cu) (v : Value) (F : Nat → Prop) : Prop where
  cw : CW wr C k s v F
  inv : Inv C l mode s hs
  len : hs.length = k
  wf : EvWf hs
  own : Mine evT wr (w.heap.size + 1) 47 hv hs
  np : hv.ownBlock ≠ some C.p
  nT : hv.ownBlock ≠ some C.T
  nR : hv.ownBlock ≠ some C.R
  nv : ∀ g, hv.ownBlock = some g → v.ownBlock ≠ some g
  nF : ∀ g, hv.ownBlock = some g → ¬ F g
  bel : Below w.heap.size w wr
  base : w.heap.size + 1 ≤ C.base
section
variable {w wr V w1 U w4 : World} {C : Cf} {l : Lx} {mode : Int} {k : Nat} {hv hv' v v' : Value} {hs : List Ev} {s s' : Cu} {F F' : Nat → Prop} {o : Opn} {r : Res}
theorem Lp.below (h : Lp w wr C l mode k hv hs s v F) (hb : Below wr.heap.size wr V) : Lp w V C l mode k hv hs s v F :=
  ⟨h.cw.below hb, h.inv, h.len, h.wf, h.own.below hb, h.np, h.nT, h.nR, h.nv, h.nF, below_seq h.bel hb, h.base⟩
/-- What the call touches is not the history's, nor any block that was there. -/
theorem Lp.apart (h : Lp w V C l mode k hv hs s v F) {b : Nat} (hb : b = C.p ∨ b = C.T ∨ b = C.R ∨ v.ownBlock = some b) : w.heap.size + 1 ≤ b ∧ hv.ownBlock ≠ some b := by
  have h1 := h.cw.bp; have h2 := h.cw.bT'; have h3 := h.cw.bR; have h4 := h.base
  rcases hb with rfl | rfl | rfl | hb
  · exact ⟨by omega, h.np⟩
  · exact ⟨by omega, h.nT⟩
  · exact ⟨by omega, h.nR⟩
  · exact ⟨by have := (h.cw.txt.lt hb).2; omega, fun he => h.nv b he hb⟩
theorem Lp.ownAt (h : Lp w V C l mode k hv hs s v F) (hg : CG V w1 C v v' F F') : Mine evT w1 (w.heap.size + 1) 47 hv hs :=
  Base.Own.move h.own (fun b hb => by
    have hb' : hv.ownBlock = some b := by rcases hb with hb | hb; exact hb.elim; exact hb
    exact hg.fr.same b (h.own.lt hb').1 (fun hx => (h.apart hx).2 hb')) hg.fr.size
theorem Lp.boxAt (h : Lp w V C l mode k hv hs s v F) (hg : CG V w1 C v v' F F') {ob : Obj} (hx : V.heap[w.heap.size]? = some ob) : w1.heap[w.heap.size]? = some ob :=
  hg.fr.blk hx (fun hx => by have := (h.apart hx).1; omega)
theorem Lp.belAt (h : Lp w V C l mode k hv hs s v F) (hg : CG V w1 C v v' F F') : Below w.heap.size w w1 :=
  Fr.seq h.bel hg.fr h.bel.size (fun b hb hx => by have := (h.apart hx).1; omega)
theorem Lp.next (hr : rightB l = true) (h : Lp w V C l mode k hv hs s v F) (hst : Step C l s o r s') (hcw : CW w1 C (k + 1) s' v' F') (hg : CG V w1 C v v' F F') (hU : Below w1.heap.size w1 U)
    (hM : Mine evT w4 (w.heap.size + 1) 47 hv' (hs ++ [evO o r])) (hb4 : Below (w.heap.size + 1) U w4) (hk : ∀ b, b < U.heap.size → hv.ownBlock ≠ some b → w4.heap[b]? = U.heap[b]?) (hat : hv'.ownBlock = hv.ownBlock ∨ hv'.ownBlock = some U.heap.size)
    (hd : o.data.size ≤ 40) (hw1 : (Lit.int .i64 o.n).wf = true) (hw2 : (Lit.int .i64 r.n).wf = true) : Lp w w4 C l mode (k + 1) hv' (hs ++ [evO o r]) s' v' F' := by
  have hzU := hU.size
  have hzg := hg.fr.size
  have hcU := hcw.below hU
  have hown : ∀ g, hv.ownBlock = some g → g < V.heap.size := fun g hg9 => (h.own.lt hg9).1
  have hnew : ∀ g, hv.ownBlock = some g → v'.ownBlock ≠ some g ∧ ¬ F' g := fun g hg9 => by
    have hl := hown g hg9
    refine ⟨fun he => ?_, fun hF => ?_⟩
    · rcases hg.own with h9 | ⟨q, h9, h8⟩
      · rw [h9] at he; exact h.nv g hg9 he
      · rw [h9] at he; have := Option.some.inj he; omega
    · rcases hg.new g hF with h9 | h9
      · exact h.nF g hg9 h9
      · omega
  have hpl := h.cw.cells
  have hTl := blk_lt h.cw.tab.str
  have hRl := h.cw.tab.row.lt
  have hdis : ∀ b, b < U.heap.size → (hv.ownBlock ≠ some b) → hv'.ownBlock ≠ some b := fun b hb hn => by
    rcases hat with h9 | h9
    · rw [h9]; exact hn
    · rw [h9]; intro he; have := Option.some.inj he; omega
  have hv1 : ∀ g, v'.ownBlock = some g → g < U.heap.size ∧ hv.ownBlock ≠ some g := fun g he => ⟨(hcU.txt.lt he).1, fun h9 => (hnew g h9).1 he⟩
  have hF1 : ∀ g, F' g → g < U.heap.size ∧ hv.ownBlock ≠ some g := fun g he => ⟨(hcU.frz g he).1, fun h9 => (hnew g h9).2 he⟩
  refine ⟨?_, h.inv.step hr ?_ hst hd, by rw [List.length_append, h.len]; rfl, ?_, hM, hdis _ (by omega) h.np, hdis _ (by omega) h.nT, hdis _ (by omega) h.nR, fun g he h9 => ?_, fun g he h9 => ?_, ?_, h.base⟩
  · refine hcU.move hb4.size (hk _ hcU.cells h.np) (hk _ (blk_lt hcU.tab.str) h.nT) (hk _ hcU.tab.row.lt h.nR) (Base.Own.move hcU.txt (fun b hb => ?_) hb4.size) (fun b hb => hk b (hF1 b hb).1 (hF1 b hb).2)
    have hb' : v'.ownBlock = some b := by rcases hb with hb | hb; exact hb.elim; exact hb
    exact hk b (hv1 b hb').1 (hv1 b hb').2
  · have := newD_pos C.P.trail
    show 1 ≤ newD C.P.trail; omega
  · intro x hx
    rcases List.mem_append.1 hx with hx | hx
    · exact h.wf x hx
    · obtain rfl : x = evO o r := by simpa using hx
      exact ⟨hw1, hw2⟩
  · exact hdis g (hv1 g h9).1 (hv1 g h9).2 he
  · exact hdis g (hF1 g h9).1 (hF1 g h9).2 he
  · exact (below_seq (h.belAt hg) hU).trans (hb4.mono (by omega))
end
end Go.Proofs.YtoambcpjdcehhaaGreat.Id

/- SurviveWhole's walk. -/
set_option linter.unusedVariables false
set_option linter.unusedSimpArgs false
namespace Go.Proofs.YtoambcpjdcehhaaGreat.Id
open Go Go.RowKit Go.Shelf Go.Proofs.YtoambcpjdcehhaaGreat.Can Go.Proofs.YtoambcpjdcehhaaGreat.Base Go.Proofs.YtoambcpjdcehhaaGreat.Tb
open Go.Proofs.YtoambcpjdcehhaaGreat.Fn hiding get_calls
attribute [local go_sem] clsB AB.cell clsX AX.cell

theorem ev_flat : evT.Flat := Ty.flat_flat _ _ _ _
def ev0 : Ev := ⟨0, 0, 0, 0, 0, ByteArray.empty, 0, 0, tok0⟩
theorem infoE : (Tryz.prog.info? 47).map (fun i => (i.zero, i.size, i.bytes)) = some (some (evV ev0), 14, 120) := by kernel_rfl
/-- The number that an operation answers is one that Go has. -/
theorem Step.wf {C : Cf} {l : Lx} {s s' : Cu} {o : Opn} {r : Res} {w : World} {B : Nat} {v : Value} {F : Nat → Prop} (hst : Step C l s o r s') (h : CW w C B s v F) (hB : B ≤ 1000) (hd : o.data.size ≤ 40) : (Lit.int .i64 r.n).wf = true := by
  have hz : (Lit.int .i64 0).wf = true := rfl
  have key : ∀ n : Int, 0 ≤ n → n ≤ 100000000 → (Lit.int .i64 n).wf = true := fun n h0 h1 => by
    simp only [Lit.wf, IntKind.min, IntKind.max, IntKind.signed, IntKind.bits, Bool.and_eq_true, decide_eq_true_eq]
    refine ⟨?_, ?_⟩
    · simp; omega
    · simp; omega
  cases hst with
  | fail _ _ hn => rw [hn]; exact hz
  | feed j x hk hcl hj hjs => exact key j (by omega) (by omega)
  | shut n x _ _ hn => subst hn; exact hz
  | peek n x _ hn => subst hn; exact hz
  | last n x _ _ hn => subst hn; exact hz
  | take n x y _ _ _ _ hn => subst hn; exact hz
  | back n x y tr _ _ hn => subst hn; exact hz
  | mark i q x hk hq hf =>
    have hil := (List.getElem?_eq_some_iff.1 hq).1
    have hls : s.ls.length = C.m := by rw [← h.tab.len]; unfold Cu.L; rw [List.length_map]
    have hm := h.tab.max
    have ht : q.1.times ≤ B := h.tab.tms q.1 (by unfold Cu.L; exact List.mem_map_of_mem (List.mem_of_getElem? hq))
    have h1 : s.ls.length * q.1.times ≤ 4096 * 1000 := Nat.mul_le_mul (by omega) (by omega)
    exact key (numb s.ls.length i q.1 : Nat) (by omega) (by unfold numb; omega)
  | rewind i q n x _ _ _ _ hn => subst hn; exact hz
  | release i q n x _ _ _ _ hn => subst hn; exact hz
  | mode n x y _ _ _ _ hn => subst hn; exact hz
theorem in_of {n m : Int} (h : inB n m = true) : 1 ≤ n ∧ n ≤ m := by unfold inB at h; simpa using h
/-- As it is made. -/
theorem inv0 (C : Cf) (l : Lx) (mode : Int) (hP : PlOk l mode C.P) : Inv C l mode (cu0 C mode) [] := by
  have hb := (in_of hP.par.bytes).1
  refine ⟨⟨rfl, ⟨[], rfl⟩, rfl, (fun x hx => by cases hx), ⟨Int.le_refl _, Int.le_refl _, hP.m0, hP.m1⟩, fun _ => rfl⟩, fun i q hq ht => ?_, ?_, Nat.zero_le _⟩
  · have := (List.mem_replicate.1 (List.mem_of_getElem? hq)).2
    subst this
    cases ht
  · have h0 : 0 ≤ lowC (cu0 C mode) := le_lowC.2 ⟨Int.le_refl _, fun j q hq ht => by
      have := (List.mem_replicate.1 (List.mem_of_getElem? hq)).2
      subst this
      cases ht⟩
    show (0 : Int) ≤ _
    omega
theorem Inv.ok {C : Cf} {l : Lx} {mode : Int} {s : Cu} {hs : List Ev} (h : Inv C l mode s hs) (hl : hs.length ≤ 60) (hP : ParOk C.P) : Ok C l s :=
  ⟨h.now.pin, h.room, by have := h.size; omega, (in_of hP.bytes).1, (in_of hP.bytes).2⟩
set_option maxRecDepth 100000 in
set_option maxHeartbeats 8000000 in
theorem whole_calls (A1 A2 A3 : Option Addr) (n1 n2 n3 c1 c2 c3 : Nat) (l : Lx) (mode : Int) (P : Par) (AO : Option Addr) (n cO : Nat) (ops : List Opn) (S : Nat → Prop) (w : World) (hL : LX w S A1 A2 A3 n1 n2 n3 l) (hO : Row opT w S AO n ops) (hsz : ∀ o ∈ ops, o.data.size ≤ 9223372036854775807) (hwf : ∀ o ∈ ops, (Lit.int .i64 o.n).wf = true) :
    Calls Tryz.prog 3 #[.agg #[.slice A1 n1 c1, .slice A2 n2 c2, .slice A3 n3 c3, .int .i64 mode, .int .i64 P.bytes, .int .i64 P.trail, .int .i64 P.marks, .int .i64 P.ahead, .int .i64 P.tickets, .int .i64 P.retries, .int .i64 P.step], .slice AO n cO] w fun e w' => e = .returned (.bool true) ∧ Below w.heap.size w w' := by
  have hS := hL.lt
  have hn := hO.le
  have HLI := Hd.mk (fun W (hW : Below w.heap.size w W) => light_calls A1 A2 A3 n1 n2 n3 c1 c2 c3 l mode P S W (hL.below hW))
  have HFA := Hd.mk (fun W (hW : Below w.heap.size w W) => rofar_calls AO n cO ops S W (fun k hk => Nat.lt_of_lt_of_le (hS k hk) hW.size) (hO.below hS hW) hsz)
  have HPL := Hd.mk (fun W (hW : Below w.heap.size w W) => plan_calls A1 A2 A3 n1 n2 n3 c1 c2 c3 l mode P S W (hL.below hW))
  have HNW := Hd.mk (fun W (hW : Below w.heap.size w W) (hp : PlOk l mode P) => new_cursor A1 A2 A3 n1 n2 n3 c1 c2 c3 l mode P hp S W (hL.below hW))
  unfold parV at HNW
  have HL := Hd.mk hL; have HO := Hd.mk hO; have HS := Hd.mk hS; have HWF := Hd.mk hwf; have HLN := Hd.mk hO.1
  clear hL hO hsz hwf hS
  have hv := blk_new w (.cells #[.slice A1 n1 c1, .slice A2 n2 c2, .slice A3 n3 c3, .int .i64 mode, .int .i64 P.bytes, .int .i64 P.trail, .int .i64 P.marks, .int .i64 P.ahead, .int .i64 P.tickets, .int .i64 P.retries, .int .i64 P.step] 30 (0, 0)) _ rfl
  have HV := Hd.mk hv
  have HB0 : Hd (Below w.heap.size w (w.alloc (.cells #[.slice A1 n1 c1, .slice A2 n2 c2, .slice A3 n3 c3, .int .i64 mode, .int .i64 P.bytes, .int .i64 P.trail, .int .i64 P.marks, .int .i64 P.ahead, .int .i64 P.tickets, .int .i64 P.retries, .int .i64 P.step] 30 (0, 0)))) := ⟨(by repeat (first | (with_reducible assumption) | (with_reducible exact Below.refl _ _) | (with_reducible apply below_drewL) | (with_reducible apply below_alloc) | (with_reducible apply below_drew1) | (with_reducible apply below_drewN) | (refine below_set ?_ (by first | omega | (simp only [size_alloc, size_drew, size_set]; omega)) _ _)))⟩
  clear hv
  go_enter Tryz.func3, Tryz.ntmps3
  go_wp2_with (first
    | (go_at_call 8; go_must (with_reducible refine Calls.mono (HNW.out _ HB3.out (HPK.out hk0)) ?_; rintro z9 w4 ⟨C, q1, q2, q3, q4, q5, q6, q7, q8, rfl, hc, hb4⟩; have HB4 := Hd.mk (below_seq HB3.out hb4); have HCW := Hd.mk hc; have HV4 := Hd.mk (blk_below HV3.out hb4); have HQ := Hd.mk (And.intro q1 (And.intro q2 (And.intro q3 (And.intro q4 (And.intro q5 (And.intro q6 (And.intro q7 q8))))))); clear hb4 hc q1 q2 q3 q4 q5 q6 q7 q8))
    | (go_at_call 7; go_must (with_reducible refine Calls.mono (Fn.alive_calls _) ?_; rintro z9 w9 ⟨rfl, hb9⟩; have HB9 : Hd (Below w.heap.size w w9) := (by first | exact ⟨below_seq HB3.out hb9⟩ | exact ⟨below_seq HB2.out hb9⟩ | exact ⟨below_seq HB1.out hb9⟩); clear hb9))
    | (go_at_call 6; go_must (with_reducible refine Calls.mono (HPL.out _ HB2.out) ?_; rintro z9 w3 ⟨kk, rfl, hkk, hb3⟩; have HB3 := Hd.mk (below_seq HB2.out hb3); have HV3 := Hd.mk (blk_below HV2.out hb3); have HPK := Hd.mk hkk; have hv3 := HV3.out; clear hv2c0 hv2f0 hv2c1 hv2f1 hv2c2 hv2f2 hv2c3 hv2f3 hv2c4 hv2f4 hv2c5 hv2f5 hv2c6 hv2f6 hv2c7 hv2f7 hv2c8 hv2f8 hv2c9 hv2f9 hv2c10 hv2f10 hv2l; clear hb3 hkk; have hv3c0 := blk_cell hv3 0 _ rfl; have hv3f0 := blk_frozen hv3 0; have hv3c1 := blk_cell hv3 1 _ rfl; have hv3f1 := blk_frozen hv3 1; have hv3c2 := blk_cell hv3 2 _ rfl; have hv3f2 := blk_frozen hv3 2; have hv3c3 := blk_cell hv3 3 _ rfl; have hv3f3 := blk_frozen hv3 3; have hv3c4 := blk_cell hv3 4 _ rfl; have hv3f4 := blk_frozen hv3 4; have hv3c5 := blk_cell hv3 5 _ rfl; have hv3f5 := blk_frozen hv3 5; have hv3c6 := blk_cell hv3 6 _ rfl; have hv3f6 := blk_frozen hv3 6; have hv3c7 := blk_cell hv3 7 _ rfl; have hv3f7 := blk_frozen hv3 7; have hv3c8 := blk_cell hv3 8 _ rfl; have hv3f8 := blk_frozen hv3 8; have hv3c9 := blk_cell hv3 9 _ rfl; have hv3f9 := blk_frozen hv3 9; have hv3c10 := blk_cell hv3 10 _ rfl; have hv3f10 := blk_frozen hv3 10; have hv3l := blk_lt hv3; by_cases hk0 : kk = 0))
    | (go_at_call 5; go_must (with_reducible refine Calls.mono (HFA.out _ HB1.out) ?_; rintro z9 w2 ⟨hro, hb2⟩; unfold rofE at hro; obtain ⟨b2, rfl, hb2f⟩ := hro; have HB2 := Hd.mk (below_seq HB1.out hb2); have HV2 := Hd.mk (blk_below HV1.out hb2); have HFB := Hd.mk hb2f; have hv2 := HV2.out; clear hv1c0 hv1f0 hv1c1 hv1f1 hv1c2 hv1f2 hv1c3 hv1f3 hv1c4 hv1f4 hv1c5 hv1f5 hv1c6 hv1f6 hv1c7 hv1f7 hv1c8 hv1f8 hv1c9 hv1f9 hv1c10 hv1f10 hv1l; clear hb2 hb2f; have hv2c0 := blk_cell hv2 0 _ rfl; have hv2f0 := blk_frozen hv2 0; have hv2c1 := blk_cell hv2 1 _ rfl; have hv2f1 := blk_frozen hv2 1; have hv2c2 := blk_cell hv2 2 _ rfl; have hv2f2 := blk_frozen hv2 2; have hv2c3 := blk_cell hv2 3 _ rfl; have hv2f3 := blk_frozen hv2 3; have hv2c4 := blk_cell hv2 4 _ rfl; have hv2f4 := blk_frozen hv2 4; have hv2c5 := blk_cell hv2 5 _ rfl; have hv2f5 := blk_frozen hv2 5; have hv2c6 := blk_cell hv2 6 _ rfl; have hv2f6 := blk_frozen hv2 6; have hv2c7 := blk_cell hv2 7 _ rfl; have hv2f7 := blk_frozen hv2 7; have hv2c8 := blk_cell hv2 8 _ rfl; have hv2f8 := blk_frozen hv2 8; have hv2c9 := blk_cell hv2 9 _ rfl; have hv2f9 := blk_frozen hv2 9; have hv2c10 := blk_cell hv2 10 _ rfl; have hv2f10 := blk_frozen hv2 10; have hv2l := blk_lt hv2; cases b2))
    | (go_at_call 4; go_must (with_reducible refine Calls.mono (HLI.out _ HB0.out) ?_; rintro z9 w1 ⟨b1, rfl, hb1⟩; have HB1 := Hd.mk (below_seq HB0.out hb1); have HV1 := Hd.mk (blk_below HV.out hb1); have hv1 := HV1.out; clear hb1; have hv1c0 := blk_cell hv1 0 _ rfl; have hv1f0 := blk_frozen hv1 0; have hv1c1 := blk_cell hv1 1 _ rfl; have hv1f1 := blk_frozen hv1 1; have hv1c2 := blk_cell hv1 2 _ rfl; have hv1f2 := blk_frozen hv1 2; have hv1c3 := blk_cell hv1 3 _ rfl; have hv1f3 := blk_frozen hv1 3; have hv1c4 := blk_cell hv1 4 _ rfl; have hv1f4 := blk_frozen hv1 4; have hv1c5 := blk_cell hv1 5 _ rfl; have hv1f5 := blk_frozen hv1 5; have hv1c6 := blk_cell hv1 6 _ rfl; have hv1f6 := blk_frozen hv1 6; have hv1c7 := blk_cell hv1 7 _ rfl; have hv1f7 := blk_frozen hv1 7; have hv1c8 := blk_cell hv1 8 _ rfl; have hv1f8 := blk_frozen hv1 8; have hv1c9 := blk_cell hv1 9 _ rfl; have hv1f9 := blk_frozen hv1 9; have hv1c10 := blk_cell hv1 10 _ rfl; have hv1f10 := blk_frozen hv1 10; have hv1l := blk_lt hv1; cases b1)))
  · go_ret
    exact ⟨rfl, HB9.out⟩
  · clear hv3c0 hv3f0 hv3c1 hv3f1 hv3c2 hv3f2 hv3c3 hv3f3 hv3c4 hv3f4 hv3c5 hv3f5 hv3c6 hv3f6 hv3c7 hv3f7 hv3c8 hv3f8 hv3c9 hv3f9 hv3c10 hv3f10 hv3l
    obtain ⟨rfl, rfl, rfl, rfl, rfl, rfl, rfl, hbase⟩ := HQ.out
    have HPO := Hd.mk (HPK.out hk0)
    obtain ⟨hl60, hd40⟩ := HFB.out (by trivial)
    have HD40 := Hd.mk hd40
    have hw3 := HB3.out.size
    have hw3l := blk_lt HV3.out
    have hn60 : n ≤ 60 := by rw [← HLN.out]; exact hl60
    have HAH := Hd.mk ((in_of HPO.out.par.ahead).2)
    have HLP0 : Hd (Lp w w4 C l mode 0 (.slice none 0 0) [] (cu0 C mode) (.slice none 0 0) (fun _ => False)) := ⟨⟨HCW.out, inv0 C l mode HPO.out, rfl, (fun x hx => by cases hx), Mine.nil _ _ _ _, (fun h => by cases h), (fun h => by cases h), (fun h => by cases h), (fun g h => by cases h), (fun g h => by cases h), HB4.out, by rw [hbase]; omega⟩⟩
    have HBX := Hd.mk HV4.out
    clear hbase hl60 hd40 hw3 hw3l HB3 HV3 HB2 HV2 HB1 HV1 hv1 hv2 hv3 HQ HCW HV HB0 HFB HLI HPL HNW HPK HB4 HV4
    go_loopw [7, 37] (fun hv i wr => ∃ (k : Nat) (hs : List Ev) (s : Cu) (v : Value) (F : Nat → Prop), k ≤ n ∧ i = .int .i64 k ∧ Hd (Lp w wr C l mode k hv hs s v F) ∧ Hd (wr.heap[w.heap.size]? = some (.cells #[.slice C.A1 C.n1 c1, .slice C.A2 C.n2 c2, .slice C.A3 C.n3 c3, .int .i64 mode, .int .i64 C.P.bytes, .int .i64 C.P.trail, .int .i64 C.P.marks, .int .i64 C.P.ahead, .int .i64 C.P.tickets, .int .i64 C.P.retries, .int .i64 C.P.step] 30 (0, 0)))) (fun _ i _ => n - (intOf i).toNat)
    case atStart => exact ⟨0, [], _, _, _, Nat.zero_le _, rfl, HLP0, HBX⟩
    case round =>
      clear HLP0 HBX
      obtain ⟨k, hs, s, v, F, hk, rfl, HP, HBX⟩ := hrel
      by_cases hlt : k < n
      · obtain ⟨bo, off, o, rfl, hbo, hx, x0, x1, x2⟩ := op_get (HO.out.below HS.out HP.out.bel) k hlt
        have hmem := List.mem_of_getElem? hx
        have HD1 := Hd.mk (HD40.out o hmem)
        have HD2 := Hd.mk (HWF.out o hmem)
        have hk1000 : k ≤ 1000 := by omega
        clear hx hmem
        go_upto_region 10 with (fail)
        generalize hV : World.alloc _ _ = V
        have HBV : Below wr.heap.size wr V := below_of hV (by repeat (first | (with_reducible assumption) | (with_reducible exact Below.refl _ _) | (with_reducible apply below_drewL) | (with_reducible apply below_alloc) | (with_reducible apply below_drew1) | (with_reducible apply below_drewN) | (refine below_set ?_ (by first | omega | (simp only [size_alloc, size_drew, size_set]; omega)) _ _)))
        have zV : Hd (V.heap.size = wr.heap.size + 1) := ⟨by rw [← hV]; simp only [size_alloc]⟩
        have V0 := at_of hV (blk_new _ _ _ rfl)
        have V0l := blk_lt V0
        clear hV
        have HPV := Hd.mk (HP.out.below HBV)
        have HBXV := Hd.mk (blk_below HBX.out HBV)
        have HOK := Hd.mk (HP.out.inv.ok (by rw [HP.out.len]; omega) HPO.out.par)
        have HDO := Hd.mk (do_calls (o := o) (HPV.out.below (below_drew1 (Below.refl _ V))).cw HOK.out HPO.out.lex (HL.out.below (HPV.out.below (below_drew1 (Below.refl _ V))).bel) HAH.out (by omega) HD1.out)
        unfold opV at HDO
        obtain ⟨X, hX⟩ : ∃ X : Nat → Prop, (fun b => b = C.p ∨ b = C.T ∨ b = C.R ∨ v.ownBlock = some b) = X := ⟨_, rfl⟩
        have hnx : ¬ X wr.heap.size := by
          rw [← hX]
          have q1 := HP.out.cw.cells; have q2 := blk_lt HP.out.cw.tab.str; have q3 := HP.out.cw.tab.row.lt
          rintro (h | h | h | h)
          · omega
          · omega
          · omega
          · have := (HP.out.cw.txt.lt h).1; omega
        have HXX := Hd.mk hX
        clear hX
        have V0c0 := blk_cell V0 0 _ rfl
        have V0f0 := blk_frozen V0 0
        have V0c1 := blk_cell V0 1 _ rfl
        have V0f1 := blk_frozen V0 1
        have V0c2 := blk_cell V0 2 _ rfl
        have V0f2 := blk_frozen V0 2
        clear V0 x0 x1 x2 zV HBV
        refine wp_region_can (.q [0, 1, 2, 3] (.e 4 true (.e 5 false (.e 6 false (.e 7 false (.q [8] (.done))))))) (clsX X _) (by kernel_rfl) (by kernel_rfl) (by intro _ _ d _ _ h; cases d <;> exact h) (clsX_drew _ _) ?_
        refine can_q (l := [⟨_,_,_,_,_,_⟩, ⟨_,_,_,_,_,_⟩, ⟨_,_,_,_,_,_⟩, ⟨_,_,_,_,_,_⟩]) rfl ?_
        repeat (go_big_quiet_step (fail))
        refine wpQuiet_nil ?_
        refine can_e (o := ⟨_,_,_,_,_,_⟩) rfl (fun K hK => ?_)
        go_wp2_with (go_at_call 10; go_must (with_reducible refine Calls.mono HDO.out ?_; rintro z9 w5 hd; unfold Done at hd; obtain ⟨r, s', v', F', rfl, hst, hcw, hcg⟩ := hd; unfold resV))
        have hfx := hcg.fr
        rw [HXX.out] at hfx
        refine onK_normal (hK _ _ ⟨clsX X _, clsX_self _ _, fun _ => clsX_next hfx.size hfx.same, ?_⟩)
        clear hK K
        have HPD := Hd.mk (HPV.out.below (below_drew1 (Below.refl _ V)))
        have HBX5 := Hd.mk (HPD.out.boxAt hcg (ob := .cells #[.slice C.A1 C.n1 c1, .slice C.A2 C.n2 c2, .slice C.A3 C.n3 c3, .int .i64 mode, .int .i64 C.P.bytes, .int .i64 C.P.trail, .int .i64 C.P.marks, .int .i64 C.P.ahead, .int .i64 C.P.tickets, .int .i64 C.P.retries, .int .i64 C.P.step] 30 (0, 0)) HBXV.out)
        have HM5 := Hd.mk (HPD.out.ownAt hcg)
        have HST := Hd.mk hst; have HC5 := Hd.mk hcw; have HG5 := Hd.mk hcg
        have HZ5 := Hd.mk (HPD.out.belAt hcg).size
        have HWR := Hd.mk (Step.wf hst HPD.out.cw hk1000 HD1.out)
        clear V0c0 V0f0 V0c1 V0f1 V0c2 V0f2 V0l hst hcw hcg hfx hnx HDO
        refine can_e (o := ⟨_,_,_,_,_,_⟩) rfl (fun K hK => ?_)
        go_wp2_with (go_at_call 9; go_must (with_reducible refine Calls.mono (Fn.counts_calls o.k o.n r.e r.n r.tok.k r.tok.r r.tok.f r.tok.a r.tok.t r.tok.m o.data _) ?_; rintro z9 w6 ⟨rfl, hb6⟩))
        have HB6 := Hd.mk hb6
        have HZ6 := Hd.mk hb6.size
        clear hb6
        refine onK_normal (hK _ _ ⟨fun _ => True, trivial, (fun h => by cases h), ?_⟩)
        clear hK K
        refine can_e (o := ⟨_,_,_,_,_,_⟩) rfl (fun K hK => ?_)
        go_wp2_with fail
        refine onK_normal (hK _ _ ⟨fun _ => True, trivial, (fun h => by cases h), ?_⟩)
        clear hK K
        have HU := Hd.mk (below_alloc HB6.out (.cells #[.int .i64 2, .int .i64 0, .int .i64 0, .int .i64 o.k, .int .i64 o.n, .string o.data, .int .i64 r.e, .int .i64 r.n, .int .i64 r.tok.k, .int .i64 r.tok.r, .int .i64 r.tok.f, .int .i64 r.tok.a, .int .i64 r.tok.t, .int .i64 r.tok.m] 47 (0, 0)))
        have HUZ : Hd ((w6.alloc (.cells #[.int .i64 2, .int .i64 0, .int .i64 0, .int .i64 o.k, .int .i64 o.n, .string o.data, .int .i64 r.e, .int .i64 r.n, .int .i64 r.tok.k, .int .i64 r.tok.r, .int .i64 r.tok.f, .int .i64 r.tok.a, .int .i64 r.tok.t, .int .i64 r.tok.m] 47 (0, 0))).heap.size = w6.heap.size + 1) := ⟨size_alloc _ _⟩
        refine can_e (o := ⟨_,_,_,_,_,_⟩) rfl (fun K hK => ?_)
        go_wp2_with (at_builtin; go_must (refine append_snoc evT ev_flat rfl (.tmp 41) (.tmp 47) 39 47 _ 120 rfl Tryz.underlying39 infoE rfl (by decide) (by decide) (w.heap.size + 1) u7 hs (evO o r) (evE (evO o r)) w6.heap.size rfl rfl (blk_new _ _ _ rfl) rfl (HM5.out.below HU.out) (HM5.out.ne_new (by have := HZ6.out; omega)) (by have h8 := HUZ.out; have h9 := HZ6.out; have h7 := HZ5.out; omega) (by have := HP.out.len; omega) ?_; intro hv2 w7 hM7 hb7 hk7 hat7))
        refine onK_normal (hK _ _ ⟨fun _ => True, trivial, (fun h => by cases h), ?_⟩)
        clear hK K
        refine can_q (l := [⟨_,_,_,_,_,_⟩]) rfl ?_
        repeat (go_big_quiet_step (fail))
        refine wpQuiet_nil ?_
        refine can_done ?_
        have HP7 := Hd.mk (Lp.next HPO.out.lex HPD.out HST.out HC5.out HG5.out HU.out hM7 hb7 hk7 hat7 HD1.out HD2.out HWR.out)
        have HBX7 : Hd (w7.heap[w.heap.size]? = some (.cells #[.slice C.A1 C.n1 c1, .slice C.A2 C.n2 c2, .slice C.A3 C.n3 c3, .int .i64 mode, .int .i64 C.P.bytes, .int .i64 C.P.trail, .int .i64 C.P.marks, .int .i64 C.P.ahead, .int .i64 C.P.tickets, .int .i64 C.P.retries, .int .i64 C.P.step] 30 (0, 0))) := ⟨(hk7 w.heap.size (by have h8 := HUZ.out; have h9 := HZ6.out; have h7 := HZ5.out; omega) (HM5.out.ne_old (Nat.lt_succ_self _))).trans (blk_below HBX5.out HU.out)⟩
        obtain ⟨Ah, nh, ch, rfl, hnh, -, -, hrow⟩ := HP7.out.own.formN
        have hk60 : (hs ++ [evO o r]).length ≤ 60 := by rw [HP7.out.len]; omega
        rw [hnh] at hrow
        have HFC := fine_calls c1 c2 c3 (cE := ch) HP7.out.cw (HP7.out.inv.ok hk60 HPO.out.par) HPO.out.lex (HL.out.below HP7.out.bel) HPO.out.m0 HPO.out.m1 (fun b hb => hb.2) hrow HP7.out.wf (by omega) HP7.out.inv.now
        rw [← hnh] at HFC
        have HFC := Hd.mk HFC
        have hbx7 := HBX7.out
        clear hM7 hb7 hk7 hat7 hrow hnh hk60 HU HUZ HM5 HG5 HC5 HST HBX5 HWR
        have hbx7c0 := blk_cell hbx7 0 _ rfl; have hbx7f0 := blk_frozen hbx7 0; have hbx7c1 := blk_cell hbx7 1 _ rfl; have hbx7f1 := blk_frozen hbx7 1; have hbx7c2 := blk_cell hbx7 2 _ rfl; have hbx7f2 := blk_frozen hbx7 2; have hbx7c3 := blk_cell hbx7 3 _ rfl; have hbx7f3 := blk_frozen hbx7 3; have hbx7c4 := blk_cell hbx7 4 _ rfl; have hbx7f4 := blk_frozen hbx7 4; have hbx7c5 := blk_cell hbx7 5 _ rfl; have hbx7f5 := blk_frozen hbx7 5; have hbx7c6 := blk_cell hbx7 6 _ rfl; have hbx7f6 := blk_frozen hbx7 6; have hbx7c7 := blk_cell hbx7 7 _ rfl; have hbx7f7 := blk_frozen hbx7 7; have hbx7c8 := blk_cell hbx7 8 _ rfl; have hbx7f8 := blk_frozen hbx7 8; have hbx7c9 := blk_cell hbx7 9 _ rfl; have hbx7f9 := blk_frozen hbx7 9; have hbx7c10 := blk_cell hbx7 10 _ rfl; have hbx7f10 := blk_frozen hbx7 10; have hbx7l := blk_lt hbx7
        clear hbx7
        go_wp2_with (go_at_call 11; go_must (with_reducible refine Calls.mono HFC.out ?_; rintro z9 w8 ⟨rfl, hb8⟩))
        go_roundw
        case rel => exact ⟨k + 1, hs ++ [evO o r], s', v', F', by omega, by go_num, ⟨HP7.out.below hb8⟩, ⟨blk_below HBX7.out hb8⟩⟩
        case measure => simp [intOf]; omega
      · go_wp2_with (go_at_call 7; go_must (with_reducible refine Calls.mono (Fn.alive_calls _) ?_; rintro z9 w9 ⟨rfl, hb9⟩))
        go_ret
        exact ⟨rfl, below_seq HP.out.bel hb9⟩
  · go_ret
    exact ⟨rfl, HB9.out⟩
  · go_ret
    exact ⟨rfl, HB9.out⟩
end Go.Proofs.YtoambcpjdcehhaaGreat.Id
