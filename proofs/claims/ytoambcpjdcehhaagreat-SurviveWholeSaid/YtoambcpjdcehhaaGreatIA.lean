/- Texts: I1, I2, I3, I4, I5. -/
import Derived.Test.YtoambcpjdcehhaaGreatKB
import Derived.Test.YtoambcpjdcehhaaGreatMA
import Derived.Test.YtoambcpjdcehhaaGreatNA
/- An ideal cursor in memory; what its small functions compute. -/
set_option linter.unusedVariables false
set_option linter.unusedSimpArgs false
namespace Go.Proofs.YtoambcpjdcehhaaGreat.Id
open Go Go.RowKit Go.Shelf Go.Proofs.YtoambcpjdcehhaaGreat.Can Go.Proofs.YtoambcpjdcehhaaGreat.Base Go.Proofs.YtoambcpjdcehhaaGreat.Tb
open Go.Proofs.YtoambcpjdcehhaaGreat.Fn hiding get_calls
attribute [local go_sem] clsB AB.cell

/-- Parameters. -/
structure Par where
  bytes : Int
  trail : Int
  marks : Int
  ahead : Int
  tickets : Int
  retries : Int
  step : Int
def parV (p : Par) : Value := .agg #[.int .i64 p.bytes, .int .i64 p.trail, .int .i64 p.marks, .int .i64 p.ahead, .int .i64 p.tickets, .int .i64 p.retries, .int .i64 p.step]
/-- Where a cursor lies, and what of it does not change. -/
structure Cf where
  A1 : Option Addr
  A2 : Option Addr
  A3 : Option Addr
  n1 : Nat
  n2 : Nat
  n3 : Nat
  c1 : Nat
  c2 : Nat
  c3 : Nat
  P : Par
  p : Nat
  T : Nat
  R : Nat
  m : Nat
  base : Nat
/-- A cursor: its text, whether it is closed, where it stands (as it lies in memory), its trail, and its slots, each with its trail. -/
structure Cu where
  text : List UInt8
  cl : Bool
  now : Sv
  tr : List Spot
  ls : List (Slot × List Spot)
def Cu.L (s : Cu) : List Slot := s.ls.map (·.1)
/-- The cursor's cells. -/
def cuC (C : Cf) (s : Cu) (v : Value) : Array Value := #[.slice C.A1 C.n1 C.c1, .slice C.A2 C.n2 C.c2, .slice C.A3 C.n3 C.c3, .int .i64 C.P.bytes, .int .i64 C.P.trail, .int .i64 C.P.marks, .int .i64 C.P.ahead, .int .i64 C.P.tickets, .int .i64 C.P.retries, .int .i64 C.P.step, v, .bool s.cl,
  .int .i64 s.now.at_.at_, .int .i64 s.now.at_.mode, .int .i64 s.now.d, .slice s.now.A s.now.n s.now.c, .pointer (some ⟨C.T, 0, none⟩)]
/-- A place with its trail, in the blocks F. -/
structure SvOk (w : World) (F : Nat → Prop) (d : Int) (x : Sv) (tr : List Spot) : Prop where
  row : Row spotT w F x.A x.n tr
  cap : x.n ≤ x.c
  nil : x.A = none → x.c = 0
  dep : x.d = d
  len : (tr.length : Int) ≤ d
def depthOf (C : Cf) : Int := newD C.P.trail
structure CW (w : World) (C : Cf) (B : Nat) (s : Cu) (v : Value) (F : Nat → Prop) : Prop where
  obj : w.heap[C.p]? = some (.cells (cuC C s v) 74 (0, 0))
  txt : Mine bT w C.base 5 v s.text
  tab : Tab w C.T C.R C.m C.m B s.L
  now : SvOk w F (depthOf C) s.now s.tr
  slots : ∀ x ∈ s.ls, x.1.taken = true → SvOk w F (depthOf C) x.1.v x.2
  frz : ∀ k, F k → k < w.heap.size ∧ C.base ≤ k ∧ k ≠ C.p ∧ k ≠ C.T ∧ k ≠ C.R ∧ v.ownBlock ≠ some k
  np : v.ownBlock ≠ some C.p
  nT : v.ownBlock ≠ some C.T
  nR : v.ownBlock ≠ some C.R
  pT : C.p ≠ C.T
  pR : C.p ≠ C.R
  bp : C.base ≤ C.p
  bT' : C.base ≤ C.T
  bR : C.base ≤ C.R
theorem SvOk.move {w w' : World} {F : Nat → Prop} {d : Int} {x : Sv} {tr : List Spot} (h : SvOk w F d x tr) (hm : ∀ b, F b → w'.heap[b]? = w.heap[b]?) : SvOk w' F d x tr := ⟨h.row.move hm, h.cap, h.nil, h.dep, h.len⟩
theorem SvOk.mono {w : World} {F F' : Nat → Prop} {d : Int} {x : Sv} {tr : List Spot} (h : SvOk w F d x tr) (hm : ∀ b, F b → F' b) : SvOk w F' d x tr := ⟨h.row.mono hm, h.cap, h.nil, h.dep, h.len⟩
/-- All that is told of the cursor's blocks, in a world that has these as they were. -/
theorem CW.move {w w' : World} {C : Cf} {B : Nat} {s : Cu} {v : Value} {F : Nat → Prop} (h : CW w C B s v F) (hz : w.heap.size ≤ w'.heap.size) (hp : w'.heap[C.p]? = w.heap[C.p]?) (hT : w'.heap[C.T]? = w.heap[C.T]?) (hR : w'.heap[C.R]? = w.heap[C.R]?) (hv : Mine bT w' C.base 5 v s.text)
    (hF : ∀ b, F b → w'.heap[b]? = w.heap[b]?) : CW w' C B s v F :=
  ⟨hp.trans h.obj, hv, h.tab.move hT hR, h.now.move hF, fun x hx ht => (h.slots x hx ht).move hF, fun k hk => ⟨Nat.lt_of_lt_of_le (h.frz k hk).1 hz, (h.frz k hk).2⟩, h.np, h.nT, h.nR, h.pT, h.pR, h.bp, h.bT', h.bR⟩
theorem CW.below {w w' : World} {C : Cf} {B : Nat} {s : Cu} {v : Value} {F : Nat → Prop} (h : CW w C B s v F) (hb : Below w.heap.size w w') : CW w' C B s v F :=
  h.move hb.size (hb.block _ (blk_lt h.obj)) (hb.block _ (blk_lt h.tab.str)) (hb.block _ h.tab.row.lt) (h.txt.below hb) (fun b hF => hb.block b (h.frz b hF).1)
theorem CW.more {w : World} {C : Cf} {B B' : Nat} {s : Cu} {v : Value} {F : Nat → Prop} (h : CW w C B s v F) (hB : B ≤ B') : CW w C B' s v F :=
  ⟨h.obj, h.txt, h.tab.more hB, h.now, h.slots, h.frz, h.np, h.nT, h.nR, h.pT, h.pR, h.bp, h.bT', h.bR⟩
/-- The cells of the cursor. -/
theorem CW.cells {w : World} {C : Cf} {B : Nat} {s : Cu} {v : Value} {F : Nat → Prop} (h : CW w C B s v F) : C.p < w.heap.size := blk_lt h.obj
def lowS (s : Cu) : Int := lowL s.now.at_.at_ s.tr
def lowC (s : Cu) : Int := lowUpto s.L (lowS s) s.L.length
def roomC (C : Cf) (s : Cu) : Int := lowC s + C.P.bytes - s.text.length
theorem lowL_le (or : Int) (l : List Spot) : lowL or l ≤ or := by
  induction l generalizing or with
  | nil => exact Int.le_refl _
  | cons a l ih =>
    unfold lowL
    split
    · exact Int.le_trans (ih _) (Int.le_of_lt (by assumption))
    · exact ih _
theorem lowUpto_le (L : List Slot) (or : Int) : ∀ k, lowUpto L or k ≤ or
  | 0 => Int.le_refl _
  | k + 1 => by
    have := lowUpto_le L or k
    unfold lowUpto
    cases L[k]? with
    | none => exact this
    | some s =>
      simp only
      split
      · split <;> omega
      · exact this
theorem low_calls' (x : Sv) (tr : List Spot) (F : Nat → Prop) (w : World) (d : Int) (hx : SvOk w F d x tr) (hF : ∀ k, F k → k < w.heap.size) :
    Calls Tryz.prog 82 #[svV x] w fun e w' => e = .returned (.int .i64 (lowL x.at_.at_ tr)) ∧ Below w.heap.size w w' := by
  obtain ⟨a, xd, A, n, c⟩ := x
  obtain ⟨hr, -, -, -⟩ := hx
  simp only [] at hr
  have hn := hr.1
  subst hn
  have HR := Hd.mk hr
  have HF := Hd.mk hF
  clear hr hF
  unfold svV
  have hv := blk_new w (.cells #[.int .i64 a.at_, .int .i64 a.mode, .int .i64 xd, .slice A tr.length c] 69 (0, 0)) _ rfl
  have HV := Hd.mk hv
  clear hv
  go_enter Tryz.func82, Tryz.ntmps82
  go_wp2_with (go_at_call 106; go_must (refine Calls.mono (Fn.low_calls xd A c tr a.at_ F _ (fun k hk => by have := HF.out k hk; simp only [size_alloc]; omega) (HR.out.below HF.out (by repeat (first | (with_reducible assumption) | (with_reducible exact Below.refl _ _) | (with_reducible apply below_drewL) | (with_reducible apply below_alloc) | (with_reducible apply below_drew1) | (with_reducible apply below_drewN) | (refine below_set ?_ (by first | omega | (simp only [size_alloc, size_drew, size_set]; omega)) _ _))))) ?_; rintro e w1 ⟨rfl, hb1⟩))
  go_ret
  exact ⟨rfl, below_seq (a := w) (by repeat (first | (with_reducible assumption) | (with_reducible exact Below.refl _ _) | (with_reducible apply below_drewL) | (with_reducible apply below_alloc) | (with_reducible apply below_drew1) | (with_reducible apply below_drewN) | (refine below_set ?_ (by first | omega | (simp only [size_alloc, size_drew, size_set]; omega)) _ _))) hb1⟩
section
variable {w : World} {C : Cf} {B : Nat} {s : Cu} {v : Value} {F : Nat → Prop}
theorem ispot_calls (h : CW w C B s v F) : Calls Tryz.prog 24 #[.pointer (some ⟨C.p, 0, none⟩)] w fun e w' => e = .returned (spotV s.now.at_) ∧ Below w.heap.size w w' := by
  have ho := h.obj
  unfold cuC at ho
  have hoc0 := blk_cell ho 0 _ rfl; have hof0 := blk_frozen ho 0; have hoc1 := blk_cell ho 1 _ rfl; have hof1 := blk_frozen ho 1; have hoc2 := blk_cell ho 2 _ rfl; have hof2 := blk_frozen ho 2; have hoc3 := blk_cell ho 3 _ rfl; have hof3 := blk_frozen ho 3; have hoc4 := blk_cell ho 4 _ rfl; have hof4 := blk_frozen ho 4; have hoc5 := blk_cell ho 5 _ rfl; have hof5 := blk_frozen ho 5; have hoc6 := blk_cell ho 6 _ rfl; have hof6 := blk_frozen ho 6; have hoc7 := blk_cell ho 7 _ rfl; have hof7 := blk_frozen ho 7; have hoc8 := blk_cell ho 8 _ rfl; have hof8 := blk_frozen ho 8; have hoc9 := blk_cell ho 9 _ rfl; have hof9 := blk_frozen ho 9; have hoc10 := blk_cell ho 10 _ rfl; have hof10 := blk_frozen ho 10; have hoc11 := blk_cell ho 11 _ rfl; have hof11 := blk_frozen ho 11; have hoc12 := blk_cell ho 12 _ rfl; have hof12 := blk_frozen ho 12; have hoc13 := blk_cell ho 13 _ rfl; have hof13 := blk_frozen ho 13; have hoc14 := blk_cell ho 14 _ rfl; have hof14 := blk_frozen ho 14; have hoc15 := blk_cell ho 15 _ rfl; have hof15 := blk_frozen ho 15; have hoc16 := blk_cell ho 16 _ rfl; have hof16 := blk_frozen ho 16; have hol := blk_lt ho
  clear h
  unfold spotV
  go_enter Tryz.func24, Tryz.ntmps24
  go_wp2
  refine bodyPost_ret (results_cell_row rfl _ _ w.heap.size 57 #[.int .i64 s.now.at_.at_, .int .i64 s.now.at_.mode] (0,0) _ rfl (blk_new _ _ _ rfl) Tryz.underlying57 rfl (by kernel_rfl)) rfl ?_
  exact ⟨rfl, (by repeat (first | (with_reducible assumption) | (with_reducible exact Below.refl _ _) | (with_reducible apply below_drewL) | (with_reducible apply below_alloc) | (with_reducible apply below_drew1) | (with_reducible apply below_drewN) | (refine below_set ?_ (by first | omega | (simp only [size_alloc, size_drew, size_set]; omega)) _ _)))⟩
theorem itext_calls (h : CW w C B s v F) (hl : s.text.length ≤ 140737488355328) : Calls Tryz.prog 25 #[.pointer (some ⟨C.p, 0, none⟩)] w fun e w' => e = .returned (.string ⟨s.text.toArray⟩) ∧ w' = w := by
  have ho := h.obj
  unfold cuC at ho
  have hoc0 := blk_cell ho 0 _ rfl; have hof0 := blk_frozen ho 0; have hoc1 := blk_cell ho 1 _ rfl; have hof1 := blk_frozen ho 1; have hoc2 := blk_cell ho 2 _ rfl; have hof2 := blk_frozen ho 2; have hoc3 := blk_cell ho 3 _ rfl; have hof3 := blk_frozen ho 3; have hoc4 := blk_cell ho 4 _ rfl; have hof4 := blk_frozen ho 4; have hoc5 := blk_cell ho 5 _ rfl; have hof5 := blk_frozen ho 5; have hoc6 := blk_cell ho 6 _ rfl; have hof6 := blk_frozen ho 6; have hoc7 := blk_cell ho 7 _ rfl; have hof7 := blk_frozen ho 7; have hoc8 := blk_cell ho 8 _ rfl; have hof8 := blk_frozen ho 8; have hoc9 := blk_cell ho 9 _ rfl; have hof9 := blk_frozen ho 9; have hoc10 := blk_cell ho 10 _ rfl; have hof10 := blk_frozen ho 10; have hoc11 := blk_cell ho 11 _ rfl; have hof11 := blk_frozen ho 11; have hoc12 := blk_cell ho 12 _ rfl; have hof12 := blk_frozen ho 12; have hoc13 := blk_cell ho 13 _ rfl; have hof13 := blk_frozen ho 13; have hoc14 := blk_cell ho 14 _ rfl; have hof14 := blk_frozen ho 14; have hoc15 := blk_cell ho 15 _ rfl; have hof15 := blk_frozen ho 15; have hoc16 := blk_cell ho 16 _ rfl; have hof16 := blk_frozen ho 16; have hol := blk_lt ho
  obtain ⟨A, n, c, rfl, -, -, -, hr⟩ := h.txt.formN
  clear h ho
  have hconv := conv_back (P := Tryz.prog) 72 9 5 Tryz.underlying72 Tryz.underlying5 Tryz.underlying9 hr (c := c) hl
  clear hr
  go_enter Tryz.func25, Tryz.ntmps25
  go_wp2
  go_ret
  exact ⟨rfl, rfl⟩
theorem iclosed_calls (h : CW w C B s v F) : Calls Tryz.prog 28 #[.pointer (some ⟨C.p, 0, none⟩)] w fun e w' => e = .returned (.bool s.cl) ∧ w' = w := by
  have ho := h.obj
  unfold cuC at ho
  have hoc0 := blk_cell ho 0 _ rfl; have hof0 := blk_frozen ho 0; have hoc1 := blk_cell ho 1 _ rfl; have hof1 := blk_frozen ho 1; have hoc2 := blk_cell ho 2 _ rfl; have hof2 := blk_frozen ho 2; have hoc3 := blk_cell ho 3 _ rfl; have hof3 := blk_frozen ho 3; have hoc4 := blk_cell ho 4 _ rfl; have hof4 := blk_frozen ho 4; have hoc5 := blk_cell ho 5 _ rfl; have hof5 := blk_frozen ho 5; have hoc6 := blk_cell ho 6 _ rfl; have hof6 := blk_frozen ho 6; have hoc7 := blk_cell ho 7 _ rfl; have hof7 := blk_frozen ho 7; have hoc8 := blk_cell ho 8 _ rfl; have hof8 := blk_frozen ho 8; have hoc9 := blk_cell ho 9 _ rfl; have hof9 := blk_frozen ho 9; have hoc10 := blk_cell ho 10 _ rfl; have hof10 := blk_frozen ho 10; have hoc11 := blk_cell ho 11 _ rfl; have hof11 := blk_frozen ho 11; have hoc12 := blk_cell ho 12 _ rfl; have hof12 := blk_frozen ho 12; have hoc13 := blk_cell ho 13 _ rfl; have hof13 := blk_frozen ho 13; have hoc14 := blk_cell ho 14 _ rfl; have hof14 := blk_frozen ho 14; have hoc15 := blk_cell ho 15 _ rfl; have hof15 := blk_frozen ho 15; have hoc16 := blk_cell ho 16 _ rfl; have hof16 := blk_frozen ho 16; have hol := blk_lt ho
  clear h ho
  go_enter Tryz.func28, Tryz.ntmps28
  go_wp2
  go_ret
  exact ⟨rfl, rfl⟩
theorem itrail_calls (h : CW w C B s v F) (hd : depthOf C ≤ 5000) : Calls Tryz.prog 29 #[.pointer (some ⟨C.p, 0, none⟩)] w fun e w' => ∃ A' n' c', e = .returned (.slice A' n' c') ∧ n' ≤ c' ∧ (A' = none → c' = 0) ∧ Row spotT w' (fun k => w.heap.size ≤ k ∧ k < w'.heap.size) A' n' s.tr ∧ Below w.heap.size w w' := by
  have ho := h.obj
  unfold cuC at ho
  have HN := Hd.mk h.now
  have HZ := Hd.mk (fun k hk => (h.frz k hk).1)
  obtain ⟨n, hn⟩ : ∃ n, s.tr.length = n := ⟨_, rfl⟩
  have hn2 : s.now.n = n := by rw [← hn, h.now.row.1]
  have HC := fun (W : World) (hW : Below w.heap.size w W) => Fn.all_calls s.now.d s.now.A s.now.c s.tr F W (fun k hk => Nat.lt_of_lt_of_le (HZ.out k hk) hW.size) (by have := HN.out.row.below HZ.out hW; rwa [hn2, ← hn] at this) HN.out.nil (by have := HN.out.len; omega)
  rw [hn] at HC
  have HC := Hd.mk HC
  rw [hn2] at ho
  have hoc0 := blk_cell ho 0 _ rfl; have hof0 := blk_frozen ho 0; have hoc1 := blk_cell ho 1 _ rfl; have hof1 := blk_frozen ho 1; have hoc2 := blk_cell ho 2 _ rfl; have hof2 := blk_frozen ho 2; have hoc3 := blk_cell ho 3 _ rfl; have hof3 := blk_frozen ho 3; have hoc4 := blk_cell ho 4 _ rfl; have hof4 := blk_frozen ho 4; have hoc5 := blk_cell ho 5 _ rfl; have hof5 := blk_frozen ho 5; have hoc6 := blk_cell ho 6 _ rfl; have hof6 := blk_frozen ho 6; have hoc7 := blk_cell ho 7 _ rfl; have hof7 := blk_frozen ho 7; have hoc8 := blk_cell ho 8 _ rfl; have hof8 := blk_frozen ho 8; have hoc9 := blk_cell ho 9 _ rfl; have hof9 := blk_frozen ho 9; have hoc10 := blk_cell ho 10 _ rfl; have hof10 := blk_frozen ho 10; have hoc11 := blk_cell ho 11 _ rfl; have hof11 := blk_frozen ho 11; have hoc12 := blk_cell ho 12 _ rfl; have hof12 := blk_frozen ho 12; have hoc13 := blk_cell ho 13 _ rfl; have hof13 := blk_frozen ho 13; have hoc14 := blk_cell ho 14 _ rfl; have hof14 := blk_frozen ho 14; have hoc15 := blk_cell ho 15 _ rfl; have hof15 := blk_frozen ho 15; have hoc16 := blk_cell ho 16 _ rfl; have hof16 := blk_frozen ho 16; have hol := blk_lt ho
  clear h ho hn hn2
  go_enter Tryz.func29, Tryz.ntmps29
  go_wp2_with (go_at_call 60; go_must (refine Calls.mono (HC.out _ (by repeat (first | (with_reducible assumption) | (with_reducible exact Below.refl _ _) | (with_reducible apply below_drewL) | (with_reducible apply below_alloc) | (with_reducible apply below_drew1) | (with_reducible apply below_drewN) | (refine below_set ?_ (by first | omega | (simp only [size_alloc, size_drew, size_set]; omega)) _ _)))) ?_; rintro e w1 ⟨A1, c1, rfl, hc1, hA1, hR1, hb1⟩))
  go_ret
  exact ⟨A1, n, c1, rfl, hc1, hA1, hR1, hb1⟩
theorem ilow_calls (h : CW w C B s v F) : Calls Tryz.prog 102 #[.pointer (some ⟨C.p, 0, none⟩)] w fun e w' => e = .returned (.int .i64 (lowC s)) ∧ Below w.heap.size w w' := by
  have ho := h.obj
  unfold cuC at ho
  have HL := Hd.mk (fun W (hW : Below w.heap.size w W) => low_calls' s.now s.tr F W (depthOf C) (h.now.move (fun b hb => hW.block b (h.frz b hb).1)) (fun k hk => Nat.lt_of_lt_of_le (h.frz k hk).1 hW.size))
  have HM := fun W (hW : Below w.heap.size w W) => Fn.mlow_calls (lowS s) (h.tab.below hW)
  have hm : C.m = s.L.length := h.tab.len.symm
  rw [hm] at HM
  have HM := Hd.mk HM
  unfold svV at HL
  unfold lowC lowS at *
  generalize lowL s.now.at_.at_ s.tr = x at *
  generalize lowUpto s.L x s.L.length = y at *
  have hoc0 := blk_cell ho 0 _ rfl; have hof0 := blk_frozen ho 0; have hoc1 := blk_cell ho 1 _ rfl; have hof1 := blk_frozen ho 1; have hoc2 := blk_cell ho 2 _ rfl; have hof2 := blk_frozen ho 2; have hoc3 := blk_cell ho 3 _ rfl; have hof3 := blk_frozen ho 3; have hoc4 := blk_cell ho 4 _ rfl; have hof4 := blk_frozen ho 4; have hoc5 := blk_cell ho 5 _ rfl; have hof5 := blk_frozen ho 5; have hoc6 := blk_cell ho 6 _ rfl; have hof6 := blk_frozen ho 6; have hoc7 := blk_cell ho 7 _ rfl; have hof7 := blk_frozen ho 7; have hoc8 := blk_cell ho 8 _ rfl; have hof8 := blk_frozen ho 8; have hoc9 := blk_cell ho 9 _ rfl; have hof9 := blk_frozen ho 9; have hoc10 := blk_cell ho 10 _ rfl; have hof10 := blk_frozen ho 10; have hoc11 := blk_cell ho 11 _ rfl; have hof11 := blk_frozen ho 11; have hoc12 := blk_cell ho 12 _ rfl; have hof12 := blk_frozen ho 12; have hoc13 := blk_cell ho 13 _ rfl; have hof13 := blk_frozen ho 13; have hoc14 := blk_cell ho 14 _ rfl; have hof14 := blk_frozen ho 14; have hoc15 := blk_cell ho 15 _ rfl; have hof15 := blk_frozen ho 15; have hoc16 := blk_cell ho 16 _ rfl; have hof16 := blk_frozen ho 16; have hol := blk_lt ho
  clear h ho hm
  go_enter Tryz.func102, Tryz.ntmps102
  go_wp2
  refine wp_region_can (.q [0, 1, 2, 3, 4, 5, 6, 7] (.e 8 true (.e 9 false (.q [10] (.done))))) (clsB _) (by kernel_rfl) (by kernel_rfl) (by intro _ _ d _ _ h; cases d <;> exact h) (clsB_drew _) ?_
  refine can_q (l := [⟨_,_,_,_,_,_⟩, ⟨_,_,_,_,_,_⟩, ⟨_,_,_,_,_,_⟩, ⟨_,_,_,_,_,_⟩, ⟨_,_,_,_,_,_⟩, ⟨_,_,_,_,_,_⟩, ⟨_,_,_,_,_,_⟩, ⟨_,_,_,_,_,_⟩]) rfl ?_
  repeat (go_big_quiet_step (fail))
  refine wpQuiet_nil ?_
  refine can_e (o := ⟨_,_,_,_,_,_⟩) rfl (fun K hK => ?_)
  go_wp2_with (go_at_call 82; go_must (refine Calls.mono (HL.out _ (by repeat (first | (with_reducible assumption) | (with_reducible exact Below.refl _ _) | (with_reducible apply below_drewL) | (with_reducible apply below_alloc) | (with_reducible apply below_drew1) | (with_reducible apply below_drewN) | (refine below_set ?_ (by first | omega | (simp only [size_alloc, size_drew, size_set]; omega)) _ _)))) ?_; rintro e w1 ⟨rfl, hb1⟩))
  have HB1 := Hd.mk (below_seq (a := w) (by repeat (first | (with_reducible assumption) | (with_reducible exact Below.refl _ _) | (with_reducible apply below_drewL) | (with_reducible apply below_alloc) | (with_reducible apply below_drew1) | (with_reducible apply below_drewN) | (refine below_set ?_ (by first | omega | (simp only [size_alloc, size_drew, size_set]; omega)) _ _))) hb1)
  refine onK_normal (hK _ _ ⟨clsB _, clsB_of (by first | exact (HB1.out) | exact below_undrew (HB1.out)), fun _ _ h => h, ?_⟩)
  clear hK K
  refine can_e (o := ⟨_,_,_,_,_,_⟩) rfl (fun K hK => ?_)
  go_wp2_with (go_at_call 116; go_must (refine Calls.mono (HM.out _ HB1.out) ?_; rintro e w2 ⟨rfl, hb2⟩))
  refine onK_normal (hK _ _ ⟨fun _ => True, trivial, (fun h => by cases h), ?_⟩)
  clear hK K
  refine can_q (l := [⟨_,_,_,_,_,_⟩]) rfl ?_
  repeat (go_big_quiet_step (fail))
  refine wpQuiet_nil ?_
  refine can_done ?_
  go_wp2
  go_ret
  exact ⟨rfl, below_seq HB1.out hb2⟩
theorem lowC_le (s : Cu) : lowC s ≤ s.now.at_.at_ := Int.le_trans (lowUpto_le _ _ _) (lowL_le _ _)
/-- What the operations need of a cursor. -/
structure Ok (C : Cf) (l : Lx) (s : Cu) : Prop where
  pin : Pin l s.text.length s.now.at_
  room : (s.text.length : Int) ≤ lowC s + C.P.bytes
  size : s.text.length ≤ 100000
  b1 : 1 ≤ C.P.bytes
  b2 : C.P.bytes ≤ 4096
theorem iroom_calls {l : Lx} (h : CW w C B s v F) (hk : Ok C l s) : Calls Tryz.prog 77 #[.pointer (some ⟨C.p, 0, none⟩)] w fun e w' => e = .returned (.int .i64 (roomC C s)) ∧ Below w.heap.size w w' := by
  have ho := h.obj
  unfold cuC at ho
  have HL := Hd.mk (fun W (hW : Below w.heap.size w W) => ilow_calls (h.below hW))
  obtain ⟨A, n, c, rfl, hn, -, -, -⟩ := h.txt.formN
  have h1 := lowC_le s
  have h2 := hk.pin.2.1
  have h3 := hk.room
  have h4 := hk.size
  have h5 := hk.b1
  have h6 := hk.b2
  unfold roomC
  rw [← hn] at h2 h3 h4 ⊢
  have h0 : lowC s ≤ n := by omega
  clear h1 h2 hn hk
  generalize lowC s = y at *
  have hoc0 := blk_cell ho 0 _ rfl; have hof0 := blk_frozen ho 0; have hoc1 := blk_cell ho 1 _ rfl; have hof1 := blk_frozen ho 1; have hoc2 := blk_cell ho 2 _ rfl; have hof2 := blk_frozen ho 2; have hoc3 := blk_cell ho 3 _ rfl; have hof3 := blk_frozen ho 3; have hoc4 := blk_cell ho 4 _ rfl; have hof4 := blk_frozen ho 4; have hoc5 := blk_cell ho 5 _ rfl; have hof5 := blk_frozen ho 5; have hoc6 := blk_cell ho 6 _ rfl; have hof6 := blk_frozen ho 6; have hoc7 := blk_cell ho 7 _ rfl; have hof7 := blk_frozen ho 7; have hoc8 := blk_cell ho 8 _ rfl; have hof8 := blk_frozen ho 8; have hoc9 := blk_cell ho 9 _ rfl; have hof9 := blk_frozen ho 9; have hoc10 := blk_cell ho 10 _ rfl; have hof10 := blk_frozen ho 10; have hoc11 := blk_cell ho 11 _ rfl; have hof11 := blk_frozen ho 11; have hoc12 := blk_cell ho 12 _ rfl; have hof12 := blk_frozen ho 12; have hoc13 := blk_cell ho 13 _ rfl; have hof13 := blk_frozen ho 13; have hoc14 := blk_cell ho 14 _ rfl; have hof14 := blk_frozen ho 14; have hoc15 := blk_cell ho 15 _ rfl; have hof15 := blk_frozen ho 15; have hoc16 := blk_cell ho 16 _ rfl; have hof16 := blk_frozen ho 16; have hol := blk_lt ho
  clear h ho
  go_enter Tryz.func77, Tryz.ntmps77
  go_wp2
  refine wp_region_can (.q [0, 2, 3, 4, 5, 6, 8, 9, 10, 11, 12] (.e 1 true (.q [7, 13, 14] (.done)))) (clsB _) (by kernel_rfl) (by kernel_rfl) (by intro _ _ d _ _ h; cases d <;> exact h) (clsB_drew _) ?_
  refine can_q (l := [⟨_,_,_,_,_,_⟩, ⟨_,_,_,_,_,_⟩, ⟨_,_,_,_,_,_⟩, ⟨_,_,_,_,_,_⟩, ⟨_,_,_,_,_,_⟩, ⟨_,_,_,_,_,_⟩, ⟨_,_,_,_,_,_⟩, ⟨_,_,_,_,_,_⟩, ⟨_,_,_,_,_,_⟩, ⟨_,_,_,_,_,_⟩, ⟨_,_,_,_,_,_⟩]) rfl ?_
  repeat (go_big_quiet_step (fail))
  refine wpQuiet_nil ?_
  refine can_e (o := ⟨_,_,_,_,_,_⟩) rfl (fun K hK => ?_)
  go_wp2_with (go_at_call 102; go_must (refine Calls.mono (HL.out _ (by repeat (first | (with_reducible assumption) | (with_reducible exact Below.refl _ _) | (with_reducible apply below_drewL) | (with_reducible apply below_alloc) | (with_reducible apply below_drew1) | (with_reducible apply below_drewN) | (refine below_set ?_ (by first | omega | (simp only [size_alloc, size_drew, size_set]; omega)) _ _)))) ?_; rintro e w1 ⟨rfl, hb1⟩))
  have HB1 := Hd.mk (below_seq (a := w) (by repeat (first | (with_reducible assumption) | (with_reducible exact Below.refl _ _) | (with_reducible apply below_drewL) | (with_reducible apply below_alloc) | (with_reducible apply below_drew1) | (with_reducible apply below_drewN) | (refine below_set ?_ (by first | omega | (simp only [size_alloc, size_drew, size_set]; omega)) _ _))) hb1)
  refine onK_normal (hK _ _ ⟨clsB _, clsB_of (by first | exact (HB1.out) | exact below_undrew (HB1.out)), fun _ _ h => h, ?_⟩)
  clear hK K
  refine can_q (l := [⟨_,_,_,_,_,_⟩, ⟨_,_,_,_,_,_⟩, ⟨_,_,_,_,_,_⟩]) rfl ?_
  repeat (go_big_quiet_step (fail))
  refine wpQuiet_nil ?_
  refine can_done ?_
  go_wp2
  go_ret
  exact ⟨rfl, HB1.out⟩
end
end Go.Proofs.YtoambcpjdcehhaaGreat.Id

/- What next computes, of a cursor. -/
set_option linter.unusedVariables false
set_option linter.unusedSimpArgs false
namespace Go.Proofs.YtoambcpjdcehhaaGreat.Id
open Go Go.RowKit Go.Shelf Go.Proofs.YtoambcpjdcehhaaGreat.Can Go.Proofs.YtoambcpjdcehhaaGreat.Base Go.Proofs.YtoambcpjdcehhaaGreat.Tb
open Go.Proofs.YtoambcpjdcehhaaGreat.Fn hiding get_calls
attribute [local go_sem] clsB AB.cell

/-- The cursor's lexer. -/
abbrev LXC (w : World) (S : Nat → Prop) (C : Cf) (l : Lx) : Prop := LX w S C.A1 C.A2 C.A3 C.n1 C.n2 C.n3 l
set_option maxRecDepth 20000 in
set_option maxHeartbeats 4000000 in
theorem inext_calls {w : World} {C : Cf} {B : Nat} {s : Cu} {v : Value} {F : Nat → Prop} {l : Lx} {S : Nat → Prop} (h : CW w C B s v F) (hk : Ok C l s) (hr : rightB l = true) (hL : LXC w S C l) (q : Spot) (hq : Pin l s.text.length q) :
    Calls Tryz.prog 78 #[.pointer (some ⟨C.p, 0, none⟩), spotV q] w fun e w' => ∃ tk er, e = .returned (.tuple #[tokV tk, .int .i64 er]) ∧ (er = 0 → nextM l s.text s.cl q = some tk) ∧ Below w.heap.size w w' := by
  have ho := h.obj
  unfold cuC at ho
  have HO := Hd.mk ho
  have HRM := Hd.mk (fun W (hW : Below w.heap.size w W) => iroom_calls (h.below hW) hk)
  generalize roomC C s = rm at HRM
  have hsz := hk.size
  obtain ⟨nx, hnx⟩ : ∃ x, nextM l s.text s.cl q = x := ⟨_, rfl⟩
  have HN := fun (W : World) (hW : Below w.heap.size w W) => next_calls C.A1 C.A2 C.A3 C.n1 C.n2 C.n3 C.c1 C.c2 C.c3 l hr S ⟨s.text.toArray⟩ s.cl (by show s.text.toArray.size ≤ _; rw [List.size_toArray]; omega) q hq nx hnx (errM nx) rfl W (hL.below hW)
  obtain ⟨tk, htk⟩ : ∃ tk, nx.getD tok0 = tk := ⟨_, rfl⟩
  obtain ⟨er, her⟩ : ∃ b, errM nx = b := ⟨_, rfl⟩
  rw [htk, her] at HN
  have HN := Hd.mk HN
  have hq2 : er = 15 ∨ (er = 0 ∧ nextM l s.text s.cl q = some tk) := by
    rw [hnx]
    cases nx with
    | none => exact .inl her.symm
    | some x => exact .inr ⟨her.symm, by rw [← htk]; rfl⟩
  have HQ := Hd.mk hq2
  obtain ⟨A, n, c, rfl, hn, -, -, hrow⟩ := h.txt.formN
  have HROW := Hd.mk hrow
  have hFl := Hd.mk (fun k hk => (h.txt.lt (k := k) hk).1)
  have HRL : Hd (∀ (W : World), Below w.heap.size w W → ∀ X : AB W, (convert 72 9 (.slice A n c)).run Tryz.prog X.x = .ok (.string ⟨s.text.toArray⟩) X.x) := ⟨fun W hW X => by
    have hr2 := ((h.txt.below hW).formN)
    obtain ⟨A', n', c', e', -, -, -, hr2⟩ := hr2
    cases e'
    exact conv_back 72 9 5 Tryz.underlying72 Tryz.underlying5 Tryz.underlying9 (hr2.move (w' := X.x) (fun b hb => X.ok b hb.2)) (by omega)⟩
  clear h hk hL hq hn hnx htk her hq2 hrow ho
  unfold spotV tokV at *
  have hv := blk_alloc (blk_new w (.cells #[.int .i64 q.at_, .int .i64 q.mode] 57 (0, 0)) _ rfl) (.cells #[.int .i64 0, .int .i64 0, .int .i64 0, .int .i64 0, .int .i64 0, .int .i64 0] 43 (0, 0))
  go_enter Tryz.func78, Tryz.ntmps78
  go_wp2
  generalize hV : World.alloc _ _ = V
  have HBV : Below w.heap.size w V := below_of hV (by repeat (first | (with_reducible assumption) | (with_reducible exact Below.refl _ _) | (with_reducible apply below_drewL) | (with_reducible apply below_alloc) | (with_reducible apply below_drew1) | (with_reducible apply below_drewN) | (refine below_set ?_ (by first | omega | (simp only [size_alloc, size_drew, size_set]; omega)) _ _)))
  have zV : Hd (V.heap.size = w.heap.size + 1 + 1) := ⟨by rw [← hV]; simp only [size_alloc]⟩
  have V0 := at_of hV (blk_alloc (blk_new _ _ _ rfl) _)
  have V0l := blk_lt V0
  have V1 := at_of hV (blk_new _ _ _ rfl)
  simp only [size_alloc] at V1
  have V1l := blk_lt V1
  clear hV
  have HB := Hd.mk HBV
  have ho := blk_below HO.out HBV
  have hcv := HRL.out V HBV
  have HV1 := Hd.mk V1
  have hoc0 := blk_cell ho 0 _ rfl; have hof0 := blk_frozen ho 0; have hoc1 := blk_cell ho 1 _ rfl; have hof1 := blk_frozen ho 1; have hoc2 := blk_cell ho 2 _ rfl; have hof2 := blk_frozen ho 2; have hoc3 := blk_cell ho 3 _ rfl; have hof3 := blk_frozen ho 3; have hoc4 := blk_cell ho 4 _ rfl; have hof4 := blk_frozen ho 4; have hoc5 := blk_cell ho 5 _ rfl; have hof5 := blk_frozen ho 5; have hoc6 := blk_cell ho 6 _ rfl; have hof6 := blk_frozen ho 6; have hoc7 := blk_cell ho 7 _ rfl; have hof7 := blk_frozen ho 7; have hoc8 := blk_cell ho 8 _ rfl; have hof8 := blk_frozen ho 8; have hoc9 := blk_cell ho 9 _ rfl; have hof9 := blk_frozen ho 9; have hoc10 := blk_cell ho 10 _ rfl; have hof10 := blk_frozen ho 10; have hoc11 := blk_cell ho 11 _ rfl; have hof11 := blk_frozen ho 11; have hoc12 := blk_cell ho 12 _ rfl; have hof12 := blk_frozen ho 12; have hoc13 := blk_cell ho 13 _ rfl; have hof13 := blk_frozen ho 13; have hoc14 := blk_cell ho 14 _ rfl; have hof14 := blk_frozen ho 14; have hoc15 := blk_cell ho 15 _ rfl; have hof15 := blk_frozen ho 15; have hoc16 := blk_cell ho 16 _ rfl; have hof16 := blk_frozen ho 16; have hol := blk_lt ho
  have V0c0 := blk_cell V0 0 _ rfl
  have V0f0 := blk_frozen V0 0
  have V0c1 := blk_cell V0 1 _ rfl
  have V0f1 := blk_frozen V0 1
  clear hv V1 HBV ho
  refine wp_region_can (.q [0, 1, 2, 3, 4, 5, 6, 7, 8, 9, 10, 11, 12, 13] (.b 14 false (.q [15, 16, 17] (.e 18 true (.e 19 false (.q [20] (.done))))) 18 true (.e 14 false (.q [15, 16, 17] (.e 19 false (.q [20] (.done))))))) (clsB _) (by kernel_rfl) (by kernel_rfl) (by intro _ _ d _ _ h; cases d <;> exact h) (clsB_drew _) ?_
  refine can_q (l := [⟨_,_,_,_,_,_⟩, ⟨_,_,_,_,_,_⟩, ⟨_,_,_,_,_,_⟩, ⟨_,_,_,_,_,_⟩, ⟨_,_,_,_,_,_⟩, ⟨_,_,_,_,_,_⟩, ⟨_,_,_,_,_,_⟩, ⟨_,_,_,_,_,_⟩, ⟨_,_,_,_,_,_⟩, ⟨_,_,_,_,_,_⟩, ⟨_,_,_,_,_,_⟩, ⟨_,_,_,_,_,_⟩, ⟨_,_,_,_,_,_⟩, ⟨_,_,_,_,_,_⟩]) rfl ?_
  repeat (go_big_quiet_step (fail))
  refine wpQuiet_nil ?_
  have HT := Hd.mk (fun W (hW : Below V.heap.size V W) => HN.out W (below_seq HB.out hW))
  apply cut_one (fun g W => V.heap.size ≤ g ∧ Below V.heap.size V W ∧ W.heap[g]? = some (.cells #[.int .i64 0, .int .i64 0, .int .i64 0, .int .i64 0, .int .i64 0, .int .i64 0] 43 (0, 0)))
  case main =>
    intro key
    refine can_b (o := ⟨_,_,_,_,_,_⟩) (oj := ⟨_,_,_,_,_,_⟩) rfl rfl (fun K hK => ?_) (fun K hK => ?_)
    · go_wp2_with (go_at_call 27; go_must (refine Calls.mono (HT.out _ ((by repeat (first | (with_reducible assumption) | (with_reducible exact Below.refl _ _) | (with_reducible apply below_drewL) | (with_reducible apply below_alloc) | (with_reducible apply below_drew1) | (with_reducible apply below_drewN) | (refine below_set ?_ (by first | omega | (simp only [size_alloc, size_drew, size_set]; omega)) _ _))))) ?_; rintro e w1 ⟨rfl, hb1⟩; replace hb1 := below_undrew hb1; have hz1 := hb1.size))
      refine onK_normal (hK _ _ ⟨clsB _, clsB_of (by first | exact (hb1) | exact below_undrew (hb1)), fun _ _ h => h, ?_⟩)
      clear hK K
      refine can_q (l := [⟨_,_,_,_,_,_⟩, ⟨_,_,_,_,_,_⟩, ⟨_,_,_,_,_,_⟩]) rfl ?_
      repeat (go_big_quiet_step (fail))
      refine wpQuiet_nil ?_
      refine can_e (o := ⟨_,_,_,_,_,_⟩) rfl (fun K hK => ?_)
      go_wp2_with fail
      refine onK_normal (hK _ _ ⟨clsB _, clsB_of (by first | exact ((below_alloc hb1 _)) | exact below_undrew ((below_alloc hb1 _))), fun _ _ h => h, ?_⟩)
      clear hK K
      generalize hW9 : World.alloc w1 _ = W9
      have k1 : Below V.heap.size V W9 := by rw [← hW9]; exact below_alloc hb1 _
      have k2 : W9.heap[w1.heap.size]? = some (.cells #[.int .i64 0, .int .i64 0, .int .i64 0, .int .i64 0, .int .i64 0, .int .i64 0] 43 (0, 0)) := by rw [← hW9]; exact blk_new _ _ _ rfl
      generalize w1.heap.size = g at k2 hz1 ⊢
      exact key g W9 ⟨hz1, k1, k2⟩
    · go_wp2_with fail
      refine onK_normal (hK _ _ ⟨clsB _, clsB_of (by first | exact ((by repeat (first | (with_reducible assumption) | (with_reducible exact Below.refl _ _) | (with_reducible apply below_drewL) | (with_reducible apply below_alloc) | (with_reducible apply below_drew1) | (with_reducible apply below_drewN) | (refine below_set ?_ (by first | omega | (simp only [size_alloc, size_drew, size_set]; omega)) _ _)))) | exact below_undrew ((by repeat (first | (with_reducible assumption) | (with_reducible exact Below.refl _ _) | (with_reducible apply below_drewL) | (with_reducible apply below_alloc) | (with_reducible apply below_drew1) | (with_reducible apply below_drewN) | (refine below_set ?_ (by first | omega | (simp only [size_alloc, size_drew, size_set]; omega)) _ _))))), fun _ _ h => h, ?_⟩)
      clear hK K
      refine can_e (o := ⟨_,_,_,_,_,_⟩) rfl (fun K hK => ?_)
      go_wp2_with (go_at_call 27; go_must (refine Calls.mono (HT.out _ ((by repeat (first | (with_reducible assumption) | (with_reducible exact Below.refl _ _) | (with_reducible apply below_drewL) | (with_reducible apply below_alloc) | (with_reducible apply below_drew1) | (with_reducible apply below_drewN) | (refine below_set ?_ (by first | omega | (simp only [size_alloc, size_drew, size_set]; omega)) _ _))))) ?_; rintro e w1 ⟨rfl, hb1⟩; have hb2 : Below V.heap.size V w1 := (by first | exact below_seq (by repeat (first | (with_reducible assumption) | (with_reducible exact Below.refl _ _) | (with_reducible apply below_drewL) | (with_reducible apply below_alloc) | (with_reducible apply below_drew1) | (with_reducible apply below_drewN) | (refine below_set ?_ (by first | omega | (simp only [size_alloc, size_drew, size_set]; omega)) _ _))) hb1 | exact below_seq (by repeat (first | (with_reducible assumption) | (with_reducible exact Below.refl _ _) | (with_reducible apply below_drewL) | (with_reducible apply below_alloc) | (with_reducible apply below_drew1) | (with_reducible apply below_drewN) | (refine below_set ?_ (by first | omega | (simp only [size_alloc, size_drew, size_set]; omega)) _ _))) (below_undrew hb1)); have hg1 : w1.heap[V.heap.size]? = some (.cells #[.int .i64 0, .int .i64 0, .int .i64 0, .int .i64 0, .int .i64 0, .int .i64 0] 43 (0, 0)) := (by first | exact blk_below (blk_new _ _ _ rfl) hb1 | exact blk_below (blk_drew (blk_new _ _ _ rfl)) hb1)))
      refine onK_normal (hK _ _ ⟨clsB _, clsB_of (by first | exact (hb2) | exact below_undrew (hb2)), fun _ _ h => h, ?_⟩)
      clear hK K
      refine can_q (l := [⟨_,_,_,_,_,_⟩, ⟨_,_,_,_,_,_⟩, ⟨_,_,_,_,_,_⟩]) rfl ?_
      repeat (go_big_quiet_step (fail))
      refine wpQuiet_nil ?_
      generalize hk : V.heap.size = g at hg1 ⊢
      exact key g w1 ⟨by omega, hb2, hg1⟩
  case key =>
    rintro g W ⟨hg, hbW, hgW⟩
    clear hoc0 hof0 hoc1 hof1 hoc2 hof2 hoc3 hof3 hoc4 hof4 hoc5 hof5 hoc6 hof6 hoc7 hof7 hoc8 hof8 hoc9 hof9 hoc10 hof10 hoc11 hof11 hoc12 hof12 hoc13 hof13 hoc14 hof14 hoc15 hof15 hoc16 hof16 hol
    clear V0c0 V0f0 V0c1 V0f1 V0l
    have HBW := Hd.mk (below_seq HB.out hbW)
    have hne : ¬ w.heap.size + 1 = g := by have := zV.out; omega
    have hwg : w.heap.size ≤ g := by have := zV.out; omega
    have HV4 := Hd.mk (blk_below HV1.out hbW)
    have HGW := Hd.mk hgW
    have hgWc0 := blk_cell hgW 0 _ rfl; have hgWf0 := blk_frozen hgW 0; have hgWc1 := blk_cell hgW 1 _ rfl; have hgWf1 := blk_frozen hgW 1; have hgWc2 := blk_cell hgW 2 _ rfl; have hgWf2 := blk_frozen hgW 2; have hgWc3 := blk_cell hgW 3 _ rfl; have hgWf3 := blk_frozen hgW 3; have hgWc4 := blk_cell hgW 4 _ rfl; have hgWf4 := blk_frozen hgW 4; have hgWc5 := blk_cell hgW 5 _ rfl; have hgWf5 := blk_frozen hgW 5; have hgWl := blk_lt hgW
    clear hbW hcv zV V0 hg HT
    refine can_e (o := ⟨_,_,_,_,_,_⟩) rfl (fun K hK => ?_)
    go_wp2_with fail
    refine onK_normal (hK _ _ ⟨fun _ => True, trivial, (fun h => by cases h), ?_⟩)
    clear hK K
    refine can_q (l := [⟨_,_,_,_,_,_⟩]) rfl ?_
    repeat (go_big_quiet_step (fail))
    refine wpQuiet_nil ?_
    refine can_done ?_
    generalize hU : World.setCell _ _ _ = U
    have HGU : Hd (U.heap[g]? = some (.cells #[.int .i64 tk.k, .int .i64 tk.r, .int .i64 tk.f, .int .i64 tk.a, .int .i64 tk.t, .int .i64 tk.m] 43 (0, 0))) := ⟨by rw [← hU]; exact blk_six HGW.out _ _ _ _ _ _⟩
    have HV5 : Hd (U.heap[w.heap.size + 1]? = some (.cells #[.int .i64 0, .int .i64 0, .int .i64 0, .int .i64 0, .int .i64 0, .int .i64 0] 43 (0, 0))) := ⟨by rw [← hU]; exact (six_same hne _ _ _ _ _ _).trans HV4.out⟩
    have HBU : Hd (Below w.heap.size w U) := ⟨by rw [← hU]; exact (fr_six (Fr.of_below (X := fun _ => False) HBW.out) (.inr hwg) _ _ _ _ _ _).below (Nat.le_refl _) (fun _ _ h => h)⟩
    clear hgWc0 hgWf0 hgWc1 hgWf1 hgWc2 hgWf2 hgWc3 hgWf3 hgWc4 hgWf4 hgWc5 hgWf5 hgWl
    clear hU hgW
    have hgU := HGU.out
    have hVU := HV5.out
    have hgUc0 := blk_cell hgU 0 _ rfl; have hgUf0 := blk_frozen hgU 0; have hgUc1 := blk_cell hgU 1 _ rfl; have hgUf1 := blk_frozen hgU 1; have hgUc2 := blk_cell hgU 2 _ rfl; have hgUf2 := blk_frozen hgU 2; have hgUc3 := blk_cell hgU 3 _ rfl; have hgUf3 := blk_frozen hgU 3; have hgUc4 := blk_cell hgU 4 _ rfl; have hgUf4 := blk_frozen hgU 4; have hgUc5 := blk_cell hgU 5 _ rfl; have hgUf5 := blk_frozen hgU 5; have hgUl := blk_lt hgU
    have hVUc0 := blk_cell hVU 0 _ rfl; have hVUf0 := blk_frozen hVU 0; have hVUc1 := blk_cell hVU 1 _ rfl; have hVUf1 := blk_frozen hVU 1; have hVUc2 := blk_cell hVU 2 _ rfl; have hVUf2 := blk_frozen hVU 2; have hVUc3 := blk_cell hVU 3 _ rfl; have hVUf3 := blk_frozen hVU 3; have hVUc4 := blk_cell hVU 4 _ rfl; have hVUf4 := blk_frozen hVU 4; have hVUc5 := blk_cell hVU 5 _ rfl; have hVUf5 := blk_frozen hVU 5; have hVUl := blk_lt hVU
    clear hgU hVU
    rcases HQ.out with rfl | ⟨rfl, hnx⟩
    · by_cases hrm : rm = 0
      · have HRm := Hd.mk hrm
        subst hrm
        go_wp2_with (go_at_call 77; go_must (refine Calls.mono (HRM.out _ HBU.out) ?_; rintro e w2 ⟨rfl, hb2⟩; have HB2 := Hd.mk (below_seq HBU.out hb2); have HV6 := Hd.mk (blk_below HV5.out hb2); have hv2 := HV6.out; have hg2 := blk_below HGU.out hb2; clear hgUc0 hgUf0 hgUc1 hgUf1 hgUc2 hgUf2 hgUc3 hgUf3 hgUc4 hgUf4 hgUc5 hgUf5 hgUl; clear hVUc0 hVUf0 hVUc1 hVUf1 hVUc2 hVUf2 hVUc3 hVUf3 hVUc4 hVUf4 hVUc5 hVUf5 hVUl; have hv2c0 := blk_cell hv2 0 _ rfl; have hv2f0 := blk_frozen hv2 0; have hv2c1 := blk_cell hv2 1 _ rfl; have hv2f1 := blk_frozen hv2 1; have hv2c2 := blk_cell hv2 2 _ rfl; have hv2f2 := blk_frozen hv2 2; have hv2c3 := blk_cell hv2 3 _ rfl; have hv2f3 := blk_frozen hv2 3; have hv2c4 := blk_cell hv2 4 _ rfl; have hv2f4 := blk_frozen hv2 4; have hv2c5 := blk_cell hv2 5 _ rfl; have hv2f5 := blk_frozen hv2 5; have hv2l := blk_lt hv2; have hg2c0 := blk_cell hg2 0 _ rfl; have hg2f0 := blk_frozen hg2 0; have hg2c1 := blk_cell hg2 1 _ rfl; have hg2f1 := blk_frozen hg2 1; have hg2c2 := blk_cell hg2 2 _ rfl; have hg2f2 := blk_frozen hg2 2; have hg2c3 := blk_cell hg2 3 _ rfl; have hg2f3 := blk_frozen hg2 3; have hg2c4 := blk_cell hg2 4 _ rfl; have hg2f4 := blk_frozen hg2 4; have hg2c5 := blk_cell hg2 5 _ rfl; have hg2f5 := blk_frozen hg2 5; have hg2l := blk_lt hg2; clear hv2 hg2 hb2))
        refine bodyPost_ret (cell_tmp_row rfl _ _ (w.heap.size + 1) 43 #[.int .i64 0, .int .i64 0, .int .i64 0, .int .i64 0, .int .i64 0, .int .i64 0] (0, 0) _ rfl (blk_six HV6.out _ _ _ _ _ _) Tryz.underlying43 rfl (by kernel_rfl)) rfl ⟨tok0, 14, rfl, (fun h => by cases h), ?_⟩
        exact (fr_six (Fr.of_below (X := fun _ => False) HB2.out) (.inr (by omega)) _ _ _ _ _ _).below (Nat.le_refl _) (fun _ _ h => h)
      · have hb : (rm == 0) = false := by simpa using hrm
        clear hrm
        go_wp2_with (go_at_call 77; go_must (refine Calls.mono (HRM.out _ HBU.out) ?_; rintro e w2 ⟨rfl, hb2⟩; have HB2 := Hd.mk (below_seq HBU.out hb2); have HV6 := Hd.mk (blk_below HV5.out hb2); have hv2 := HV6.out; have hg2 := blk_below HGU.out hb2; clear hgUc0 hgUf0 hgUc1 hgUf1 hgUc2 hgUf2 hgUc3 hgUf3 hgUc4 hgUf4 hgUc5 hgUf5 hgUl; clear hVUc0 hVUf0 hVUc1 hVUf1 hVUc2 hVUf2 hVUc3 hVUf3 hVUc4 hVUf4 hVUc5 hVUf5 hVUl; have hv2c0 := blk_cell hv2 0 _ rfl; have hv2f0 := blk_frozen hv2 0; have hv2c1 := blk_cell hv2 1 _ rfl; have hv2f1 := blk_frozen hv2 1; have hv2c2 := blk_cell hv2 2 _ rfl; have hv2f2 := blk_frozen hv2 2; have hv2c3 := blk_cell hv2 3 _ rfl; have hv2f3 := blk_frozen hv2 3; have hv2c4 := blk_cell hv2 4 _ rfl; have hv2f4 := blk_frozen hv2 4; have hv2c5 := blk_cell hv2 5 _ rfl; have hv2f5 := blk_frozen hv2 5; have hv2l := blk_lt hv2; have hg2c0 := blk_cell hg2 0 _ rfl; have hg2f0 := blk_frozen hg2 0; have hg2c1 := blk_cell hg2 1 _ rfl; have hg2f1 := blk_frozen hg2 1; have hg2c2 := blk_cell hg2 2 _ rfl; have hg2f2 := blk_frozen hg2 2; have hg2c3 := blk_cell hg2 3 _ rfl; have hg2f3 := blk_frozen hg2 3; have hg2c4 := blk_cell hg2 4 _ rfl; have hg2f4 := blk_frozen hg2 4; have hg2c5 := blk_cell hg2 5 _ rfl; have hg2f5 := blk_frozen hg2 5; have hg2l := blk_lt hg2; clear hv2 hg2 hb2))
        refine bodyPost_ret (cell_tmp_row rfl _ _ (w.heap.size + 1) 43 #[.int .i64 tk.k, .int .i64 tk.r, .int .i64 tk.f, .int .i64 tk.a, .int .i64 tk.t, .int .i64 tk.m] (0, 0) _ rfl (blk_six HV6.out _ _ _ _ _ _) Tryz.underlying43 rfl (by kernel_rfl)) rfl ⟨tk, 15, rfl, (fun h => by cases h), ?_⟩
        exact (fr_six (Fr.of_below (X := fun _ => False) HB2.out) (.inr (by omega)) _ _ _ _ _ _).below (Nat.le_refl _) (fun _ _ h => h)
    · have HNX := Hd.mk hnx
      clear hnx
      go_wp2
      refine bodyPost_ret (cell_tmp_row rfl _ _ (w.heap.size + 1) 43 #[.int .i64 tk.k, .int .i64 tk.r, .int .i64 tk.f, .int .i64 tk.a, .int .i64 tk.t, .int .i64 tk.m] (0, 0) _ rfl (blk_six HV5.out _ _ _ _ _ _) Tryz.underlying43 rfl (by kernel_rfl)) rfl ⟨tk, 0, rfl, fun _ => HNX.out, ?_⟩
      exact (fr_six (Fr.of_below (X := fun _ => False) HBU.out) (.inr (by omega)) _ _ _ _ _ _).below (Nat.le_refl _) (fun _ _ h => h)
end Go.Proofs.YtoambcpjdcehhaaGreat.Id

/- Which parameters may be, and which plans. -/
set_option linter.unusedVariables false
set_option linter.unusedSimpArgs false
namespace Go.Proofs.YtoambcpjdcehhaaGreat.Id
open Go Go.RowKit Go.Shelf Go.Proofs.YtoambcpjdcehhaaGreat.Can Go.Proofs.YtoambcpjdcehhaaGreat.Base Go.Proofs.YtoambcpjdcehhaaGreat.Tb
open Go.Proofs.YtoambcpjdcehhaaGreat.Fn hiding get_calls
attribute [local go_sem] clsB AB.cell

def inB (n m : Int) : Bool := decide (1 ≤ n) && decide (n ≤ m)
structure ParOk (p : Par) : Prop where
  bytes : inB p.bytes 4096 = true
  trail : inB p.trail 64 = true
  marks : inB p.marks 64 = true
  ahead : inB p.ahead 16 = true
  tickets : inB p.tickets 64 = true
  retries : inB p.retries 16 = true
  step : inB p.step 4096 = true
theorem in39_calls (n m : Int) (b : Bool) (hb : inB n m = b) (w : World) : Calls Tryz.prog 67 #[.int .i64 n, .int .i64 m] w fun e w' => e = .returned (.bool b) ∧ w' = w := by
  unfold inB at hb
  by_cases h1 : 1 ≤ n
  · rw [decide_eq_true h1, Bool.true_and] at hb
    subst hb
    go_enter Tryz.func67, Tryz.ntmps67
    go_wp2
    go_ret
    exact ⟨rfl, rfl⟩
  · rw [decide_eq_false h1, Bool.false_and] at hb
    subst hb
    go_enter Tryz.func67, Tryz.ntmps67
    go_wp2
    go_ret
    exact ⟨rfl, rfl⟩
theorem win_calls (n m : Int) (b : Bool) (hb : inB n m = b) (w : World) : Calls Tryz.prog 49 #[.int .i64 n, .int .i64 m] w fun e w' => e = .returned (.bool b) ∧ w' = w := by
  unfold inB at hb
  by_cases h1 : 1 ≤ n
  · rw [decide_eq_true h1, Bool.true_and] at hb
    subst hb
    go_enter Tryz.func49, Tryz.ntmps49
    go_wp2
    go_ret
    exact ⟨rfl, rfl⟩
  · rw [decide_eq_false h1, Bool.false_and] at hb
    subst hb
    go_enter Tryz.func49, Tryz.ntmps49
    go_wp2
    go_ret
    exact ⟨rfl, rfl⟩
theorem rpar_calls (p : Par) (w : World) : Calls Tryz.prog 38 #[parV p] w fun e w' => ∃ b, e = .returned (.bool b) ∧ (b = true → ParOk p) ∧ Below w.heap.size w w' := by
  unfold parV
  have hv := blk_new w (.cells #[.int .i64 p.bytes, .int .i64 p.trail, .int .i64 p.marks, .int .i64 p.ahead, .int .i64 p.tickets, .int .i64 p.retries, .int .i64 p.step] 28 (0, 0)) _ rfl
  have hvc0 := blk_cell hv 0 _ rfl; have hvf0 := blk_frozen hv 0; have hvc1 := blk_cell hv 1 _ rfl; have hvf1 := blk_frozen hv 1; have hvc2 := blk_cell hv 2 _ rfl; have hvf2 := blk_frozen hv 2; have hvc3 := blk_cell hv 3 _ rfl; have hvf3 := blk_frozen hv 3; have hvc4 := blk_cell hv 4 _ rfl; have hvf4 := blk_frozen hv 4; have hvc5 := blk_cell hv 5 _ rfl; have hvf5 := blk_frozen hv 5; have hvc6 := blk_cell hv 6 _ rfl; have hvf6 := blk_frozen hv 6; have hvl := blk_lt hv
  clear hv
  cases h_bytes : inB p.bytes 4096 with
  | false =>
    go_enter Tryz.func38, Tryz.ntmps38
    go_wp2_with (go_at_call 67; go_must (first | with_reducible refine Calls.mono (in39_calls _ _ _ h_bytes _) ?_); rintro e w9 ⟨rfl, h9⟩; subst h9)
    go_ret
    exact ⟨false, rfl, fun h => (by cases h), (by repeat (first | (with_reducible assumption) | (with_reducible exact Below.refl _ _) | (with_reducible apply below_drewL) | (with_reducible apply below_alloc) | (with_reducible apply below_drew1) | (with_reducible apply below_drewN) | (refine below_set ?_ (by first | omega | (simp only [size_alloc, size_drew, size_set]; omega)) _ _)))⟩
  | true =>
  cases h_trail : inB p.trail 64 with
  | false =>
    go_enter Tryz.func38, Tryz.ntmps38
    go_wp2_with (go_at_call 67; go_must (first | with_reducible refine Calls.mono (in39_calls _ _ _ h_bytes _) ?_ | with_reducible refine Calls.mono (in39_calls _ _ _ h_trail _) ?_); rintro e w9 ⟨rfl, h9⟩; subst h9)
    go_ret
    exact ⟨false, rfl, fun h => (by cases h), (by repeat (first | (with_reducible assumption) | (with_reducible exact Below.refl _ _) | (with_reducible apply below_drewL) | (with_reducible apply below_alloc) | (with_reducible apply below_drew1) | (with_reducible apply below_drewN) | (refine below_set ?_ (by first | omega | (simp only [size_alloc, size_drew, size_set]; omega)) _ _)))⟩
  | true =>
  cases h_marks : inB p.marks 64 with
  | false =>
    go_enter Tryz.func38, Tryz.ntmps38
    go_wp2_with (go_at_call 67; go_must (first | with_reducible refine Calls.mono (in39_calls _ _ _ h_bytes _) ?_ | with_reducible refine Calls.mono (in39_calls _ _ _ h_trail _) ?_ | with_reducible refine Calls.mono (in39_calls _ _ _ h_marks _) ?_); rintro e w9 ⟨rfl, h9⟩; subst h9)
    go_ret
    exact ⟨false, rfl, fun h => (by cases h), (by repeat (first | (with_reducible assumption) | (with_reducible exact Below.refl _ _) | (with_reducible apply below_drewL) | (with_reducible apply below_alloc) | (with_reducible apply below_drew1) | (with_reducible apply below_drewN) | (refine below_set ?_ (by first | omega | (simp only [size_alloc, size_drew, size_set]; omega)) _ _)))⟩
  | true =>
  cases h_ahead : inB p.ahead 16 with
  | false =>
    go_enter Tryz.func38, Tryz.ntmps38
    go_wp2_with (go_at_call 67; go_must (first | with_reducible refine Calls.mono (in39_calls _ _ _ h_bytes _) ?_ | with_reducible refine Calls.mono (in39_calls _ _ _ h_trail _) ?_ | with_reducible refine Calls.mono (in39_calls _ _ _ h_marks _) ?_ | with_reducible refine Calls.mono (in39_calls _ _ _ h_ahead _) ?_); rintro e w9 ⟨rfl, h9⟩; subst h9)
    go_ret
    exact ⟨false, rfl, fun h => (by cases h), (by repeat (first | (with_reducible assumption) | (with_reducible exact Below.refl _ _) | (with_reducible apply below_drewL) | (with_reducible apply below_alloc) | (with_reducible apply below_drew1) | (with_reducible apply below_drewN) | (refine below_set ?_ (by first | omega | (simp only [size_alloc, size_drew, size_set]; omega)) _ _)))⟩
  | true =>
  cases h_tickets : inB p.tickets 64 with
  | false =>
    go_enter Tryz.func38, Tryz.ntmps38
    go_wp2_with (go_at_call 67; go_must (first | with_reducible refine Calls.mono (in39_calls _ _ _ h_bytes _) ?_ | with_reducible refine Calls.mono (in39_calls _ _ _ h_trail _) ?_ | with_reducible refine Calls.mono (in39_calls _ _ _ h_marks _) ?_ | with_reducible refine Calls.mono (in39_calls _ _ _ h_ahead _) ?_ | with_reducible refine Calls.mono (in39_calls _ _ _ h_tickets _) ?_); rintro e w9 ⟨rfl, h9⟩; subst h9)
    go_ret
    exact ⟨false, rfl, fun h => (by cases h), (by repeat (first | (with_reducible assumption) | (with_reducible exact Below.refl _ _) | (with_reducible apply below_drewL) | (with_reducible apply below_alloc) | (with_reducible apply below_drew1) | (with_reducible apply below_drewN) | (refine below_set ?_ (by first | omega | (simp only [size_alloc, size_drew, size_set]; omega)) _ _)))⟩
  | true =>
  cases h_retries : inB p.retries 16 with
  | false =>
    go_enter Tryz.func38, Tryz.ntmps38
    go_wp2_with (go_at_call 67; go_must (first | with_reducible refine Calls.mono (in39_calls _ _ _ h_bytes _) ?_ | with_reducible refine Calls.mono (in39_calls _ _ _ h_trail _) ?_ | with_reducible refine Calls.mono (in39_calls _ _ _ h_marks _) ?_ | with_reducible refine Calls.mono (in39_calls _ _ _ h_ahead _) ?_ | with_reducible refine Calls.mono (in39_calls _ _ _ h_tickets _) ?_ | with_reducible refine Calls.mono (in39_calls _ _ _ h_retries _) ?_); rintro e w9 ⟨rfl, h9⟩; subst h9)
    go_ret
    exact ⟨false, rfl, fun h => (by cases h), (by repeat (first | (with_reducible assumption) | (with_reducible exact Below.refl _ _) | (with_reducible apply below_drewL) | (with_reducible apply below_alloc) | (with_reducible apply below_drew1) | (with_reducible apply below_drewN) | (refine below_set ?_ (by first | omega | (simp only [size_alloc, size_drew, size_set]; omega)) _ _)))⟩
  | true =>
  cases h_step : inB p.step 4096 with
  | false =>
    go_enter Tryz.func38, Tryz.ntmps38
    go_wp2_with (go_at_call 67; go_must (first | with_reducible refine Calls.mono (in39_calls _ _ _ h_bytes _) ?_ | with_reducible refine Calls.mono (in39_calls _ _ _ h_trail _) ?_ | with_reducible refine Calls.mono (in39_calls _ _ _ h_marks _) ?_ | with_reducible refine Calls.mono (in39_calls _ _ _ h_ahead _) ?_ | with_reducible refine Calls.mono (in39_calls _ _ _ h_tickets _) ?_ | with_reducible refine Calls.mono (in39_calls _ _ _ h_retries _) ?_ | with_reducible refine Calls.mono (in39_calls _ _ _ h_step _) ?_); rintro e w9 ⟨rfl, h9⟩; subst h9)
    go_ret
    exact ⟨false, rfl, fun h => (by cases h), (by repeat (first | (with_reducible assumption) | (with_reducible exact Below.refl _ _) | (with_reducible apply below_drewL) | (with_reducible apply below_alloc) | (with_reducible apply below_drew1) | (with_reducible apply below_drewN) | (refine below_set ?_ (by first | omega | (simp only [size_alloc, size_drew, size_set]; omega)) _ _)))⟩
  | true =>
  go_enter Tryz.func38, Tryz.ntmps38
  go_wp2_with (go_at_call 67; go_must (first | with_reducible refine Calls.mono (in39_calls _ _ _ h_bytes _) ?_ | with_reducible refine Calls.mono (in39_calls _ _ _ h_trail _) ?_ | with_reducible refine Calls.mono (in39_calls _ _ _ h_marks _) ?_ | with_reducible refine Calls.mono (in39_calls _ _ _ h_ahead _) ?_ | with_reducible refine Calls.mono (in39_calls _ _ _ h_tickets _) ?_ | with_reducible refine Calls.mono (in39_calls _ _ _ h_retries _) ?_ | with_reducible refine Calls.mono (in39_calls _ _ _ h_step _) ?_); rintro e w9 ⟨rfl, h9⟩; subst h9)
  go_ret
  exact ⟨true, rfl, fun _ => ⟨h_bytes, h_trail, h_marks, h_ahead, h_tickets, h_retries, h_step⟩, (by repeat (first | (with_reducible assumption) | (with_reducible exact Below.refl _ _) | (with_reducible apply below_drewL) | (with_reducible apply below_alloc) | (with_reducible apply below_drew1) | (with_reducible apply below_drewN) | (refine below_set ?_ (by first | omega | (simp only [size_alloc, size_drew, size_set]; omega)) _ _)))⟩
theorem wpar_calls (p : Par) (hp : ParOk p) (w : World) : Calls Tryz.prog 19 #[parV p] w fun e w' => e = .returned (.bool true) ∧ Below w.heap.size w w' := by
  unfold parV
  obtain ⟨h_bytes, h_trail, h_marks, h_ahead, h_tickets, h_retries, h_step⟩ := hp
  go_enter Tryz.func19, Tryz.ntmps19
  go_wp2_with (go_at_call 49; go_must (first | with_reducible refine Calls.mono (win_calls _ _ _ h_bytes _) ?_ | with_reducible refine Calls.mono (win_calls _ _ _ h_trail _) ?_ | with_reducible refine Calls.mono (win_calls _ _ _ h_marks _) ?_ | with_reducible refine Calls.mono (win_calls _ _ _ h_ahead _) ?_ | with_reducible refine Calls.mono (win_calls _ _ _ h_tickets _) ?_ | with_reducible refine Calls.mono (win_calls _ _ _ h_retries _) ?_ | with_reducible refine Calls.mono (win_calls _ _ _ h_step _) ?_); rintro e w9 ⟨rfl, h9⟩; subst h9)
  go_ret
  exact ⟨rfl, (by repeat (first | (with_reducible assumption) | (with_reducible exact Below.refl _ _) | (with_reducible apply below_drewL) | (with_reducible apply below_alloc) | (with_reducible apply below_drew1) | (with_reducible apply below_drewN) | (refine below_set ?_ (by first | omega | (simp only [size_alloc, size_drew, size_set]; omega)) _ _)))⟩
end Go.Proofs.YtoambcpjdcehhaaGreat.Id

/- Which plans may be; what New computes. -/
set_option linter.unusedVariables false
set_option linter.unusedSimpArgs false
namespace Go.Proofs.YtoambcpjdcehhaaGreat.Id
open Go Go.RowKit Go.Shelf Go.Proofs.YtoambcpjdcehhaaGreat.Can Go.Proofs.YtoambcpjdcehhaaGreat.Base Go.Proofs.YtoambcpjdcehhaaGreat.Tb
open Go.Proofs.YtoambcpjdcehhaaGreat.Fn hiding get_calls
attribute [local go_sem] clsB AB.cell

/-- A plan that may be. -/
structure PlOk (l : Lx) (mode : Int) (P : Par) : Prop where
  lex : rightB l = true
  m0 : 0 ≤ mode
  m1 : mode < l.modes.length
  par : ParOk P
set_option maxRecDepth 20000 in
theorem rplan_calls (A1 A2 A3 : Option Addr) (n1 n2 n3 c1 c2 c3 : Nat) (l : Lx) (mode : Int) (P : Par) (S : Nat → Prop) (w : World) (hL : LX w S A1 A2 A3 n1 n2 n3 l) :
    Calls Tryz.prog 13 #[.agg #[.slice A1 n1 c1, .slice A2 n2 c2, .slice A3 n3 c3], .int .i64 mode, parV P] w fun e w' => ∃ k, e = .returned (.int .i64 k) ∧ (k = 0 → PlOk l mode P) ∧ Below w.heap.size w w' := by
  have hz1 := hL.modes.le
  have hm := hL.modes.1
  have HR := Hd.mk (fun W hW => rright_calls A1 A2 A3 n1 n2 n3 c1 c2 c3 l _ rfl S W (hL.below (w' := W) hW))
  have HP := Hd.mk (fun W => rpar_calls P W)
  unfold parV at HP ⊢
  have hv0 := blk_alloc (blk_new w (.cells #[.slice A1 n1 c1, .slice A2 n2 c2, .slice A3 n3 c3] 26 (0, 0)) _ rfl) (.cells #[.int .i64 P.bytes, .int .i64 P.trail, .int .i64 P.marks, .int .i64 P.ahead, .int .i64 P.tickets, .int .i64 P.retries, .int .i64 P.step] 28 (0, 0))
  have hv1 := blk_new (w.alloc (.cells #[.slice A1 n1 c1, .slice A2 n2 c2, .slice A3 n3 c3] 26 (0, 0))) (.cells #[.int .i64 P.bytes, .int .i64 P.trail, .int .i64 P.marks, .int .i64 P.ahead, .int .i64 P.tickets, .int .i64 P.retries, .int .i64 P.step] 28 (0, 0)) (w.heap.size + 1) (by rw [size_alloc])
  have HV0 := Hd.mk hv0; have HV1 := Hd.mk hv1
  clear hv0 hv1 hL
  obtain ⟨b, hb⟩ : ∃ b, rightB l = b := ⟨_, rfl⟩
  rw [hb] at HR
  have HB := Hd.mk hb
  have HM := Hd.mk hm
  clear hb hm
  cases b with
  | false =>
    go_enter Tryz.func13, Tryz.ntmps13
    go_wp2_with (go_at_call 37; go_must (refine Calls.mono (HR.out _ (by repeat (first | (with_reducible assumption) | (with_reducible exact Below.refl _ _) | (with_reducible apply below_drewL) | (with_reducible apply below_alloc) | (with_reducible apply below_drew1) | (with_reducible apply below_drewN) | (refine below_set ?_ (by first | omega | (simp only [size_alloc, size_drew, size_set]; omega)) _ _)))) ?_; rintro e w1 ⟨rfl, hb1⟩))
    go_ret
    exact ⟨3, rfl, fun h => (by cases h), below_seq (a := w) (by repeat (first | (with_reducible assumption) | (with_reducible exact Below.refl _ _) | (with_reducible apply below_drewL) | (with_reducible apply below_alloc) | (with_reducible apply below_drew1) | (with_reducible apply below_drewN) | (refine below_set ?_ (by first | omega | (simp only [size_alloc, size_drew, size_set]; omega)) _ _))) hb1⟩
  | true =>
    by_cases h1 : mode < 0
    · go_enter Tryz.func13, Tryz.ntmps13
      go_wp2_with (go_at_call 37; go_must (refine Calls.mono (HR.out _ (by repeat (first | (with_reducible assumption) | (with_reducible exact Below.refl _ _) | (with_reducible apply below_drewL) | (with_reducible apply below_alloc) | (with_reducible apply below_drew1) | (with_reducible apply below_drewN) | (refine below_set ?_ (by first | omega | (simp only [size_alloc, size_drew, size_set]; omega)) _ _)))) ?_; rintro e w1 ⟨rfl, hb1⟩))
      go_ret
      exact ⟨11, rfl, fun h => (by cases h), below_seq (a := w) (by repeat (first | (with_reducible assumption) | (with_reducible exact Below.refl _ _) | (with_reducible apply below_drewL) | (with_reducible apply below_alloc) | (with_reducible apply below_drew1) | (with_reducible apply below_drewN) | (refine below_set ?_ (by first | omega | (simp only [size_alloc, size_drew, size_set]; omega)) _ _))) hb1⟩
    · by_cases h2 : (n1 : Int) ≤ mode
      · go_enter Tryz.func13, Tryz.ntmps13
        go_wp2_with (go_at_call 37; go_must (refine Calls.mono (HR.out _ (by repeat (first | (with_reducible assumption) | (with_reducible exact Below.refl _ _) | (with_reducible apply below_drewL) | (with_reducible apply below_alloc) | (with_reducible apply below_drew1) | (with_reducible apply below_drewN) | (refine below_set ?_ (by first | omega | (simp only [size_alloc, size_drew, size_set]; omega)) _ _)))) ?_; rintro e w1 ⟨rfl, hb1⟩; have hv0 := blk_below HV0.out hb1; have hv0c0 := blk_cell hv0 0 _ rfl; have hv0f0 := blk_frozen hv0 0; have hv0c1 := blk_cell hv0 1 _ rfl; have hv0f1 := blk_frozen hv0 1; have hv0c2 := blk_cell hv0 2 _ rfl; have hv0f2 := blk_frozen hv0 2; have hv0l := blk_lt hv0))
        go_ret
        exact ⟨11, rfl, fun h => (by cases h), below_seq (a := w) (by repeat (first | (with_reducible assumption) | (with_reducible exact Below.refl _ _) | (with_reducible apply below_drewL) | (with_reducible apply below_alloc) | (with_reducible apply below_drew1) | (with_reducible apply below_drewN) | (refine below_set ?_ (by first | omega | (simp only [size_alloc, size_drew, size_set]; omega)) _ _))) hb1⟩
      · go_enter Tryz.func13, Tryz.ntmps13
        go_wp2_with (first
          | (go_at_call 38; go_must (refine Calls.mono (HP.out _) ?_; rintro e w2 ⟨pb, rfl, hpb, hb2⟩; have HB2 := Hd.mk (below_seq HB1.out hb2); have HPB := Hd.mk hpb; clear hb2 hpb; cases pb))
          | (go_at_call 37; go_must (refine Calls.mono (HR.out _ (by repeat (first | (with_reducible assumption) | (with_reducible exact Below.refl _ _) | (with_reducible apply below_drewL) | (with_reducible apply below_alloc) | (with_reducible apply below_drew1) | (with_reducible apply below_drewN) | (refine below_set ?_ (by first | omega | (simp only [size_alloc, size_drew, size_set]; omega)) _ _)))) ?_; rintro e w1 ⟨rfl, hb1⟩; have hv0 := blk_below HV0.out hb1; have hv1 := blk_below HV1.out hb1; have hv0c0 := blk_cell hv0 0 _ rfl; have hv0f0 := blk_frozen hv0 0; have hv0c1 := blk_cell hv0 1 _ rfl; have hv0f1 := blk_frozen hv0 1; have hv0c2 := blk_cell hv0 2 _ rfl; have hv0f2 := blk_frozen hv0 2; have hv0l := blk_lt hv0; have hv1c0 := blk_cell hv1 0 _ rfl; have hv1f0 := blk_frozen hv1 0; have hv1c1 := blk_cell hv1 1 _ rfl; have hv1f1 := blk_frozen hv1 1; have hv1c2 := blk_cell hv1 2 _ rfl; have hv1f2 := blk_frozen hv1 2; have hv1c3 := blk_cell hv1 3 _ rfl; have hv1f3 := blk_frozen hv1 3; have hv1c4 := blk_cell hv1 4 _ rfl; have hv1f4 := blk_frozen hv1 4; have hv1c5 := blk_cell hv1 5 _ rfl; have hv1f5 := blk_frozen hv1 5; have hv1c6 := blk_cell hv1 6 _ rfl; have hv1f6 := blk_frozen hv1 6; have hv1l := blk_lt hv1; have HB1 := Hd.mk (below_seq (a := w) (by repeat (first | (with_reducible assumption) | (with_reducible exact Below.refl _ _) | (with_reducible apply below_drewL) | (with_reducible apply below_alloc) | (with_reducible apply below_drew1) | (with_reducible apply below_drewN) | (refine below_set ?_ (by first | omega | (simp only [size_alloc, size_drew, size_set]; omega)) _ _))) hb1); clear hb1)))
        · go_ret
          exact ⟨1, rfl, fun h => (by cases h), HB2.out⟩
        · go_ret
          exact ⟨0, rfl, fun _ => ⟨HB.out, by omega, by rw [HM.out]; omega, HPB.out (by trivial)⟩, HB2.out⟩
theorem plan_calls (A1 A2 A3 : Option Addr) (n1 n2 n3 c1 c2 c3 : Nat) (l : Lx) (mode : Int) (P : Par) (S : Nat → Prop) (w : World) (hL : LX w S A1 A2 A3 n1 n2 n3 l) :
    Calls Tryz.prog 6 #[.agg #[.slice A1 n1 c1, .slice A2 n2 c2, .slice A3 n3 c3, .int .i64 mode, .int .i64 P.bytes, .int .i64 P.trail, .int .i64 P.marks, .int .i64 P.ahead, .int .i64 P.tickets, .int .i64 P.retries, .int .i64 P.step]] w fun e w' => ∃ k, e = .returned (.int .i64 k) ∧ (k = 0 → PlOk l mode P) ∧ Below w.heap.size w w' := by
  have HR := Hd.mk (fun W hW => rplan_calls A1 A2 A3 n1 n2 n3 c1 c2 c3 l mode P S W (hL.below (w' := W) hW))
  unfold parV at HR
  clear hL
  go_enter Tryz.func6, Tryz.ntmps6
  go_wp2_with (go_at_call 13; go_must (refine Calls.mono (HR.out _ (by repeat (first | (with_reducible assumption) | (with_reducible exact Below.refl _ _) | (with_reducible apply below_drewL) | (with_reducible apply below_alloc) | (with_reducible apply below_drew1) | (with_reducible apply below_drewN) | (refine below_set ?_ (by first | omega | (simp only [size_alloc, size_drew, size_set]; omega)) _ _)))) ?_; rintro e w1 ⟨k, rfl, hk, hb1⟩))
  go_ret
  exact ⟨k, rfl, hk, below_seq (a := w) (by repeat (first | (with_reducible assumption) | (with_reducible exact Below.refl _ _) | (with_reducible apply below_drewL) | (with_reducible apply below_alloc) | (with_reducible apply below_drew1) | (with_reducible apply below_drewN) | (refine below_set ?_ (by first | omega | (simp only [size_alloc, size_drew, size_set]; omega)) _ _))) hb1⟩
theorem light_calls (A1 A2 A3 : Option Addr) (n1 n2 n3 c1 c2 c3 : Nat) (l : Lx) (mode : Int) (P : Par) (S : Nat → Prop) (w : World) (hL : LX w S A1 A2 A3 n1 n2 n3 l) :
    Calls Tryz.prog 4 #[.agg #[.slice A1 n1 c1, .slice A2 n2 c2, .slice A3 n3 c3, .int .i64 mode, .int .i64 P.bytes, .int .i64 P.trail, .int .i64 P.marks, .int .i64 P.ahead, .int .i64 P.tickets, .int .i64 P.retries, .int .i64 P.step]] w fun e w' => ∃ b, e = .returned (.bool b) ∧ Below w.heap.size w w' := by
  have HR := Hd.mk (fun W hW => rfar_calls A1 A2 A3 n1 n2 n3 c1 c2 c3 l S W (hL.below (w' := W) hW))
  clear hL
  have hv := blk_new w (.cells #[.slice A1 n1 c1, .slice A2 n2 c2, .slice A3 n3 c3, .int .i64 mode, .int .i64 P.bytes, .int .i64 P.trail, .int .i64 P.marks, .int .i64 P.ahead, .int .i64 P.tickets, .int .i64 P.retries, .int .i64 P.step] 30 (0, 0)) _ rfl
  have HV := Hd.mk hv
  clear hv
  by_cases hby : P.bytes ≤ 200
  all_goals
    go_enter Tryz.func4, Tryz.ntmps4
    go_wp2_with (go_at_call 12; go_must (refine Calls.mono (HR.out _ (by repeat (first | (with_reducible assumption) | (with_reducible exact Below.refl _ _) | (with_reducible apply below_drewL) | (with_reducible apply below_alloc) | (with_reducible apply below_drew1) | (with_reducible apply below_drewN) | (refine below_set ?_ (by first | omega | (simp only [size_alloc, size_drew, size_set]; omega)) _ _)))) ?_; rintro e w1 ⟨⟨b, rfl⟩, hb1⟩; have hv := blk_below HV.out hb1; have hvc0 := blk_cell hv 0 _ rfl; have hvf0 := blk_frozen hv 0; have hvc1 := blk_cell hv 1 _ rfl; have hvf1 := blk_frozen hv 1; have hvc2 := blk_cell hv 2 _ rfl; have hvf2 := blk_frozen hv 2; have hvc3 := blk_cell hv 3 _ rfl; have hvf3 := blk_frozen hv 3; have hvc4 := blk_cell hv 4 _ rfl; have hvf4 := blk_frozen hv 4; have hvc5 := blk_cell hv 5 _ rfl; have hvf5 := blk_frozen hv 5; have hvc6 := blk_cell hv 6 _ rfl; have hvf6 := blk_frozen hv 6; have hvc7 := blk_cell hv 7 _ rfl; have hvf7 := blk_frozen hv 7; have hvc8 := blk_cell hv 8 _ rfl; have hvf8 := blk_frozen hv 8; have hvc9 := blk_cell hv 9 _ rfl; have hvf9 := blk_frozen hv 9; have hvc10 := blk_cell hv 10 _ rfl; have hvf10 := blk_frozen hv 10; have hvl := blk_lt hv; cases b))
    all_goals
      go_ret
      exact ⟨_, rfl, below_seq (a := w) (by repeat (first | (with_reducible assumption) | (with_reducible exact Below.refl _ _) | (with_reducible apply below_drewL) | (with_reducible apply below_alloc) | (with_reducible apply below_drew1) | (with_reducible apply below_drewN) | (refine below_set ?_ (by first | omega | (simp only [size_alloc, size_drew, size_set]; omega)) _ _))) hb1⟩
/-- An operation. -/
structure Opn where
  k : Int
  n : Int
  data : ByteArray
def opE (o : Opn) : List Value := [.int .i64 o.k, .int .i64 o.n, .string o.data]
def opV (o : Opn) : Value := .agg #[.int .i64 o.k, .int .i64 o.n, .string o.data]
theorem op_len (o : Opn) : (opE o).length = 3 := rfl
theorem op_one (o : Opn) : ∀ u ∈ opE o, u.oneCell' = true := fun u hu => by simp [opE] at hu; rcases hu with rfl | rfl | rfl <;> rfl
abbrev opT : Ty Opn := Ty.flat 3 opE op_len op_one
theorem op_get {w : World} {S : Nat → Prop} {A : Option Addr} {n : Nat} {l : List Opn} (h : Row opT w S A n l) (k : Nat) (hk : k < n) :
    ∃ b off o, A = some ⟨b, off, none⟩ ∧ b < w.heap.size ∧ l[k]? = some o ∧ w.cell? ⟨b, off + k * 3, none⟩ = some (.int .i64 o.k) ∧ w.cell? ⟨b, off + k * 3 + 1, none⟩ = some (.int .i64 o.n) ∧ w.cell? ⟨b, off + k * 3 + 2, none⟩ = some (.string o.data) := by
  obtain ⟨b, off, e, he, _, hx, hc⟩ := flat_at h k hk
  exact ⟨b, off, e, he, World.block_lt_of_cell? w _ (hc 0 _ rfl), hx, hc 0 _ rfl, hc 1 _ rfl, hc 2 _ rfl⟩
def rofE (e : Ending) (L : List Opn) : Prop := ∃ b : Bool, e = .returned (.bool b) ∧ (b = false → L.length ≤ 60 ∧ ∀ o ∈ L, o.data.size ≤ 40)
set_option maxRecDepth 20000 in
set_option maxHeartbeats 2000000 in
theorem rofar_calls (A : Option Addr) (n c : Nat) (L : List Opn) (S : Nat → Prop) (w : World) (hS : ∀ k, S k → k < w.heap.size) (hC : Row opT w S A n L) (hsz : ∀ o ∈ L, o.data.size ≤ 9223372036854775807) :
    Calls Tryz.prog 5 #[.slice A n c] w fun e w' => rofE e L ∧ Below w.heap.size w w' := by
  have hn := hC.le
  have HLn := Hd.mk hC.1
  have HC := Hd.mk hC; have HS := Hd.mk hS; have HSZ := Hd.mk hsz
  clear hC hS hsz
  go_enter Tryz.func5, Tryz.ntmps5
  go_wp2
  go_loopw [3, 4] (fun x i wr => ∃ (k m : Nat), k ≤ n ∧ k ≤ 100 ∧ m ≤ 40 * k ∧ i = .int .i64 k ∧ x = .int .i64 m ∧ Hd (∀ o ∈ L.take k, o.data.size ≤ 40) ∧ wr = w) (fun _ i _ => n - (intOf i).toNat)
  case atStart => exact ⟨0, 0, Nat.zero_le _, Nat.zero_le _, Nat.zero_le _, rfl, rfl, ⟨by simp⟩, rfl⟩
  case round =>
    obtain ⟨k, m, hk, hk100, hm, rfl, rfl, HB, rfl⟩ := hrel
    by_cases hlt : k < n
    · by_cases hk1 : k < 100
      · obtain ⟨b, o, x, rfl, hb1, hx, hy0, hy1, hy2⟩ := op_get HC.out k hlt
        have hxs := HSZ.out x (List.mem_of_getElem? hx)
        by_cases h40 : 40 < x.data.size
        · clear hx
          go_wp2
          go_ret
          exact ⟨⟨true, rfl, fun h => (by cases h)⟩, Below.refl _ _⟩
        · have HT : Hd (∀ o ∈ L.take (k + 1), o.data.size ≤ 40) := ⟨by
            rw [List.take_add_one, hx]
            intro o ho
            rcases List.mem_append.1 ho with ho | ho
            · exact HB.out o ho
            · simp at ho; subst ho; omega⟩
          clear hx
          go_wp2
          go_roundw
          case rel => exact ⟨k + 1, m + x.data.size, by omega, by omega, by omega, by go_num, by go_num, HT, by trivial⟩
          case measure => simp [intOf]; omega
      · have hk2 : k = 100 := by omega
        subst hk2
        have h60 : (60 : Int) < n := by omega
        go_wp2
        go_ret
        exact ⟨⟨true, rfl, fun h => (by cases h)⟩, Below.refl _ _⟩
    · obtain rfl : k = n := by omega
      have hL : L.take k = L := by rw [← HLn.out, List.take_length]
      have HB2 : Hd (∀ o ∈ L, o.data.size ≤ 40) := ⟨by rw [← hL]; exact HB.out⟩
      clear hL
      by_cases h60 : (60 : Int) < k
      · go_wp2
        go_ret
        exact ⟨⟨true, rfl, fun h => (by cases h)⟩, Below.refl _ _⟩
      · go_wp2
        go_ret
        exact ⟨⟨_, rfl, fun _ => ⟨by rw [HLn.out]; omega, HB2.out⟩⟩, Below.refl _ _⟩
/-- What an operation answers. -/
structure Res where
  e : Int
  n : Int
  tok : Tok
def resV (r : Res) : Value := .agg #[.int .i64 r.e, .int .i64 r.n, .int .i64 r.tok.k, .int .i64 r.tok.r, .int .i64 r.tok.f, .int .i64 r.tok.a, .int .i64 r.tok.t, .int .i64 r.tok.m]
theorem fail_calls (e : Int) (w : World) : Calls Tryz.prog 22 #[.int .i64 e] w fun x w' => x = .returned (.agg #[.int .i64 e, .int .i64 0, .int .i64 0, .int .i64 0, .int .i64 0, .int .i64 0, .int .i64 0, .int .i64 0]) ∧ Below w.heap.size w w' := by
  go_enter Tryz.func22, Tryz.ntmps22
  go_wp2
  refine bodyPost_ret (results_cell_row rfl _ _ w.heap.size 45 #[.int .i64 e, .int .i64 0, .int .i64 0, .int .i64 0, .int .i64 0, .int .i64 0, .int .i64 0, .int .i64 0] (0,0) _ rfl (blk_new _ _ _ rfl) Tryz.underlying45 rfl (by kernel_rfl)) rfl ?_
  exact ⟨rfl, (by repeat (first | (with_reducible assumption) | (with_reducible exact Below.refl _ _) | (with_reducible apply below_drewL) | (with_reducible apply below_alloc) | (with_reducible apply below_drew1) | (with_reducible apply below_drewN) | (refine below_set ?_ (by first | omega | (simp only [size_alloc, size_drew, size_set]; omega)) _ _)))⟩
end Go.Proofs.YtoambcpjdcehhaaGreat.Id

/- What New computes. -/
set_option linter.unusedVariables false
set_option linter.unusedSimpArgs false
namespace Go.Proofs.YtoambcpjdcehhaaGreat.Id
open Go Go.RowKit Go.Shelf Go.Proofs.YtoambcpjdcehhaaGreat.Can Go.Proofs.YtoambcpjdcehhaaGreat.Base Go.Proofs.YtoambcpjdcehhaaGreat.Tb
open Go.Proofs.YtoambcpjdcehhaaGreat.Fn hiding get_calls
attribute [local go_sem] clsB AB.cell

/-- A cursor as it is made. -/
def cu0 (C : Cf) (mode : Int) : Cu := ⟨[], false, ⟨⟨0, mode⟩, depthOf C, none, 0, 0⟩, [], List.replicate C.m (slot0, [])⟩
theorem newD_pos (n : Int) : 1 ≤ newD n ∧ newD n ≤ 4096 := by unfold newD; split <;> (try split) <;> omega
theorem lowUpto_free (m : Nat) (or : Int) : ∀ k, lowUpto (List.replicate m slot0) or k = or
  | 0 => rfl
  | k + 1 => by
    unfold lowUpto
    rw [lowUpto_free m or k]
    cases h : (List.replicate m slot0)[k]? with
    | none => rfl
    | some s =>
      have := List.mem_of_getElem? h
      rw [(List.mem_replicate.1 this).2]; rfl
set_option maxRecDepth 20000 in
set_option maxHeartbeats 2000000 in
theorem new_cursor (A1 A2 A3 : Option Addr) (n1 n2 n3 c1 c2 c3 : Nat) (l : Lx) (mode : Int) (P : Par) (hP : PlOk l mode P) (S : Nat → Prop) (w : World) (hL : LX w S A1 A2 A3 n1 n2 n3 l) :
    Calls Tryz.prog 8 #[.agg #[.slice A1 n1 c1, .slice A2 n2 c2, .slice A3 n3 c3], .int .i64 mode, parV P] w fun e w' =>
      ∃ C : Cf, C.A1 = A1 ∧ C.A2 = A2 ∧ C.A3 = A3 ∧ C.n1 = n1 ∧ C.n2 = n2 ∧ C.n3 = n3 ∧ C.P = P ∧ C.base = w.heap.size ∧ e = .returned (.tuple #[.pointer (some ⟨C.p, 0, none⟩), .int .i64 0]) ∧ CW w' C 0 (cu0 C mode) (.slice none 0 0) (fun _ => False) ∧ Below w.heap.size w w' := by
  have hz1 := hL.modes.le
  have hm := hL.modes.1
  have h1 := hP.m0
  have h2 := hP.m1
  rw [hm] at h2
  have HR := Hd.mk (fun W hW => tright_calls A1 A2 A3 n1 n2 n3 c1 c2 c3 l true hP.lex S W (hL.below (w' := W) hW))
  have HP := Hd.mk (fun W => wpar_calls P hP.par W)
  unfold parV at HP ⊢
  have hv0 := blk_alloc (blk_new w (.cells #[.slice A1 n1 c1, .slice A2 n2 c2, .slice A3 n3 c3] 26 (0, 0)) _ rfl) (.cells #[.int .i64 P.bytes, .int .i64 P.trail, .int .i64 P.marks, .int .i64 P.ahead, .int .i64 P.tickets, .int .i64 P.retries, .int .i64 P.step] 28 (0, 0))
  have hv1 := blk_new (w.alloc (.cells #[.slice A1 n1 c1, .slice A2 n2 c2, .slice A3 n3 c3] 26 (0, 0))) (.cells #[.int .i64 P.bytes, .int .i64 P.trail, .int .i64 P.marks, .int .i64 P.ahead, .int .i64 P.tickets, .int .i64 P.retries, .int .i64 P.step] 28 (0, 0)) (w.heap.size + 1) (by rw [size_alloc])
  have HV0 := Hd.mk hv0; have HV1 := Hd.mk hv1
  clear hv0 hv1 hL hP hm
  have hd1 : decide (mode < 0) = false := by simpa using h1
  have hd2 : decide ((n1 : Int) ≤ mode) = false := by simpa using h2
  go_enter Tryz.func8, Tryz.ntmps8
  go_wp2_with (first
    | (go_at_call 20; go_must (with_reducible refine Calls.mono (Fn.new_calls P.trail _) ?_; rintro e w3 ⟨rfl, hb3⟩; have HB3 := Hd.mk (below_seq HB2.out hb3); clear hu0c0 hu0f0 hu0c1 hu0f1 hu0c2 hu0f2 hu0l; clear hu1c0 hu1f0 hu1c1 hu1f1 hu1c2 hu1f2 hu1c3 hu1f3 hu1c4 hu1f4 hu1c5 hu1f5 hu1c6 hu1f6 hu1l; have hu0 := blk_below HU0.out hb3; have hu1 := blk_below HU1.out hb3; have hu0c0 := blk_cell hu0 0 _ rfl; have hu0f0 := blk_frozen hu0 0; have hu0c1 := blk_cell hu0 1 _ rfl; have hu0f1 := blk_frozen hu0 1; have hu0c2 := blk_cell hu0 2 _ rfl; have hu0f2 := blk_frozen hu0 2; have hu0l := blk_lt hu0; have hu1c0 := blk_cell hu1 0 _ rfl; have hu1f0 := blk_frozen hu1 0; have hu1c1 := blk_cell hu1 1 _ rfl; have hu1f1 := blk_frozen hu1 1; have hu1c2 := blk_cell hu1 2 _ rfl; have hu1f2 := blk_frozen hu1 2; have hu1c3 := blk_cell hu1 3 _ rfl; have hu1f3 := blk_frozen hu1 3; have hu1c4 := blk_cell hu1 4 _ rfl; have hu1f4 := blk_frozen hu1 4; have hu1c5 := blk_cell hu1 5 _ rfl; have hu1f5 := blk_frozen hu1 5; have hu1c6 := blk_cell hu1 6 _ rfl; have hu1f6 := blk_frozen hu1 6; have hu1l := blk_lt hu1; have HX0 := Hd.mk hu0; have HX1 := Hd.mk hu1; clear hu0 hu1 hb3))
    | (go_at_call 19; go_must (refine Calls.mono (HP.out _) ?_; rintro e w2 ⟨rfl, hb2⟩; have HB2 := Hd.mk (below_seq HB1.out hb2); clear hv0c0 hv0f0 hv0c1 hv0f1 hv0c2 hv0f2 hv0l; clear hv1c0 hv1f0 hv1c1 hv1f1 hv1c2 hv1f2 hv1c3 hv1f3 hv1c4 hv1f4 hv1c5 hv1f5 hv1c6 hv1f6 hv1l; have hu0 := blk_below HW0.out hb2; have hu1 := blk_below HW1.out hb2; have hu0c0 := blk_cell hu0 0 _ rfl; have hu0f0 := blk_frozen hu0 0; have hu0c1 := blk_cell hu0 1 _ rfl; have hu0f1 := blk_frozen hu0 1; have hu0c2 := blk_cell hu0 2 _ rfl; have hu0f2 := blk_frozen hu0 2; have hu0l := blk_lt hu0; have hu1c0 := blk_cell hu1 0 _ rfl; have hu1f0 := blk_frozen hu1 0; have hu1c1 := blk_cell hu1 1 _ rfl; have hu1f1 := blk_frozen hu1 1; have hu1c2 := blk_cell hu1 2 _ rfl; have hu1f2 := blk_frozen hu1 2; have hu1c3 := blk_cell hu1 3 _ rfl; have hu1f3 := blk_frozen hu1 3; have hu1c4 := blk_cell hu1 4 _ rfl; have hu1f4 := blk_frozen hu1 4; have hu1c5 := blk_cell hu1 5 _ rfl; have hu1f5 := blk_frozen hu1 5; have hu1c6 := blk_cell hu1 6 _ rfl; have hu1f6 := blk_frozen hu1 6; have hu1l := blk_lt hu1; have HU0 := Hd.mk hu0; have HU1 := Hd.mk hu1; clear hu0 hu1 hb2))
    | (go_at_call 18; go_must (refine Calls.mono (HR.out _ (by repeat (first | (with_reducible assumption) | (with_reducible exact Below.refl _ _) | (with_reducible apply below_drewL) | (with_reducible apply below_alloc) | (with_reducible apply below_drew1) | (with_reducible apply below_drewN) | (refine below_set ?_ (by first | omega | (simp only [size_alloc, size_drew, size_set]; omega)) _ _)))) ?_; rintro e w1 ⟨rfl, hb1⟩; have hv0 := blk_below HV0.out hb1; have hv1 := blk_below HV1.out hb1; have hv0c0 := blk_cell hv0 0 _ rfl; have hv0f0 := blk_frozen hv0 0; have hv0c1 := blk_cell hv0 1 _ rfl; have hv0f1 := blk_frozen hv0 1; have hv0c2 := blk_cell hv0 2 _ rfl; have hv0f2 := blk_frozen hv0 2; have hv0l := blk_lt hv0; have hv1c0 := blk_cell hv1 0 _ rfl; have hv1f0 := blk_frozen hv1 0; have hv1c1 := blk_cell hv1 1 _ rfl; have hv1f1 := blk_frozen hv1 1; have hv1c2 := blk_cell hv1 2 _ rfl; have hv1f2 := blk_frozen hv1 2; have hv1c3 := blk_cell hv1 3 _ rfl; have hv1f3 := blk_frozen hv1 3; have hv1c4 := blk_cell hv1 4 _ rfl; have hv1f4 := blk_frozen hv1 4; have hv1c5 := blk_cell hv1 5 _ rfl; have hv1f5 := blk_frozen hv1 5; have hv1c6 := blk_cell hv1 6 _ rfl; have hv1f6 := blk_frozen hv1 6; have hv1l := blk_lt hv1; have HW0 := Hd.mk hv0; have HW1 := Hd.mk hv1; have HB1 := Hd.mk (below_seq (a := w) (by repeat (first | (with_reducible assumption) | (with_reducible exact Below.refl _ _) | (with_reducible apply below_drewL) | (with_reducible apply below_alloc) | (with_reducible apply below_drew1) | (with_reducible apply below_drewN) | (refine below_set ?_ (by first | omega | (simp only [size_alloc, size_drew, size_set]; omega)) _ _))) hb1); clear hb1 hv0 hv1)))
  clear hu0c0 hu0f0 hu0c1 hu0f1 hu0c2 hu0f2 hu0l
  clear hu1c0 hu1f0 hu1c1 hu1f1 hu1c2 hu1f2 hu1c3 hu1f3 hu1c4 hu1f4 hu1c5 hu1f5 hu1c6 hu1f6 hu1l
  have hz3 := HB3.out.size
  generalize hV : World.alloc _ _ = V
  have HBV : Below w3.heap.size w3 V := below_of hV (by repeat (first | (with_reducible assumption) | (with_reducible exact Below.refl _ _) | (with_reducible apply below_drewL) | (with_reducible apply below_alloc) | (with_reducible apply below_drew1) | (with_reducible apply below_drewN) | (refine below_set ?_ (by first | omega | (simp only [size_alloc, size_drew, size_set]; omega)) _ _)))
  have zV : Hd (V.heap.size = w3.heap.size + 1) := ⟨by rw [← hV]; simp only [size_alloc]⟩
  have V0 := at_of hV (blk_new _ _ _ rfl)
  have V0l := blk_lt V0
  clear hV
  have HBV2 := Hd.mk (below_seq HB3.out HBV)
  have hu0 := blk_below HX0.out HBV
  have hu1 := blk_below HX1.out HBV
  have hu0c0 := blk_cell hu0 0 _ rfl; have hu0f0 := blk_frozen hu0 0; have hu0c1 := blk_cell hu0 1 _ rfl; have hu0f1 := blk_frozen hu0 1; have hu0c2 := blk_cell hu0 2 _ rfl; have hu0f2 := blk_frozen hu0 2; have hu0l := blk_lt hu0
  have hu1c0 := blk_cell hu1 0 _ rfl; have hu1f0 := blk_frozen hu1 0; have hu1c1 := blk_cell hu1 1 _ rfl; have hu1f1 := blk_frozen hu1 1; have hu1c2 := blk_cell hu1 2 _ rfl; have hu1f2 := blk_frozen hu1 2; have hu1c3 := blk_cell hu1 3 _ rfl; have hu1f3 := blk_frozen hu1 3; have hu1c4 := blk_cell hu1 4 _ rfl; have hu1f4 := blk_frozen hu1 4; have hu1c5 := blk_cell hu1 5 _ rfl; have hu1f5 := blk_frozen hu1 5; have hu1c6 := blk_cell hu1 6 _ rfl; have hu1f6 := blk_frozen hu1 6; have hu1l := blk_lt hu1
  have V0c0 := blk_cell V0 0 _ rfl
  have V0f0 := blk_frozen V0 0
  have V0c1 := blk_cell V0 1 _ rfl
  have V0f1 := blk_frozen V0 1
  have V0c2 := blk_cell V0 2 _ rfl
  have V0f2 := blk_frozen V0 2
  have V0c3 := blk_cell V0 3 _ rfl
  have V0f3 := blk_frozen V0 3
  clear hu0 hu1 HBV
  refine wp_region_can (.q [0, 1, 2, 3, 4] (.e 5 true (.q [6] (.e 7 false (.q [8, 9] (.done)))))) (clsB _) (by kernel_rfl) (by kernel_rfl) (by intro _ _ d _ _ h; cases d <;> exact h) (clsB_drew _) ?_
  refine can_q (l := [⟨_,_,_,_,_,_⟩, ⟨_,_,_,_,_,_⟩, ⟨_,_,_,_,_,_⟩, ⟨_,_,_,_,_,_⟩, ⟨_,_,_,_,_,_⟩]) rfl ?_
  repeat (go_big_quiet_step (fail))
  refine wpQuiet_nil ?_
  refine can_e (o := ⟨_,_,_,_,_,_⟩) rfl (fun K hK => ?_)
  go_wp2_with (go_at_call 21; go_must (with_reducible refine Calls.mono (Fn.mnew_calls P.marks _) ?_; rintro e w4 ⟨T, R, rfl, hT, hR, hTab, hb4⟩; replace hb4 := below_undrew hb4))
  refine onK_normal (hK _ _ ⟨clsB _, clsB_of (by first | exact (hb4) | exact below_undrew (hb4)), fun _ _ h => h, ?_⟩)
  clear hK K
  refine can_q (l := [⟨_,_,_,_,_,_⟩]) rfl ?_
  repeat (go_big_quiet_step (fail))
  refine wpQuiet_nil ?_
  refine can_e (o := ⟨_,_,_,_,_,_⟩) rfl (fun K hK => ?_)
  go_wp2_with fail
  refine onK_normal (hK _ _ ⟨fun _ => True, trivial, (fun h => by cases h), ?_⟩)
  clear hK K
  refine can_q (l := [⟨_,_,_,_,_,_⟩, ⟨_,_,_,_,_,_⟩]) rfl ?_
  repeat (go_big_quiet_step (fail))
  refine wpQuiet_nil ?_
  refine can_done ?_
  go_wp2
  go_ret2
  have hz4 := hb4.size
  have hzV := zV.out
  have hw4 : w.heap.size ≤ w4.heap.size := by have := HBV2.out.size; omega
  have hTV : w.heap.size ≤ T ∧ w.heap.size ≤ R := by simp only [heap_drew] at hT hR; have := HBV2.out.size; omega
  have hTab2 := hTab.below (below_alloc (Below.refl _ w4) (.cells (cuC ⟨A1, A2, A3, n1, n2, n3, c1, c2, c3, P, w4.heap.size, T, R, roomN P.marks, w.heap.size⟩ (cu0 ⟨A1, A2, A3, n1, n2, n3, c1, c2, c3, P, w4.heap.size, T, R, roomN P.marks, w.heap.size⟩ mode) (.slice none 0 0)) 74 (0, 0)))
  have hTl := blk_lt hTab.str
  have hRl := hTab.row.lt
  have hdp := newD_pos P.trail
  refine ⟨⟨A1, A2, A3, n1, n2, n3, c1, c2, c3, P, w4.heap.size, T, R, roomN P.marks, w.heap.size⟩, rfl, rfl, rfl, rfl, rfl, rfl, rfl, rfl, rfl, ⟨blk_new _ _ _ rfl, Mine.nil _ _ _ _, ?_, ⟨Row.nil _ _ _ _, Nat.le_refl _, fun _ => rfl, rfl, ?_⟩, ?_, fun k hk => hk.elim, (fun h => by cases h), (fun h => by cases h), (fun h => by cases h), ?_, ?_, hw4, hTV.1, hTV.2⟩, ?_⟩
  · have : (cu0 ⟨A1, A2, A3, n1, n2, n3, c1, c2, c3, P, w4.heap.size, T, R, roomN P.marks, w.heap.size⟩ mode).L = List.replicate (roomN P.marks) slot0 := by simp [Cu.L, cu0]
    rw [this]
    exact hTab2
  · show (0 : Int) ≤ newD P.trail; omega
  · intro x hx ht
    have hx' := (List.mem_replicate.1 hx).2
    subst hx'
    cases ht
  · show w4.heap.size ≠ T; omega
  · show w4.heap.size ≠ R; omega
  · exact below_alloc (below_seq HBV2.out hb4) _
end Go.Proofs.YtoambcpjdcehhaaGreat.Id
