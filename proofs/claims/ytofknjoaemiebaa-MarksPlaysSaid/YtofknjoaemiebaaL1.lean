/- MarksPlays: the walk. -/
import Derived.Test.YtofknjoaemiebaaM8
import Derived.Test.YtofknjoaemiebaaOpens
import Derived.Deep.CutBlock
namespace Go.Proofs.Ytofknjoaemiebaa.Fn
open Go Go.RowKit Go.Proofs.Ytofknjoaemiebaa.Can Go.Proofs.Ytofknjoaemiebaa.Base
attribute [local go_sem] clsB AB.cell clsX AX.cell

/-- A call at a table. -/
structure Act where
  kind : Int
  n : Int
  low : Int
def actE (s : Act) : List Value := [.int .i64 s.kind, .int .i64 s.n, .int .i64 s.low]
def actT : Ty Act := Ty.flat 3 actE (fun _ => rfl) (fun _ u hu => by simp [actE] at hu; rcases hu with rfl | rfl | rfl <;> rfl)
theorem act_get {w : World} {S : Nat → Prop} {A : Option Addr} {n : Nat} {l : List Act} (h : Row actT w S A n l) (k : Nat) (hk : k < n) :
    ∃ b off s, A = some ⟨b, off, none⟩ ∧ b < w.heap.size ∧ l[k]? = some s ∧ w.cell? ⟨b, off + k * 3, none⟩ = some (.int .i64 s.kind) ∧ w.cell? ⟨b, off + k * 3 + 1, none⟩ = some (.int .i64 s.n) ∧ w.cell? ⟨b, off + k * 3 + 2, none⟩ = some (.int .i64 s.low) := by
  obtain ⟨b, off, cs, he, hs, hr, hcell⟩ := h.get k hk
  have hr' : cs = actE _ := hr
  subst hr'
  have h0 := hcell 0 _ rfl
  exact ⟨b, off, _, he, World.block_lt_of_cell? w _ h0, List.getElem?_eq_getElem _, h0, hcell 1 _ rfl, hcell 2 _ rfl⟩
theorem opens29 : Opens Try.prog 29 actT (fun _ => True) :=
  (opens_struct3 (a := Ty.int .i64) (b := Ty.int .i64) (c := Ty.int .i64) Try.underlying29 (opens_int Try.underlying3) (opens_int Try.underlying3) (opens_int Try.underlying3) rfl rfl rfl (by kernel_rfl) (by kernel_rfl) (by kernel_rfl) (by kernel_rfl)).map (fun x => ⟨x.1, x.2.1, x.2.2⟩) (fun _ _ => trivial) (by
    rintro w S x cs ⟨c0, c1, rfl, h0, c2, c3, rfl, h1, h2⟩
    have h0' : c0 = [.int .i64 x.1] := h0
    have h1' : c2 = [.int .i64 x.2.1] := h1
    have h2' : c3 = [.int .i64 x.2.2] := h2
    subst h0' h1' h2'
    rfl)
theorem opens22 : Opens Try.prog 22 (Ty.slice actT (by decide)) (fun _ => True) :=
  (opens_slice Try.underlying22 (by kernel_rfl) (by decide) opens29).map id (fun _ _ => trivial) (fun _ _ _ _ h => h)
theorem full_or {α : Type} (L : List (Slot α)) : (∀ s ∈ L, s.taken = true) ∨ ∃ (i : Nat) (s : Slot α), (∀ j : Nat, j < i → ∀ s : Slot α, L[j]? = some s → s.taken = true) ∧ L[i]? = some s ∧ s.taken = false := by
  induction L with
  | nil => exact .inl (by simp)
  | cons a L ih =>
    cases ha : a.taken with
    | false => exact .inr ⟨0, a, fun j hj => absurd hj (Nat.not_lt_zero j), rfl, ha⟩
    | true =>
      rcases ih with h | ⟨i, s, h1, h2, h3⟩
      · exact .inl (fun s hs => by rcases List.mem_cons.1 hs with rfl | hs; exact ha; exact h s hs)
      · refine .inr ⟨i + 1, s, fun j hj s' hs => ?_, by simpa using h2, h3⟩
        cases j with
        | zero => simp at hs; subst hs; exact ha
        | succ j => exact h1 j (by omega) s' (by simpa using hs)

set_option maxRecDepth 20000 in
set_option maxHeartbeats 4000000 in
theorem plays_calls (room or : Int) (A : Option Addr) (c : Nat) (xs : List Act) (S : Nat → Prop) (w : World) (hS : ∀ k, S k → k < w.heap.size) (hC : Row actT w S A xs.length xs) :
    Calls Try.prog 3 #[.int .i64 room, .slice A xs.length c, .int .i64 or] w fun e w' => e = .returned (.bool true) ∧ Below w.heap.size w w' := by
  have hc := hC.le
  have HS := Hd.mk hS; clear hS
  have HC := Hd.mk hC; clear hC
  by_cases hlong : 80 < xs.length
  · go_enter Try.func3, Try.ntmps3
    go_wp2_with (go_at_call 6; refine Calls.mono (alive_calls _) ?_; rintro e w1 ⟨rfl, hb1⟩)
    go_ret
    exact ⟨rfl, hb1⟩
  by_cases hrm : 200 < room
  · go_enter Try.func3, Try.ntmps3
    go_wp2_with (go_at_call 6; refine Calls.mono (alive_calls _) ?_; rintro e w1 ⟨rfl, hb1⟩)
    go_ret
    exact ⟨rfl, hb1⟩
  · have hm1 := roomN_pos room
    go_enter Try.func3, Try.ntmps3
    go_wp2_with (first
      | (go_at_call 8; go_must (refine Calls.mono (rnew_calls room w1) ?_; rintro e w2 ⟨q, b1, b2, c1, c2, rfl, hq, hqb1, hqb2, hQ, hb2⟩; have HQ := Hd.mk hQ; have HD := Hd.mk (HD1.out.below hb2); have hpq : p < q := (by have := blk_lt HD1.out.str; omega); have hrq : r < q := (by have := HD1.out.row.lt; omega); have HB := Hd.mk (below_seq HB1.out hb2); clear hQ hb2))
      | (go_at_call 7; go_must (refine Calls.mono (new_int room w) ?_; rintro e w1 ⟨p, r, rfl, hp, hr, h0, hb1⟩; have HD1 := Hd.mk h0; clear h0; have HB1 := Hd.mk hb1; clear hb1)))
    generalize roomN room = m at *
    go_loopw [32] (fun i wr => ∃ (k : Nat) (L : List (Slot Int)), k ≤ xs.length ∧ i = .int .i64 k ∧ Hd (Tab (Value.int .i64) 54 64 wr p r m m k L) ∧ Hd (RefT wr q b1 b2 m c1 c2 k L) ∧ Hd (Below w.heap.size w wr)) (fun i _ => xs.length - (intOf i).toNat)
    case atStart => exact ⟨0, _, Nat.zero_le _, rfl, HD, HQ, HB⟩
    case round =>
      clear HD HQ HB HD1 HB1 hq
      obtain ⟨k, L, hk, rfl, HD, HQ, HB⟩ := hrel
      by_cases hlt : k < xs.length
      · obtain ⟨b, off, s, rfl, hb1, _, hp0, hp1, hp2⟩ := act_get (HC.out.below HS.out HB.out) k hlt
        have hkB : k ≤ 1000000 := by omega
        go_upto_block 2 with fail
        go_cut [37] (fun _ wx => ∃ L', Hd (Tab (Value.int .i64) 54 64 wx p r m m (k + 1) L') ∧ Hd (RefT wx q b1 b2 m c1 c2 (k + 1) L') ∧ Hd (Below w.heap.size w wx))
        case first =>
          have hrw : r < wr.heap.size := HD.out.row.lt
          have hqw : q < wr.heap.size := blk_lt HQ.out.str
          have H0 : Hd (wr.heap.size ≤ wr.heap.size + 1) := ⟨by omega⟩
          by_cases hk0 : s.kind = 0
          · rcases full_or L with hfull | ⟨i, sl, hfree, hx, ht⟩
            · have HFu := Hd.mk hfull; clear hfull
              go_wp2_with (first
                | (go_at_call 10; go_must (refine Calls.mono (rsetfull_calls s.n s.low ((HQ.out.below (by repeat (first | (with_reducible assumption) | (with_reducible exact Below.refl _ _) | (with_reducible apply below_drewL) | (with_reducible apply below_alloc) | (with_reducible apply below_drew1) | (with_reducible apply below_drewN) | (refine below_set ?_ (by first | omega | (simp only [size_alloc, size_drew, size_set]; omega)) _ _)))).below hb2) HFu.out) ?_; rintro e w3 ⟨rfl, hb3⟩))
                | (go_at_call 9; go_must (refine Calls.mono (setfull_int s.n s.low (HD.out.below (by repeat (first | (with_reducible assumption) | (with_reducible exact Below.refl _ _) | (with_reducible apply below_drewL) | (with_reducible apply below_alloc) | (with_reducible apply below_drew1) | (with_reducible apply below_drewN) | (refine below_set ?_ (by first | omega | (simp only [size_alloc, size_drew, size_set]; omega)) _ _)))) HFu.out) ?_; rintro e w2 ⟨rfl, hb2⟩; have hv := blk_below (blk_new _ _ _ rfl) hb2; have hvc0 := blk_cell hv 0 _ rfl; have hvf0 := blk_frozen hv 0; have hvc1 := blk_cell hv 1 _ rfl; have hvf1 := blk_frozen hv 1; have hvc2 := blk_cell hv 2 _ rfl; have hvf2 := blk_frozen hv 2; have hvl := blk_lt hv)))
              go_meet
              case rel => exact ⟨L, ⟨(((HD.out.below (by repeat (first | (with_reducible assumption) | (with_reducible exact Below.refl _ _) | (with_reducible apply below_drewL) | (with_reducible apply below_alloc) | (with_reducible apply below_drew1) | (with_reducible apply below_drewN) | (refine below_set ?_ (by first | omega | (simp only [size_alloc, size_drew, size_set]; omega)) _ _)))).below hb2).below hb3).more (Nat.le_succ _)⟩, ⟨(((HQ.out.below (by repeat (first | (with_reducible assumption) | (with_reducible exact Below.refl _ _) | (with_reducible apply below_drewL) | (with_reducible apply below_alloc) | (with_reducible apply below_drew1) | (with_reducible apply below_drewN) | (refine below_set ?_ (by first | omega | (simp only [size_alloc, size_drew, size_set]; omega)) _ _)))).below hb2).below hb3).more (Nat.le_succ _)⟩, ⟨below_seq (below_seq (below_seq HB.out (by repeat (first | (with_reducible assumption) | (with_reducible exact Below.refl _ _) | (with_reducible apply below_drewL) | (with_reducible apply below_alloc) | (with_reducible apply below_drew1) | (with_reducible apply below_drewN) | (refine below_set ?_ (by first | omega | (simp only [size_alloc, size_drew, size_set]; omega)) _ _)))) hb2) hb3⟩⟩
            · obtain ⟨N, hN⟩ : ∃ N, numb m i sl = N := ⟨_, rfl⟩
              have HNu := Hd.mk hN; have HFr := Hd.mk hfree; have HX := Hd.mk hx; have HT := Hd.mk ht; clear hfree hx ht hN
              have hN0 : ¬ (N : Int) < 0 := by omega
              go_wp2_with (first
                | (go_at_call 10; go_must (refine Calls.mono (rset_calls s.n s.low HQ2.out hkB HFr.out HX.out HT.out) ?_; rintro e w3 ⟨he, h, f3⟩; rw [HNu.out] at he; subst he; have HQ3 := Hd.mk h; have HD3 := Hd.mk (HD2.out.by f3 (by omega) (by omega)); have HB3 : Hd (Below w.heap.size w w3) := ⟨Fr.seq HB2.out f3 HB2.out.size (fun b hb hx => by omega)⟩; clear h))
                | (go_at_call 9; go_must (refine Calls.mono (set_int s.n s.low (HD.out.below (by repeat (first | (with_reducible assumption) | (with_reducible exact Below.refl _ _) | (with_reducible apply below_drewL) | (with_reducible apply below_alloc) | (with_reducible apply below_drew1) | (with_reducible apply below_drewN) | (refine below_set ?_ (by first | omega | (simp only [size_alloc, size_drew, size_set]; omega)) _ _)))) hkB HFr.out HX.out HT.out) ?_; rintro e w2 ⟨he, h, f2⟩; rw [HNu.out] at he; subst he; have hv := f2.blk (blk_new _ _ _ rfl) (by omega); have hvc0 := blk_cell hv 0 _ rfl; have hvf0 := blk_frozen hv 0; have hvc1 := blk_cell hv 1 _ rfl; have hvf1 := blk_frozen hv 1; have hvc2 := blk_cell hv 2 _ rfl; have hvf2 := blk_frozen hv 2; have hvl := blk_lt hv; have HD2 := Hd.mk h; have HQ2 := Hd.mk ((HQ.out.below (by repeat (first | (with_reducible assumption) | (with_reducible exact Below.refl _ _) | (with_reducible apply below_drewL) | (with_reducible apply below_alloc) | (with_reducible apply below_drew1) | (with_reducible apply below_drewN) | (refine below_set ?_ (by first | omega | (simp only [size_alloc, size_drew, size_set]; omega)) _ _)))).by f2 (by omega) (by omega) (by omega)); have HB2 : Hd (Below w.heap.size w w2) := ⟨Fr.seq (below_seq HB.out (by repeat (first | (with_reducible assumption) | (with_reducible exact Below.refl _ _) | (with_reducible apply below_drewL) | (with_reducible apply below_alloc) | (with_reducible apply below_drew1) | (with_reducible apply below_drewN) | (refine below_set ?_ (by first | omega | (simp only [size_alloc, size_drew, size_set]; omega)) _ _)))) f2 (by simp only [size_alloc]; have := HB.out.size; omega) (fun b hb hx => by omega)⟩; clear h)))
              go_meet
              case rel => exact ⟨_, ⟨HD3.out.more (Nat.le_succ _)⟩, ⟨HQ3.out.more (Nat.le_succ _)⟩, HB3⟩
          by_cases hk1 : s.kind = 1
          · cases hf : findL L s.n with
            | none =>
              have HF := Hd.mk hf; clear hf
              go_wp2_with (first
                | (go_at_call 12; go_must (refine Calls.mono (rfindno_calls ((HQ.out.below (by repeat (first | (with_reducible assumption) | (with_reducible exact Below.refl _ _) | (with_reducible apply below_drewL) | (with_reducible apply below_alloc) | (with_reducible apply below_drew1) | (with_reducible apply below_drewN) | (refine below_set ?_ (by first | omega | (simp only [size_alloc, size_drew, size_set]; omega)) _ _)))).below hb2) HF.out) ?_; rintro e w3 ⟨rfl, hb3⟩))
                | (go_at_call 11; go_must (refine Calls.mono (getno_int (HD.out.below (by repeat (first | (with_reducible assumption) | (with_reducible exact Below.refl _ _) | (with_reducible apply below_drewL) | (with_reducible apply below_alloc) | (with_reducible apply below_drew1) | (with_reducible apply below_drewN) | (refine below_set ?_ (by first | omega | (simp only [size_alloc, size_drew, size_set]; omega)) _ _)))) hkB HF.out) ?_; rintro e w2 ⟨rfl, hb2⟩; have hv := blk_below (blk_new _ _ _ rfl) hb2; have hvc0 := blk_cell hv 0 _ rfl; have hvf0 := blk_frozen hv 0; have hvc1 := blk_cell hv 1 _ rfl; have hvf1 := blk_frozen hv 1; have hvc2 := blk_cell hv 2 _ rfl; have hvf2 := blk_frozen hv 2; have hvl := blk_lt hv)))
              go_meet
              case rel => exact ⟨L, ⟨(((HD.out.below (by repeat (first | (with_reducible assumption) | (with_reducible exact Below.refl _ _) | (with_reducible apply below_drewL) | (with_reducible apply below_alloc) | (with_reducible apply below_drew1) | (with_reducible apply below_drewN) | (refine below_set ?_ (by first | omega | (simp only [size_alloc, size_drew, size_set]; omega)) _ _)))).below hb2).below hb3).more (Nat.le_succ _)⟩, ⟨(((HQ.out.below (by repeat (first | (with_reducible assumption) | (with_reducible exact Below.refl _ _) | (with_reducible apply below_drewL) | (with_reducible apply below_alloc) | (with_reducible apply below_drew1) | (with_reducible apply below_drewN) | (refine below_set ?_ (by first | omega | (simp only [size_alloc, size_drew, size_set]; omega)) _ _)))).below hb2).below hb3).more (Nat.le_succ _)⟩, ⟨below_seq (below_seq (below_seq HB.out (by repeat (first | (with_reducible assumption) | (with_reducible exact Below.refl _ _) | (with_reducible apply below_drewL) | (with_reducible apply below_alloc) | (with_reducible apply below_drew1) | (with_reducible apply below_drewN) | (refine below_set ?_ (by first | omega | (simp only [size_alloc, size_drew, size_set]; omega)) _ _)))) hb2) hb3⟩⟩
            | some i =>
              obtain ⟨sl, hx, ht, _⟩ := findL_slot hf
              have hi : i < m := by rw [← HD.out.len]; exact (List.getElem?_eq_some_iff.1 hx).1
              have HF := Hd.mk hf; have HX := Hd.mk hx; have HT := Hd.mk ht; clear hf hx ht
              have hmx := HD.out.max
              go_wp2_with (first
                | (go_at_call 12; go_must (refine Calls.mono (rfind_calls HQ2.out HF.out) ?_; rintro e w3 ⟨rfl, hb3⟩; have HQ3 := Hd.mk (HQ2.out.below hb3); have HD3 := Hd.mk (HD2.out.below hb3); have HB3 := Hd.mk (below_seq HB2.out hb3); have hs3 := HQ3.out.str; have hs3c0 := blk_cell hs3 0 _ rfl; have hs3f0 := blk_frozen hs3 0; have hs3c1 := blk_cell hs3 1 _ rfl; have hs3f1 := blk_frozen hs3 1; have hs3l := blk_lt hs3; have ht3 := HQ3.out.taken HX.out HT.out; have hg3 := ht3.2.1; have hl3 := HQ3.out.ms.lt; clear ht3 hs3))
                | (go_at_call 11; go_must (refine Calls.mono (get_int (HD.out.below (by repeat (first | (with_reducible assumption) | (with_reducible exact Below.refl _ _) | (with_reducible apply below_drewL) | (with_reducible apply below_alloc) | (with_reducible apply below_drew1) | (with_reducible apply below_drewN) | (refine below_set ?_ (by first | omega | (simp only [size_alloc, size_drew, size_set]; omega)) _ _)))) hkB HF.out HX.out) ?_; rintro e w2 ⟨rfl, hb2⟩; have hv := blk_below (blk_new _ _ _ rfl) hb2; have hvc0 := blk_cell hv 0 _ rfl; have hvf0 := blk_frozen hv 0; have hvc1 := blk_cell hv 1 _ rfl; have hvf1 := blk_frozen hv 1; have hvc2 := blk_cell hv 2 _ rfl; have hvf2 := blk_frozen hv 2; have hvl := blk_lt hv; have HD2 := Hd.mk ((HD.out.below (by repeat (first | (with_reducible assumption) | (with_reducible exact Below.refl _ _) | (with_reducible apply below_drewL) | (with_reducible apply below_alloc) | (with_reducible apply below_drew1) | (with_reducible apply below_drewN) | (refine below_set ?_ (by first | omega | (simp only [size_alloc, size_drew, size_set]; omega)) _ _)))).below hb2); have HQ2 := Hd.mk ((HQ.out.below (by repeat (first | (with_reducible assumption) | (with_reducible exact Below.refl _ _) | (with_reducible apply below_drewL) | (with_reducible apply below_alloc) | (with_reducible apply below_drew1) | (with_reducible apply below_drewN) | (refine below_set ?_ (by first | omega | (simp only [size_alloc, size_drew, size_set]; omega)) _ _)))).below hb2); have HB2 := Hd.mk (below_seq (below_seq HB.out (by repeat (first | (with_reducible assumption) | (with_reducible exact Below.refl _ _) | (with_reducible apply below_drewL) | (with_reducible apply below_alloc) | (with_reducible apply below_drew1) | (with_reducible apply below_drewN) | (refine below_set ?_ (by first | omega | (simp only [size_alloc, size_drew, size_set]; omega)) _ _)))) hb2); clear hv)))
              go_meet
              case rel => exact ⟨_, ⟨HD3.out.more (Nat.le_succ _)⟩, ⟨HQ3.out.more (Nat.le_succ _)⟩, HB3⟩
          · cases hf : findL L s.n with
            | none =>
              have HF := Hd.mk hf; clear hf
              go_wp2_with (first
                | (go_at_call 14; go_must (refine Calls.mono (rrelno_calls ((HQ.out.below (by repeat (first | (with_reducible assumption) | (with_reducible exact Below.refl _ _) | (with_reducible apply below_drewL) | (with_reducible apply below_alloc) | (with_reducible apply below_drew1) | (with_reducible apply below_drewN) | (refine below_set ?_ (by first | omega | (simp only [size_alloc, size_drew, size_set]; omega)) _ _)))).below hb2) HF.out) ?_; rintro e w3 ⟨rfl, hb3⟩))
                | (go_at_call 13; go_must (refine Calls.mono (relno_int (HD.out.below (by repeat (first | (with_reducible assumption) | (with_reducible exact Below.refl _ _) | (with_reducible apply below_drewL) | (with_reducible apply below_alloc) | (with_reducible apply below_drew1) | (with_reducible apply below_drewN) | (refine below_set ?_ (by first | omega | (simp only [size_alloc, size_drew, size_set]; omega)) _ _)))) hkB HF.out) ?_; rintro e w2 ⟨rfl, hb2⟩; have hv := blk_below (blk_new _ _ _ rfl) hb2; have hvc0 := blk_cell hv 0 _ rfl; have hvf0 := blk_frozen hv 0; have hvc1 := blk_cell hv 1 _ rfl; have hvf1 := blk_frozen hv 1; have hvc2 := blk_cell hv 2 _ rfl; have hvf2 := blk_frozen hv 2; have hvl := blk_lt hv)))
              go_meet
              case rel => exact ⟨L, ⟨(((HD.out.below (by repeat (first | (with_reducible assumption) | (with_reducible exact Below.refl _ _) | (with_reducible apply below_drewL) | (with_reducible apply below_alloc) | (with_reducible apply below_drew1) | (with_reducible apply below_drewN) | (refine below_set ?_ (by first | omega | (simp only [size_alloc, size_drew, size_set]; omega)) _ _)))).below hb2).below hb3).more (Nat.le_succ _)⟩, ⟨(((HQ.out.below (by repeat (first | (with_reducible assumption) | (with_reducible exact Below.refl _ _) | (with_reducible apply below_drewL) | (with_reducible apply below_alloc) | (with_reducible apply below_drew1) | (with_reducible apply below_drewN) | (refine below_set ?_ (by first | omega | (simp only [size_alloc, size_drew, size_set]; omega)) _ _)))).below hb2).below hb3).more (Nat.le_succ _)⟩, ⟨below_seq (below_seq (below_seq HB.out (by repeat (first | (with_reducible assumption) | (with_reducible exact Below.refl _ _) | (with_reducible apply below_drewL) | (with_reducible apply below_alloc) | (with_reducible apply below_drew1) | (with_reducible apply below_drewN) | (refine below_set ?_ (by first | omega | (simp only [size_alloc, size_drew, size_set]; omega)) _ _)))) hb2) hb3⟩⟩
            | some i =>
              obtain ⟨sl, hx, ht, _⟩ := findL_slot hf
              have HF := Hd.mk hf; have HX := Hd.mk hx; clear hf hx
              go_wp2_with (first
                | (go_at_call 14; go_must (refine Calls.mono (rrel_calls HQ2.out hkB HF.out HX.out) ?_; rintro e w3 ⟨rfl, h, f3⟩; have HQ3 := Hd.mk h; have HD3 := Hd.mk (HD2.out.by f3 (by omega) (by omega)); have HB3 : Hd (Below w.heap.size w w3) := ⟨Fr.seq HB2.out f3 HB2.out.size (fun b hb hx => by omega)⟩; clear h))
                | (go_at_call 13; go_must (refine Calls.mono (rel_int (HD.out.below (by repeat (first | (with_reducible assumption) | (with_reducible exact Below.refl _ _) | (with_reducible apply below_drewL) | (with_reducible apply below_alloc) | (with_reducible apply below_drew1) | (with_reducible apply below_drewN) | (refine below_set ?_ (by first | omega | (simp only [size_alloc, size_drew, size_set]; omega)) _ _)))) hkB HF.out HX.out) ?_; rintro e w2 ⟨rfl, h, f2⟩; have hv := f2.blk (blk_new _ _ _ rfl) (by omega); have hvc0 := blk_cell hv 0 _ rfl; have hvf0 := blk_frozen hv 0; have hvc1 := blk_cell hv 1 _ rfl; have hvf1 := blk_frozen hv 1; have hvc2 := blk_cell hv 2 _ rfl; have hvf2 := blk_frozen hv 2; have hvl := blk_lt hv; have HD2 := Hd.mk h; have HQ2 := Hd.mk ((HQ.out.below (by repeat (first | (with_reducible assumption) | (with_reducible exact Below.refl _ _) | (with_reducible apply below_drewL) | (with_reducible apply below_alloc) | (with_reducible apply below_drew1) | (with_reducible apply below_drewN) | (refine below_set ?_ (by first | omega | (simp only [size_alloc, size_drew, size_set]; omega)) _ _)))).by f2 (by omega) (by omega) (by omega)); have HB2 : Hd (Below w.heap.size w w2) := ⟨Fr.seq (below_seq HB.out (by repeat (first | (with_reducible assumption) | (with_reducible exact Below.refl _ _) | (with_reducible apply below_drewL) | (with_reducible apply below_alloc) | (with_reducible apply below_drew1) | (with_reducible apply below_drewN) | (refine below_set ?_ (by first | omega | (simp only [size_alloc, size_drew, size_set]; omega)) _ _)))) f2 (by simp only [size_alloc]; have := HB.out.size; omega) (fun b hb hx => by omega)⟩; clear h)))
              go_meet
              case rel => exact ⟨_, HD3, HQ3, HB3⟩
        case rest =>
          clear HD HQ HB
          obtain ⟨L', HD, HQ, HB⟩ := hcut
          have hl := idsUpto_len L' m
          obtain ⟨n, hn⟩ : ∃ n, (idsUpto L' m).length = n := ⟨_, rfl⟩
          rw [hn] at hl
          have HN := Hd.mk hn; clear hn
          have hkB' : k + 1 ≤ 1000000 := by omega
          go_wp2_with (first
            | (go_at_call 17; have hq_ := HB8; clear hq_; go_must (refine Calls.mono (rids_calls HQ8.out) ?_; rintro e w9 ⟨A9, d9, he, hd9, hA9, hR9, hb9⟩; rw [HN.out] at he; subst he))
            | (go_at_call 18; go_must (refine Calls.mono (len_calls HD7.out hkB') ?_; rintro e w8 ⟨he, hb8⟩; rw [HN.out] at he; subst he; have HD8 := Hd.mk (HD7.out.below hb8); have HQ8 := Hd.mk (HQ7.out.below hb8); have HB8 := Hd.mk (below_seq HB7.out hb8); clear hb8))
            | (go_at_call 15; go_must (refine Calls.mono (same_calls A5 A6 d5 d6 n (idsUpto L' m) (fun b => wc.heap.size ≤ b ∧ b < w5.heap.size) (fun b => w5.heap.size ≤ b ∧ b < w6.heap.size) w6 (fun _ h => Nat.lt_of_lt_of_le h.2 hb6.size) (fun _ h => h.2) (HR5.out.below (fun _ h => h.2) hb6) HR6.out) ?_; rintro e w7 ⟨rfl, hb7⟩; have HB7 := Hd.mk (below_seq HB6.out hb7); have HD7 := Hd.mk (HD6.out.below hb7); have HQ7 := Hd.mk (HQ6.out.below hb7); clear hb7 hb6 HR5 HR6))
            | (go_at_call 17; go_must (refine Calls.mono (rids_calls HQ5.out) ?_; rintro e w6 ⟨A6, d6, he, hd6, hA6, hR6, hb6⟩; rw [HN.out] at he hR6; subst he; have HR6 := Hd.mk hR6; have HB6 := Hd.mk (below_seq HB5.out hb6); have HD6 := Hd.mk (HD5.out.below hb6); have HQ6 := Hd.mk (HQ5.out.below hb6); clear hR6 hA6))
            | (go_at_call 16; go_must (refine Calls.mono (ids_calls HD.out hkB') ?_; rintro e w5 ⟨A5, d5, he, hd5, hA5, hR5, hb5⟩; rw [HN.out] at he hR5; subst he; have HR5 := Hd.mk hR5; have HB5 := Hd.mk (below_seq HB.out hb5); have HD5 := Hd.mk (HD.out.below hb5); have HQ5 := Hd.mk (HQ.out.below hb5); clear hR5 hA5 hb5)))
          go_roundw
          case rel => exact ⟨k + 1, L', by omega, by go_num, ⟨HD8.out.below hb9⟩, ⟨HQ8.out.below hb9⟩, ⟨below_seq HB8.out hb9⟩⟩
          case measure => simp [intOf]; omega
      · obtain rfl : k = xs.length := by omega
        have hkB : xs.length ≤ 1000000 := by omega
        have hmx := HD.out.max
        obtain ⟨y, hy⟩ : ∃ y, lowUpto L or m = y := ⟨_, rfl⟩
        have HY := Hd.mk hy; clear hy
        have hs := HQ.out.str
        have hsc0 := blk_cell hs 0 _ rfl; have hsf0 := blk_frozen hs 0; have hsc1 := blk_cell hs 1 _ rfl; have hsf1 := blk_frozen hs 1; have hsl := blk_lt hs
        clear hs
        go_wp2
        refine wp_region_can (.q [0, 1, 3, 4] (.e 2 true (.e 5 true (.q [6, 7, 8, 10, 11, 12, 13, 14] (.e 9 true (.q [15, 16, 17] (.e 18 false (.q [19, 20] (.done))))))))) (clsB _) (by kernel_rfl) (by kernel_rfl) (by intro _ _ d _ _ h; cases d <;> exact h) (clsB_drew _) ?_
        refine can_q (l := [⟨_,_,_,_,_,_⟩, ⟨_,_,_,_,_,_⟩, ⟨_,_,_,_,_,_⟩, ⟨_,_,_,_,_,_⟩]) rfl ?_
        repeat (go_big_quiet_step (fail))
        refine wpQuiet_nil ?_
        refine can_e (o := ⟨_,_,_,_,_,_⟩) rfl (fun K hK => ?_)
        go_wp2_with (go_at_call 19; go_must (refine Calls.mono (low_int or (HD.out.below (by repeat (first | (with_reducible assumption) | (with_reducible exact Below.refl _ _) | (with_reducible apply below_drewL) | (with_reducible apply below_alloc) | (with_reducible apply below_drew1) | (with_reducible apply below_drewN) | (refine below_set ?_ (by first | omega | (simp only [size_alloc, size_drew, size_set]; omega)) _ _))))) ?_; rintro e w2 ⟨he, hb2⟩; rw [HY.out] at he; subst he; replace hb2 := below_undrew hb2; have HB2 := Hd.mk hb2; clear hb2))
        refine onK_normal (hK _ _ ⟨clsB _, clsB_of (by first | exact (HB2.out) | exact below_undrew (HB2.out)), fun _ _ h => h, ?_⟩)
        clear hK K
        refine can_e (o := ⟨_,_,_,_,_,_⟩) rfl (fun K hK => ?_)
        go_wp2_with (go_at_call 20; go_must (refine Calls.mono (rlow_calls or (HQ.out.below HB2.out)) ?_; rintro e w3 ⟨he, hb3⟩; rw [HY.out] at he; subst he; have HB3 := Hd.mk (below_seq HB2.out hb3); clear hb3))
        refine onK_normal (hK _ _ ⟨clsB _, clsB_of (by first | exact (HB3.out) | exact below_undrew (HB3.out)), fun _ _ h => h, ?_⟩)
        clear hK K
        refine can_q (l := [⟨_,_,_,_,_,_⟩, ⟨_,_,_,_,_,_⟩, ⟨_,_,_,_,_,_⟩, ⟨_,_,_,_,_,_⟩, ⟨_,_,_,_,_,_⟩, ⟨_,_,_,_,_,_⟩, ⟨_,_,_,_,_,_⟩, ⟨_,_,_,_,_,_⟩]) rfl ?_
        repeat (go_big_quiet_step (fail))
        refine wpQuiet_nil ?_
        refine can_e (o := ⟨_,_,_,_,_,_⟩) rfl (fun K hK => ?_)
        go_wp2_with (go_at_call 21; go_must (refine Calls.mono (room_int (HD.out.below HB3.out)) ?_; rintro e w4 ⟨rfl, rfl⟩))
        refine onK_normal (hK _ _ ⟨clsB _, clsB_of (by first | exact (HB3.out) | exact below_undrew (HB3.out)), fun _ _ h => h, ?_⟩)
        clear hK K
        refine can_q (l := [⟨_,_,_,_,_,_⟩, ⟨_,_,_,_,_,_⟩, ⟨_,_,_,_,_,_⟩]) rfl ?_
        repeat (go_big_quiet_step (fail))
        refine wpQuiet_nil ?_
        refine can_e (o := ⟨_,_,_,_,_,_⟩) rfl (fun K hK => ?_)
        go_wp2_with (go_at_call 6; go_must (refine Calls.mono (alive_calls _) ?_; rintro e w5 ⟨rfl, hb5⟩))
        refine onK_normal (hK _ _ ⟨fun _ => True, trivial, (fun h => by cases h), ?_⟩)
        clear hK K
        refine can_q (l := [⟨_,_,_,_,_,_⟩, ⟨_,_,_,_,_,_⟩]) rfl ?_
        repeat (go_big_quiet_step (fail))
        refine wpQuiet_nil ?_
        refine can_done ?_
        go_wp2
        go_ret
        exact ⟨rfl, below_seq HB.out (below_seq HB3.out hb5)⟩
end Go.Proofs.Ytofknjoaemiebaa.Fn
