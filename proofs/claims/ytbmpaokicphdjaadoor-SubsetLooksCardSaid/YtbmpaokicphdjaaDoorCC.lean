/- Texts: C8, C9, C10, C11. -/
import Derived.Test.YtbmpaokicphdjaaDoorCB
set_option linter.unusedVariables false
set_option linter.unusedSimpArgs false
/- Sets as marks; Start. -/
namespace Go.Proofs.YtbmpaokicphdjaaDoor.Fn
open Go Go.RowKit Go.Proofs.YtbmpaokicphdjaaDoor.Can Go.Proofs.YtbmpaokicphdjaaDoor.Base
attribute [local go_sem] clsB AB.cell

theorem cell_tmp_row2 {P : Program} {fn : Func} {p u : Tmp} {ty : TypeId} (h : fn.results = #[.cell p ty, .tmp u]) (tmps : Array Value) (w : World) (g : Nat) (t : TypeId) (cs : Array Value) (fr : Nat × Nat) (d : TypeDesc)
    (hp : tmps.getD p undef = .pointer (some ⟨g, 0, none⟩)) (hg : w.heap[g]? = some (.cells cs t fr))
    (hu : P.underlying ty = some d) (hd : (match d with | .struct _ | .array _ _ => true | _ => false) = true) (hi : (P.info? ty).map (·.size) = some cs.size) :
    (results fn tmps).run P w = .ok (.tuple #[.agg cs, tmps.getD u undef]) w := by
  have hp' : tmps[p]?.getD undef = .pointer (some ⟨g, 0, none⟩) := by simpa using hp
  rw [results_cell_tmp h]
  simp [hp', asAddr, run_loadVar_row w g t ty cs fr d hg hu hd hi, Result.andThen]


def marksW (n : Nat) (ws : List Nat) : List Bool := (List.range n).map (bitAt ws)
theorem marksW_len (n : Nat) (ws : List Nat) : (marksW n ws).length = n := by unfold marksW; rw [List.length_map, List.length_range]
theorem marksW_in (n : Nat) (ws : List Nat) (k : Nat) : isIn (marksW n ws) k ↔ k < n ∧ bitAt ws k = true := by
  unfold isIn marksW
  rw [List.getD_eq_getElem?_getD, List.getElem?_map]
  rcases Nat.lt_or_ge k n with h | h
  · rw [List.getElem?_range h]
    simp [h]
  · rw [List.getElem?_eq_none (by rw [List.length_range]; exact h)]
    simp
    omega
theorem marks_closed {E : List St → Nat → Nat → Prop} {q : List St} {X : Nat → Prop} {m : List Bool} {ws : List Nat} (hs : Stays (E q) q.length) (hm : m.length ≤ q.length) (hb : ∀ i, bitAt ws i = true ↔ Cl (E q) X i) (hX : ∀ i, X i ↔ isIn m i) : marksW q.length ws = closeM E q m :=
  marks_ext (by rw [marksW_len, closeM_len]) fun k => by
    rw [marksW_in, hb, closeM_in hs hm]
    constructor
    · exact fun h => h.2.mono (fun _ _ h => h) (fun i hi => (hX i).1 hi)
    · intro h
      have h2 : Cl (E q) X k := h.mono (fun _ _ h => h) (fun i hi => (hX i).2 hi)
      refine ⟨?_, h2⟩
      cases h with
      | base h => have := isIn_lt h; omega
      | step _ he => exact hs _ _ he
/-- The numbers of a row of marks. -/
def numbersL (m : List Bool) : List Int := ((List.range m.length).filter (fun i => m.getD i false)).map fun i : Nat => (i : Int)
theorem mem_numbersL (m : List Bool) (y : Int) : y ∈ numbersL m ↔ 0 ≤ y ∧ isIn m y.toNat := by
  unfold numbersL
  rw [List.mem_map]
  constructor
  · rintro ⟨i, hi, rfl⟩
    rw [List.mem_filter] at hi
    exact ⟨by omega, by rw [Int.toNat_natCast]; exact hi.2⟩
  · rintro ⟨h1, h2⟩
    refine ⟨y.toNat, List.mem_filter.2 ⟨List.mem_range.2 (isIn_lt h2), h2⟩, by omega⟩
theorem numbersL_sorted (m : List Bool) : (numbersL m).Pairwise (· < ·) := by
  unfold numbersL
  rw [List.pairwise_map]
  exact (List.Pairwise.filter _ List.pairwise_lt_range).imp fun h => by omega
theorem elemsI_marks {n room : Nat} {ws : List Nat} (h : Wok room ws) : (elemsI ws).filter (fun y => decide (y < (n : Int))) = numbersL (marksW n ws) := by
  refine sorted_ext ((elemsI_sorted ws).filter _) (numbersL_sorted _) fun y => ?_
  rw [List.mem_filter, mem_elemsI h, mem_numbersL, marksW_in, decide_eq_true_iff]
  unfold inR
  constructor
  · rintro ⟨⟨⟨a, b⟩, c⟩, d⟩; exact ⟨a, by omega, c⟩
  · rintro ⟨a, b, c⟩
    refine ⟨⟨⟨a, ?_⟩, c⟩, by omega⟩
    rcases Nat.lt_or_ge y.toNat room with h1 | h1
    · omega
    · rw [h.top _ h1] at c; cases c
theorem elemsI_marks_eq {n : Nat} {ws : List Nat} (h : Wok n ws) : elemsI ws = numbersL (marksW n ws) := by
  rw [← elemsI_marks h, List.filter_eq_self.2]
  intro y hy
  have := ((mem_elemsI h y).1 hy).1
  unfold inR at this
  exact decide_eq_true (by omega)
/-- An automaton in memory. -/
structure NF (w : World) (S : Nat → Prop) (A : Option Addr) (q : List St) : Prop where
  row : Row stT w S A q.length q
  lt : ∀ k, S k → k < w.heap.size
theorem NF.below {w w' : World} {S : Nat → Prop} {A : Option Addr} {q : List St} (h : NF w S A q) (hb : Below w.heap.size w w') : NF w' S A q := ⟨h.row.below h.lt hb, fun k hk => Nat.lt_of_lt_of_le (h.lt k hk) hb.size⟩
theorem checkV_ok {st : Int} {q : List St} (h : checkV st q = 0) : okN st q ∧ q.length ≤ 4096 := by
  unfold checkV at h
  split at h
  · cases h
  · split at h
    · exact ⟨by assumption, by omega⟩
    · cases h
set_option maxHeartbeats 2000000 in
theorem start_bad (st : Int) (A : Option Addr) (c : Nat) (q : List St) (S : Nat → Prop) (w : World) (hN : NF w S A q) (hc : checkV st q ≠ 0) :
    Calls Tryd.prog 44 #[.agg #[.int .i64 st, .slice A q.length c]] w fun e w' => e = .returned (.tuple #[.agg #[.slice none 0 0, .int .i64 0], .int .i64 (checkV st q)]) ∧ Below w.heap.size w w' := by
  have HCK := Hd.mk (check_calls st A c q S ((w.alloc (.cells #[.int .i64 st, .slice A q.length c] 58)).alloc (.cells #[.slice none 0 0, .int .i64 0] 28)) (fun k hk => by rw [size_alloc, size_alloc]; have := hN.lt k hk; omega) ((hN.row.below hN.lt (below_alloc (below_alloc (Below.refl _ _) _) _))))
  obtain ⟨n, hn⟩ : ∃ m, q.length = m := ⟨_, rfl⟩
  obtain ⟨e0, he0⟩ : ∃ e, checkV st q = e := ⟨_, rfl⟩
  rw [he0] at HCK hc ⊢
  rw [hn] at HCK ⊢
  have hj : (e0 != 0) = true := by simpa using hc
  clear hN hn he0 hc
  go_enter Tryd.func44, Tryd.ntmps44
  go_wp2_with (go_at_call 79; go_must (refine Calls.mono HCK.out ?_; rintro e w2 ⟨rfl, hb2⟩; have HB2 := Hd.mk (below_seq (below_alloc (below_alloc (Below.refl _ _) _) _) hb2); have hx2 := blk_below (blk_new (w.alloc (.cells #[.int .i64 st, .slice A n c] 58)) (.cells #[.slice none 0 0, .int .i64 0] 28) (w.heap.size + 1) (by rw [size_alloc])) hb2; have hx2c0 := blk_cell hx2 0 _ rfl; have hx2f0 := blk_frozen hx2 0; have hx2c1 := blk_cell hx2 1 _ rfl; have hx2f1 := blk_frozen hx2 1; have hx2l := blk_lt hx2; clear hb2))
  refine bodyPost_ret (cell_tmp_row2 rfl _ _ (w.heap.size + 1) 28 #[.slice none 0 0, .int .i64 0] (0, 0) _ rfl (by first | exact hx2 | exact blk_set (blk_set hx2 0 _ _ rfl) 1 _ _ rfl) Tryd.underlying28 rfl (by kernel_rfl)) rfl ?_
  exact ⟨rfl, by first | exact HB2.out | exact below_set (below_set HB2.out (Nat.le_succ _) _ _) (Nat.le_succ _) _ _⟩
end Go.Proofs.YtbmpaokicphdjaaDoor.Fn

/- Start, when the automaton may be. -/
namespace Go.Proofs.YtbmpaokicphdjaaDoor.Fn
open Go Go.RowKit Go.Proofs.YtbmpaokicphdjaaDoor.Can Go.Proofs.YtbmpaokicphdjaaDoor.Base
attribute [local go_sem] clsB AB.cell

/-- A set in block g. -/
structure SetA (w : World) (base g n : Nat) (ws : List Nat) : Prop where
  lo : base ≤ g
  hi : g < w.heap.size
  wd : Wd w (some ⟨g, 0, none⟩) g ws
  ok : Wok n ws
theorem SetA.below {w w' : World} {base g n : Nat} {ws : List Nat} (h : SetA w base g n ws) (hb : Below w.heap.size w w') : SetA w' base g n ws := ⟨h.lo, Nat.lt_of_lt_of_le h.hi hb.size, h.wd.below hb, h.ok⟩
theorem SetA.mono {w : World} {base base' g n : Nat} {ws : List Nat} (h : SetA w base g n ws) (hb : base' ≤ base) : SetA w base' g n ws := ⟨Nat.le_trans hb h.lo, h.hi, h.wd, h.ok⟩
theorem SetA.move {w w' : World} {base g n : Nat} {ws : List Nat} (h : SetA w base g n ws) (hs : w.heap.size ≤ w'.heap.size) (hm : w'.heap[g]? = w.heap[g]?) : SetA w' base g n ws := ⟨h.lo, Nat.lt_of_lt_of_le h.hi hs, h.wd.move hm, h.ok⟩
/-- What a set's value is. -/
def setV (g n : Nat) : Value := .agg #[.slice (some ⟨g, 0, none⟩) ((n + 63) / 64) ((n + 63) / 64), .int .i64 n]
theorem driveQ (base p g n c : Nat) (st : Int) (A : Option Addr) (q : List St) (v : Value) (l : List Int) (S : Nat → Prop) (w : World) (hn : q.length = n) (hn6 : n ≤ 65536) (hS : ∀ k, S k → k < base) (hC : Row stT w S A n q) (h : Wk w base p g st A n c v (fromP n l)) (hb : base ≤ w.heap.size) (hs : Stays (epsE q) q.length) :
    Calls Tryd.prog 81 #[.pointer (some ⟨p, 0, none⟩), .func (.func 82) #[] #[]] w fun e w' => (∃ u, e = .returned u) ∧ ∃ v' ws, Hd (w'.heap[p]? = some (.cells (wkV st A n c g ((n + 63) / 64) v') 117 (0, 0))) ∧ Hd (SetA w' base g n ws) ∧ Hd (∀ i, bitAt ws i = true ↔ Cl (epsE q) (fun i => (i : Int) ∈ l ∧ i < n) i) ∧ Hd (Below base w w') := by
  subst hn
  refine Calls.mono (followQ base p g c st A q v _ S (epsE q) _ w hS hC h hb (quiet_tells q) hs (Fol.start hn6 l)) ?_
  rintro e w' ⟨hu, v', ws, h1, h2, h3⟩
  exact ⟨hu, v', ws, ⟨h1.obj⟩, ⟨⟨h1.bg, h1.gl, h1.wd, h1.ok⟩⟩, ⟨h2.done⟩, ⟨h3⟩⟩
theorem driveA (base p g n c : Nat) (st : Int) (A : Option Addr) (q : List St) (v : Value) (l : List Int) (S : Nat → Prop) (w : World) (hn : q.length = n) (hn6 : n ≤ 65536) (hS : ∀ k, S k → k < base) (hC : Row stT w S A n q) (h : Wk w base p g st A n c v (fromP n l)) (hb : base ≤ w.heap.size) (hs : Stays (anyE q) q.length) :
    Calls Tryd.prog 81 #[.pointer (some ⟨p, 0, none⟩), .func (.func 83) #[] #[]] w fun e w' => (∃ u, e = .returned u) ∧ ∃ v' ws, Hd (w'.heap[p]? = some (.cells (wkV st A n c g ((n + 63) / 64) v') 117 (0, 0))) ∧ Hd (SetA w' base g n ws) ∧ Hd (∀ i, bitAt ws i = true ↔ Cl (anyE q) (fun i => (i : Int) ∈ l ∧ i < n) i) ∧ Hd (Below base w w') := by
  subst hn
  refine Calls.mono (followA base p g c st A q v _ S (anyE q) _ w hS hC h hb (any_tells q) hs (Fol.start hn6 l)) ?_
  rintro e w' ⟨hu, v', ws, h1, h2, h3⟩
  exact ⟨hu, v', ws, ⟨h1.obj⟩, ⟨⟨h1.bg, h1.gl, h1.wd, h1.ok⟩⟩, ⟨h2.done⟩, ⟨h3⟩⟩
theorem marks_start {st : Int} {q : List St} {n : Nat} {ws : List Nat} (hn : q.length = n) (hs : okN st q) (hF : ∀ i, bitAt ws i = true ↔ Cl (epsE q) (fun i => (i : Int) ∈ [st] ∧ i < n) i) : marksW n ws = startM st q := by
  subst hn
  unfold startM
  refine marks_closed (epsE_stays hs) (by rw [marksP_len]; exact Nat.le_refl _) hF (fun i => ?_)
  rw [marksP_in, List.mem_singleton]
  exact and_comm
set_option maxHeartbeats 2000000 in
theorem start_ok (st : Int) (A : Option Addr) (c : Nat) (q : List St) (S : Nat → Prop) (w : World) (hN : NF w S A q) (hc : checkV st q = 0) :
    Calls Tryd.prog 44 #[.agg #[.int .i64 st, .slice A q.length c]] w fun e w' => ∃ g ws, e = .returned (.tuple #[setV g q.length, .int .i64 0]) ∧ SetA w' w.heap.size g q.length ws ∧ marksW q.length ws = startM st q ∧ Below w.heap.size w w' := by
  obtain ⟨hok, hlen⟩ := checkV_ok hc
  have HCK := Hd.mk (check_calls st A c q S ((w.alloc (.cells #[.int .i64 st, .slice A q.length c] 58)).alloc (.cells #[.slice none 0 0, .int .i64 0] 28)) (fun k hk => by rw [size_alloc, size_alloc]; have := hN.lt k hk; omega) ((hN.row.below hN.lt (below_alloc (below_alloc (Below.refl _ _) _) _))))
  rw [hc] at HCK
  obtain ⟨n, hn⟩ : ∃ m, q.length = m := ⟨_, rfl⟩
  rw [hn] at HCK ⊢
  have hrow := hN.row
  rw [hn] at hrow hlen
  have HROW := Hd.mk hrow; have HLT := Hd.mk hN.lt; have HOK := Hd.mk hok; have HNE := Hd.mk hn
  clear hN hc hok hn hrow
  unfold setV
  obtain ⟨K, hK⟩ : ∃ K, (n + 63) / 64 = K := ⟨_, rfl⟩
  rw [hK]
  have HK := Hd.mk hK
  clear hK
  go_enter Tryd.func44, Tryd.ntmps44
  go_wp2_with (first
    | (go_at_call 81; go_must (refine Calls.mono (driveQ (w2.heap.size + 1) p g n c st A q v [st] S w3 HNE.out (by omega) (fun k hk => by have := HLT.out k hk; have := HB2.out.size; omega) (HROW.out.below HLT.out HB3.out) HW3.out HZ3.out (epsE_stays HOK.out)) ?_; rintro e w4 ⟨⟨u, rfl⟩, v4, ws, HP4, HS4, HF4, HB4⟩; have hp4 := HP4.out; unfold wkV at hp4; rw [HK.out] at hp4; have hx4 := (HB4.out.block (w.heap.size + 1) (by have := HZ2.out; omega)).trans hx3; clear hx3c0 hx3f0 hx3c1 hx3f1 hx3l; clear hy3c0 hy3f0 hy3c1 hy3f1 hy3l; have hx4c0 := blk_cell hx4 0 _ rfl; have hx4f0 := blk_frozen hx4 0; have hx4c1 := blk_cell hx4 1 _ rfl; have hx4f1 := blk_frozen hx4 1; have hx4l := blk_lt hx4; have hp4c0 := blk_cell hp4 0 _ rfl; have hp4f0 := blk_frozen hp4 0; have hp4c1 := blk_cell hp4 1 _ rfl; have hp4f1 := blk_frozen hp4 1; have hp4c2 := blk_cell hp4 2 _ rfl; have hp4f2 := blk_frozen hp4 2; have hp4c3 := blk_cell hp4 3 _ rfl; have hp4f3 := blk_frozen hp4 3; have hp4c4 := blk_cell hp4 4 _ rfl; have hp4f4 := blk_frozen hp4 4; have hp4l := blk_lt hp4))
    | (go_at_call 80; go_must (refine Calls.mono (from_calls st A n c (some ⟨w2.heap.size, 0, none⟩) 1 1 [st] (fun k => k = w2.heap.size) (w2.alloc (.cells #[.int .i64 st] 3)) (fun k hk => by rw [size_alloc]; omega) (lit_row w2 [st] (by simp) rfl) (by omega)) ?_; rintro e w3 ⟨p, g, v, rfl, hw3, hb3⟩; have hz3 := hb3.size; rw [size_alloc] at hz3 hw3; have HW3 := Hd.mk hw3; have HZ3 := Hd.mk hz3; clear hz3; have hx3 := blk_below (blk_alloc hx2 _) hb3; have hy3 := blk_below (blk_alloc hy2 _) hb3; have HB3 := Hd.mk (below_seq (below_alloc HB2.out _) hb3); clear hx2c0 hx2f0 hx2c1 hx2f1 hx2l; clear hy2c0 hy2f0 hy2c1 hy2f1 hy2l; have hx3c0 := blk_cell hx3 0 _ rfl; have hx3f0 := blk_frozen hx3 0; have hx3c1 := blk_cell hx3 1 _ rfl; have hx3f1 := blk_frozen hx3 1; have hx3l := blk_lt hx3; have hy3c0 := blk_cell hy3 0 _ rfl; have hy3f0 := blk_frozen hy3 0; have hy3c1 := blk_cell hy3 1 _ rfl; have hy3f1 := blk_frozen hy3 1; have hy3l := blk_lt hy3; clear hw3 hb3))
    | (go_at_call 79; go_must (refine Calls.mono HCK.out ?_; rintro e w2 ⟨rfl, hb2⟩; have hz2 := hb2.size; rw [size_alloc, size_alloc] at hz2; have HZ2 := Hd.mk hz2; clear hz2; have HB2 := Hd.mk (below_seq (below_alloc (below_alloc (Below.refl _ _) _) _) hb2); have hx2 := blk_below (blk_new (w.alloc (.cells #[.int .i64 st, .slice A n c] 58)) (.cells #[.slice none 0 0, .int .i64 0] 28) (w.heap.size + 1) (by rw [size_alloc])) hb2; have hy2 := blk_below (blk_alloc (blk_new w (.cells #[.int .i64 st, .slice A n c] 58) w.heap.size rfl) (.cells #[.slice none 0 0, .int .i64 0] 28)) hb2; have hx2c0 := blk_cell hx2 0 _ rfl; have hx2f0 := blk_frozen hx2 0; have hx2c1 := blk_cell hx2 1 _ rfl; have hx2f1 := blk_frozen hx2 1; have hx2l := blk_lt hx2; have hy2c0 := blk_cell hy2 0 _ rfl; have hy2f0 := blk_frozen hy2 0; have hy2c1 := blk_cell hy2 1 _ rfl; have hy2f1 := blk_frozen hy2 1; have hy2l := blk_lt hy2; clear hb2)))
  refine bodyPost_ret (cell_tmp_row2 rfl _ _ (w.heap.size + 1) 28 #[.slice (some ⟨g, 0, none⟩) K K, .int .i64 n] (0, 0) _ rfl (blk_set (blk_set hx4 0 _ _ rfl) 1 _ _ rfl) Tryd.underlying28 rfl (by kernel_rfl)) rfl ?_
  have hgl := HS4.out.lo
  have hz2 := HZ2.out
  refine ⟨g, ws, rfl, (HS4.out.mono (by omega)).move (by rw [size_set, size_set]; exact Nat.le_refl _) ?_, marks_start HNE.out HOK.out HF4.out, ?_⟩
  · exact (Below.heap_setCell _ _ _ _ (by show ¬ g = w.heap.size + 1; omega)).trans (Below.heap_setCell _ _ _ _ (by show ¬ g = w.heap.size + 1; omega))
  · exact below_set (below_set (HB3.out.trans (HB4.out.mono (by omega))) (Nat.le_succ _) _ _) (Nat.le_succ _) _ _
end Go.Proofs.YtbmpaokicphdjaaDoor.Fn

/- Best. -/
namespace Go.Proofs.YtbmpaokicphdjaaDoor.Fn
open Go Go.RowKit Go.Proofs.YtbmpaokicphdjaaDoor.Can Go.Proofs.YtbmpaokicphdjaaDoor.Base
attribute [local go_sem] clsB AB.cell

/-- The least tag among some numbers. -/
def bestG (q : List St) (b : Int) (y : Int) : Int := match q[y.toNat]? with | some x => bestF b x true | none => b
def bestL (q : List St) (l : List Int) : Int := l.foldl (bestG q) (-1)
theorem bestL_snoc (q : List St) (l : List Int) (y : Int) : bestL q (l ++ [y]) = bestG q (bestL q l) y := by simp [bestL]
theorem bestF_no (b : Int) (x : St) : bestF b x false = b := by unfold bestF; rw [if_neg (by rintro ⟨h, _⟩; cases h)]
theorem bestL_marks (q : List St) (m : List Bool) (hm : m.length = q.length) : bestL q (numbersL m) = bestM q m := by
  unfold bestL numbersL bestM
  rw [hm, List.foldl_map]
  generalize (-1 : Int) = b
  induction List.range q.length generalizing b with
  | nil => rfl
  | cons i l ih =>
    rw [List.foldl_cons, List.filter_cons]
    cases hi : m.getD i false with
    | true =>
      rw [if_pos rfl, List.foldl_cons, ih]
      rfl
    | false =>
      rw [if_neg (by decide), ih]
      congr 1
      cases q[i]? with
      | none => rfl
      | some x => exact (bestF_no b x).symm
/-- What is ahead of the first that is too great. -/
theorem filter_upto {l : List Int} (hs : l.Pairwise (· < ·)) (n : Int) (k : Nat) (hk : k ≤ l.length) (h : ∀ y ∈ l.take k, y < n) (he : k = l.length ∨ ∃ y, l[k]? = some y ∧ ¬ y < n) : l.filter (fun y => decide (y < n)) = l.take k := by
  rw [← List.take_append_drop k l, List.filter_append, List.take_append_drop]
  rw [List.filter_eq_self.2 (fun y hy => decide_eq_true (h y hy)), List.filter_eq_nil_iff.2, List.append_nil]
  intro y hy
  rw [decide_eq_true_eq]
  rcases he with rfl | ⟨z, hz, hn⟩
  · rw [List.drop_length] at hy; cases hy
  · obtain ⟨i, hi⟩ := List.mem_iff_getElem?.1 hy
    rw [List.getElem?_drop] at hi
    rcases Nat.eq_zero_or_pos i with rfl | hp
    · rw [Nat.add_zero, hz] at hi; cases hi; exact hn
    · obtain ⟨h1, h2⟩ := List.getElem?_eq_some_iff.1 hz
      obtain ⟨h3, h4⟩ := List.getElem?_eq_some_iff.1 hi
      have := List.pairwise_iff_getElem.1 hs k (k + i) h1 h3 (by omega)
      rw [h2, h4] at this
      omega
theorem elemsI_nonneg {room : Nat} {ws : List Nat} {y : Int} (h : y ∈ elemsI ws) : 0 ≤ y := by
  unfold elemsI at h
  obtain ⟨a, _, rfl⟩ := List.mem_map.1 h
  omega
set_option maxHeartbeats 1000000 in
theorem best_bad (st : Int) (A : Option Addr) (c : Nat) (q : List St) (S : Nat → Prop) (sl rm : Value) (w : World) (hN : NF w S A q) (hc : checkV st q ≠ 0) :
    Calls Tryd.prog 47 #[.agg #[.int .i64 st, .slice A q.length c], .agg #[sl, rm]] w fun e w' => e = .returned (.int .i64 (-1)) ∧ Below w.heap.size w w' := by
  have HCK := Hd.mk (check_calls st A c q S ((w.alloc (.cells #[.int .i64 st, .slice A q.length c] 58)).alloc (.cells #[sl, rm] 28)) (fun k hk => by rw [size_alloc, size_alloc]; have := hN.lt k hk; omega) ((hN.row.below hN.lt (below_alloc (below_alloc (Below.refl _ _) _) _))))
  obtain ⟨n, hn⟩ : ∃ m, q.length = m := ⟨_, rfl⟩
  obtain ⟨e0, he0⟩ : ∃ e, checkV st q = e := ⟨_, rfl⟩
  rw [he0] at HCK hc
  rw [hn] at HCK ⊢
  have hj : (e0 != 0) = true := by simpa using hc
  clear hN hn he0 hc
  go_enter Tryd.func47, Tryd.ntmps47
  go_wp2_with (go_at_call 79; go_must (refine Calls.mono HCK.out ?_; rintro e w2 ⟨rfl, hb2⟩; have HB2 := Hd.mk (below_seq (below_alloc (below_alloc (Below.refl _ _) _) _) hb2); clear hb2))
  go_ret
  exact ⟨rfl, HB2.out⟩
set_option maxHeartbeats 2000000 in
theorem best_ok (st : Int) (A : Option Addr) (c : Nat) (q : List St) (S : Nat → Prop) (g room cc : Nat) (ws : List Nat) (w : World) (hN : NF w S A q) (hc : checkV st q = 0) (hK : Wok room ws) (hW : Wd w (some ⟨g, 0, none⟩) g ws) (hg : g < w.heap.size) (hT : TabAt 0 Lib.deBruijn64tab w) (h0 : 0 < w.heap.size) :
    Calls Tryd.prog 47 #[.agg #[.int .i64 st, .slice A q.length c], .agg #[.slice (some ⟨g, 0, none⟩) ws.length cc, .int .i64 room]] w fun e w' => e = .returned (.int .i64 (bestM q (marksW q.length ws))) ∧ Below w.heap.size w w' := by
  obtain ⟨hok, hlen⟩ := checkV_ok hc
  have HCK := Hd.mk (check_calls st A c q S ((w.alloc (.cells #[.int .i64 st, .slice A q.length c] 58)).alloc (.cells #[.slice (some ⟨g, 0, none⟩) ws.length cc, .int .i64 room] 28)) (fun k hk => by rw [size_alloc, size_alloc]; have := hN.lt k hk; omega) ((hN.row.below hN.lt (below_alloc (below_alloc (Below.refl _ _) _) _))))
  rw [hc] at HCK
  have HAL : Hd (∀ w', Below w.heap.size w w' → _) := ⟨fun w' hb => all_calls (some ⟨g, 0, none⟩) cc g room ws w' hK (hW.below hb) (Nat.lt_of_lt_of_le hg hb.size) (fun j hj => (hb.cell (p := ⟨0, j, none⟩) h0).trans (hT j hj)) (Nat.lt_of_lt_of_le h0 hb.size)⟩
  have HBM : Hd (bestM q (marksW q.length ws) = bestL q ((elemsI ws).filter (fun y => decide (y < (q.length : Int))))) := ⟨by rw [elemsI_marks hK, bestL_marks q _ (marksW_len _ _)]⟩
  have HSO := Hd.mk (elemsI_sorted ws)
  have HEL := Hd.mk (elemsI_len hK)
  obtain ⟨n, hn⟩ : ∃ m, q.length = m := ⟨_, rfl⟩
  obtain ⟨m, hm⟩ : ∃ m, ws.length = m := ⟨_, rfl⟩
  obtain ⟨r, hr⟩ : ∃ r, bestM q (marksW q.length ws) = r := ⟨_, rfl⟩
  rw [hr] at HBM ⊢
  rw [hn] at HCK HBM ⊢
  rw [hm] at HCK HAL ⊢
  have hrow := hN.row
  rw [hn] at hrow hlen
  have HROW := Hd.mk hrow; have HLT := Hd.mk hN.lt; have HNE := Hd.mk hn
  clear hN hc hok hn hrow hm hr hK hW hg hT h0
  go_enter Tryd.func47, Tryd.ntmps47
  go_wp2_with (first
    | (go_at_call 23; go_must (refine Calls.mono (HAL.out w2 HB2.out) ?_; rintro e w3 ⟨A3, n3, c3, rfl, hr3, hb3⟩; have HR3 : Hd (Row I w3 (fun k => w2.heap.size ≤ k ∧ k < w3.heap.size) A3 n3 (elemsI ws)) := ⟨hr3⟩; have hx3 := blk_below hx2 hb3; have hy3 := blk_below hy2 hb3; have HB3 := Hd.mk (below_seq HB2.out hb3); clear hx2c0 hx2f0 hx2c1 hx2f1 hx2l; clear hy2c0 hy2f0 hy2c1 hy2f1 hy2l; have hx3c0 := blk_cell hx3 0 _ rfl; have hx3f0 := blk_frozen hx3 0; have hx3c1 := blk_cell hx3 1 _ rfl; have hx3f1 := blk_frozen hx3 1; have hx3l := blk_lt hx3; have hy3c0 := blk_cell hy3 0 _ rfl; have hy3f0 := blk_frozen hy3 0; have hy3c1 := blk_cell hy3 1 _ rfl; have hy3f1 := blk_frozen hy3 1; have hy3l := blk_lt hy3; clear hb3 hr3 hx2 hy2))
    | (go_at_call 79; go_must (refine Calls.mono HCK.out ?_; rintro e w2 ⟨rfl, hb2⟩; have HB2 := Hd.mk (below_seq (below_alloc (below_alloc (Below.refl _ _) _) _) hb2); have hx2 := blk_below (blk_new (w.alloc (.cells #[.int .i64 st, .slice A n c] 58)) (.cells #[.slice (some ⟨g, 0, none⟩) m cc, .int .i64 room] 28) (w.heap.size + 1) (by rw [size_alloc])) hb2; have hy2 := blk_below (blk_alloc (blk_new w (.cells #[.int .i64 st, .slice A n c] 58) w.heap.size rfl) (.cells #[.slice (some ⟨g, 0, none⟩) m cc, .int .i64 room] 28)) hb2; have hx2c0 := blk_cell hx2 0 _ rfl; have hx2f0 := blk_frozen hx2 0; have hx2c1 := blk_cell hx2 1 _ rfl; have hx2f1 := blk_frozen hx2 1; have hx2l := blk_lt hx2; have hy2c0 := blk_cell hy2 0 _ rfl; have hy2f0 := blk_frozen hy2 0; have hy2c1 := blk_cell hy2 1 _ rfl; have hy2f1 := blk_frozen hy2 1; have hy2l := blk_lt hy2; clear hb2)))
  have hnn : n3 ≤ 70400 := by
    have := HR3.out.1
    have := HEL.out
    omega
  go_loopw [5, 16] (fun b i wr => ∃ k, k ≤ n3 ∧ i = .int .i64 k ∧ b = .int .i64 (bestL q ((elemsI ws).take k)) ∧ Hd (∀ y ∈ (elemsI ws).take k, y < (n : Int)) ∧ wr = w3) (fun _ i _ => n3 - (intOf i).toNat)
  case atStart => exact ⟨0, Nat.zero_le _, rfl, by rw [List.take_zero]; rfl, ⟨fun y hy => by rw [List.take_zero] at hy; cases hy⟩, rfl⟩
  case round =>
    obtain ⟨k, hk, rfl, rfl, HY, rfl⟩ := hrel
    obtain ⟨b0, hb0⟩ : ∃ b, bestL q ((elemsI ws).take k) = b := ⟨_, rfl⟩
    rw [hb0]
    by_cases hlt : k < n3
    · obtain ⟨b, off, y, rfl, _, hb, hy, hcell⟩ := HR3.out.get_int k hlt
      have HT : Hd ((elemsI ws).take (k + 1) = (elemsI ws).take k ++ [y]) := ⟨by rw [List.take_add_one, hy]; rfl⟩
      have hy0 : 0 ≤ y := elemsI_nonneg (room := room) (List.mem_of_getElem? hy)
      have HYK := Hd.mk hy
      clear hy
      by_cases hyn : y < (n : Int)
      · obtain ⟨j, rfl⟩ : ∃ j : Nat, y = j := ⟨y.toNat, by omega⟩
        obtain ⟨b, off, x, A', c', rfl, hb, hx, h0x, h1x, h2x, h3x, h4x, hrow⟩ := st_get (HROW.out.below HLT.out HB3.out) j (by omega)
        have HG : Hd (bestL q ((elemsI ws).take (k + 1)) = if 0 ≤ x.tag ∧ (b0 < 0 ∨ x.tag < b0) then x.tag else b0) := ⟨by
          rw [HT.out, bestL_snoc, hb0]
          unfold bestG bestF
          rw [Int.toNat_natCast, hx]
          simp⟩
        have HYY : Hd (∀ y ∈ (elemsI ws).take (k + 1), y < (n : Int)) := ⟨fun y hy => by
          rw [HT.out] at hy
          rcases List.mem_append.1 hy with h | h
          · exact HY.out y h
          · rw [List.mem_singleton.1 h]; exact hyn⟩
        clear h0x h1x h2x h3x hrow hx
        by_cases ht : 0 ≤ x.tag
        · by_cases hb1 : b0 < 0
          · go_wp2
            go_roundw
            case rel => exact ⟨k + 1, by omega, by go_num, by rw [HG.out, if_pos ⟨ht, .inl hb1⟩], HYY, trivial⟩
            case measure => simp [intOf]; omega
          · by_cases hb2 : x.tag < b0
            · go_wp2
              go_roundw
              case rel => exact ⟨k + 1, by omega, by go_num, by rw [HG.out, if_pos ⟨ht, .inr hb2⟩], HYY, trivial⟩
              case measure => simp [intOf]; omega
            · go_wp2
              go_roundw
              case rel => exact ⟨k + 1, by omega, by go_num, by rw [HG.out, if_neg (by omega)], HYY, trivial⟩
              case measure => simp [intOf]; omega
        · go_wp2
          go_roundw
          case rel => exact ⟨k + 1, by omega, by go_num, by rw [HG.out, if_neg (by omega)], HYY, trivial⟩
          case measure => simp [intOf]; omega
      · go_wp2
        go_ret
        refine ⟨?_, HB3.out⟩
        rw [HBM.out, filter_upto HSO.out n k (by rw [HR3.out.1]; exact hk) HY.out (.inr ⟨y, HYK.out, by omega⟩), hb0]
        rfl
    · obtain rfl : k = n3 := by omega
      go_wp2
      go_ret
      refine ⟨?_, HB3.out⟩
      rw [HBM.out, filter_upto HSO.out n k (by rw [HR3.out.1]; exact hk) HY.out (.inl HR3.out.1.symm), hb0]
      rfl
end Go.Proofs.YtbmpaokicphdjaaDoor.Fn

/- Step. -/
namespace Go.Proofs.YtbmpaokicphdjaaDoor.Fn
open Go Go.RowKit Go.Proofs.YtbmpaokicphdjaaDoor.Can Go.Proofs.YtbmpaokicphdjaaDoor.Base
attribute [local go_sem] clsB AB.cell

/-- Where a number comes by a byte. -/
def landF (q : List St) (c : Nat) (y : Int) : List Int := match q[y.toNat]? with | some x => if 0 ≤ x.lo ∧ x.lo ≤ (c : Int) ∧ (c : Int) ≤ x.hi then [x.dst] else [] | none => []
def landL (q : List St) (c : Nat) (l : List Int) : List Int := l.flatMap (landF q c)
theorem landL_snoc (q : List St) (c : Nat) (l : List Int) (y : Int) : landL q c (l ++ [y]) = landL q c l ++ landF q c y := by simp [landL]
theorem landL_in {q : List St} {c : Nat} {m : List Bool} (k : Nat) : (k : Int) ∈ landL q c (numbersL m) ↔ ∃ i, isIn m i ∧ byteE q c i k := by
  unfold landL
  rw [List.mem_flatMap]
  constructor
  · rintro ⟨y, hy, hk⟩
    obtain ⟨h0, h1⟩ := (mem_numbersL m y).1 hy
    unfold landF at hk
    split at hk
    · rename_i x hx
      split at hk
      · rename_i h2
        exact ⟨y.toNat, h1, x, hx, h2.1, h2.2.1, h2.2.2, (List.mem_singleton.1 hk).symm⟩
      · cases hk
    · cases hk
  · rintro ⟨i, hi, x, hx, h1, h2, h3, h4⟩
    refine ⟨(i : Int), (mem_numbersL m i).2 ⟨by omega, by rw [Int.toNat_natCast]; exact hi⟩, ?_⟩
    unfold landF
    rw [Int.toNat_natCast, hx]
    dsimp only
    rw [if_pos ⟨h1, h2, h3⟩, h4]
    exact List.mem_singleton.2 rfl
theorem marks_step {st : Int} {q : List St} {n c : Nat} {ws : List Nat} {m : List Bool} (hn : q.length = n) (hs : okN st q) (hF : ∀ i, bitAt ws i = true ↔ Cl (epsE q) (fun i => (i : Int) ∈ landL q c (numbersL m) ∧ i < n) i) : marksW n ws = stepM q c m := by
  subst hn
  unfold stepM
  refine marks_closed (epsE_stays hs) (by rw [marksP_len]; exact Nat.le_refl _) hF (fun i => ?_)
  rw [marksP_in, landL_in]
  exact and_comm
set_option maxHeartbeats 1000000 in
theorem step_bad (st : Int) (A : Option Addr) (c : Nat) (q : List St) (S : Nat → Prop) (sl rm : Value) (ch : Nat) (w : World) (hN : NF w S A q) (hc : checkV st q ≠ 0) :
    Calls Tryd.prog 45 #[.agg #[.int .i64 st, .slice A q.length c], .agg #[sl, rm], .int .u8 ch] w fun e w' => e = .returned (.tuple #[.agg #[.slice none 0 0, .int .i64 0], .int .i64 (checkV st q)]) ∧ Below w.heap.size w w' := by
  have HCK := Hd.mk (check_calls st A c q S (((w.alloc (.cells #[.int .i64 st, .slice A q.length c] 58)).alloc (.cells #[sl, rm] 28)).alloc (.cells #[.slice none 0 0, .int .i64 0] 28)) (fun k hk => by rw [size_alloc, size_alloc, size_alloc]; have := hN.lt k hk; omega) ((hN.row.below hN.lt (below_alloc (below_alloc (below_alloc (Below.refl _ _) _) _) _))))
  obtain ⟨n, hn⟩ : ∃ m, q.length = m := ⟨_, rfl⟩
  obtain ⟨e0, he0⟩ : ∃ e, checkV st q = e := ⟨_, rfl⟩
  rw [he0] at HCK hc ⊢
  rw [hn] at HCK ⊢
  have hj : (e0 != 0) = true := by simpa using hc
  clear hN hn he0 hc
  go_enter Tryd.func45, Tryd.ntmps45
  go_wp2_with (go_at_call 79; go_must (refine Calls.mono HCK.out ?_; rintro e w2 ⟨rfl, hb2⟩; have hz2 := hb2.size; rw [size_alloc, size_alloc, size_alloc] at hz2; have HB2 := Hd.mk (below_seq (below_alloc (below_alloc (below_alloc (Below.refl _ _) _) _) _) hb2); have hx2 := blk_below (blk_new ((w.alloc (.cells #[.int .i64 st, .slice A n c] 58)).alloc (.cells #[sl, rm] 28)) (.cells #[.slice none 0 0, .int .i64 0] 28) (w.heap.size + 1 + 1) (by rw [size_alloc, size_alloc])) hb2; have hx2c0 := blk_cell hx2 0 _ rfl; have hx2f0 := blk_frozen hx2 0; have hx2c1 := blk_cell hx2 1 _ rfl; have hx2f1 := blk_frozen hx2 1; have hx2l := blk_lt hx2; clear hb2))
  refine bodyPost_ret (cell_tmp_row2 rfl _ _ (w.heap.size + 1 + 1) 28 #[.slice none 0 0, .int .i64 0] (0, 0) _ rfl (by first | exact hx2 | exact blk_set (blk_set hx2 0 _ _ rfl) 1 _ _ rfl) Tryd.underlying28 rfl (by kernel_rfl)) rfl ?_
  exact ⟨rfl, by first | exact HB2.out | exact below_set (below_set HB2.out (by omega) _ _) (by omega) _ _⟩
set_option maxHeartbeats 2000000 in
theorem step_ok (st : Int) (A : Option Addr) (c : Nat) (q : List St) (S : Nat → Prop) (g room cc ch : Nat) (hch : ch < 256) (ws : List Nat) (w : World) (hN : NF w S A q) (hc : checkV st q = 0) (hK : Wok room ws) (hW : Wd w (some ⟨g, 0, none⟩) g ws) (hg : g < w.heap.size) (hT : TabAt 0 Lib.deBruijn64tab w) (h0 : 0 < w.heap.size) :
    Calls Tryd.prog 45 #[.agg #[.int .i64 st, .slice A q.length c], .agg #[.slice (some ⟨g, 0, none⟩) ws.length cc, .int .i64 room], .int .u8 ch] w fun e w' => ∃ g' ws', e = .returned (.tuple #[setV g' q.length, .int .i64 0]) ∧ SetA w' w.heap.size g' q.length ws' ∧ marksW q.length ws' = stepM q ch (marksW q.length ws) ∧ Below w.heap.size w w' := by
  obtain ⟨hok, hlen⟩ := checkV_ok hc
  have HCK := Hd.mk (check_calls st A c q S (((w.alloc (.cells #[.int .i64 st, .slice A q.length c] 58)).alloc (.cells #[.slice (some ⟨g, 0, none⟩) ws.length cc, .int .i64 room] 28)).alloc (.cells #[.slice none 0 0, .int .i64 0] 28)) (fun k hk => by rw [size_alloc, size_alloc, size_alloc]; have := hN.lt k hk; omega) ((hN.row.below hN.lt (below_alloc (below_alloc (below_alloc (Below.refl _ _) _) _) _))))
  rw [hc] at HCK
  have HAL : Hd (∀ w', Below w.heap.size w w' → _) := ⟨fun w' hb => all_calls (some ⟨g, 0, none⟩) cc g room ws w' hK (hW.below hb) (Nat.lt_of_lt_of_le hg hb.size) (fun j hj => (hb.cell (p := ⟨0, j, none⟩) h0).trans (hT j hj)) (Nat.lt_of_lt_of_le h0 hb.size)⟩
  have HBM : Hd ((elemsI ws).filter (fun y => decide (y < (q.length : Int))) = numbersL (marksW q.length ws)) := ⟨elemsI_marks hK⟩
  have HSO := Hd.mk (elemsI_sorted ws)
  have HEL := Hd.mk (elemsI_len hK)
  obtain ⟨n, hn⟩ : ∃ m, q.length = m := ⟨_, rfl⟩
  obtain ⟨m, hm⟩ : ∃ m, ws.length = m := ⟨_, rfl⟩
  obtain ⟨mm, hmm⟩ : ∃ r, marksW q.length ws = r := ⟨_, rfl⟩
  rw [hmm] at HBM ⊢
  rw [hn] at HCK HBM ⊢
  rw [hm] at HCK HAL ⊢
  have hrow := hN.row
  rw [hn] at hrow hlen
  have HROW := Hd.mk hrow; have HLT := Hd.mk hN.lt; have HNE := Hd.mk hn; have HOK := Hd.mk hok
  clear hN hc hok hn hrow hm hmm hK hW hg hT h0
  unfold setV
  obtain ⟨K, hK⟩ : ∃ K, (n + 63) / 64 = K := ⟨_, rfl⟩
  rw [hK]
  have HK := Hd.mk hK
  clear hK
  go_enter Tryd.func45, Tryd.ntmps45
  go_wp2_with (first
    | (go_at_call 23; go_must (refine Calls.mono (HAL.out w2 HB2.out) ?_; rintro e w3 ⟨A3, n3, c3, rfl, hr3, hb3⟩; have HR3 : Hd (Row I w3 (fun k => w2.heap.size ≤ k ∧ k < w3.heap.size) A3 n3 (elemsI ws)) := ⟨hr3⟩; clear hr3; have hz3 := hb3.size; have hx3 := blk_below hx2 hb3; have hy3 := blk_below hy2 hb3; have hs3 := blk_below hs2 hb3; have HB3 := Hd.mk (below_seq HB2.out hb3); clear hx2c0 hx2f0 hx2c1 hx2f1 hx2l; clear hy2c0 hy2f0 hy2c1 hy2f1 hy2l; clear hs2c0 hs2f0 hs2c1 hs2f1 hs2l; have hx3c0 := blk_cell hx3 0 _ rfl; have hx3f0 := blk_frozen hx3 0; have hx3c1 := blk_cell hx3 1 _ rfl; have hx3f1 := blk_frozen hx3 1; have hx3l := blk_lt hx3; have hy3c0 := blk_cell hy3 0 _ rfl; have hy3f0 := blk_frozen hy3 0; have hy3c1 := blk_cell hy3 1 _ rfl; have hy3f1 := blk_frozen hy3 1; have hy3l := blk_lt hy3; have hs3c0 := blk_cell hs3 0 _ rfl; have hs3f0 := blk_frozen hs3 0; have hs3c1 := blk_cell hs3 1 _ rfl; have hs3f1 := blk_frozen hs3 1; have hs3l := blk_lt hs3; clear hb3 hx2 hy2 hs2))
    | (go_at_call 79; go_must (refine Calls.mono HCK.out ?_; rintro e w2 ⟨rfl, hb2⟩; have hz2 := hb2.size; rw [size_alloc, size_alloc, size_alloc] at hz2; have HB2 := Hd.mk (below_seq (below_alloc (below_alloc (below_alloc (Below.refl _ _) _) _) _) hb2); have hs2 := blk_below (blk_new ((w.alloc (.cells #[.int .i64 st, .slice A n c] 58)).alloc (.cells #[.slice (some ⟨g, 0, none⟩) m cc, .int .i64 room] 28)) (.cells #[.slice none 0 0, .int .i64 0] 28) (w.heap.size + 1 + 1) (by rw [size_alloc, size_alloc])) hb2; have hx2 := blk_below (blk_alloc (blk_new (w.alloc (.cells #[.int .i64 st, .slice A n c] 58)) (.cells #[.slice (some ⟨g, 0, none⟩) m cc, .int .i64 room] 28) (w.heap.size + 1) (by rw [size_alloc])) (.cells #[.slice none 0 0, .int .i64 0] 28)) hb2; have hy2 := blk_below (blk_alloc (blk_alloc (blk_new w (.cells #[.int .i64 st, .slice A n c] 58) w.heap.size rfl) (.cells #[.slice (some ⟨g, 0, none⟩) m cc, .int .i64 room] 28)) (.cells #[.slice none 0 0, .int .i64 0] 28)) hb2; have hx2c0 := blk_cell hx2 0 _ rfl; have hx2f0 := blk_frozen hx2 0; have hx2c1 := blk_cell hx2 1 _ rfl; have hx2f1 := blk_frozen hx2 1; have hx2l := blk_lt hx2; have hy2c0 := blk_cell hy2 0 _ rfl; have hy2f0 := blk_frozen hy2 0; have hy2c1 := blk_cell hy2 1 _ rfl; have hy2f1 := blk_frozen hy2 1; have hy2l := blk_lt hy2; have hs2c0 := blk_cell hs2 0 _ rfl; have hs2f0 := blk_frozen hs2 0; have hs2c1 := blk_cell hs2 1 _ rfl; have hs2f1 := blk_frozen hs2 1; have hs2l := blk_lt hs2; clear hb2)))
  have hnn : n3 ≤ 70400 := by
    have := HR3.out.1
    have := HEL.out
    omega
  have HX3 := Hd.mk hx3; have HY3 := Hd.mk hy3; have HRR3 := Hd.mk hs3
  clear hx3c0 hx3f0 hx3c1 hx3f1 hx3l
  clear hy3c0 hy3f0 hy3c1 hy3f1 hy3l
  clear hs3c0 hs3f0 hs3c1 hs3f1 hs3l
  clear hx3 hy3 hs3
  go_loopw [9, 23] (fun v i wr => ∃ (k n9 c9 : Nat) (A9 : Option Addr), k ≤ n3 ∧ i = .int .i64 k ∧ v = .slice A9 n9 c9 ∧ Hd (∀ y ∈ (elemsI ws).take k, y < (n : Int)) ∧ Hd (Mine I wr w3.heap.size 3 (.slice A9 n9 c9) (landL q ch ((elemsI ws).take k))) ∧ Hd ((landL q ch ((elemsI ws).take k)).length ≤ k) ∧ Hd (Below w3.heap.size w3 wr)) (fun _ i _ => n3 - (intOf i).toNat)
  case atStart => exact ⟨0, 0, 0, none, Nat.zero_le _, rfl, rfl, ⟨fun y hy => by rw [List.take_zero] at hy; cases hy⟩, ⟨by rw [List.take_zero]; exact Mine.nil _ _ _ _⟩, ⟨by rw [List.take_zero]; exact Nat.zero_le _⟩, ⟨Below.refl _ _⟩⟩
  case round =>
    obtain ⟨k, n9, c9, A9, hk, rfl, rfl, HY, HM, HLL, HB⟩ := hrel
    have hx3 := blk_below HX3.out HB.out
    have hy3 := blk_below HY3.out HB.out
    have hs3 := blk_below HRR3.out HB.out
    have HR3r := Hd.mk (HR3.out.below (fun k hk => hk.2) HB.out)
    have HROWr := Hd.mk (HROW.out.below HLT.out (below_seq HB3.out HB.out))
    have hx3c0 := blk_cell hx3 0 _ rfl; have hx3f0 := blk_frozen hx3 0; have hx3c1 := blk_cell hx3 1 _ rfl; have hx3f1 := blk_frozen hx3 1; have hx3l := blk_lt hx3
    have hy3c0 := blk_cell hy3 0 _ rfl; have hy3f0 := blk_frozen hy3 0; have hy3c1 := blk_cell hy3 1 _ rfl; have hy3f1 := blk_frozen hy3 1; have hy3l := blk_lt hy3
    have hs3c0 := blk_cell hs3 0 _ rfl; have hs3f0 := blk_frozen hs3 0; have hs3c1 := blk_cell hs3 1 _ rfl; have hs3f1 := blk_frozen hs3 1; have hs3l := blk_lt hs3
    have hzr := HB.out.size
    by_cases hlt : k < n3
    · obtain ⟨b, off, y, rfl, _, hb, hy, hcell⟩ := HR3r.out.get_int k hlt
      have HT : Hd ((elemsI ws).take (k + 1) = (elemsI ws).take k ++ [y]) := ⟨by rw [List.take_add_one, hy]; rfl⟩
      have hy0 : 0 ≤ y := elemsI_nonneg (room := room) (List.mem_of_getElem? hy)
      have HYK := Hd.mk hy
      clear hy
      by_cases hyn : y < (n : Int)
      · obtain ⟨j, rfl⟩ : ∃ j : Nat, y = j := ⟨y.toNat, by omega⟩
        obtain ⟨b, off, x, A', c', rfl, hb, hx, h0x, h1x, h2x, h3x, h4x, hrow⟩ := st_get HROWr.out j (by omega)
        have HG : Hd (landF q ch (j : Int) = if 0 ≤ x.lo ∧ x.lo ≤ (ch : Int) ∧ (ch : Int) ≤ x.hi then [x.dst] else []) := ⟨by
          unfold landF
          rw [Int.toNat_natCast, hx]⟩
        have HYY : Hd (∀ y ∈ (elemsI ws).take (k + 1), y < (n : Int)) := ⟨fun y hy => by
          rw [HT.out] at hy
          rcases List.mem_append.1 hy with h | h
          · exact HY.out y h
          · rw [List.mem_singleton.1 h]; exact hyn⟩
        obtain ⟨ne, hne⟩ : ∃ m, x.eps.length = m := ⟨_, rfl⟩
        rw [hne] at h3x
        clear hrow hx hne
        have hll := HLL.out
        have HBA := Hd.mk (below_seq HB.out (below_alloc (Below.refl wr.heap.size wr) (.cells #[.int .i64 x.lo, .int .i64 x.hi, .int .i64 x.dst, .slice A' ne c', .int .i64 x.tag] 71)))
        by_cases h1 : 0 ≤ x.lo
        · by_cases h2 : x.lo ≤ (ch : Int)
          · by_cases h3 : (ch : Int) ≤ x.hi
            · have e9 : landL q ch ((elemsI ws).take (k + 1)) = landL q ch ((elemsI ws).take k) ++ [x.dst] := by rw [HT.out, landL_snoc, HG.out, if_pos ⟨h1, h2, h3⟩]
              go_wp2_with (at_builtin; go_must (refine append_snoc I (Ty.int_flat _) rfl (.tmp 54) (.tmp 57) 24 3 _ 8 rfl Tryd.underlying24 info3 rfl (by decide) (by decide) w3.heap.size (.slice A9 n9 c9) (landL q ch ((elemsI ws).take k)) x.dst [.int .i64 x.dst] (wr.heap.size + 1) rfl rfl (blk_new (wr.alloc _) _ _ (by rw [size_alloc])) rfl (HM.out.below (below_alloc (below_alloc (Below.refl _ _) _) _)) (HM.out.ne_new (by omega)) (by rw [size_alloc, size_alloc]; omega) (by omega) ?_; intro v2 w5 hM5 hb5 hk5 hat5; obtain ⟨A5, n5, c5, rfl, -, -, -, -⟩ := hM5.formN; have HM5 := Hd.mk hM5; have HB5 := Hd.mk hb5; clear hM5 hb5 hk5 hat5))
              go_roundw
              case rel => exact ⟨k + 1, n5, c5, A5, by omega, by go_num, rfl, HYY, ⟨by rw [e9]; exact HM5.out⟩, ⟨by rw [e9, List.length_append, List.length_singleton]; omega⟩, ⟨(below_seq HBA.out (below_alloc (Below.refl _ _) _)).trans HB5.out⟩⟩
              case measure => simp [intOf]; omega
            · have e9 : landL q ch ((elemsI ws).take (k + 1)) = landL q ch ((elemsI ws).take k) := by rw [HT.out, landL_snoc, HG.out, if_neg (by omega), List.append_nil]
              go_wp2
              go_roundw
              case rel => exact ⟨k + 1, n9, c9, A9, by omega, by go_num, rfl, HYY, ⟨by rw [e9]; exact HM.out.below (below_alloc (Below.refl _ _) _)⟩, ⟨by rw [e9]; omega⟩, ⟨HBA.out⟩⟩
              case measure => simp [intOf]; omega
          · have e9 : landL q ch ((elemsI ws).take (k + 1)) = landL q ch ((elemsI ws).take k) := by rw [HT.out, landL_snoc, HG.out, if_neg (by omega), List.append_nil]
            go_wp2
            go_roundw
            case rel => exact ⟨k + 1, n9, c9, A9, by omega, by go_num, rfl, HYY, ⟨by rw [e9]; exact HM.out.below (below_alloc (Below.refl _ _) _)⟩, ⟨by rw [e9]; omega⟩, ⟨HBA.out⟩⟩
            case measure => simp [intOf]; omega
        · have e9 : landL q ch ((elemsI ws).take (k + 1)) = landL q ch ((elemsI ws).take k) := by rw [HT.out, landL_snoc, HG.out, if_neg (by omega), List.append_nil]
          go_wp2
          go_roundw
          case rel => exact ⟨k + 1, n9, c9, A9, by omega, by go_num, rfl, HYY, ⟨by rw [e9]; exact HM.out.below (below_alloc (Below.refl _ _) _)⟩, ⟨by rw [e9]; omega⟩, ⟨HBA.out⟩⟩
          case measure => simp [intOf]; omega
      · have HFI : Hd ((elemsI ws).filter (fun y => decide (y < (n : Int))) = (elemsI ws).take k) := ⟨filter_upto HSO.out n k (by rw [HR3.out.1]; exact hk) HY.out (.inr ⟨y, HYK.out, by omega⟩)⟩
        obtain ⟨A8, n8, c8, e8, hn9, -, -, hr9⟩ := HM.out.formN
        cases e8
        have HFR := Hd.mk (from_calls st A n c A9 n9 c9 (landL q ch ((elemsI ws).take k)) (fun k => w3.heap.size ≤ k ∧ k < wr.heap.size) wr (fun k hk => hk.2) hr9 (by have := HLL.out; omega))
        have HN9 := Hd.mk hn9
        clear hr9 hn9
        go_wp2_with (first
          | (go_at_call 81; go_must (refine Calls.mono (driveQ wr.heap.size p g1 n c st A q v1 _ S w4 HNE.out (by omega) (fun k hk => by have := HLT.out k hk; have := HB3.out.size; omega) (HROWr.out.below (fun k hk => by have := HLT.out k hk; have := HB3.out.size; omega) HB4.out) HW4.out HB4.out.size (epsE_stays HOK.out)) ?_; rintro e w5 ⟨⟨u, rfl⟩, v5, ws5, HP5, HS5, HF5, HB5⟩; have hp5 := HP5.out; unfold wkV at hp5; rw [HK.out] at hp5; have hs5 := (HB5.out.block (w.heap.size + 1 + 1) (by omega)).trans hs4; clear hs4c0 hs4f0 hs4c1 hs4f1 hs4l; have hs5c0 := blk_cell hs5 0 _ rfl; have hs5f0 := blk_frozen hs5 0; have hs5c1 := blk_cell hs5 1 _ rfl; have hs5f1 := blk_frozen hs5 1; have hs5l := blk_lt hs5; have hp5c0 := blk_cell hp5 0 _ rfl; have hp5f0 := blk_frozen hp5 0; have hp5c1 := blk_cell hp5 1 _ rfl; have hp5f1 := blk_frozen hp5 1; have hp5c2 := blk_cell hp5 2 _ rfl; have hp5f2 := blk_frozen hp5 2; have hp5c3 := blk_cell hp5 3 _ rfl; have hp5f3 := blk_frozen hp5 3; have hp5c4 := blk_cell hp5 4 _ rfl; have hp5f4 := blk_frozen hp5 4; have hp5l := blk_lt hp5))
          | (go_at_call 80; go_must (refine Calls.mono HFR.out ?_; rintro e w4 ⟨p, g1, v1, rfl, hw4, hb4⟩; have HW4 := Hd.mk hw4; have HB4 := Hd.mk hb4; have hs4 := blk_below hs3 hb4; clear hx3c0 hx3f0 hx3c1 hx3f1 hx3l; clear hs3c0 hs3f0 hs3c1 hs3f1 hs3l; have hs4c0 := blk_cell hs4 0 _ rfl; have hs4f0 := blk_frozen hs4 0; have hs4c1 := blk_cell hs4 1 _ rfl; have hs4f1 := blk_frozen hs4 1; have hs4l := blk_lt hs4; clear hw4 hb4)))
        refine bodyPost_ret (cell_tmp_row2 rfl _ _ (w.heap.size + 1 + 1) 28 #[.slice (some ⟨g1, 0, none⟩) K K, .int .i64 n] (0, 0) _ rfl (blk_set (blk_set hs5 0 _ _ rfl) 1 _ _ rfl) Tryd.underlying28 rfl (by kernel_rfl)) rfl ?_
        have hgl := HS5.out.lo
        have HF6 := HF5.out
        rw [← HFI.out, HBM.out] at HF6
        refine ⟨g1, ws5, rfl, (HS5.out.mono (by omega)).move (by rw [size_set, size_set]; exact Nat.le_refl _) ?_, marks_step HNE.out HOK.out HF6, ?_⟩
        · exact (Below.heap_setCell _ _ _ _ (by show ¬ g1 = w.heap.size + 1 + 1; omega)).trans (Below.heap_setCell _ _ _ _ (by show ¬ g1 = w.heap.size + 1 + 1; omega))
        · exact below_set (below_set (below_seq (below_seq HB3.out HB.out) (HB4.out.trans HB5.out)) (by omega) _ _) (by omega) _ _
    · obtain rfl : k = n3 := by omega
      have HFI : Hd ((elemsI ws).filter (fun y => decide (y < (n : Int))) = (elemsI ws).take k) := ⟨filter_upto HSO.out n k (by rw [HR3.out.1]; exact hk) HY.out (.inl HR3.out.1.symm)⟩
      obtain ⟨A8, n8, c8, e8, hn9, -, -, hr9⟩ := HM.out.formN
      cases e8
      have HFR := Hd.mk (from_calls st A n c A9 n9 c9 (landL q ch ((elemsI ws).take k)) (fun k => w3.heap.size ≤ k ∧ k < wr.heap.size) wr (fun k hk => hk.2) hr9 (by have := HLL.out; omega))
      have HN9 := Hd.mk hn9
      clear hr9 hn9
      go_wp2_with (first
        | (go_at_call 81; go_must (refine Calls.mono (driveQ wr.heap.size p g1 n c st A q v1 _ S w4 HNE.out (by omega) (fun k hk => by have := HLT.out k hk; have := HB3.out.size; omega) (HROWr.out.below (fun k hk => by have := HLT.out k hk; have := HB3.out.size; omega) HB4.out) HW4.out HB4.out.size (epsE_stays HOK.out)) ?_; rintro e w5 ⟨⟨u, rfl⟩, v5, ws5, HP5, HS5, HF5, HB5⟩; have hp5 := HP5.out; unfold wkV at hp5; rw [HK.out] at hp5; have hs5 := (HB5.out.block (w.heap.size + 1 + 1) (by omega)).trans hs4; clear hs4c0 hs4f0 hs4c1 hs4f1 hs4l; have hs5c0 := blk_cell hs5 0 _ rfl; have hs5f0 := blk_frozen hs5 0; have hs5c1 := blk_cell hs5 1 _ rfl; have hs5f1 := blk_frozen hs5 1; have hs5l := blk_lt hs5; have hp5c0 := blk_cell hp5 0 _ rfl; have hp5f0 := blk_frozen hp5 0; have hp5c1 := blk_cell hp5 1 _ rfl; have hp5f1 := blk_frozen hp5 1; have hp5c2 := blk_cell hp5 2 _ rfl; have hp5f2 := blk_frozen hp5 2; have hp5c3 := blk_cell hp5 3 _ rfl; have hp5f3 := blk_frozen hp5 3; have hp5c4 := blk_cell hp5 4 _ rfl; have hp5f4 := blk_frozen hp5 4; have hp5l := blk_lt hp5))
        | (go_at_call 80; go_must (refine Calls.mono HFR.out ?_; rintro e w4 ⟨p, g1, v1, rfl, hw4, hb4⟩; have HW4 := Hd.mk hw4; have HB4 := Hd.mk hb4; have hs4 := blk_below hs3 hb4; clear hx3c0 hx3f0 hx3c1 hx3f1 hx3l; clear hs3c0 hs3f0 hs3c1 hs3f1 hs3l; have hs4c0 := blk_cell hs4 0 _ rfl; have hs4f0 := blk_frozen hs4 0; have hs4c1 := blk_cell hs4 1 _ rfl; have hs4f1 := blk_frozen hs4 1; have hs4l := blk_lt hs4; clear hw4 hb4)))
      refine bodyPost_ret (cell_tmp_row2 rfl _ _ (w.heap.size + 1 + 1) 28 #[.slice (some ⟨g1, 0, none⟩) K K, .int .i64 n] (0, 0) _ rfl (blk_set (blk_set hs5 0 _ _ rfl) 1 _ _ rfl) Tryd.underlying28 rfl (by kernel_rfl)) rfl ?_
      have hgl := HS5.out.lo
      have HF6 := HF5.out
      rw [← HFI.out, HBM.out] at HF6
      refine ⟨g1, ws5, rfl, (HS5.out.mono (by omega)).move (by rw [size_set, size_set]; exact Nat.le_refl _) ?_, marks_step HNE.out HOK.out HF6, ?_⟩
      · exact (Below.heap_setCell _ _ _ _ (by show ¬ g1 = w.heap.size + 1 + 1; omega)).trans (Below.heap_setCell _ _ _ _ (by show ¬ g1 = w.heap.size + 1 + 1; omega))
      · exact below_set (below_set (below_seq (below_seq HB3.out HB.out) (HB4.out.trans HB5.out)) (by omega) _ _) (by omega) _ _
end Go.Proofs.YtbmpaokicphdjaaDoor.Fn
