/- Texts: C14, C15, C16. -/
import Derived.Test.YtbmpaokicphdjaaDoorCD
set_option linter.unusedVariables false
set_option linter.unusedSimpArgs false
/- The reference's sets: rounds over all states, until nothing is new: plain. -/
namespace Go.Proofs.YtbmpaokicphdjaaDoor.Fn
open Go Go.RowKit Go.Proofs.YtbmpaokicphdjaaDoor.Can Go.Proofs.YtbmpaokicphdjaaDoor.Base

def cnt (m : List Bool) : Nat := m.count true
theorem cnt_le (m : List Bool) : cnt m ≤ m.length := List.count_le_length
theorem mark_set (m : List Bool) (k i : Nat) (hk : k < m.length) : (m.set k true).getD i false = (m.getD i false || decide (i = k)) := by
  rw [List.getD_eq_getElem?_getD, List.getD_eq_getElem?_getD, List.getElem?_set]
  by_cases h : k = i
  · subst h
    rw [if_pos rfl, if_pos hk]
    simp
  · rw [if_neg h]
    have : decide (i = k) = false := decide_eq_false fun e => h e.symm
    rw [this, Bool.or_false]
theorem isIn_set (m : List Bool) (k i : Nat) (hk : k < m.length) : isIn (m.set k true) i ↔ isIn m i ∨ i = k := by
  unfold isIn
  rw [mark_set m k i hk, Bool.or_eq_true, decide_eq_true_iff]
theorem set_self {m : List Bool} {k : Nat} (h : isIn m k) : m.set k true = m := by
  have hl := isIn_lt h
  refine marks_ext (by simp) fun i => ?_
  rw [isIn_set m k i hl]
  exact ⟨fun h1 => by rcases h1 with h1 | rfl; exact h1; exact h, .inl⟩
theorem cnt_set {m : List Bool} {k : Nat} (hk : k < m.length) (h : ¬ isIn m k) : cnt (m.set k true) = cnt m + 1 := by
  induction m generalizing k with
  | nil => simp at hk
  | cons a l ih =>
    cases k with
    | zero =>
      have : a = false := by
        cases a
        · rfl
        · exact absurd rfl h
      subst this
      simp [cnt]
    | succ k =>
      have h2 := ih (k := k) (by simpa using hk) (fun hh => h (by unfold isIn at hh ⊢; simpa using hh))
      unfold cnt at h2 ⊢
      rw [List.set_cons_succ, List.count_cons, List.count_cons, h2]
      omega
theorem cnt_pos {m : List Bool} {k : Nat} (h : isIn m k) : 1 ≤ cnt m := by
  have hl := isIn_lt h
  unfold isIn at h
  rw [List.getD_eq_getElem?_getD, List.getElem?_eq_getElem hl] at h
  have h' : m[k] = true := h
  exact List.count_pos_iff.2 (h' ▸ List.getElem_mem hl)
/-- What is in the one is in the other. -/
def Sub (a b : List Bool) : Prop := ∀ k, isIn a k → isIn b k
theorem Sub.refl (a : List Bool) : Sub a a := fun _ h => h
theorem Sub.trans {a b c : List Bool} (h : Sub a b) (k : Sub b c) : Sub a c := fun i hi => k i (h i hi)
theorem Sub.cnt {a b : List Bool} (hl : a.length = b.length) (h : Sub a b) : cnt a ≤ cnt b ∧ (cnt a = cnt b → a = b) := by
  induction a generalizing b with
  | nil =>
    cases b with
    | nil => exact ⟨Nat.le_refl _, fun _ => rfl⟩
    | cons _ _ => simp at hl
  | cons x a ih =>
    cases b with
    | nil => simp at hl
    | cons y b =>
      have h2 := ih (b := b) (by simpa using hl) (fun k hk => by have := h (k + 1) (by unfold isIn at hk ⊢; simpa using hk); unfold isIn at this ⊢; simpa using this)
      have h0 := h 0
      unfold isIn at h0
      simp only [List.getD_cons_zero] at h0
      unfold Fn.cnt at h2 ⊢
      rw [List.count_cons, List.count_cons]
      cases x <;> cases y
      · exact ⟨by simpa using h2.1, fun e => by rw [h2.2 (by simpa using e)]⟩
      · exact ⟨by simp; omega, fun e => by simp at e; omega⟩
      · exact absurd (h0 rfl) (by decide)
      · exact ⟨by simpa using h2.1, fun e => by rw [h2.2 (by simpa using e)]⟩

/-! ### One mark, and whether it is new -/
def tickD (i : Nat) (s : List Bool × Bool) (k : Int) : List Bool × Bool := if s.1.getD i false = true then (s.1.set k.toNat true, s.2 || !(s.1.getD k.toNat false)) else s
def passI (q : List St) (s : List Bool × Bool) (i : Nat) : List Bool × Bool := match q[i]? with | some x => x.eps.foldl (tickD i) s | none => s
def passK (q : List St) (k : Nat) (s : List Bool × Bool) : List Bool × Bool := (List.range k).foldl (passI q) s
theorem passK_succ (q : List St) (k : Nat) (s : List Bool × Bool) : passK q (k + 1) s = passI q (passK q k s) k := by unfold passK; rw [List.range_succ, List.foldl_append]; rfl
structure Ps (q : List St) (m : List Bool) (s : List Bool × Bool) : Prop where
  len : s.1.length = q.length
  sub : Sub m s.1
  snd : ∀ Y : Nat → Prop, (∀ i, isIn m i → Y i) → (∀ i k, Y i → epsE q i k → Y k) → ∀ i, isIn s.1 i → Y i
  no : s.2 = false → s.1 = m
  yes : s.2 = true → 1 ≤ cnt m ∧ cnt m + 1 ≤ cnt s.1
theorem Ps.start {q : List St} {m : List Bool} (h : m.length = q.length) : Ps q m (m, false) := ⟨h, Sub.refl _, fun _ h _ => h, fun _ => rfl, fun h => by cases h⟩
theorem Ps.tick {q : List St} {m : List Bool} {s : List Bool × Bool} (h : Ps q m s) {i : Nat} {x : St} (hx : q[i]? = some x) {k : Int} (hk : k ∈ x.eps) (hr : 0 ≤ k ∧ k < q.length) : Ps q m (tickD i s k) := by
  unfold tickD
  split
  · rename_i hi
    have hkl : k.toNat < s.1.length := by rw [h.len]; omega
    have hE : epsE q i k.toNat := ⟨x, hx, by rw [Int.toNat_of_nonneg hr.1]; exact hk⟩
    refine ⟨by rw [List.length_set]; exact h.len, fun j hj => (isIn_set _ _ _ hkl).2 (.inl (h.sub j hj)), fun Y h1 h2 j hj => ?_, fun hn => ?_, fun hy => ?_⟩
    · rcases (isIn_set _ _ _ hkl).1 hj with h3 | rfl
      · exact h.snd Y h1 h2 j h3
      · exact h2 _ _ (h.snd Y h1 h2 i hi) hE
    · rw [Bool.or_eq_false_iff] at hn
      have h3 : isIn s.1 k.toNat := by unfold isIn; simpa using hn.2
      show s.1.set k.toNat true = m
      rw [set_self h3]
      exact h.no hn.1
    · show 1 ≤ cnt m ∧ cnt m + 1 ≤ cnt (s.1.set k.toNat true)
      have hy' : (s.2 || !(s.1.getD k.toNat false)) = true := hy
      by_cases hin : isIn s.1 k.toNat
      · rw [set_self hin]
        unfold isIn at hin
        rw [hin] at hy'
        exact h.yes (by simpa using hy')
      · rw [cnt_set hkl hin]
        cases hs : s.2 with
        | true => have := h.yes hs; omega
        | false =>
          have he := h.no hs
          rw [he] at hi ⊢
          exact ⟨cnt_pos hi, Nat.le_refl _⟩
  · exact h
theorem Ps.row {q : List St} {m : List Bool} {i : Nat} {x : St} (hx : q[i]? = some x) : ∀ (l : List Int) {s : List Bool × Bool}, Ps q m s → (∀ k ∈ l, k ∈ x.eps ∧ 0 ≤ k ∧ k < q.length) → Ps q m (l.foldl (tickD i) s) := by
  intro l
  induction l with
  | nil => exact fun h _ => h
  | cons k l ih => exact fun h hl => ih (h.tick hx (hl k (by simp)).1 (hl k (by simp)).2) (fun k hk => hl k (by simp [hk]))
theorem Ps.state {st : Int} {q : List St} {m : List Bool} {s : List Bool × Bool} (hok : okN st q) (h : Ps q m s) (i : Nat) : Ps q m (passI q s i) := by
  unfold passI
  split
  · rename_i x hx
    exact Ps.row hx x.eps h fun k hk => ⟨hk, (hok.2 x (List.mem_of_getElem? hx)).1 k hk⟩
  · exact h
theorem Ps.pass {st : Int} {q : List St} {m : List Bool} (hok : okN st q) (hm : m.length = q.length) : ∀ k, Ps q m (passK q k (m, false)) := by
  intro k
  induction k with
  | zero => exact Ps.start hm
  | succ k ih => rw [passK_succ]; exact ih.state hok k
theorem tick_flag {i : Nat} {s : List Bool × Bool} {k : Int} (h : (tickD i s k).2 = false) : s.2 = false := by
  unfold tickD at h
  split at h
  · exact (Bool.or_eq_false_iff.1 h).1
  · exact h
theorem row_flag {i : Nat} (l : List Int) : ∀ {s : List Bool × Bool}, (l.foldl (tickD i) s).2 = false → s.2 = false := by
  induction l with
  | nil => exact fun h => h
  | cons k l ih => exact fun h => tick_flag (ih h)
theorem row_closed {i : Nat} (l : List Int) : ∀ {m : List Bool}, (l.foldl (tickD i) (m, false)).2 = false → isIn m i → ∀ k ∈ l, isIn m k.toNat := by
  induction l with
  | nil => intro m _ _ k hk; cases hk
  | cons k l ih =>
    intro m h hi
    have h1 := row_flag l h
    have h2 : isIn m k.toNat := by
      unfold tickD at h1
      rw [if_pos (show (m, false).1.getD i false = true from hi)] at h1
      unfold isIn
      simpa using h1
    have e : tickD i (m, false) k = (m, false) := by
      unfold tickD
      rw [if_pos (show (m, false).1.getD i false = true from hi)]
      dsimp only
      rw [set_self h2]
      unfold isIn at h2
      rw [h2]; rfl
    rw [List.foldl_cons, e] at h
    intro j hj
    rcases List.mem_cons.1 hj with rfl | hj
    · exact h2
    · exact ih h hi j hj
theorem passI_flag {q : List St} {s : List Bool × Bool} {i : Nat} (h : (passI q s i).2 = false) : s.2 = false := by
  unfold passI at h
  split at h
  · exact row_flag _ h
  · exact h
theorem pass_closed {st : Int} {q : List St} {m : List Bool} (hok : okN st q) (hm : m.length = q.length) : ∀ k, (passK q k (m, false)).2 = false → ∀ i, i < k → ∀ j, isIn m i → epsE q i j → isIn m j := by
  intro k
  induction k with
  | zero => intro _ i hi; omega
  | succ k ih =>
    intro h i hi j hin he
    rw [passK_succ] at h
    have h1 := passI_flag h
    rcases Nat.lt_or_ge i k with h2 | h2
    · exact ih h1 i h2 j hin he
    · obtain rfl : i = k := by omega
      have e : passK q i (m, false) = (m, false) := Prod.ext ((Ps.pass hok hm i).no h1) h1
      rw [e] at h
      obtain ⟨x, hx, hj⟩ := he
      unfold passI at h
      rw [hx] at h
      have := row_closed x.eps h hin _ hj
      rwa [Int.toNat_natCast] at this
/-- What holds at the head of each round. -/
structure Rd (q : List St) (m0 : List Bool) (k : Nat) (m : List Bool) (more : Bool) : Prop where
  len : m.length = q.length
  sub : Sub m0 m
  snd : ∀ i, isIn m i → Cl (epsE q) (isIn m0) i
  no : more = false → ∀ i j, isIn m i → epsE q i j → isIn m j
  yes : more = true → k = 0 ∨ k + 1 ≤ cnt m
theorem Rd.start {q : List St} {m : List Bool} (h : m.length = q.length) : Rd q m 0 m true := ⟨h, Sub.refl _, (fun _ h => .base h), (fun h => by cases h), (fun _ => .inl rfl)⟩
theorem Rd.round {st : Int} {q : List St} {m0 : List Bool} {k : Nat} {m : List Bool} (hok : okN st q) (h : Rd q m0 k m true) : Rd q m0 (k + 1) (passK q q.length (m, false)).1 (passK q q.length (m, false)).2 := by
  have hp := Ps.pass hok h.len q.length
  refine ⟨hp.len, h.sub.trans hp.sub, fun i hi => hp.snd _ h.snd (fun i k hi he => .step hi he) i hi, fun hn i j hi he => ?_, fun hy => ?_⟩
  · rw [hp.no hn] at hi ⊢
    exact pass_closed hok h.len q.length hn i (by have := isIn_lt hi; rw [h.len] at this; exact this) j hi he
  · have h1 := hp.yes hy
    rcases h.yes rfl with h2 | h2
    · subst h2; exact .inr (by omega)
    · exact .inr (by omega)
theorem Rd.done {st : Int} {q : List St} {m0 : List Bool} {k : Nat} {m : List Bool} {more : Bool} (hok : okN st q) (h0 : m0.length = q.length) (h : Rd q m0 k m more) (he : k = q.length ∨ more = false) : m = closeM epsE q m0 := by
  refine closeM_eq (epsE_stays hok) (by rw [h0]; exact Nat.le_refl _) h.len h.sub ?_ h.snd
  cases hm : more with
  | false => exact h.no hm
  | true =>
    rcases he with he | he
    · rcases h.yes hm with h1 | h1
      · intro i j hi
        have := isIn_lt hi
        have := h.len
        omega
      · have := cnt_le m
        have := h.len
        omega
    · rw [hm] at he; cases he

/-! ### Alive: any steps -/
def goI (q : List St) (m : List Bool) (i : Nat) : List Bool := match q[i]? with | some x => if m.getD i false = true ∧ 0 ≤ x.lo then m.set x.dst.toNat true else m | none => m
def goK (q : List St) (k : Nat) (m : List Bool) : List Bool := (List.range k).foldl (goI q) m
theorem goK_succ (q : List St) (k : Nat) (m : List Bool) : goK q (k + 1) m = goI q (goK q k m) k := by unfold goK; rw [List.range_succ, List.foldl_append]; rfl
noncomputable def aRound (q : List St) (m : List Bool) : List Bool := closeM epsE q (goK q q.length m)
theorem dst_ok {st : Int} {q : List St} (hok : okN st q) {i : Nat} {x : St} (hx : q[i]? = some x) (hl : 0 ≤ x.lo) : 0 ≤ x.dst ∧ x.dst < q.length := by
  rcases (hok.2 x (List.mem_of_getElem? hx)).2.2 with h | h
  · omega
  · exact ⟨h.2.2.2.1, h.2.2.2.2⟩
theorem goK_ok {st : Int} {q : List St} {m : List Bool} (hok : okN st q) (hm : m.length = q.length) : ∀ k, (goK q k m).length = q.length ∧ Sub m (goK q k m) ∧ (∀ Y : Nat → Prop, (∀ i, isIn m i → Y i) → (∀ i k, Y i → anyE q i k → Y k) → ∀ i, isIn (goK q k m) i → Y i) ∧ (∀ i, i < k → isIn m i → ∀ x, q[i]? = some x → 0 ≤ x.lo → isIn (goK q k m) x.dst.toNat) := by
  intro k
  induction k with
  | zero => exact ⟨hm, Sub.refl _, fun _ h _ => h, fun i hi => by omega⟩
  | succ k ih =>
    obtain ⟨h1, h2, h3, h4⟩ := ih
    rw [goK_succ]
    unfold goI
    split
    · rename_i x hx
      split
      · rename_i hc
        have hd := dst_ok hok hx hc.2
        have hl : x.dst.toNat < (goK q k m).length := by rw [h1]; omega
        refine ⟨by rw [List.length_set]; exact h1, fun j hj => (isIn_set _ _ _ hl).2 (.inl (h2 j hj)), fun Y a b j hj => ?_, fun i hi him y hy hlo => (isIn_set _ _ _ hl).2 ?_⟩
        · rcases (isIn_set _ _ _ hl).1 hj with h5 | rfl
          · exact h3 Y a b j h5
          · exact b k _ (h3 Y a b k hc.1) ⟨x, hx, .inr ⟨hc.2, (Int.toNat_of_nonneg hd.1).symm⟩⟩
        · rcases Nat.lt_or_ge i k with h5 | h5
          · exact .inl (h4 i h5 him y hy hlo)
          · obtain rfl : i = k := by omega
            rw [hx] at hy; cases hy
            exact .inr rfl
      · rename_i hc
        refine ⟨h1, h2, h3, fun i hi him y hy hlo => ?_⟩
        rcases Nat.lt_or_ge i k with h5 | h5
        · exact h4 i h5 him y hy hlo
        · obtain rfl : i = k := by omega
          rw [hx] at hy; cases hy
          exact absurd ⟨h2 i him, hlo⟩ hc
    · rename_i hx
      refine ⟨h1, h2, h3, fun i hi him y hy hlo => ?_⟩
      rcases Nat.lt_or_ge i k with h5 | h5
      · exact h4 i h5 him y hy hlo
      · obtain rfl : i = k := by omega
        rw [hx] at hy; cases hy
theorem eps_any {q : List St} {i k : Nat} (h : epsE q i k) : anyE q i k := by obtain ⟨x, hx, h⟩ := h; exact ⟨x, hx, .inl h⟩
theorem aRound_ok {st : Int} {q : List St} {m : List Bool} (hok : okN st q) (hm : m.length = q.length) : (aRound q m).length = q.length ∧ Sub m (aRound q m) ∧ (∀ Y : Nat → Prop, (∀ i, isIn m i → Y i) → (∀ i k, Y i → anyE q i k → Y k) → ∀ i, isIn (aRound q m) i → Y i) ∧ (aRound q m = m → ∀ i k, isIn m i → anyE q i k → isIn m k) := by
  obtain ⟨h1, h2, h3, h4⟩ := goK_ok hok hm q.length
  have hcl : ∀ k, isIn (aRound q m) k ↔ Cl (epsE q) (isIn (goK q q.length m)) k := fun k => closeM_in (epsE_stays hok) (by rw [h1]; exact Nat.le_refl _) k
  refine ⟨closeM_len _ _ _, fun k hk => (hcl k).2 (.base (h2 k hk)), fun Y a b i hi => ((hcl i).1 hi).least (h3 Y a b) (fun i k hi he => b i k hi (eps_any he)), fun he i k hi hE => ?_⟩
  obtain ⟨x, hx, h | ⟨hlo, hd⟩⟩ := hE
  · rw [← he] at hi ⊢
    exact (hcl k).2 (.step ((hcl i).1 hi) ⟨x, hx, h⟩)
  · have h5 := h4 i (by have := isIn_lt hi; omega) hi x hx hlo
    rw [hd, Int.toNat_natCast] at h5
    rw [← he]
    exact (hcl k).2 (.base h5)
noncomputable def aRounds (q : List St) : Nat → List Bool → List Bool
  | 0, m => m
  | k + 1, m => aRound q (aRounds q k m)
theorem aRounds_ok {st : Int} {q : List St} {m : List Bool} (hok : okN st q) (hm : m.length = q.length) : ∀ k, (aRounds q k m).length = q.length ∧ Sub m (aRounds q k m) ∧ (∀ Y : Nat → Prop, (∀ i, isIn m i → Y i) → (∀ i k, Y i → anyE q i k → Y k) → ∀ i, isIn (aRounds q k m) i → Y i) ∧ (aRound q (aRounds q k m) = aRounds q k m ∨ k + 1 ≤ cnt (aRound q (aRounds q k m))) := by
  intro k
  have fin : ∀ {a : List Bool}, a.length = q.length → aRound q a = a ∨ cnt a + 1 ≤ cnt (aRound q a) := fun {a} ha => by
    obtain ⟨b1, b2, _, _⟩ := aRound_ok hok ha
    obtain ⟨c1, c2⟩ := Sub.cnt (by rw [ha, b1]) b2
    by_cases h : cnt a = cnt (aRound q a)
    · exact .inl (c2 h).symm
    · exact .inr (by omega)
  induction k with
  | zero => exact ⟨hm, Sub.refl _, fun _ h _ => h, by rcases fin hm with h | h; exact .inl h; exact .inr (by show 0 + 1 ≤ cnt (aRound q m); omega)⟩
  | succ k ih =>
    obtain ⟨h1, h2, h3, h4⟩ := ih
    obtain ⟨a1, a2, a3, _⟩ := aRound_ok hok h1
    refine ⟨a1, h2.trans a2, fun Y a b => a3 Y (h3 Y a b) b, ?_⟩
    show aRound q (aRound q (aRounds q k m)) = aRound q (aRounds q k m) ∨ _
    rcases h4 with h4 | h4
    · exact .inl (by rw [h4, h4])
    · rcases fin a1 with h5 | h5
      · exact .inl h5
      · exact .inr (by show k + 1 + 1 ≤ cnt (aRound q (aRound q (aRounds q k m))); omega)
theorem aRounds_done {st : Int} {q : List St} {m : List Bool} (hok : okN st q) (hm : m.length = q.length) : closeM epsE q (aRounds q q.length m) = closeM anyE q m := by
  obtain ⟨h1, h2, h3, h4⟩ := aRounds_ok hok hm q.length
  obtain ⟨b1, _, _, b4⟩ := aRound_ok hok h1
  have hfix : aRound q (aRounds q q.length m) = aRounds q q.length m := by
    rcases h4 with h4 | h4
    · exact h4
    · have := cnt_le (aRound q (aRounds q q.length m))
      omega
  have hc := b4 hfix
  rw [← closeM_eq (E := epsE) (epsE_stays hok) (by rw [h1]; exact Nat.le_refl _) h1 (Sub.refl _) (fun i k hi he => hc i k hi (eps_any he)) (fun k hk => .base hk)]
  exact closeM_eq (anyE_stays hok) (by rw [hm]; exact Nat.le_refl _) h1 h2 hc (fun k hk => h3 _ (fun _ h => .base h) (fun _ _ h e => .step h e) k hk)
end Go.Proofs.YtbmpaokicphdjaaDoor.Fn

/- The reference: may an automaton be; Far. -/
namespace Go.Proofs.YtbmpaokicphdjaaDoor.Fn
open Go Go.RowKit Go.Proofs.YtbmpaokicphdjaaDoor.Can Go.Proofs.YtbmpaokicphdjaaDoor.Base
attribute [local go_sem] clsB AB.cell

set_option maxHeartbeats 2000000 in
theorem rstate_calls (x : St) (n : Nat) (A : Option Addr) (c : Nat) (S : Nat → Prop) (w : World) (hS : ∀ k, S k → k < w.heap.size) (hC : Row I w S A x.eps.length x.eps) :
    Calls Tryd.prog 78 #[.agg #[.int .i64 x.lo, .int .i64 x.hi, .int .i64 x.dst, .slice A x.eps.length c, .int .i64 x.tag], .int .i64 n] w fun e w' => e = .returned (.bool (decide (okS n x))) ∧ Below w.heap.size w w' := by
  obtain ⟨m, hm⟩ : ∃ m, x.eps.length = m := ⟨_, rfl⟩
  rw [hm] at hC ⊢
  have hmN := hC.le
  obtain ⟨r, hr⟩ : ∃ r, decide (okS n x) = r := ⟨_, rfl⟩
  rw [hr]
  have HC := Hd.mk hC; have HS := Hd.mk hS; have HR := Hd.mk hr; have HM := Hd.mk hm
  clear hC hS hr hm
  obtain ⟨lo, hi, dst, eps, tag⟩ := x
  dsimp only at *
  go_enter Tryd.func78, Tryd.ntmps78
  go_wp2
  generalize hV : World.alloc _ _ = V
  have HBV : Below w.heap.size w V := below_of hV (by repeat (first | (with_reducible assumption) | (with_reducible exact Below.refl _ _) | (with_reducible apply below_drewL) | (with_reducible apply below_alloc) | (with_reducible apply below_drew1) | (with_reducible apply below_drewN) | (refine below_set ?_ (by first | omega | (simp only [size_alloc, size_drew, size_set]; omega)) _ _)))
  have zV : Hd (V.heap.size = w.heap.size + 1) := ⟨by rw [← hV]; simp only [size_alloc]⟩
  have V0 := at_of hV (blk_new _ _ _ rfl)
  have V0l := blk_lt V0
  clear hV
  have V0c0 := blk_cell V0 0 _ rfl; have V0f0 := blk_frozen V0 0; have V0c1 := blk_cell V0 1 _ rfl; have V0f1 := blk_frozen V0 1; have V0c2 := blk_cell V0 2 _ rfl; have V0f2 := blk_frozen V0 2; have V0c3 := blk_cell V0 3 _ rfl; have V0f3 := blk_frozen V0 3; have V0c4 := blk_cell V0 4 _ rfl; have V0f4 := blk_frozen V0 4; have V0l := blk_lt V0
  have HV := Hd.mk HBV
  clear zV HBV
  go_loopw [5] (fun i wr => ∃ k : Nat, k ≤ m ∧ i = .int .i64 k ∧ Hd (∀ y ∈ eps.take k, 0 ≤ y ∧ y < (n : Int)) ∧ V = wr) (fun i _ => m - (intOf i).toNat)
  case atStart => exact ⟨0, Nat.zero_le _, rfl, ⟨by simp⟩, rfl⟩
  case round =>
    obtain ⟨k, hk, rfl, HP, rfl⟩ := hrel
    by_cases hlt : k < m
    · obtain ⟨b, off, y, rfl, _, hb, hy, hcell⟩ := (HC.out.below HS.out HV.out).get_int k hlt
      have HT : Hd (eps.take (k + 1) = eps.take k ++ [y]) := ⟨by rw [List.take_add_one, hy]; rfl⟩
      have HY := Hd.mk hy
      clear hy
      by_cases hy0 : y < 0
      · obtain rfl : r = false := by rw [← HR.out]; exact okS_no (List.mem_of_getElem? HY.out) (by omega)
        go_wp2
        go_ret
        exact ⟨rfl, HV.out⟩
      · by_cases hyn : (n : Int) ≤ y
        · obtain rfl : r = false := by rw [← HR.out]; exact okS_no (List.mem_of_getElem? HY.out) (by omega)
          go_wp2
          go_ret
          exact ⟨rfl, HV.out⟩
        · have HP2 : Hd (∀ z ∈ eps.take (k + 1), 0 ≤ z ∧ z < (n : Int)) := ⟨fun z hz => by
            rw [HT.out] at hz
            rcases List.mem_append.1 hz with h | h
            · exact HP.out z h
            · rw [List.mem_singleton.1 h]; omega⟩
          go_wp2
          go_roundw
          case rel => exact ⟨k + 1, by omega, by go_num, HP2, (by first | trivial | rfl)⟩
          case measure => simp [intOf]; omega
    · obtain rfl : k = m := by omega
      have HALL : Hd (∀ z ∈ eps, 0 ≤ z ∧ z < (n : Int)) := ⟨by have := HP.out; rwa [← HM.out, List.take_length] at this⟩
      clear HP
      by_cases ht : tag < -1
      · skip
        obtain rfl : r = false := by rw [← HR.out]; exact decide_eq_false fun h => by have := h.2.1; dsimp only at this; omega
        go_wp2
        go_ret
        exact ⟨rfl, HV.out⟩
      · by_cases h1 : lo = -1
        · subst h1
          by_cases h2 : hi = -1
          · subst h2
            by_cases h3 : dst = -1
            · subst h3
              obtain rfl : r = true := by rw [← HR.out]; exact decide_eq_true ⟨HALL.out, (by dsimp only; omega), .inl ⟨rfl, rfl, rfl⟩⟩
              go_wp2
              go_ret
              exact ⟨rfl, HV.out⟩
            · have j3 : (dst == -1) = false := by simpa using h3
              obtain rfl : r = false := by rw [← HR.out]; exact decide_eq_false fun h => by have := h.2.2; dsimp only at this; omega
              go_wp2
              go_ret
              exact ⟨rfl, HV.out⟩
          · have j2 : (hi == -1) = false := by simpa using h2
            obtain rfl : r = false := by rw [← HR.out]; exact decide_eq_false fun h => by have := h.2.2; dsimp only at this; omega
            go_wp2
            go_ret
            exact ⟨rfl, HV.out⟩
        · have j1 : (lo == -1) = false := by simpa using h1
          by_cases h1 : 0 ≤ lo
          · by_cases h2 : lo ≤ hi
            · by_cases h3 : hi < 256
              · by_cases h4 : 0 ≤ dst
                · by_cases h5 : dst < (n : Int)
                  · skip
                    obtain rfl : r = true := by rw [← HR.out]; exact decide_eq_true ⟨HALL.out, (by dsimp only; omega), .inr ⟨h1, h2, (by dsimp only; omega), h4, h5⟩⟩
                    go_wp2
                    go_ret
                    exact ⟨rfl, HV.out⟩
                  · skip
                    obtain rfl : r = false := by rw [← HR.out]; exact decide_eq_false fun h => by have := h.2.2; dsimp only at this; omega
                    go_wp2
                    go_ret
                    exact ⟨rfl, HV.out⟩
                · skip
                  obtain rfl : r = false := by rw [← HR.out]; exact decide_eq_false fun h => by have := h.2.2; dsimp only at this; omega
                  go_wp2
                  go_ret
                  exact ⟨rfl, HV.out⟩
              · skip
                obtain rfl : r = false := by rw [← HR.out]; exact decide_eq_false fun h => by have := h.2.2; dsimp only at this; omega
                go_wp2
                go_ret
                exact ⟨rfl, HV.out⟩
            · skip
              obtain rfl : r = false := by rw [← HR.out]; exact decide_eq_false fun h => by have := h.2.2; dsimp only at this; omega
              go_wp2
              go_ret
              exact ⟨rfl, HV.out⟩
          · skip
            obtain rfl : r = false := by rw [← HR.out]; exact decide_eq_false fun h => by have := h.2.2; dsimp only at this; omega
            go_wp2
            go_ret
            exact ⟨rfl, HV.out⟩
end Go.Proofs.YtbmpaokicphdjaaDoor.Fn

/- The reference: Right, Far. -/
namespace Go.Proofs.YtbmpaokicphdjaaDoor.Fn
open Go Go.RowKit Go.Proofs.YtbmpaokicphdjaaDoor.Can Go.Proofs.YtbmpaokicphdjaaDoor.Base
attribute [local go_sem] clsB AB.cell

def ahead (st : Int) (n : Nat) (q : List St) : Bool := decide ((0 ≤ st ∧ st < n) ∧ ∀ x ∈ q, okS n x)
theorem ahead_snoc (st : Int) (n : Nat) (q : List St) (x : St) : ahead st n (q ++ [x]) = (ahead st n q && decide (okS n x)) := by
  unfold ahead
  rw [← Bool.decide_and]
  exact decide_eq_decide.2 ⟨fun h => ⟨⟨h.1, fun y hy => h.2 y (List.mem_append_left _ hy)⟩, h.2 x (by simp)⟩, fun h => ⟨h.1.1, fun y hy => by
    rcases List.mem_append.1 hy with h1 | h1
    · exact h.1.2 y h1
    · rw [List.mem_singleton.1 h1]; exact h.2⟩⟩
set_option maxHeartbeats 2000000 in
theorem rright_calls (st : Int) (A : Option Addr) (n c : Nat) (q : List St) (S : Nat → Prop) (w : World) (hn : q.length = n) (hN : NF w S A q) :
    Calls Tryd.prog 43 #[.agg #[.int .i64 st, .slice A n c]] w fun e w' => e = .returned (.bool (decide (okN st q))) ∧ Below w.heap.size w w' := by
  have hrow := hN.row
  rw [hn] at hrow
  have hmN := hrow.le
  have HROW := Hd.mk hrow; have HLT := Hd.mk hN.lt; have HN := Hd.mk hn
  have HR : Hd (ahead st n q = decide (okN st q)) := ⟨decide_eq_decide.2 (by unfold okN; rw [hn])⟩
  obtain ⟨r, hr⟩ : ∃ r, decide (okN st q) = r := ⟨_, rfl⟩
  rw [hr] at HR ⊢
  clear hn hN hrow hr
  go_enter Tryd.func43, Tryd.ntmps43
  obtain ⟨ib, hib⟩ : ∃ b, decide (0 ≤ st ∧ st < (n : Int)) = b := ⟨_, rfl⟩
  have HIB : Hd (ahead st n (q.take 0) = ib) := ⟨by rw [← hib, List.take_zero]; unfold ahead; simp⟩
  have HIB2 := Hd.mk hib
  clear hib
  go_upto_region 1 with fail
  go_cut [3] (fun v wx => v = .bool ib ∧ Hd (Below w.heap.size w wx) ∧ Hd (wx.heap[w.heap.size]? = some (.cells #[.int .i64 st, .slice A n c] 58 (0, 0))))
  case first =>
    by_cases h1 : 0 ≤ st
    · by_cases h2 : st < (n : Int)
      · obtain rfl : ib = true := by rw [← HIB2.out]; exact decide_eq_true ⟨h1, h2⟩
        go_wp2
        go_meet
        case rel => exact ⟨rfl, ⟨below_alloc (Below.refl _ _) _⟩, ⟨blk_new _ _ _ rfl⟩⟩
      · obtain rfl : ib = false := by rw [← HIB2.out]; exact decide_eq_false fun h => h2 h.2
        go_wp2
        go_meet
        case rel => exact ⟨rfl, ⟨below_alloc (Below.refl _ _) _⟩, ⟨blk_new _ _ _ rfl⟩⟩
    · obtain rfl : ib = false := by rw [← HIB2.out]; exact decide_eq_false fun h => h1 h.1
      go_wp2
      go_meet
      case rel => exact ⟨rfl, ⟨below_alloc (Below.refl _ _) _⟩, ⟨blk_new _ _ _ rfl⟩⟩
  case rest =>
    obtain ⟨rfl, HBC, HV0⟩ := hcut
    go_wp2
    go_loopw [3, 4] (fun v i wr => ∃ (k : Nat), k ≤ n ∧ i = .int .i64 k ∧ v = .bool (ahead st n (q.take k)) ∧ Hd (Below w.heap.size w wr) ∧ Hd (wr.heap[w.heap.size]? = some (.cells #[.int .i64 st, .slice A n c] 58 (0, 0)))) (fun _ i _ => n - (intOf i).toNat)
    case atStart => exact ⟨0, Nat.zero_le _, rfl, by rw [HIB.out], HBC, HV0⟩
    case round =>
      clear HBC HV0
      obtain ⟨k, hk, rfl, rfl, HB, HV0⟩ := hrel
      have hv := HV0.out
      have hvc0 := blk_cell hv 0 _ rfl; have hvf0 := blk_frozen hv 0; have hvc1 := blk_cell hv 1 _ rfl; have hvf1 := blk_frozen hv 1; have hvl := blk_lt hv
      obtain ⟨ab, hab⟩ : ∃ b, ahead st n (q.take k) = b := ⟨_, rfl⟩
      rw [hab]
      have HAB := Hd.mk hab
      clear hab
      by_cases hlt : k < n
      · obtain ⟨b, off, x, A', c', rfl, hb, hx, h0, h1, h2, h3, h4, hrow⟩ := st_get (HROW.out.below HLT.out HB.out) k hlt
        have HT : Hd (q.take (k + 1) = q.take k ++ [x]) := ⟨by rw [List.take_add_one, hx]; rfl⟩
        have HROW1 := Hd.mk hrow
        obtain ⟨ne, hne⟩ : ∃ m, x.eps.length = m := ⟨_, rfl⟩
        rw [hne] at h3
        have HNE := Hd.mk hne
        obtain ⟨ok, hok⟩ : ∃ b, decide (okS n x) = b := ⟨_, rfl⟩
        have HOK := Hd.mk hok
        clear hx hrow hne hok
        cases ab with
        | true =>
          go_wp2
          refine wp_region_can (.q [0, 1, 2, 3, 4, 5, 6, 7, 8, 9] (.e 10 false (.q [11, 12] (.done)))) (clsB _) (by kernel_rfl) (by kernel_rfl) (by intro _ _ d _ _ h; cases d <;> exact h) (clsB_drew _) ?_
          refine can_q (l := [⟨_,_,_,_,_,_⟩, ⟨_,_,_,_,_,_⟩, ⟨_,_,_,_,_,_⟩, ⟨_,_,_,_,_,_⟩, ⟨_,_,_,_,_,_⟩, ⟨_,_,_,_,_,_⟩, ⟨_,_,_,_,_,_⟩, ⟨_,_,_,_,_,_⟩, ⟨_,_,_,_,_,_⟩, ⟨_,_,_,_,_,_⟩]) rfl ?_
          repeat (go_big_quiet_step (fail))
          refine wpQuiet_nil ?_
          refine can_e (o := ⟨_,_,_,_,_,_⟩) rfl (fun K hK => ?_)
          go_wp2_with (go_at_call 78; go_must (have h9 := rstate_calls x n A' c' S wr.drew (fun q hq => by rw [size_drew]; have := HLT.out q hq; have := HB.out.size; omega) (HROW1.out.move (fun _ _ => rfl)); rw [HNE.out, HOK.out] at h9; refine Calls.mono h9 ?_; clear h9; rintro e w2 ⟨rfl, hb2⟩; have HB2 := Hd.mk (below_undrew hb2); have hv2 := blk_below hv HB2.out; clear hb2))
          refine onK_normal (hK _ _ ⟨fun _ => True, trivial, (fun h => by cases h), ?_⟩)
          clear hK K
          refine can_q (l := [⟨_,_,_,_,_,_⟩, ⟨_,_,_,_,_,_⟩]) rfl ?_
          repeat (go_big_quiet_step (fail))
          refine wpQuiet_nil ?_
          refine can_done ?_
          go_wp2
          go_roundw
          case rel =>
            exact ⟨k + 1, by omega, by go_num, by rw [HT.out, ahead_snoc, HAB.out, HOK.out]; rfl, ⟨below_seq HB.out HB2.out⟩, ⟨hv2⟩⟩
          case measure => simp [intOf]; omega
        | false =>
          go_wp2
          refine wp_region_can (.q [0, 1, 2, 3, 4, 5, 6, 7, 8, 9] (.e 10 false (.q [11, 12] (.done)))) (clsB _) (by kernel_rfl) (by kernel_rfl) (by intro _ _ d _ _ h; cases d <;> exact h) (clsB_drew _) ?_
          refine can_q (l := [⟨_,_,_,_,_,_⟩, ⟨_,_,_,_,_,_⟩, ⟨_,_,_,_,_,_⟩, ⟨_,_,_,_,_,_⟩, ⟨_,_,_,_,_,_⟩, ⟨_,_,_,_,_,_⟩, ⟨_,_,_,_,_,_⟩, ⟨_,_,_,_,_,_⟩, ⟨_,_,_,_,_,_⟩, ⟨_,_,_,_,_,_⟩]) rfl ?_
          repeat (go_big_quiet_step (fail))
          refine wpQuiet_nil ?_
          refine can_e (o := ⟨_,_,_,_,_,_⟩) rfl (fun K hK => ?_)
          go_wp2_with fail
          refine onK_normal (hK _ _ ⟨fun _ => True, trivial, (fun h => by cases h), ?_⟩)
          clear hK K
          refine can_q (l := [⟨_,_,_,_,_,_⟩, ⟨_,_,_,_,_,_⟩]) rfl ?_
          repeat (go_big_quiet_step (fail))
          refine wpQuiet_nil ?_
          refine can_done ?_
          go_wp2
          go_roundw
          case rel =>
            exact ⟨k + 1, by omega, by go_num, by rw [HT.out, ahead_snoc, HAB.out]; rfl, ⟨below_drew1 HB.out⟩, ⟨blk_drew hv⟩⟩
          case measure => simp [intOf]; omega
      · obtain rfl : k = n := by omega
        obtain rfl : ab = r := by rw [← HAB.out, ← HR.out, List.take_of_length_le (by rw [HN.out]; exact Nat.le_refl _)]
        go_wp2
        go_ret
        exact ⟨rfl, HB.out⟩
def farQ (n : Nat) (e : Ending) : Prop := ∃ b, e = .returned (.bool b) ∧ (b = false → n ≤ 300)
set_option maxRecDepth 20000 in
set_option maxHeartbeats 2000000 in
theorem far_calls (st : Int) (A : Option Addr) (n c : Nat) (q : List St) (S : Nat → Prop) (w : World) (hn : q.length = n) (hN : NF w S A q) :
    Calls Tryd.prog 40 #[.agg #[.int .i64 st, .slice A n c]] w fun e w' => farQ n e ∧ Below w.heap.size w w' := by
  have hrow := hN.row
  rw [hn] at hrow
  have hmN := hrow.le
  have HROW := Hd.mk hrow; have HLT := Hd.mk hN.lt; have HN := Hd.mk hn
  clear hn hN hrow
  go_enter Tryd.func40, Tryd.ntmps40
  go_wp2
  generalize hV : World.alloc _ _ = V
  have HBV : Below w.heap.size w V := below_of hV (by repeat (first | (with_reducible assumption) | (with_reducible exact Below.refl _ _) | (with_reducible apply below_drewL) | (with_reducible apply below_alloc) | (with_reducible apply below_drew1) | (with_reducible apply below_drewN) | (refine below_set ?_ (by first | omega | (simp only [size_alloc, size_drew, size_set]; omega)) _ _)))
  have zV : Hd (V.heap.size = w.heap.size + 1) := ⟨by rw [← hV]; simp only [size_alloc]⟩
  have V0 := at_of hV (blk_new _ _ _ rfl)
  have V0l := blk_lt V0
  clear hV
  have HV := Hd.mk HBV; have HV0 := Hd.mk V0
  have V0c0 := blk_cell V0 0 _ rfl; have V0f0 := blk_frozen V0 0; have V0c1 := blk_cell V0 1 _ rfl; have V0f1 := blk_frozen V0 1; have V0l := blk_lt V0
  clear zV HBV
  go_loopw [3, 4] (fun v i wr => ∃ (k : Nat) (s : Int), k ≤ n ∧ k ≤ 400 ∧ i = .int .i64 k ∧ v = .int .i64 s ∧ wr = V) (fun _ i _ => n - (intOf i).toNat)
  case atStart => exact ⟨0, 0, Nat.zero_le _, by omega, rfl, rfl, rfl⟩
  case round =>
    obtain ⟨k, s, hk, hk4, rfl, rfl, rfl⟩ := hrel
    by_cases hlt : k < n
    · by_cases hlt4 : k < 400
      · obtain ⟨b, off, x, A', c', rfl, hb, hx, h0, h1, h2, h3, h4, hrow⟩ := st_get (HROW.out.below HLT.out HV.out) k hlt
        obtain ⟨ne, hne⟩ : ∃ m, x.eps.length = m := ⟨_, rfl⟩
        rw [hne] at h3
        clear hx hne hrow
        go_wp2
        go_roundw
        case rel => exact ⟨k + 1, wrap64 (s + ne), by omega, by omega, by go_num, rfl, trivial⟩
        case measure => simp [intOf]; omega
      · go_wp2
        by_cases h3 : (300 : Int) < n
        · go_wp2
          go_ret
          exact ⟨⟨true, rfl, (fun h => by cases h)⟩, HV.out⟩
        · omega
    · obtain rfl : k = n := by omega
      by_cases h3 : (300 : Int) < k
      · go_wp2
        go_ret
        exact ⟨⟨true, rfl, (fun h => by cases h)⟩, HV.out⟩
      · go_wp2
        go_ret
        exact ⟨⟨_, rfl, (fun h => by omega)⟩, HV.out⟩
end Go.Proofs.YtbmpaokicphdjaaDoor.Fn
