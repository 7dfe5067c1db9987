/- Texts: E1, E2, E3, E4, E5. -/
import Derived.Test.YtbmpaokicphdjaaDoorCI
import Derived.Test.YtbmpaokicphdjaaDoorS8
import Derived.Test.YtbmpaokicphdjaaDoorDB
set_option linter.unusedVariables false
set_option linter.unusedSimpArgs false
/- Sets of states as they are met: the plain law. -/
namespace Go.Proofs.YtbmpaokicphdjaaDoor.Fn
open Go Go.RowKit Go.Proofs.YtbmpaokicphdjaaDoor.Can Go.Proofs.YtbmpaokicphdjaaDoor.Base

/-- A set's number; the sets with it. -/
def addM (all : List (List Bool)) (x : List Bool) : List (List Bool) × Int :=
  if true ∈ x then (if x ∈ all then (all, (all.idxOf x : Nat)) else (all ++ [x], (all.length : Nat))) else (all, -1)
noncomputable def rowM (q : List St) (m : List Bool) (fs : List Nat) (all : List (List Bool)) : List (List Bool) × List Int :=
  fs.foldl (fun p c => ((addM p.1 (stepM q c m)).1, p.2 ++ [(addM p.1 (stepM q c m)).2])) (all, [])
theorem rowM_snoc (q : List St) (m : List Bool) (fs : List Nat) (c : Nat) (all : List (List Bool)) : rowM q m (fs ++ [c]) all = ((addM (rowM q m fs all).1 (stepM q c m)).1, (rowM q m fs all).2 ++ [(addM (rowM q m fs all).1 (stepM q c m)).2]) := by simp [rowM]
/-- So many states made. -/
noncomputable def bld (st : Int) (q : List St) (fs : List Nat) : Nat → List (List Bool) × List (List Int)
  | 0 => ([startM st q], [])
  | i + 1 => match (bld st q fs i).1[i]? with
    | some m => ((rowM q m fs (bld st q fs i).1).1, (bld st q fs i).2 ++ [(rowM q m fs (bld st q fs i).1).2])
    | none => bld st q fs i
theorem bld_some {st : Int} {q : List St} {fs : List Nat} {i : Nat} {m : List Bool} (h : (bld st q fs i).1[i]? = some m) : bld st q fs (i + 1) = ((rowM q m fs (bld st q fs i).1).1, (bld st q fs i).2 ++ [(rowM q m fs (bld st q fs i).1).2]) := by
  show (match (bld st q fs i).1[i]? with | some m => _ | none => _) = _
  rw [h]
theorem bld_none {st : Int} {q : List St} {fs : List Nat} {i : Nat} (h : (bld st q fs i).1[i]? = none) : bld st q fs (i + 1) = bld st q fs i := by
  show (match (bld st q fs i).1[i]? with | some m => _ | none => _) = _
  rw [h]
/-- Sets that go on. -/
def Pre (a b : List (List Bool)) : Prop := ∃ l, b = a ++ l
theorem Pre.refl (a : List (List Bool)) : Pre a a := ⟨[], by simp⟩
theorem Pre.trans {a b c : List (List Bool)} (h : Pre a b) (k : Pre b c) : Pre a c := by
  obtain ⟨l, rfl⟩ := h; obtain ⟨l', rfl⟩ := k
  exact ⟨l ++ l', by rw [List.append_assoc]⟩
theorem Pre.len {a b : List (List Bool)} (h : Pre a b) : a.length ≤ b.length := by obtain ⟨l, rfl⟩ := h; rw [List.length_append]; omega
theorem Pre.get {a b : List (List Bool)} (h : Pre a b) {k : Nat} {x : List Bool} (hk : a[k]? = some x) : b[k]? = some x := by
  obtain ⟨l, rfl⟩ := h
  rw [List.getElem?_append_left (List.getElem?_eq_some_iff.1 hk).1]; exact hk
theorem add_pre (all : List (List Bool)) (x : List Bool) : Pre all (addM all x).1 := by
  unfold addM
  split
  · split
    · exact Pre.refl _
    · exact ⟨[x], rfl⟩
  · exact Pre.refl _
theorem list_snoc_ind {α : Type} {P : List α → Prop} (h0 : P []) (h1 : ∀ l x, P l → P (l ++ [x])) (l : List α) : P l := by
  have key : ∀ n, ∀ l : List α, l.length = n → P l := by
    intro n
    induction n with
    | zero => intro l hl; rw [List.eq_nil_of_length_eq_zero hl]; exact h0
    | succ n ih =>
      intro l hl
      have hne : l ≠ [] := fun h => by rw [h] at hl; cases hl
      rw [← List.dropLast_concat_getLast hne]
      exact h1 _ _ (ih _ (by rw [List.length_dropLast]; omega))
  exact key l.length l rfl
theorem row_pre (q : List St) (m : List Bool) (fs : List Nat) (all : List (List Bool)) : Pre all (rowM q m fs all).1 := by
  refine list_snoc_ind (P := fun fs => Pre all (rowM q m fs all).1) (Pre.refl _) (fun l c ih => ?_) fs
  rw [rowM_snoc]
  exact ih.trans (add_pre _ _)
theorem row_pre2 (q : List St) (m : List Bool) (l l' : List Nat) (all : List (List Bool)) : Pre (rowM q m l all).1 (rowM q m (l ++ l') all).1 := by
  refine list_snoc_ind (P := fun l' => Pre (rowM q m l all).1 (rowM q m (l ++ l') all).1) (by rw [List.append_nil]; exact Pre.refl _) (fun l' c ih => ?_) l'
  rw [← List.append_assoc, rowM_snoc]
  exact ih.trans (add_pre _ _)
theorem bld_pre (st : Int) (q : List St) (fs : List Nat) (i : Nat) : Pre (bld st q fs i).1 (bld st q fs (i + 1)).1 := by
  cases h : (bld st q fs i).1[i]? with
  | none => rw [bld_none h]; exact Pre.refl _
  | some m => rw [bld_some h]; exact row_pre _ _ _ _
theorem bld_mono (st : Int) (q : List St) (fs : List Nat) (i : Nat) : ∀ k, Pre (bld st q fs i).1 (bld st q fs (i + k)).1
  | 0 => Pre.refl _
  | k + 1 => (bld_mono st q fs i k).trans (bld_pre st q fs (i + k))
theorem bld_fix {st : Int} {q : List St} {fs : List Nat} {i : Nat} (h : (bld st q fs i).1.length ≤ i) : ∀ k, bld st q fs (i + k) = bld st q fs i
  | 0 => rfl
  | k + 1 => by
    have e := bld_fix h k
    rw [show i + (k + 1) = (i + k) + 1 by omega, bld_none (by rw [e]; exact List.getElem?_eq_none (by omega)), e]
/-- It ends, with no more than so many. -/
def Good (st : Int) (q : List St) (fs : List Nat) (most : Int) (D : List (List Bool) × List (List Int)) : Prop := ∃ i, bld st q fs i = D ∧ D.1.length = i ∧ (i : Int) ≤ most
def Bad (st : Int) (q : List St) (fs : List Nat) (most : Int) : Prop := ∃ i, most < ((bld st q fs i).1.length : Nat)
theorem good_bad {st : Int} {q : List St} {fs : List Nat} {most : Int} {D : List (List Bool) × List (List Int)} (h : Good st q fs most D) (k : Bad st q fs most) : False := by
  obtain ⟨i, rfl, hi, hm⟩ := h
  obtain ⟨j, hj⟩ := k
  rcases Nat.le_total i j with h1 | h1
  · obtain ⟨k, rfl⟩ := Nat.exists_eq_add_of_le h1
    rw [bld_fix (by omega)] at hj
    omega
  · obtain ⟨k, rfl⟩ := Nat.exists_eq_add_of_le h1
    have := (bld_mono st q fs j k).len
    omega
theorem good_one {st : Int} {q : List St} {fs : List Nat} {most most' : Int} {D D' : List (List Bool) × List (List Int)} (h : Good st q fs most D) (k : Good st q fs most' D') : D = D' := by
  obtain ⟨i, rfl, hi, hm⟩ := h
  obtain ⟨j, rfl, hj, hm'⟩ := k
  rcases Nat.le_total i j with h1 | h1
  · obtain ⟨k, rfl⟩ := Nat.exists_eq_add_of_le h1
    exact (bld_fix (by omega) k).symm
  · obtain ⟨k, rfl⟩ := Nat.exists_eq_add_of_le h1
    exact bld_fix (by omega) k
/-! ### What the sets, and the rows, are -/
def Codes (all : List (List Bool)) (y : List Bool) (x : Int) : Prop := (¬ true ∈ y ∧ x = -1) ∨ ∃ k : Nat, x = (k : Int) ∧ all[k]? = some y
theorem Codes.pre {a b : List (List Bool)} (hp : Pre a b) {y : List Bool} {x : Int} (h : Codes a y x) : Codes b y x := by
  rcases h with h | ⟨k, h1, h2⟩
  · exact .inl h
  · exact .inr ⟨k, h1, hp.get h2⟩
theorem Codes.in {a : List (List Bool)} {y : List Bool} {x : Int} (h : Codes a y x) : -1 ≤ x ∧ x < (a.length : Int) := by
  rcases h with ⟨_, rfl⟩ | ⟨k, rfl, h2⟩
  · omega
  · have := (List.getElem?_eq_some_iff.1 h2).1; omega
theorem add_codes (all : List (List Bool)) (x : List Bool) : Codes (addM all x).1 x (addM all x).2 := by
  unfold addM
  split
  · split
    · rename_i h1 h2
      refine .inr ⟨all.idxOf x, rfl, ?_⟩
      rw [List.getElem?_eq_getElem (List.idxOf_lt_length_of_mem h2), List.getElem_idxOf]
    · exact .inr ⟨all.length, rfl, by rw [List.getElem?_append_right (Nat.le_refl _), Nat.sub_self]; rfl⟩
  · rename_i h1
    exact .inl ⟨h1, rfl⟩
/-- The sets are unlike, not empty, and of so many states. -/
structure AllOk (n : Nat) (all : List (List Bool)) : Prop where
  nod : all.Nodup
  some' : ∀ m ∈ all, true ∈ m
  len : ∀ m ∈ all, m.length = n
theorem AllOk.add {n : Nat} {all : List (List Bool)} (h : AllOk n all) {x : List Bool} (hx : x.length = n) : AllOk n (addM all x).1 := by
  unfold addM
  split
  · split
    · exact h
    · rename_i h1 h2
      refine ⟨List.nodup_append.2 ⟨h.nod, by simp, fun a ha b hb e => ?_⟩, fun m hm => ?_, fun m hm => ?_⟩
      · rw [List.mem_singleton.1 hb] at e; exact h2 (e ▸ ha)
      · rcases List.mem_append.1 hm with hm | hm
        · exact h.some' m hm
        · rw [List.mem_singleton.1 hm]; exact h1
      · rcases List.mem_append.1 hm with hm | hm
        · exact h.len m hm
        · rw [List.mem_singleton.1 hm]; exact hx
  · exact h
theorem stepM_len (q : List St) (c : Nat) (m : List Bool) : (stepM q c m).length = q.length := closeM_len _ _ _
theorem AllOk.row {q : List St} {all : List (List Bool)} (h : AllOk q.length all) (m : List Bool) (fs : List Nat) : AllOk q.length (rowM q m fs all).1 := by
  refine list_snoc_ind (P := fun fs => AllOk q.length (rowM q m fs all).1) h (fun l c ih => ?_) fs
  rw [rowM_snoc]
  exact ih.add (stepM_len _ _ _)
theorem row_codes (q : List St) (m : List Bool) (fs : List Nat) (all : List (List Bool)) : (rowM q m fs all).2.length = fs.length ∧ ∀ (k c : Nat), fs[k]? = some c → ∃ x : Int, (rowM q m fs all).2[k]? = some x ∧ Codes (rowM q m fs all).1 (stepM q c m) x := by
  refine list_snoc_ind (P := fun fs => (rowM q m fs all).2.length = fs.length ∧ ∀ (k c : Nat), fs[k]? = some c → ∃ x : Int, (rowM q m fs all).2[k]? = some x ∧ Codes (rowM q m fs all).1 (stepM q c m) x) ⟨rfl, fun k c h => by simp at h⟩ (fun l c ih => ?_) fs
  rw [rowM_snoc]
  refine ⟨by rw [List.length_append, List.length_append, ih.1]; rfl, fun k c' hk => ?_⟩
  dsimp only
  rcases Nat.lt_or_ge k l.length with h1 | h1
  · rw [List.getElem?_append_left h1] at hk
    obtain ⟨x, h2, h3⟩ := ih.2 k c' hk
    exact ⟨x, by rw [List.getElem?_append_left (by rw [ih.1]; exact h1)]; exact h2, h3.pre (add_pre _ _)⟩
  · have hk2 := (List.getElem?_eq_some_iff.1 hk).1
    rw [List.length_append, List.length_singleton] at hk2
    obtain rfl : k = l.length := by omega
    rw [List.getElem?_append_right (Nat.le_refl _), Nat.sub_self] at hk
    obtain rfl : c = c' := by simpa using hk
    refine ⟨_, by rw [← ih.1, List.getElem?_append_right (Nat.le_refl _), Nat.sub_self]; rfl, add_codes _ _⟩
theorem start_some {st : Int} {q : List St} (h : okN st q) : true ∈ startM st q := by
  have h1 := h.1
  have hk : isIn (startM st q) st.toNat := by
    unfold startM
    rw [closeM_in (epsE_stays h) (by rw [marksP_len]; exact Nat.le_refl _)]
    refine .base ((marksP_in _ _ _).2 ⟨by omega, by omega⟩)
  unfold isIn at hk
  rw [List.getD_eq_getElem?_getD] at hk
  cases hx : (startM st q)[st.toNat]? with
  | none => rw [hx] at hk; cases hk
  | some b => rw [hx] at hk; exact List.mem_of_getElem? (by rw [hx]; exact congrArg _ hk)
theorem bld_len {st : Int} {q : List St} {fs : List Nat} : ∀ i, i ≤ (bld st q fs i).1.length → (bld st q fs i).2.length = i
  | 0, _ => rfl
  | i + 1, h => by
    cases hx : (bld st q fs i).1[i]? with
    | none =>
      rw [bld_none hx] at h ⊢
      have := List.getElem?_eq_none_iff.1 hx
      omega
    | some m =>
      have h1 := (List.getElem?_eq_some_iff.1 hx).1
      rw [bld_some hx, List.length_append, bld_len i (by omega)]; rfl
theorem bld_ok {st : Int} {q : List St} (h : okN st q) (fs : List Nat) : ∀ i, AllOk q.length (bld st q fs i).1 ∧ (bld st q fs i).1[0]? = some (startM st q) ∧ (bld st q fs i).2.length ≤ (bld st q fs i).1.length ∧
    ∀ (j : Nat) (r : List Int), (bld st q fs i).2[j]? = some r → r.length = fs.length ∧ ∃ m, (bld st q fs i).1[j]? = some m ∧ ∀ (k c : Nat), fs[k]? = some c → ∃ x, r[k]? = some x ∧ Codes (bld st q fs i).1 (stepM q c m) x
  | 0 => ⟨⟨by simp [bld], fun m hm => by rw [List.mem_singleton.1 hm]; exact start_some h, fun m hm => by rw [List.mem_singleton.1 hm]; exact closeM_len _ _ _⟩, rfl, Nat.zero_le _, fun j r hr => by simp [bld] at hr⟩
  | i + 1 => by
    obtain ⟨h1, h2, h3, h4⟩ := bld_ok h fs i
    cases hx : (bld st q fs i).1[i]? with
    | none => rw [bld_none hx]; exact ⟨h1, h2, h3, h4⟩
    | some m =>
      have hi := (List.getElem?_eq_some_iff.1 hx).1
      have hl := bld_len (st := st) (q := q) (fs := fs) i (by omega)
      have hp := row_pre q m fs (bld st q fs i).1
      rw [bld_some hx]
      refine ⟨h1.row m fs, hp.get h2, ?_, fun j r hr => ?_⟩
      · rw [List.length_append, hl, List.length_singleton]
        have := hp.len
        dsimp only
        omega
      · dsimp only at hr ⊢
        rcases Nat.lt_or_ge j i with hj | hj
        · rw [List.getElem?_append_left (by omega)] at hr
          obtain ⟨h5, m', h6, h7⟩ := h4 j r hr
          refine ⟨h5, m', hp.get h6, fun k c hk => ?_⟩
          obtain ⟨x, h8, h9⟩ := h7 k c hk
          exact ⟨x, h8, h9.pre hp⟩
        · have hj2 := (List.getElem?_eq_some_iff.1 hr).1
          rw [List.length_append, hl, List.length_singleton] at hj2
          obtain rfl : j = i := by omega
          rw [List.getElem?_append_right (by omega), hl, Nat.sub_self] at hr
          obtain rfl := Option.some.inj hr
          obtain ⟨h5, h6⟩ := row_codes q m fs (bld st q fs j).1
          exact ⟨h5, m, hp.get hx, h6⟩
end Go.Proofs.YtbmpaokicphdjaaDoor.Fn

/- The automaton of the sets of states: it may be; it tells the tags. -/
namespace Go.Proofs.YtbmpaokicphdjaaDoor.Fn
open Go Go.RowKit Go.Proofs.YtbmpaokicphdjaaDoor.Can Go.Proofs.YtbmpaokicphdjaaDoor.Base

/-- The ranges of bytes by which states go on. -/
def rgs (q : List St) : List Al.Rg := (q.filter fun x => decide (0 ≤ x.lo)).map fun x => ⟨x.lo, x.hi⟩
theorem mem_rgs {q : List St} {r : Al.Rg} : r ∈ rgs q ↔ ∃ x ∈ q, 0 ≤ x.lo ∧ r = ⟨x.lo, x.hi⟩ := by
  unfold rgs
  rw [List.mem_map]
  constructor
  · rintro ⟨x, hx, rfl⟩
    rw [List.mem_filter, decide_eq_true_iff] at hx
    exact ⟨x, hx.1, hx.2, rfl⟩
  · rintro ⟨x, hx, h0, rfl⟩
    exact ⟨x, List.mem_filter.2 ⟨hx, decide_eq_true h0⟩, rfl⟩
theorem keys_iff {L : List Al.Rg} {a b : Nat} : Al.keyF L a = Al.keyF L b ↔ ∀ r ∈ L, Al.inR r a = Al.inR r b := by
  unfold Al.keyF Al.keyR
  exact List.map_inj_left
/-- It is by the ranges alone, not by how often they stand. -/
theorem keys_same {L L' : List Al.Rg} (h : ∀ r, r ∈ L ↔ r ∈ L') : Al.clsL (Al.keyF L) 256 = Al.clsL (Al.keyF L') 256 ∧ (Al.met (Al.keyF L) 256).length = (Al.met (Al.keyF L') 256).length :=
  Al.clsL_congr fun a b _ _ => by
    rw [keys_iff, keys_iff]
    exact ⟨fun k r hr => k r ((h r).2 hr), fun k r hr => k r ((h r).1 hr)⟩
theorem byte_same {q : List St} {c c' : Nat} (h : ∀ r ∈ rgs q, Al.inR r c = Al.inR r c') (i k : Nat) : byteE q c i k → byteE q c' i k := by
  rintro ⟨x, hx, h0, h1, h2, h3⟩
  have hr := h ⟨x.lo, x.hi⟩ (mem_rgs.2 ⟨x, List.mem_of_getElem? hx, h0, rfl⟩)
  unfold Al.inR at hr
  have e : (decide (x.lo ≤ (c : Int)) && decide ((c : Int) ≤ x.hi)) = true := by rw [decide_eq_true h1, decide_eq_true h2]; rfl
  have hr' : (decide (x.lo ≤ (c : Int)) && decide ((c : Int) ≤ x.hi)) = (decide (x.lo ≤ (c' : Int)) && decide ((c' : Int) ≤ x.hi)) := hr
  rw [e] at hr'
  have h4 := hr'.symm
  rw [Bool.and_eq_true, decide_eq_true_iff, decide_eq_true_iff] at h4
  exact ⟨x, hx, h0, h4.1, h4.2, h3⟩
theorem step_same {q : List St} {c c' : Nat} (h : ∀ r ∈ rgs q, Al.inR r c = Al.inR r c') (m : List Bool) : stepM q c m = stepM q c' m := by
  unfold stepM
  have e : (fun k => ∃ i, isIn m i ∧ byteE q c i k) = fun k => ∃ i, isIn m i ∧ byteE q c' i k := by
    funext k
    apply propext
    exact ⟨fun ⟨i, h1, h2⟩ => ⟨i, h1, byte_same h i k h2⟩, fun ⟨i, h1, h2⟩ => ⟨i, h1, byte_same (fun r hr => (h r hr).symm) i k h2⟩⟩
  rw [e]
/-- A class's first byte. -/
theorem fst_at {K : Type} [BEq K] [LawfulBEq K] (f : Nat → K) : ∀ (n v : Nat), v < (Al.met f n).length → ∃ j, (Al.fstU f n)[v]? = some j ∧ j < n ∧ Al.cls f j = v
  | 0, v, h => absurd h (Nat.not_lt_zero v)
  | n + 1, v, h => by
    rw [Al.met_len_succ] at h
    rw [Al.fstU_succ]
    by_cases hc : Al.cls f n = (Al.met f n).length
    · rw [if_pos hc] at h
      rw [if_pos hc]
      rcases Nat.lt_or_ge v (Al.met f n).length with h1 | h1
      · obtain ⟨j, h2, h3, h4⟩ := fst_at f n v h1
        exact ⟨j, by rw [List.getElem?_append_left (List.getElem?_eq_some_iff.1 h2).1]; exact h2, by omega, h4⟩
      · have hv : v = (Al.fstU f n).length := by rw [Al.fstU_len]; omega
        exact ⟨n, by rw [hv, List.getElem?_append_right (Nat.le_refl _), Nat.sub_self]; rfl, by omega, by rw [hc]; omega⟩
    · rw [if_neg hc] at h
      rw [if_neg hc]
      obtain ⟨j, h2, h3, h4⟩ := fst_at f n v h
      exact ⟨j, h2, by omega, h4⟩
theorem fst_cls {K : Type} [BEq K] [LawfulBEq K] (f : Nat → K) {c : Nat} (hc : c < 256) : ∃ j, (Al.fstU f 256)[Al.cls f c]? = some j ∧ j < 256 ∧ f j = f c := by
  obtain ⟨j, h1, h2, h3⟩ := fst_at f 256 (Al.cls f c) (Al.cls_lt hc)
  exact ⟨j, h1, h2, Al.cls_same.1 h3⟩
theorem fst_lt {K : Type} [BEq K] [LawfulBEq K] (f : Nat → K) (c : Nat) : ∀ j ∈ Al.fstU f c, j < c := fun j hj => by
  unfold Al.fstU at hj
  exact List.mem_range.1 (List.mem_filter.1 hj).1
noncomputable def fsOf (q : List St) : List Nat := Al.fstU (Al.keyF (rgs q)) 256
noncomputable def dfaOf (q : List St) (D : List (List Bool) × List (List Int)) : Df.Df := ⟨Al.clsL (Al.keyF (rgs q)) 256, ((Al.met (Al.keyF (rgs q)) 256).length : Nat), D.2, D.1.map (bestM q), 0⟩
theorem fsOf_len (q : List St) : (fsOf q).length = (Al.met (Al.keyF (rgs q)) 256).length := Al.fstU_len _ _
theorem best_ge (q : List St) (m : List Bool) : -1 ≤ bestM q m := by
  rw [bestM_K]
  rcases bestK_cases q m q.length with ⟨h, _⟩ | ⟨h, _⟩ <;> omega
theorem no_isIn {m : List Bool} (h : ¬ true ∈ m) (k : Nat) : ¬ isIn m k := fun hk => by
  unfold isIn at hk
  rw [List.getD_eq_getElem?_getD] at hk
  cases hx : m[k]? with
  | none => rw [hx] at hk; cases hk
  | some b => rw [hx] at hk; exact h (List.mem_of_getElem? (by rw [hx]; exact congrArg _ hk))
theorem isIn_mem {m : List Bool} (h : true ∈ m) : ∃ k, isIn m k := by
  obtain ⟨k, hk, he⟩ := List.mem_iff_getElem.1 h
  refine ⟨k, ?_⟩
  unfold isIn
  rw [List.getD_eq_getElem?_getD, List.getElem?_eq_getElem hk, he]; rfl
theorem best_none {q : List St} {m : List Bool} (h : ¬ true ∈ m) : bestM q m = -1 := by
  rw [bestM_K]
  rcases bestK_cases q m q.length with ⟨h1, _⟩ | ⟨_, i, x, _, h3, _⟩
  · exact h1
  · exact absurd h3 (no_isIn h i)
theorem step_none {st : Int} {q : List St} (hok : okN st q) {m : List Bool} (h : ¬ true ∈ m) (c : Nat) : ¬ true ∈ stepM q c m := fun ht => by
  obtain ⟨k, hk⟩ := isIn_mem ht
  unfold stepM at hk
  rw [closeM_in (epsE_stays hok) (by rw [marksP_len]; exact Nat.le_refl _)] at hk
  refine hk.least (Y := fun _ => False) (fun i hi => ?_) (fun _ _ h _ => h)
  obtain ⟨_, j, hj, _⟩ := (marksP_in _ _ _).1 hi
  exact no_isIn h j hj
theorem good_rows {st : Int} {q : List St} (hok : okN st q) {most : Int} {D : List (List Bool) × List (List Int)} (h : Good st q (fsOf q) most D) :
    AllOk q.length D.1 ∧ D.1[0]? = some (startM st q) ∧ D.2.length = D.1.length ∧ (D.1.length : Int) ≤ most ∧
    ∀ (j : Nat) (r : List Int), D.2[j]? = some r → r.length = (fsOf q).length ∧ ∃ m, D.1[j]? = some m ∧ ∀ (k c : Nat), (fsOf q)[k]? = some c → ∃ x, r[k]? = some x ∧ Codes D.1 (stepM q c m) x := by
  obtain ⟨i, rfl, hi, hm⟩ := h
  obtain ⟨h1, h2, h3, h4⟩ := bld_ok hok (fsOf q) i
  exact ⟨h1, h2, by rw [bld_len i (by omega), hi], by rw [hi]; exact hm, h4⟩
theorem okD_build {st : Int} {q : List St} (hok : okN st q) {most : Int} (hm : most ≤ 1024) {D : List (List Bool) × List (List Int)} (h : Good st q (fsOf q) most D) : Df.okD (dfaOf q D) := by
  obtain ⟨h1, h2, h3, h4, h5⟩ := good_rows hok h
  have h0 := (List.getElem?_eq_some_iff.1 h2).1
  refine ⟨⟨?_, ?_, ?_, ?_, ?_, ?_⟩, fun r hr => ?_, fun t ht => ?_⟩
  · show D.2.length ≤ 1024
    omega
  · show (D.1.map (bestM q)).length = D.2.length
    rw [List.length_map, h3]
  · show (-1 : Int) ≤ 0
    omega
  · show (0 : Int) < (D.2.length : Nat)
    omega
  · exact Al.right_cls _
  · show _ = ((Al.firstL (Al.clsL (Al.keyF (rgs q)) 256)).length : Int)
    rw [Al.first_cls, Al.asI_len, Al.fstU_len]; rfl
  · obtain ⟨j, hj, rfl⟩ := List.mem_iff_getElem.1 hr
    obtain ⟨h6, m, h7, h8⟩ := h5 j _ (List.getElem?_eq_getElem hj)
    have h6' : ((dfaOf q D).nxt[j]).length = (fsOf q).length := h6
    refine ⟨by rw [h6', fsOf_len]; rfl, fun x hx => ?_⟩
    obtain ⟨k, hk, rfl⟩ := List.mem_iff_getElem.1 hx
    obtain ⟨y, h9, h10⟩ := h8 k _ (List.getElem?_eq_getElem (by omega))
    have e : (dfaOf q D).nxt[j][k]? = some ((dfaOf q D).nxt[j][k]) := List.getElem?_eq_getElem hk
    rw [e] at h9
    have := h10.in
    rw [Option.some.inj h9]
    refine ⟨this.1, ?_⟩
    show y < (D.2.length : Nat)
    rw [h3]; exact this.2
  · obtain ⟨m, _, rfl⟩ := List.mem_map.1 ht
    exact best_ge q m
theorem run_build {st : Int} {q : List St} (hok : okN st q) {most : Int} {D : List (List Bool) × List (List Int)} (h : Good st q (fsOf q) most D) (t : List UInt8) : Codes D.1 (runM st q t) (Df.runS (dfaOf q D) t) := by
  obtain ⟨h1, h2, h3, h4, h5⟩ := good_rows hok h
  refine list_snoc_ind (P := fun t => Codes D.1 (runM st q t) (Df.runS (dfaOf q D) t)) (.inr ⟨0, rfl, h2⟩) (fun l b ih => ?_) t
  rw [runM_snoc, Df.runS_snoc]
  rcases ih with ⟨h6, h7⟩ | ⟨k, h6, h7⟩
  · refine .inl ⟨step_none hok h6 _, ?_⟩
    rw [h7]
    exact Df.nextD_out (.inl (by decide))
  · rw [h6]
    have hk := (List.getElem?_eq_some_iff.1 h7).1
    have hk2 : k < D.2.length := by omega
    obtain ⟨h8, m, h9, h10⟩ := h5 k _ (List.getElem?_eq_getElem hk2)
    obtain rfl := Option.some.inj (h9.symm.trans h7)
    obtain ⟨c, h11, h12, h13⟩ := fst_cls (Al.keyF (rgs q)) b.toNat_lt
    obtain ⟨x, h14, h15⟩ := h10 _ c h11
    have e1 : stepM q c (runM st q l) = stepM q b.toNat (runM st q l) := step_same (keys_iff.1 h13) _
    have e2 : Df.nextD (dfaOf q D) (k : Int) b.toNat = x := by
      unfold Df.nextD
      have e3 : (dfaOf q D).nxt[k]? = some D.2[k] := List.getElem?_eq_getElem hk2
      have e4 : (dfaOf q D).cls[b.toNat]? = some (Al.cls (Al.keyF (rgs q)) b.toNat : Int) := Al.clsL_get b.toNat_lt
      rw [if_neg (by omega), Int.toNat_natCast, Df.getD_of e3, Df.getD_of e4, Int.toNat_natCast, Df.getD_of h14]
    rw [e2, ← e1]
    exact h15
theorem tag_build {st : Int} {q : List St} (hok : okN st q) {most : Int} {D : List (List Bool) × List (List Int)} (h : Good st q (fsOf q) most D) (t : List UInt8) : Df.tagD (dfaOf q D) (Df.runS (dfaOf q D) t) = bestM q (runM st q t) := by
  rcases run_build hok h t with ⟨h6, h7⟩ | ⟨k, h6, h7⟩
  · rw [h7, best_none h6, Df.tagD_out (.inl (by decide))]
  · rw [h6]
    refine Df.tagD_at ?_
    show (D.1.map (bestM q))[k]? = _
    rw [List.getElem?_map, h7]; rfl
theorem runV_build {st : Int} {q : List St} (hok : okN st q) {most : Int} (hm : most ≤ 1024) {D : List (List Bool) × List (List Int)} (h : Good st q (fsOf q) most D) (t : List UInt8) : Df.runV (dfaOf q D) t = bestM q (runM st q t) := by
  unfold Df.runV
  rw [if_pos (okD_build hok hm h), tag_build hok h t]
end Go.Proofs.YtbmpaokicphdjaaDoor.Fn

/- Is a range among ranges? A builder in memory. -/
namespace Go.Proofs.YtbmpaokicphdjaaDoor.Fn
open Go Go.RowKit Go.Proofs.YtbmpaokicphdjaaDoor.Can Go.Proofs.YtbmpaokicphdjaaDoor.Base
attribute [local go_sem] clsB AB.cell

theorem eqR (d : Nat) (w : World) (x0 x1 y0 y1 : Int) :
    (Op.equalIn (d + 2) 124 (.agg #[.int .i64 x0, .int .i64 x1]) (.agg #[.int .i64 y0, .int .i64 y1])).run Tryd.prog w = .ok (x0 == y0 && x1 == y1) w := by
  refine eq_struct Tryd.underlying124 (by kernel_rfl) ?_
  cases h0 : (x0 == y0) <;> cases h1 : (x1 == y1) <;> simp [Op.eqFields, go_sem, h0, h1]
attribute [local go_sem high] eqR
/-- A range's place among ranges; below 0: nowhere. -/
def RgAt (L : List Al.Rg) (r : Al.Rg) (x : Int) : Prop := (x = -1 ∧ r ∉ L) ∨ (0 ≤ x ∧ r ∈ L)
theorem rgAt_b {L : List Al.Rg} {r : Al.Rg} {x : Int} {b : Bool} (hb : (b = true) = (r ∈ L)) (h : RgAt L r x) : decide (0 ≤ x) = b := by
  rcases h with ⟨rfl, h⟩ | ⟨h0, h⟩
  · cases b with
    | false => rfl
    | true => exact absurd (hb.mp rfl) h
  · rw [decide_eq_true h0]
    exact (hb.mpr h).symm
theorem not_take {α : Type} {L : List α} {r : α} {n : Nat} (hn : L.length = n) (h : r ∉ L.take n) : r ∉ L := by rwa [Df.take_all hn] at h
set_option maxHeartbeats 1000000 in
theorem ixr_calls (A : Option Addr) (n c : Nat) (L : List Al.Rg) (lo hi : Int) (S : Nat → Prop) (w : World) (hS : ∀ k, S k → k < w.heap.size) (hC : Row Al.rT w S A n L) :
    Calls Tryd.prog 107 #[.slice A n c, .agg #[.int .i64 lo, .int .i64 hi]] w fun e w' => (∃ x, e = .returned (.int .i64 x) ∧ RgAt L ⟨lo, hi⟩ x) ∧ Below w.heap.size w w' := by
  have hn := hC.le
  have HN := Hd.mk hC.1
  have HC := Hd.mk (hC.below hS (below_alloc (Below.refl _ _) (.cells #[.int .i64 lo, .int .i64 hi] 124)))
  have HS : Hd (∀ k, S k → k < (w.alloc (.cells #[.int .i64 lo, .int .i64 hi] 124)).heap.size) := ⟨fun k hk => by rw [size_alloc]; have := hS k hk; omega⟩
  have HX : Hd ((w.alloc (.cells #[.int .i64 lo, .int .i64 hi] 124)).heap[w.heap.size]? = some (.cells #[.int .i64 lo, .int .i64 hi] 124 (0, 0))) := ⟨blk_new _ _ _ rfl⟩
  have HB0 := Hd.mk (below_alloc (Below.refl w.heap.size w) (.cells #[.int .i64 lo, .int .i64 hi] 124))
  clear hS hC
  go_enter Tryd.func107, Tryd.ntmps107
  go_upto_region 1 with fail
  generalize World.alloc w _ = W0 at *
  go_wp2
  go_loopw [8] (fun i wr => ∃ k : Nat, k ≤ n ∧ i = .int .i64 k ∧ Hd ((⟨lo, hi⟩ : Al.Rg) ∉ L.take k) ∧ Hd (Below W0.heap.size W0 wr)) (fun i _ => n - (intOf i).toNat)
  case atStart => exact ⟨0, Nat.zero_le _, rfl, ⟨by simp⟩, ⟨Below.refl _ _⟩⟩
  case round =>
    obtain ⟨k, hk, rfl, HK, HB⟩ := hrel
    have hx := blk_below HX.out HB.out
    have hxc0 := blk_cell hx 0 _ rfl; have hxf0 := blk_frozen hx 0; have hxc1 := blk_cell hx 1 _ rfl; have hxf1 := blk_frozen hx 1; have hxl := blk_lt hx
    by_cases hlt : k < n
    · obtain ⟨b, off, r, rfl, hb, hr, hc0, hc1⟩ := Al.rg_get (HC.out.below HS.out HB.out) k hlt
      have HR := Hd.mk hr
      clear hr
      have TK := Hd.mk (Df.take_snoc HR.out)
      by_cases he : lo = r.lo ∧ hi = r.hi
      · have h1 : (lo == r.lo) = true := by simpa using he.1
        have h2 : (hi == r.hi) = true := by simpa using he.2
        have HE := Hd.mk he
        clear he
        go_wp2
        refine wp_region_can (.q [0, 1, 2, 3, 4, 5] (.done)) (clsB _) (by kernel_rfl) (by kernel_rfl) (by intro _ _ d _ _ h; cases d <;> exact h) (clsB_drew _) ?_
        refine can_q (l := [⟨_,_,_,_,_,_⟩, ⟨_,_,_,_,_,_⟩, ⟨_,_,_,_,_,_⟩, ⟨_,_,_,_,_,_⟩, ⟨_,_,_,_,_,_⟩, ⟨_,_,_,_,_,_⟩]) rfl ?_
        repeat (go_big_quiet_step (fail))
        refine wpQuiet_nil ?_
        refine can_done ?_
        go_wp2
        go_ret
        exact ⟨⟨_, rfl, .inr ⟨by omega, List.mem_of_getElem? (i := k) (by rw [HR.out, HE.out.1, HE.out.2])⟩⟩, below_drew1 (below_seq HB0.out HB.out)⟩
      · have HE := Hd.mk he
        have hj : (lo == r.lo && hi == r.hi) = false := by
          cases h1 : (lo == r.lo) with
          | false => rfl
          | true =>
            cases h2 : (hi == r.hi) with
            | false => rfl
            | true => exact absurd ⟨by simpa using h1, by simpa using h2⟩ he
        clear he
        go_wp2
        refine wp_region_can (.q [0, 1, 2, 3, 4, 5] (.done)) (clsB _) (by kernel_rfl) (by kernel_rfl) (by intro _ _ d _ _ h; cases d <;> exact h) (clsB_drew _) ?_
        refine can_q (l := [⟨_,_,_,_,_,_⟩, ⟨_,_,_,_,_,_⟩, ⟨_,_,_,_,_,_⟩, ⟨_,_,_,_,_,_⟩, ⟨_,_,_,_,_,_⟩, ⟨_,_,_,_,_,_⟩]) rfl ?_
        repeat (go_big_quiet_step (fail))
        refine wpQuiet_nil ?_
        refine can_done ?_
        go_wp2
        go_roundw
        case rel =>
          refine ⟨k + 1, by omega, by go_num, ⟨fun hm => ?_⟩, ⟨below_drew1 HB.out⟩⟩
          rw [TK.out] at hm
          rcases List.mem_append.1 hm with hm | hm
          · exact HK.out hm
          · rw [List.mem_singleton] at hm
            exact HE.out ⟨by rw [← hm], by rw [← hm]⟩
        case measure => simp [intOf]; omega
    · obtain rfl : k = n := by omega
      go_wp2
      go_ret
      exact ⟨⟨_, rfl, .inl ⟨rfl, not_take HN.out HK.out⟩⟩, below_seq HB0.out HB.out⟩
theorem cor_calls (A : Option Addr) (n c : Nat) (L : List Al.Rg) (lo hi : Int) (b : Bool) (S : Nat → Prop) (w : World) (hS : ∀ k, S k → k < w.heap.size) (hC : Row Al.rT w S A n L) (hb : (b = true) = ((⟨lo, hi⟩ : Al.Rg) ∈ L)) :
    Calls Tryd.prog 85 #[.slice A n c, .agg #[.int .i64 lo, .int .i64 hi]] w fun e w' => e = .returned (.bool b) ∧ Below w.heap.size w w' := by
  have HB := Hd.mk hb
  have HJ := Hd.mk (ixr_calls A n c L lo hi S _ (fun k hk => Nat.lt_of_lt_of_le (hS k hk) (below_alloc (Below.refl w.heap.size w) (.cells #[.int .i64 lo, .int .i64 hi] 124)).size) (hC.below hS (below_alloc (Below.refl _ _) (.cells #[.int .i64 lo, .int .i64 hi] 124))))
  have HX := Hd.mk (blk_new w (.cells #[.int .i64 lo, .int .i64 hi] 124) _ rfl)
  have HB0 := Hd.mk (below_alloc (Below.refl w.heap.size w) (.cells #[.int .i64 lo, .int .i64 hi] 124))
  clear hS hC hb
  go_enter Tryd.func85, Tryd.ntmps85
  go_upto_region 1 with fail
  generalize World.alloc w _ = W0 at *
  have hx := HX.out
  have hxc0 := blk_cell hx 0 _ rfl; have hxf0 := blk_frozen hx 0; have hxc1 := blk_cell hx 1 _ rfl; have hxf1 := blk_frozen hx 1; have hxl := blk_lt hx
  go_wp2_with (go_at_call 107; go_must (refine Calls.mono HJ.out ?_; rintro e w1 ⟨⟨x, rfl, hp⟩, hb_⟩; have hxb : decide (0 ≤ x) = b := rgAt_b HB.out hp; have HB1 := Hd.mk (below_seq HB0.out hb_); clear hb_ hp))
  go_ret
  exact ⟨by first | rfl | rw [hxb], HB1.out⟩
end Go.Proofs.YtbmpaokicphdjaaDoor.Fn

/- A builder: its zones; a set's state. -/
namespace Go.Proofs.YtbmpaokicphdjaaDoor.Fn
open Go Go.RowKit Go.Proofs.YtbmpaokicphdjaaDoor.Can Go.Proofs.YtbmpaokicphdjaaDoor.Base
attribute [local go_sem] clsB AB.cell

/-- Zones that lie apart. -/
structure Zn (w : World) (z : Nat) (Z : Nat → Nat → Prop) : Prop where
  lt : ∀ i b, Z i b → z ≤ b ∧ b < w.heap.size
  dis : ∀ i j b, i ≠ j → Z i b → ¬ Z j b
def upZ (Z : Nat → Nat → Prop) (c : Nat) (Y : Nat → Prop) : Nat → Nat → Prop := fun i b => if i = c then Y b else Z i b
theorem upZ_same (Z : Nat → Nat → Prop) (c : Nat) (Y : Nat → Prop) : upZ Z c Y c = Y := by funext b; simp [upZ]
theorem upZ_ne {Z : Nat → Nat → Prop} {c i : Nat} (Y : Nat → Prop) (h : i ≠ c) : upZ Z c Y i = Z i := by funext b; simp [upZ, h]
theorem Zn.grow {w w' : World} {z : Nat} {Z : Nat → Nat → Prop} (h : Zn w z Z) (hz : w.heap.size ≤ w'.heap.size) : Zn w' z Z := ⟨fun i b hb => ⟨(h.lt i b hb).1, Nat.lt_of_lt_of_le (h.lt i b hb).2 hz⟩, h.dis⟩
theorem Zn.up {w w' : World} {z : Nat} {Z : Nat → Nat → Prop} (h : Zn w z Z) (hw : z ≤ w.heap.size) (hz : w.heap.size ≤ w'.heap.size) {c : Nat} {Y : Nat → Prop} (hY : ∀ b, Y b → (Z c b ∨ (z ≤ b ∧ ∀ i, ¬ Z i b) ∨ w.heap.size ≤ b) ∧ b < w'.heap.size) : Zn w' z (upZ Z c Y) := by
  have hd : ∀ b, Y b → ∀ j, j ≠ c → ¬ Z j b := fun b hb j hj hz2 => by
    rcases (hY b hb).1 with h1 | h1 | h1
    · exact h.dis c j b (Ne.symm hj) h1 hz2
    · exact h1.2 j hz2
    · have := (h.lt j b hz2).2; omega
  refine ⟨fun i b hb => ?_, fun i j b hij hb hb2 => ?_⟩
  · unfold upZ at hb
    split at hb
    · refine ⟨?_, (hY b hb).2⟩
      rcases (hY b hb).1 with h1 | h1 | h1
      · exact (h.lt c b h1).1
      · exact h1.1
      · omega
    · exact ⟨(h.lt i b hb).1, Nat.lt_of_lt_of_le (h.lt i b hb).2 hz⟩
  · unfold upZ at hb hb2
    split at hb <;> split at hb2
    · omega
    · exact hd b hb j (by assumption) hb2
    · exact hd b hb2 i (by assumption) hb
    · exact h.dis i j b hij hb hb2
/-- What does not change of a builder. -/
structure BC where
  st : Int
  A : Option Addr
  n : Nat
  c : Nat
  Ac : Option Addr
  nc : Nat
  cc : Nat
  wid : Int
  stt : Int
  most : Int
  p : Nat
def bdO (M : BC) (nv tv wv : Value) : Obj := .cells #[.int .i64 M.st, .slice M.A M.n M.c, .slice M.Ac M.nc M.cc, .int .i64 M.wid, nv, tv, .int .i64 M.stt, .pointer (some ⟨M.p, 0, none⟩), .int .i64 M.most, wv] 120 (0, 0)
/-- What a builder leans on: aX: the sets in the table, aT: whose tags, aW: that wait. -/
structure Bi (w : World) (z B : Nat) (Z : Nat → Nat → Prop) (M : BC) (q : List St) (nv tv wv : Value) (aX aT aW : List (List Bool)) (nx : List (List Int)) : Prop where
  zn : Zn w z Z
  zB : Z 0 B
  tbl : ∃ F xs, Tbl w z M.p F 1025 xs ∧ (∀ b, F b → Z 1 b) ∧ xs.map lst = aX.map numbersL
  nxt : ∃ S, Base.Own Df.II w z 24 S nv nx ∧ ∀ b, (S b ∨ nv.ownBlock = some b) → Z 2 b
  tag : Mine I w z 3 tv (aT.map (bestM q)) ∧ ∀ b, tv.ownBlock = some b → Z 3 b
  wai : ∃ S ys, Base.Own setT w z 28 S wv ys ∧ ((∀ b, S b → Z 4 b) ∧ ∀ b, wv.ownBlock = some b → Z 5 b) ∧ (ys.map fun y => marksW M.n y.2) = aW ∧ ∀ y ∈ ys, y.1 = M.n
theorem Bi.fr {X : Nat → Prop} {w w' : World} {z B : Nat} {Z : Nat → Nat → Prop} {M : BC} {q : List St} {nv tv wv : Value} {aX aT aW : List (List Bool)} {nx : List (List Int)} (h : Bi w z B Z M q nv tv wv aX aT aW nx) (hf : Fr X w w') (hX : ∀ i b, i ≠ 0 → Z i b → ¬ X b) : Bi w' z B Z M q nv tv wv aX aT aW nx := by
  obtain ⟨F, xs, h1, h2, h3⟩ := h.tbl
  obtain ⟨S, h4, h5⟩ := h.nxt
  obtain ⟨S', ys, h6, h7, h8⟩ := h.wai
  exact ⟨h.zn.grow hf.size, h.zB, ⟨F, xs, h1.fr hf (fun b hb => hX 1 b (by decide) (h2 b hb)), h2, h3⟩, ⟨S, h4.move (fun k hk => hf.same k (h.zn.lt 2 k (h5 k hk)).2 (hX 2 k (by decide) (h5 k hk))) hf.size, h5⟩,
    ⟨h.tag.1.mv (fun k hk => hf.same k (h.zn.lt 3 k (h.tag.2 k hk)).2 (hX 3 k (by decide) (h.tag.2 k hk))) hf.size, h.tag.2⟩, ⟨S', ys, h6.move (fun k hk => by rcases hk with hk | hk; exact hf.same k (h.zn.lt 4 k (h7.1 k hk)).2 (hX 4 k (by decide) (h7.1 k hk)); exact hf.same k (h.zn.lt 5 k (h7.2 k hk)).2 (hX 5 k (by decide) (h7.2 k hk))) hf.size, h7, h8⟩⟩
theorem Bi.below {w w' : World} {z B : Nat} {Z : Nat → Nat → Prop} {M : BC} {q : List St} {nv tv wv : Value} {aX aT aW : List (List Bool)} {nx : List (List Int)} (h : Bi w z B Z M q nv tv wv aX aT aW nx) (hb : Below w.heap.size w w') : Bi w' z B Z M q nv tv wv aX aT aW nx := h.fr (Fr.of_below (X := fun _ => False) hb) (fun _ _ _ _ h => h)
/-- The builder's own cells are stored into. -/
theorem Bi.store {w : World} {z B : Nat} {Z : Nat → Nat → Prop} {M : BC} {q : List St} {nv tv wv : Value} {aX aT aW : List (List Bool)} {nx : List (List Int)} (h : Bi w z B Z M q nv tv wv aX aT aW nx) (i : Nat) (v : Value) : Bi (w.setCell ⟨B, i, none⟩ v) z B Z M q nv tv wv aX aT aW nx :=
  h.fr (Fr.set (X := fun b => b = B) (Fr.refl _ _) (.inl rfl) i v) (fun j b hj hb he => h.zn.dis j 0 b hj hb (he ▸ h.zB))
/-- A set is put. -/
theorem Bi.put {w w' : World} {z B : Nat} {Z : Nat → Nat → Prop} {M : BC} {q : List St} {nv tv wv : Value} {aX aT aW aX' : List (List Bool)} {nx : List (List Int)} (h : Bi w z B Z M q nv tv wv aX aT aW nx) (hw : z ≤ w.heap.size) {F F' : Nat → Prop} {xs' : List (Nat × List Nat)} (hF : ∀ b, F b → Z 1 b) (hf : Fr F w w') (ht : Tbl w' z M.p F' 1025 xs') (hx : xs'.map lst = aX'.map numbersL) (hF' : ∀ b, F' b → F b ∨ w.heap.size ≤ b) :
    Bi w' z B (upZ Z 1 (fun b => Z 1 b ∨ F' b)) M q nv tv wv aX' aT aW nx := by
  obtain ⟨S, h4, h5⟩ := h.nxt
  obtain ⟨S', ys, h6, h7, h8⟩ := h.wai
  have hX : ∀ i b, i ≠ 1 → Z i b → ¬ F b := fun i b hi hb hfb => h.zn.dis i 1 b hi hb (hF b hfb)
  refine ⟨h.zn.up hw hf.size (fun b hb => ?_), by rw [upZ_ne _ (by decide)]; exact h.zB, ⟨F', xs', ht, fun b hb => by rw [upZ_same]; exact .inr hb, hx⟩, ⟨S, h4.move (fun k hk => hf.same k (h.zn.lt 2 k (h5 k hk)).2 (hX 2 k (by decide) (h5 k hk))) hf.size, fun b hb => by rw [upZ_ne _ (by decide)]; exact h5 b hb⟩,
    ⟨h.tag.1.mv (fun k hk => hf.same k (h.zn.lt 3 k (h.tag.2 k hk)).2 (hX 3 k (by decide) (h.tag.2 k hk))) hf.size, fun b hb => by rw [upZ_ne _ (by decide)]; exact h.tag.2 b hb⟩, ⟨S', ys, h6.move (fun k hk => by rcases hk with hk | hk; exact hf.same k (h.zn.lt 4 k (h7.1 k hk)).2 (hX 4 k (by decide) (h7.1 k hk)); exact hf.same k (h.zn.lt 5 k (h7.2 k hk)).2 (hX 5 k (by decide) (h7.2 k hk))) hf.size, ⟨fun b hb => by rw [upZ_ne _ (by decide)]; exact h7.1 b hb, fun b hb => by rw [upZ_ne _ (by decide)]; exact h7.2 b hb⟩, h8⟩⟩
  rcases hb with hb | hb
  · exact ⟨.inl hb, Nat.lt_of_lt_of_le (h.zn.lt 1 b hb).2 hf.size⟩
  · refine ⟨?_, (ht.fb b hb).2⟩
    rcases hF' b hb with h9 | h9
    · exact .inl (hF b h9)
    · exact .inr (.inr h9)
/-- The tags have grown. -/
theorem Bi.tags {w w' : World} {z B : Nat} {Z : Nat → Nat → Prop} {M : BC} {q : List St} {nv tv wv tv' : Value} {aX aT aW aT' : List (List Bool)} {nx : List (List Int)} (h : Bi w z B Z M q nv tv wv aX aT aW nx) (hw : z ≤ w.heap.size) (hb : Below z w w') (hk : ∀ k, k < w.heap.size → tv.ownBlock ≠ some k → w'.heap[k]? = w.heap[k]?) (hm : Mine I w' z 3 tv' (aT'.map (bestM q))) (hat : tv'.ownBlock = tv.ownBlock ∨ tv'.ownBlock = some w.heap.size) :
    Bi w' z B (upZ Z 3 (fun b => tv'.ownBlock = some b)) M q nv tv' wv aX aT' aW nx := by
  have hf : Fr (fun b => tv.ownBlock = some b) w w' := ⟨hb.mono (Nat.zero_le _), fun b hb hx => hk b hb hx⟩
  obtain ⟨F, xs, h1, h2, h3⟩ := h.tbl
  obtain ⟨S, h4, h5⟩ := h.nxt
  obtain ⟨S', ys, h6, h7, h8⟩ := h.wai
  have hX : ∀ i b, i ≠ 3 → Z i b → ¬ tv.ownBlock = some b := fun i b hi hb hfb => h.zn.dis i 3 b hi hb (h.tag.2 b hfb)
  refine ⟨h.zn.up hw hf.size (fun b hb => ?_), by rw [upZ_ne _ (by decide)]; exact h.zB, ⟨F, xs, h1.fr hf (fun b hb => hX 1 b (by decide) (h2 b hb)), fun b hb => by rw [upZ_ne _ (by decide)]; exact h2 b hb, h3⟩, ⟨S, h4.move (fun k hk => hf.same k (h.zn.lt 2 k (h5 k hk)).2 (hX 2 k (by decide) (h5 k hk))) hf.size, fun b hb => by rw [upZ_ne _ (by decide)]; exact h5 b hb⟩,
    ⟨hm, fun b hb => by rw [upZ_same]; exact hb⟩, ⟨S', ys, h6.move (fun k hk => by rcases hk with hk | hk; exact hf.same k (h.zn.lt 4 k (h7.1 k hk)).2 (hX 4 k (by decide) (h7.1 k hk)); exact hf.same k (h.zn.lt 5 k (h7.2 k hk)).2 (hX 5 k (by decide) (h7.2 k hk))) hf.size, ⟨fun b hb => by rw [upZ_ne _ (by decide)]; exact h7.1 b hb, fun b hb => by rw [upZ_ne _ (by decide)]; exact h7.2 b hb⟩, h8⟩⟩
  refine ⟨?_, (hm.lt hb).1⟩
  rcases hat with h9 | h9
  · exact .inl (h.tag.2 b (h9 ▸ hb))
  · rw [h9] at hb
    cases hb
    exact .inr (.inr (Nat.le_refl _))
/-- One more set waits. -/
theorem Bi.waits {w w' : World} {z B : Nat} {Z : Nat → Nat → Prop} {M : BC} {q : List St} {nv tv wv wv' : Value} {aX aT aW : List (List Bool)} {nx : List (List Int)} (h : Bi w z B Z M q nv tv wv aX aT aW nx) (hw : z ≤ w.heap.size) {S0 S1 : Nat → Prop} {ys : List (Nat × List Nat)} {ws : List Nat} (h0 : ∀ b, S0 b → Z 4 b) (h00 : ∀ b, wv.ownBlock = some b → Z 5 b) (hf : Fr (fun b => wv.ownBlock = some b) w w') (hm : Base.Own setT w' z 28 S1 wv' (ys ++ [(M.n, ws)])) (hS1 : ∀ b, S1 b → S0 b ∨ (z ≤ b ∧ ∀ i, ¬ Z i b) ∨ w.heap.size ≤ b) (hat : wv'.ownBlock = wv.ownBlock ∨ wv'.ownBlock = some w.heap.size)
    (hys : (ys.map fun y => marksW M.n y.2) = aW) (hyn : ∀ y ∈ ys, y.1 = M.n) :
    Bi w' z B (upZ (upZ Z 4 S1) 5 (fun b => wv'.ownBlock = some b)) M q nv tv wv' aX aT (aW ++ [marksW M.n ws]) nx := by
  obtain ⟨F, xs, h1, h2, h3⟩ := h.tbl
  obtain ⟨S, h4, h5⟩ := h.nxt
  have hX : ∀ i b, i ≠ 5 → Z i b → ¬ wv.ownBlock = some b := fun i b hi hb hfb => h.zn.dis i 5 b hi hb (h00 b hfb)
  have z1 : Zn w' z (upZ Z 4 S1) := h.zn.up hw hf.size fun b hb => by
    refine ⟨?_, own_lt hm b (.inl hb)⟩
    rcases hS1 b hb with h9 | h9 | h9
    · exact .inl (h0 b h9)
    · exact .inr (.inl h9)
    · exact .inr (.inr h9)
  have hS1o : ∀ b, S1 b → ¬ wv'.ownBlock = some b := fun b hb => by obtain ⟨_, _, _, hs⟩ := hm; exact (hs b hb).2
  have z2 : Zn w' z (upZ (upZ Z 4 S1) 5 (fun b => wv'.ownBlock = some b)) := by
    have hnew : ∀ b, wv'.ownBlock = some b → (Z 5 b ∨ w.heap.size ≤ b) := fun b hb => by
      rcases hat with h9 | h9
      · exact .inl (h00 b (h9 ▸ hb))
      · rw [h9] at hb
        cases hb
        exact .inr (Nat.le_refl _)
    have hd : ∀ b, wv'.ownBlock = some b → ∀ j, j ≠ 5 → ¬ upZ Z 4 S1 j b := fun b hb j hj hz => by
      by_cases h4' : j = 4
      · subst h4'
        rw [upZ_same] at hz
        exact hS1o b hz hb
      · rw [upZ_ne _ h4'] at hz
        rcases hnew b hb with h9 | h9
        · exact h.zn.dis 5 j b (Ne.symm hj) h9 hz
        · have := (h.zn.lt j b hz).2; omega
    refine ⟨fun i b hb => ?_, fun i j b hij hb hb2 => ?_⟩
    · by_cases h5' : i = 5
      · subst h5'
        rw [upZ_same] at hb
        refine ⟨?_, own_lt hm b (.inr hb)⟩
        rcases hnew b hb with h9 | h9
        · exact (h.zn.lt 5 b h9).1
        · omega
      · rw [upZ_ne _ h5'] at hb
        exact z1.lt i b hb
    · by_cases hi : i = 5
      · subst hi
        rw [upZ_same] at hb
        rw [upZ_ne _ (Ne.symm hij)] at hb2
        exact hd b hb j (Ne.symm hij) hb2
      · rw [upZ_ne _ hi] at hb
        by_cases hj : j = 5
        · subst hj
          rw [upZ_same] at hb2
          exact hd b hb2 i hi hb
        · rw [upZ_ne _ hj] at hb2
          exact z1.dis i j b hij hb hb2
  refine ⟨z2, by rw [upZ_ne _ (by decide), upZ_ne _ (by decide)]; exact h.zB, ⟨F, xs, h1.fr hf (fun b hb => hX 1 b (by decide) (h2 b hb)), fun b hb => by rw [upZ_ne _ (by decide), upZ_ne _ (by decide)]; exact h2 b hb, h3⟩, ⟨S, h4.move (fun k hk => hf.same k (h.zn.lt 2 k (h5 k hk)).2 (hX 2 k (by decide) (h5 k hk))) hf.size, fun b hb => by rw [upZ_ne _ (by decide), upZ_ne _ (by decide)]; exact h5 b hb⟩,
    ⟨h.tag.1.mv (fun k hk => hf.same k (h.zn.lt 3 k (h.tag.2 k hk)).2 (hX 3 k (by decide) (h.tag.2 k hk))) hf.size, fun b hb => by rw [upZ_ne _ (by decide), upZ_ne _ (by decide)]; exact h.tag.2 b hb⟩, ⟨S1, _, hm, ⟨fun b hb => by rw [upZ_ne _ (by decide), upZ_same]; exact hb, fun b hb => by rw [upZ_same]; exact hb⟩, by rw [List.map_append, hys]; rfl, fun y hy => ?_⟩⟩
  rcases List.mem_append.1 hy with hy | hy
  · exact hyn y hy
  · rw [List.mem_singleton.1 hy]
structure Bd (w : World) (z B : Nat) (Z : Nat → Nat → Prop) (M : BC) (q : List St) (nv tv wv : Value) (all : List (List Bool)) (nx : List (List Int)) : Prop where
  obj : w.heap[B]? = some (bdO M nv tv wv)
  inn : Bi w z B Z M q nv tv wv all all all nx
theorem Bd.below {w w' : World} {z B : Nat} {Z : Nat → Nat → Prop} {M : BC} {q : List St} {nv tv wv : Value} {all : List (List Bool)} {nx : List (List Int)} (h : Bd w z B Z M q nv tv wv all nx) (hb : Below w.heap.size w w') : Bd w' z B Z M q nv tv wv all nx := ⟨blk_below h.obj hb, h.inn.below hb⟩
theorem elems_none {n : Nat} {ws : List Nat} (h : Wok n ws) : (elems ws).length = 0 ↔ ¬ true ∈ marksW n ws := by
  have e : (elemsI ws).length = (elems ws).length := by unfold elemsI; rw [List.length_map]
  rw [← e, elemsI_marks_eq h]
  constructor
  · intro h0 ht
    obtain ⟨k, hk⟩ := isIn_mem ht
    have hm : (k : Int) ∈ numbersL (marksW n ws) := (mem_numbersL _ _).2 ⟨by omega, by rw [Int.toNat_natCast]; exact hk⟩
    rw [List.eq_nil_of_length_eq_zero h0] at hm
    cases hm
  · intro ht
    rcases hl : numbersL (marksW n ws) with _ | ⟨y, l⟩
    · rfl
    · exact absurd ((mem_numbersL (marksW n ws) y).1 (by rw [hl]; exact List.mem_cons_self)).2 (no_isIn ht _)
theorem numbersL_inj {a b : List Bool} (hl : a.length = b.length) (h : numbersL a = numbersL b) : a = b := by
  refine marks_ext hl fun k => ?_
  have h1 := mem_numbersL a (k : Int)
  have h2 := mem_numbersL b (k : Int)
  rw [h, h2, Int.toNat_natCast] at h1
  constructor
  · exact fun hk => (h1.2 ⟨by omega, hk⟩).2
  · exact fun hk => (h1.1 ⟨by omega, hk⟩).2
theorem state_none
  (z B : Nat) (Z : Nat → Nat → Prop) (M : BC) (q : List St) (nv tv wv : Value) (all : List (List Bool)) (nx : List (List Int)) (g k1 : Nat) (ws : List Nat) (S : Nat → Prop) (w : World)
  (hB : Bd w z B Z M q nv tv wv all nx) (hs : SetA w z g M.n ws) (hk1 : ws.length = k1) (hT : TabAt 0 Lib.deBruijn64tab w) (h0 : 0 < w.heap.size) (hz0 : 0 < z)
    (hm : ¬ true ∈ marksW M.n ws) :
    Calls Tryd.prog 88 #[.pointer (some ⟨B, 0, none⟩), .agg #[.slice (some ⟨g, 0, none⟩) k1 k1, .int .i64 M.n]] w fun e w' => e = .returned (.tuple #[.int .i64 (-1), .bool true]) ∧ Below w.heap.size w w' := by
  have HB0 := Hd.mk (below_alloc (Below.refl w.heap.size w) (.cells #[.slice (some ⟨g, 0, none⟩) k1 k1, .int .i64 M.n] 28))
  have h8 := count_calls (some ⟨g, 0, none⟩) k1 g M.n ws _ hs.ok (hs.below HB0.out).wd
  rw [(elems_none hs.ok).2 hm, hk1] at h8
  have HJ := Hd.mk h8
  have HX := Hd.mk (blk_new w (.cells #[.slice (some ⟨g, 0, none⟩) k1 k1, .int .i64 M.n] 28) _ rfl)
  clear h8 hs hm hB hk1 hT
  go_enter Tryd.func88, Tryd.ntmps88
  go_upto_region 1 with fail
  generalize World.alloc w _ = W0 at *
  have hx := HX.out
  have hxc0 := blk_cell hx 0 _ rfl; have hxf0 := blk_frozen hx 0; have hxc1 := blk_cell hx 1 _ rfl; have hxf1 := blk_frozen hx 1; have hxl := blk_lt hx
  go_wp2_with (go_at_call 25; go_must (refine Calls.mono HJ.out ?_; rintro e w1 ⟨rfl, hb_⟩; have HB1 := Hd.mk (below_seq HB0.out hb_); clear hb_))
  go_ret2
  exact ⟨rfl, HB1.out⟩
set_option maxHeartbeats 1000000 in
theorem state_old
  (z B : Nat) (Z : Nat → Nat → Prop) (M : BC) (q : List St) (nv tv wv : Value) (all : List (List Bool)) (nx : List (List Int)) (g k1 : Nat) (ws : List Nat) (S : Nat → Prop) (w : World)
  (hB : Bd w z B Z M q nv tv wv all nx) (hs : SetA w z g M.n ws) (hk1 : ws.length = k1) (hT : TabAt 0 Lib.deBruijn64tab w) (h0 : 0 < w.heap.size) (hz0 : 0 < z)
    (hall : AllOk M.n all) (hm : marksW M.n ws ∈ all) (k : Nat) (hk : all[k]? = some (marksW M.n ws)) (bb : Bool) (hbb : decide ((k : Int) < M.most) = bb) :
    Calls Tryd.prog 88 #[.pointer (some ⟨B, 0, none⟩), .agg #[.slice (some ⟨g, 0, none⟩) k1 k1, .int .i64 M.n]] w fun e w' => e = .returned (.tuple #[.int .i64 k, .bool bb]) ∧ Below w.heap.size w w' := by
  have HB0 := Hd.mk (below_alloc (Below.refl w.heap.size w) (.cells #[.slice (some ⟨g, 0, none⟩) k1 k1, .int .i64 M.n] 28))
  have hsm := hall.some' _ hm
  obtain ⟨cnt, hcnt⟩ : ∃ c, (elems ws).length = c := ⟨_, rfl⟩
  have hc0 : cnt ≠ 0 := fun h0 => (elems_none hs.ok).1 (hcnt.trans h0) hsm
  have h8 := count_calls (some ⟨g, 0, none⟩) k1 g M.n ws _ hs.ok (hs.below HB0.out).wd
  rw [hcnt, hk1] at h8
  have HJ := Hd.mk h8
  obtain ⟨F, xs, hF1, hF2, hF3⟩ := hB.inn.tbl
  have hkk : (xs.map lst)[k]? = some (elemsI ws) := by rw [hF3, List.getElem?_map, hk, elemsI_marks_eq hs.ok]; rfl
  have HP : Hd (∀ W : World, Below w.heap.size w W → _) := ⟨fun W hb => put_old z M.p 1025 k F xs (some ⟨g, 0, none⟩) k1 g M.n ws W (hF1.below hb) hs.ok (hs.below hb).wd (fun j hj => (hb.cell (p := ⟨0, j, none⟩) h0).trans (hT j hj)) (Nat.lt_of_lt_of_le h0 hb.size) hkk⟩
  rw [hk1] at HP
  have HX := Hd.mk (blk_new w (.cells #[.slice (some ⟨g, 0, none⟩) k1 k1, .int .i64 M.n] 28) _ rfl)
  have HBO := Hd.mk (blk_below hB.obj HB0.out)
  unfold bdO at HBO
  have hcj : ((cnt : Int) == 0) = false := by simpa using hc0
  have h0k : (0 : Int) ≤ (k : Int) := by omega
  have hkj : decide ((0 : Int) ≤ (k : Int)) = true := decide_eq_true h0k
  clear h8 hs hm hB hk1 hT hcnt hF1 hF2 hF3 hkk hc0 hsm hall hk
  go_enter Tryd.func88, Tryd.ntmps88
  go_upto_region 1 with fail
  generalize World.alloc w _ = W0 at *
  have hx := HX.out
  have hxc0 := blk_cell hx 0 _ rfl; have hxf0 := blk_frozen hx 0; have hxc1 := blk_cell hx 1 _ rfl; have hxf1 := blk_frozen hx 1; have hxl := blk_lt hx
  go_wp2_with (go_at_call 25; go_must (refine Calls.mono HJ.out ?_; rintro e w1 ⟨rfl, hb_⟩; have HB1 := Hd.mk (below_seq HB0.out hb_); have hx1 := blk_below hx hb_; have hy1 := blk_below HBO.out hb_; clear hxc0 hxf0 hxc1 hxf1 hxl; have hx1c0 := blk_cell hx1 0 _ rfl; have hx1f0 := blk_frozen hx1 0; have hx1c1 := blk_cell hx1 1 _ rfl; have hx1f1 := blk_frozen hx1 1; have hx1l := blk_lt hx1; have hy1c0 := blk_cell hy1 0 _ rfl; have hy1f0 := blk_frozen hy1 0; have hy1c1 := blk_cell hy1 1 _ rfl; have hy1f1 := blk_frozen hy1 1; have hy1c2 := blk_cell hy1 2 _ rfl; have hy1f2 := blk_frozen hy1 2; have hy1c3 := blk_cell hy1 3 _ rfl; have hy1f3 := blk_frozen hy1 3; have hy1c4 := blk_cell hy1 4 _ rfl; have hy1f4 := blk_frozen hy1 4; have hy1c5 := blk_cell hy1 5 _ rfl; have hy1f5 := blk_frozen hy1 5; have hy1c6 := blk_cell hy1 6 _ rfl; have hy1f6 := blk_frozen hy1 6; have hy1c7 := blk_cell hy1 7 _ rfl; have hy1f7 := blk_frozen hy1 7; have hy1c8 := blk_cell hy1 8 _ rfl; have hy1f8 := blk_frozen hy1 8; have hy1c9 := blk_cell hy1 9 _ rfl; have hy1f9 := blk_frozen hy1 9; have hy1l := blk_lt hy1; clear hb_))
  refine wp_region_can (.q [0, 1, 2, 3, 4] (.e 5 false (.q [6, 7, 8, 9, 10] (.done)))) (clsB _) (by kernel_rfl) (by kernel_rfl) (by intro _ _ d _ _ h; cases d <;> exact h) (clsB_drew _) ?_
  refine can_q (l := [⟨_,_,_,_,_,_⟩, ⟨_,_,_,_,_,_⟩, ⟨_,_,_,_,_,_⟩, ⟨_,_,_,_,_,_⟩, ⟨_,_,_,_,_,_⟩]) rfl ?_
  repeat (go_big_quiet_step (fail))
  refine wpQuiet_nil ?_
  refine can_e (o := ⟨_,_,_,_,_,_⟩) rfl (fun K hK => ?_)
  go_wp2_with (go_at_call 30; go_must (refine Calls.mono (HP.out w1.drew (below_drew1 HB1.out)) ?_; rintro e w2 ⟨rfl, hb_⟩; have HB12 := Hd.mk (below_undrew hb_); have HB2 := Hd.mk (below_seq HB1.out HB12.out); clear hb_))
  refine onK_normal (hK _ _ ⟨clsB _, clsB_of (by first | exact (HB12.out) | exact below_undrew (HB12.out)), fun _ _ h => h, ?_⟩)
  clear hK K
  refine can_q (l := [⟨_,_,_,_,_,_⟩, ⟨_,_,_,_,_,_⟩, ⟨_,_,_,_,_,_⟩, ⟨_,_,_,_,_,_⟩, ⟨_,_,_,_,_,_⟩]) rfl ?_
  repeat (go_big_quiet_step (fail))
  refine wpQuiet_nil ?_
  refine can_done ?_
  have hy2 := blk_below hy1 HB12.out
  clear hy1c0 hy1f0 hy1c1 hy1f1 hy1c2 hy1f2 hy1c3 hy1f3 hy1c4 hy1f4 hy1c5 hy1f5 hy1c6 hy1f6 hy1c7 hy1f7 hy1c8 hy1f8 hy1c9 hy1f9 hy1l
  have hy2c0 := blk_cell hy2 0 _ rfl; have hy2f0 := blk_frozen hy2 0; have hy2c1 := blk_cell hy2 1 _ rfl; have hy2f1 := blk_frozen hy2 1; have hy2c2 := blk_cell hy2 2 _ rfl; have hy2f2 := blk_frozen hy2 2; have hy2c3 := blk_cell hy2 3 _ rfl; have hy2f3 := blk_frozen hy2 3; have hy2c4 := blk_cell hy2 4 _ rfl; have hy2f4 := blk_frozen hy2 4; have hy2c5 := blk_cell hy2 5 _ rfl; have hy2f5 := blk_frozen hy2 5; have hy2c6 := blk_cell hy2 6 _ rfl; have hy2f6 := blk_frozen hy2 6; have hy2c7 := blk_cell hy2 7 _ rfl; have hy2f7 := blk_frozen hy2 7; have hy2c8 := blk_cell hy2 8 _ rfl; have hy2f8 := blk_frozen hy2 8; have hy2c9 := blk_cell hy2 9 _ rfl; have hy2f9 := blk_frozen hy2 9; have hy2l := blk_lt hy2
  go_wp2
  refine wp_region_can (.q [0, 1, 2, 3, 4, 5, 6, 7, 8, 9, 10, 11, 12] (.done)) (clsB _) (by kernel_rfl) (by kernel_rfl) (by intro _ _ d _ _ h; cases d <;> exact h) (clsB_drew _) ?_
  refine can_q (l := [⟨_,_,_,_,_,_⟩, ⟨_,_,_,_,_,_⟩, ⟨_,_,_,_,_,_⟩, ⟨_,_,_,_,_,_⟩, ⟨_,_,_,_,_,_⟩, ⟨_,_,_,_,_,_⟩, ⟨_,_,_,_,_,_⟩, ⟨_,_,_,_,_,_⟩, ⟨_,_,_,_,_,_⟩, ⟨_,_,_,_,_,_⟩, ⟨_,_,_,_,_,_⟩, ⟨_,_,_,_,_,_⟩, ⟨_,_,_,_,_,_⟩]) rfl ?_
  repeat (go_big_quiet_step (fail))
  refine wpQuiet_nil ?_
  refine can_done ?_
  go_wp2
  go_ret2
  exact ⟨rfl, below_drew1 HB2.out⟩
end Go.Proofs.YtbmpaokicphdjaaDoor.Fn

/- A set's state: a set that is met for the first time. -/
namespace Go.Proofs.YtbmpaokicphdjaaDoor.Fn
open Go Go.RowKit Go.Proofs.YtbmpaokicphdjaaDoor.Can Go.Proofs.YtbmpaokicphdjaaDoor.Base
attribute [local go_sem] clsB AB.cell

theorem infoI9 : (Tryd.prog.info? 3).map (fun i => (i.zero, i.size, i.bytes)) = some (some (.int .i64 0), 1, 8) := by kernel_rfl
set_option maxRecDepth 20000 in
set_option maxHeartbeats 4000000 in
theorem state_new (z B : Nat) (Z : Nat → Nat → Prop) (M : BC) (q : List St) (nv tv wv : Value) (all : List (List Bool)) (nx : List (List Int)) (g k1 : Nat) (ws : List Nat) (S : Nat → Prop) (w : World)
    (hB : Bd w z B Z M q nv tv wv all nx) (hs : SetA w z g M.n ws) (hgz : ∀ i, ¬ Z i g) (hk1 : ws.length = k1) (hT : TabAt 0 Lib.deBruijn64tab w) (h0 : 0 < w.heap.size) (hz0 : 0 < z) (hzw : z ≤ w.heap.size)
    (hN : NF w S M.A q) (hSz : ∀ k, S k → k < z) (hqn : q.length = M.n) (hck : checkV M.st q = 0)
    (hall : AllOk M.n all) (hm : marksW M.n ws ∉ all) (hsm : true ∈ marksW M.n ws) (hl : all.length ≤ 1024) (bb : Bool) (hbb : decide ((all.length : Int) < M.most) = bb) :
    Calls Tryd.prog 88 #[.pointer (some ⟨B, 0, none⟩), .agg #[.slice (some ⟨g, 0, none⟩) k1 k1, .int .i64 M.n]] w fun e w' => e = .returned (.tuple #[.int .i64 all.length, .bool bb]) ∧
      ∃ Z' tv' wv', Bd w' z B Z' M q nv tv' wv' (all ++ [marksW M.n ws]) nx ∧ Z' 2 = Z 2 ∧ (∀ i b, Z' i b → Z i b ∨ b = g ∨ w.heap.size ≤ b) ∧ Fr (fun b => Z 0 b ∨ Z 1 b ∨ Z 3 b ∨ Z 5 b) w w' := by
  have HB0 := Hd.mk (below_alloc (Below.refl w.heap.size w) (.cells #[.slice (some ⟨g, 0, none⟩) k1 k1, .int .i64 M.n] 28))
  obtain ⟨cnt, hcnt⟩ : ∃ c, (elems ws).length = c := ⟨_, rfl⟩
  have hc0 : cnt ≠ 0 := fun h0 => (elems_none hs.ok).1 (hcnt.trans h0) hsm
  have h8 := count_calls (some ⟨g, 0, none⟩) k1 g M.n ws _ hs.ok (hs.below HB0.out).wd
  rw [hcnt, hk1] at h8
  have HJ := Hd.mk h8
  obtain ⟨F, xs, hF1, hF2, hF3⟩ := hB.inn.tbl
  have hxl : xs.length = all.length := by have := congrArg List.length hF3; rwa [List.length_map, List.length_map] at this
  have hkk : elemsI ws ∉ xs.map lst := fun hh => by
    rw [hF3] at hh
    obtain ⟨m, hm1, hm2⟩ := List.mem_map.1 hh
    rw [elemsI_marks_eq hs.ok] at hm2
    exact hm (numbersL_inj (by rw [hall.len m hm1, marksW_len]) hm2 ▸ hm1)
  have HP : Hd (∀ W : World, Below w.heap.size w W → _) := ⟨fun W hb => put_new z M.p 1025 F xs (some ⟨g, 0, none⟩) k1 g M.n ws W (hF1.below hb) hs.ok (hs.below hb).wd (fun j hj => (hb.cell (p := ⟨0, j, none⟩) h0).trans (hT j hj)) (Nat.lt_of_lt_of_le h0 hb.size) hkk (by omega) hz0⟩
  obtain ⟨na, hna⟩ : ∃ n, all.length = n := ⟨_, rfl⟩
  rw [hk1, hxl, hna] at HP
  rw [hna] at hbb hl ⊢
  have HX := Hd.mk (blk_new w (.cells #[.slice (some ⟨g, 0, none⟩) k1 k1, .int .i64 M.n] 28) _ rfl)
  have HBB := Hd.mk (hB.below HB0.out)
  have HBO := Hd.mk (blk_below hB.obj HB0.out)
  unfold bdO at HBO
  have HLST : Hd (xs.map lst = all.map numbersL ∧ (∀ b, F b → Z 1 b) ∧ Tbl w z M.p F 1025 xs) := ⟨hF3, hF2, hF1⟩
  have HZ := Hd.mk hB.inn.zn; have HZB := Hd.mk hB.inn.zB
  have HS := Hd.mk hs; have HGZ := Hd.mk hgz; have HT := Hd.mk hT; have HN := Hd.mk hN; have HQN := Hd.mk hqn; have HCK := Hd.mk hck; have HK1 := Hd.mk hk1; have HNA := Hd.mk hna
  have HBW := Hd.mk hB
  have hcj : ((cnt : Int) == 0) = false := by simpa using hc0
  have HBBJ := Hd.mk hbb
  have HSZ := Hd.mk hSz
  clear hSz h8 hs hB hk1 hT hcnt hF1 hF2 hF3 hkk hc0 hsm hall hm hN hqn hck hna hxl hgz hbb
  go_enter Tryd.func88, Tryd.ntmps88
  go_upto_region 1 with fail
  have hzW : (w.alloc (.cells #[.slice (some ⟨g, 0, none⟩) k1 k1, .int .i64 M.n] 28)).heap.size = w.heap.size + 1 := size_alloc _ _
  have HZW := Hd.mk hzW
  clear hzW
  generalize World.alloc w _ = W0 at *
  have hx := HX.out
  have hxc0 := blk_cell hx 0 _ rfl; have hxf0 := blk_frozen hx 0; have hxc1 := blk_cell hx 1 _ rfl; have hxf1 := blk_frozen hx 1; have hxl := blk_lt hx
  go_wp2_with (go_at_call 25; go_must (refine Calls.mono HJ.out ?_; rintro e w1 ⟨rfl, hb_⟩; have HB1 := Hd.mk (below_seq HB0.out hb_); have HB01 := Hd.mk hb_; have hx1 := blk_below hx hb_; have hy1 := blk_below HBO.out hb_; clear hxc0 hxf0 hxc1 hxf1 hxl; have hx1c0 := blk_cell hx1 0 _ rfl; have hx1f0 := blk_frozen hx1 0; have hx1c1 := blk_cell hx1 1 _ rfl; have hx1f1 := blk_frozen hx1 1; have hx1l := blk_lt hx1; have hy1c0 := blk_cell hy1 0 _ rfl; have hy1f0 := blk_frozen hy1 0; have hy1c1 := blk_cell hy1 1 _ rfl; have hy1f1 := blk_frozen hy1 1; have hy1c2 := blk_cell hy1 2 _ rfl; have hy1f2 := blk_frozen hy1 2; have hy1c3 := blk_cell hy1 3 _ rfl; have hy1f3 := blk_frozen hy1 3; have hy1c4 := blk_cell hy1 4 _ rfl; have hy1f4 := blk_frozen hy1 4; have hy1c5 := blk_cell hy1 5 _ rfl; have hy1f5 := blk_frozen hy1 5; have hy1c6 := blk_cell hy1 6 _ rfl; have hy1f6 := blk_frozen hy1 6; have hy1c7 := blk_cell hy1 7 _ rfl; have hy1f7 := blk_frozen hy1 7; have hy1c8 := blk_cell hy1 8 _ rfl; have hy1f8 := blk_frozen hy1 8; have hy1c9 := blk_cell hy1 9 _ rfl; have hy1f9 := blk_frozen hy1 9; have hy1l := blk_lt hy1; clear hb_))
  refine wp_region_can (.q [0, 1, 2, 3, 4] (.e 5 false (.q [6, 7, 8, 9, 10] (.done)))) (clsB _) (by kernel_rfl) (by kernel_rfl) (by intro _ _ d _ _ h; cases d <;> exact h) (clsB_drew _) ?_
  refine can_q (l := [⟨_,_,_,_,_,_⟩, ⟨_,_,_,_,_,_⟩, ⟨_,_,_,_,_,_⟩, ⟨_,_,_,_,_,_⟩, ⟨_,_,_,_,_,_⟩]) rfl ?_
  repeat (go_big_quiet_step (fail))
  refine wpQuiet_nil ?_
  refine can_e (o := ⟨_,_,_,_,_,_⟩) rfl (fun K hK => ?_)
  go_wp2_with (go_at_call 30; go_must (refine Calls.mono (HP.out w1.drew (below_drew1 HB1.out)) ?_; rintro e w2 ⟨rfl, F2, ht_, hf_, hn_⟩; have HT2 := Hd.mk ht_; have HF2 := Hd.mk hf_; have HN2 := Hd.mk hn_; clear ht_ hf_ hn_))
  refine onK_normal (hK _ _ ⟨fun _ => True, trivial, (fun h => by cases h), ?_⟩)
  clear hK K
  refine can_q (l := [⟨_,_,_,_,_,_⟩, ⟨_,_,_,_,_,_⟩, ⟨_,_,_,_,_,_⟩, ⟨_,_,_,_,_,_⟩, ⟨_,_,_,_,_,_⟩]) rfl ?_
  repeat (go_big_quiet_step (fail))
  refine wpQuiet_nil ?_
  refine can_done ?_
  obtain ⟨mm, hmm⟩ : ∃ m, marksW M.n ws = m := ⟨_, rfl⟩
  have HMM := Hd.mk hmm
  have hzw1 : w.heap.size + 1 ≤ w1.heap.size := by have := HB01.out.size; have := HZW.out; omega
  have HBi1 := Hd.mk ((HBB.out.inn.below HB01.out).below (below_drew1 (Below.refl _ _)))
  have hz2 := HF2.out.size
  rw [size_drew] at hz2
  have HBi2 := Hd.mk (HBi1.out.put (aX' := all ++ [mm]) (by rw [size_drew]; omega) HLST.out.2.1 HF2.out HT2.out (by rw [List.map_append, List.map_append, HLST.out.1, List.map_cons, List.map_nil, List.map_cons, List.map_nil, ← hmm, ← elemsI_marks_eq HS.out.ok]; rfl) HN2.out)
  have hnF : ∀ b, F b → z ≤ b ∧ b < w.heap.size := fun b hb => HZ.out.lt 1 b (HLST.out.2.1 b hb)
  have HFz : Hd (Below z w w2) := ⟨(HB1.out.mono hzw).trans (Below.trans (below_drew1 (Below.refl z w1)) (HF2.out.below (by rw [size_drew]; omega) (fun b hb hF => by have := hnF b hF; omega)))⟩
  have hx2 : w2.heap[w.heap.size]? = some (.cells #[.slice (some ⟨g, 0, none⟩) k1 k1, .int .i64 M.n] 28 (0, 0)) := HF2.out.blk (blk_drew hx1) (fun hF => by have := hnF _ hF; omega)
  have hy2 := HF2.out.blk (blk_drew hy1) (fun hF => HZ.out.dis 1 0 B (by decide) (HLST.out.2.1 B hF) HZB.out)
  have HS2 : Hd (SetA w2 z g M.n ws) := ⟨HS.out.move (by omega) ((HF2.out.same g (by rw [size_drew]; have := HS.out.hi; omega) (fun hF => HGZ.out 1 (HLST.out.2.1 g hF))).trans (HB1.out.block g HS.out.hi))⟩
  have HN2z : Hd (∀ W, Below z w W → NF W S M.A q) := ⟨fun W hb => ⟨HN.out.row.move (fun b hb' => hb.block b (HSZ.out b hb')), fun k hk => by have := HSZ.out k hk; have := hb.size; omega⟩⟩
  have h8 := best_ok M.st M.A M.c q S g M.n k1 ws w2.drew (HN2z.out w2.drew (below_drew1 HFz.out)) HCK.out HS2.out.ok (HS2.out.wd.move rfl) (by rw [size_drew]; exact HS2.out.hi) (tab_below hz0 (below_drew1 HFz.out) HT.out) (by rw [size_drew]; omega)
  rw [HQN.out, HK1.out, hmm] at h8
  obtain ⟨bt, hbt⟩ : ∃ b, bestM q mm = b := ⟨_, rfl⟩
  rw [hbt] at h8
  have HBT := Hd.mk hbt
  have HJB := Hd.mk h8
  have HTG := Hd.mk HBi2.out.tag
  obtain ⟨A5, n5, c5, e5, hn5, -, -, -⟩ := HTG.out.1.formN
  obtain ⟨S4, ys, how, hoz, hym, hyn⟩ := HBi2.out.wai
  obtain ⟨A6, c6, e6, -, -, -⟩ := how.form
  rw [List.length_map, HNA.out] at hn5
  have hyl : ys.length = na := by rw [← HNA.out, ← hym, List.length_map]
  rw [hyl] at e6
  subst e5 e6 hn5
  clear h8 hbt hmm hx1 how hoz hym hyn hyl
  clear hy1c0 hy1f0 hy1c1 hy1f1 hy1c2 hy1f2 hy1c3 hy1f3 hy1c4 hy1f4 hy1c5 hy1f5 hy1c6 hy1f6 hy1c7 hy1f7 hy1c8 hy1f8 hy1c9 hy1f9 hy1l
  clear hy1
  clear hx1c0 hx1f0 hx1c1 hx1f1 hx1l
  have hx2c0 := blk_cell hx2 0 _ rfl; have hx2f0 := blk_frozen hx2 0; have hx2c1 := blk_cell hx2 1 _ rfl; have hx2f1 := blk_frozen hx2 1; have hx2l := blk_lt hx2
  have hy2c0 := blk_cell hy2 0 _ rfl; have hy2f0 := blk_frozen hy2 0; have hy2c1 := blk_cell hy2 1 _ rfl; have hy2f1 := blk_frozen hy2 1; have hy2c2 := blk_cell hy2 2 _ rfl; have hy2f2 := blk_frozen hy2 2; have hy2c3 := blk_cell hy2 3 _ rfl; have hy2f3 := blk_frozen hy2 3; have hy2c4 := blk_cell hy2 4 _ rfl; have hy2f4 := blk_frozen hy2 4; have hy2c5 := blk_cell hy2 5 _ rfl; have hy2f5 := blk_frozen hy2 5; have hy2c6 := blk_cell hy2 6 _ rfl; have hy2f6 := blk_frozen hy2 6; have hy2c7 := blk_cell hy2 7 _ rfl; have hy2f7 := blk_frozen hy2 7; have hy2c8 := blk_cell hy2 8 _ rfl; have hy2f8 := blk_frozen hy2 8; have hy2c9 := blk_cell hy2 9 _ rfl; have hy2f9 := blk_frozen hy2 9; have hy2l := blk_lt hy2
  go_wp2
  refine wp_region_can (.q [0, 1, 2, 3, 4, 5, 6, 7, 8, 9, 10] (.e 11 true (.e 12 true (.e 13 false (.q [14, 15, 16] (.e 17 false (.done))))))) (clsB _) (by kernel_rfl) (by kernel_rfl) (by intro _ _ d _ _ h; cases d <;> exact h) (clsB_drew _) ?_
  refine can_q (l := [⟨_,_,_,_,_,_⟩, ⟨_,_,_,_,_,_⟩, ⟨_,_,_,_,_,_⟩, ⟨_,_,_,_,_,_⟩, ⟨_,_,_,_,_,_⟩, ⟨_,_,_,_,_,_⟩, ⟨_,_,_,_,_,_⟩, ⟨_,_,_,_,_,_⟩, ⟨_,_,_,_,_,_⟩, ⟨_,_,_,_,_,_⟩, ⟨_,_,_,_,_,_⟩]) rfl ?_
  repeat (go_big_quiet_step (fail))
  refine wpQuiet_nil ?_
  refine can_e (o := ⟨_,_,_,_,_,_⟩) rfl (fun K hK => ?_)
  go_wp2_with (go_at_call 47; go_must (refine Calls.mono HJB.out ?_; rintro e w3 ⟨rfl, hb_⟩; have HB3 := Hd.mk (below_undrew hb_); clear hb_))
  refine onK_normal (hK _ _ ⟨clsB _, clsB_of (by first | exact (HB3.out) | exact below_undrew (HB3.out)), fun _ _ h => h, ?_⟩)
  clear hK K
  have hx3 := blk_below hx2 HB3.out
  have hy3 := blk_below hy2 HB3.out
  have HBi3 := Hd.mk (HBi2.out.below HB3.out)
  have hz3 := HB3.out.size
  have hlb : B < w2.heap.size := blk_lt hy2
  clear hx2c0 hx2f0 hx2c1 hx2f1 hx2l
  clear hy2c0 hy2f0 hy2c1 hy2f1 hy2c2 hy2f2 hy2c3 hy2f3 hy2c4 hy2f4 hy2c5 hy2f5 hy2c6 hy2f6 hy2c7 hy2f7 hy2c8 hy2f8 hy2c9 hy2f9 hy2l
  clear hx2 hy2
  refine can_e (o := ⟨_,_,_,_,_,_⟩) rfl (fun K hK => ?_)
  go_wp2_with fail
  refine onK_normal (hK _ _ ⟨clsB _, clsB_of (by first | exact ((below_alloc HB3.out _)) | exact below_undrew ((below_alloc HB3.out _))), fun _ _ h => h, ?_⟩)
  clear hK K
  refine can_e (o := ⟨_,_,_,_,_,_⟩) rfl (fun K hK => ?_)
  go_wp2_with (at_builtin; go_must (refine append_snoc I (Ty.int_flat _) rfl (.tmp 26) (.tmp 33) 24 3 _ 8 rfl Tryd.underlying24 infoI9 rfl (by decide) (by decide) z (.slice A5 n5 c5) (all.map (bestM q)) bt [.int .i64 bt] w3.heap.size rfl rfl (blk_new w3 _ _ rfl) rfl (HBi3.out.tag.1.below (below_alloc (Below.refl _ _) _)) (HBi3.out.tag.1.ne_new (Nat.le_refl _)) (by rw [size_alloc]; omega) (by rw [List.length_map, HNA.out]; omega) ?_; intro v1 w5 hM5 hb5 hk5 hat5; have HM5 := Hd.mk hM5; have HB5 := Hd.mk hb5; have HK5 := Hd.mk hk5; have HAT5 := Hd.mk hat5; clear hM5 hb5 hk5 hat5))
  obtain ⟨A7, n7, c7, rfl, -, -, -, -⟩ := HM5.out.formN
  refine onK_normal (hK _ _ ⟨fun _ => True, trivial, (fun h => by cases h), ?_⟩)
  clear hK K
  refine can_q (l := [⟨_,_,_,_,_,_⟩, ⟨_,_,_,_,_,_⟩, ⟨_,_,_,_,_,_⟩]) rfl ?_
  repeat (go_big_quiet_step (fail))
  refine wpQuiet_nil ?_
  have hnB : (Value.slice A5 n5 c5).ownBlock ≠ some B := fun h => HBi3.out.zn.dis 3 0 B (by decide) (HBi3.out.tag.2 B h) HBi3.out.zB
  have hnx : (Value.slice A5 n5 c5).ownBlock ≠ some w.heap.size := fun h => by
    have h9 := HBi3.out.tag.2 _ h
    rw [upZ_ne _ (by decide)] at h9
    have := (HZ.out.lt 3 _ h9).2
    omega
  have hx5 := (HK5.out w.heap.size (by rw [size_alloc]; have := blk_lt hx3; omega) hnx).trans (blk_alloc hx3 _)
  have hy5 := (HK5.out B (by rw [size_alloc]; omega) hnB).trans (blk_alloc hy3 _)
  clear hnB hnx
  have HTT : Hd ((all ++ [mm]).map (bestM q) = all.map (bestM q) ++ [bt]) := ⟨by rw [List.map_append, List.map_cons, List.map_nil, HBT.out]⟩
  have HBi5 := Hd.mk ((HBi3.out.below (below_alloc (Below.refl _ _) (.cells #[.int .i64 bt] 3))).tags (by rw [size_alloc]; omega) HB5.out HK5.out (by rw [HTT.out]; exact HM5.out) HAT5.out)
  have hy5c0 := blk_cell hy5 0 _ rfl; have hy5f0 := blk_frozen hy5 0; have hy5c1 := blk_cell hy5 1 _ rfl; have hy5f1 := blk_frozen hy5 1; have hy5c2 := blk_cell hy5 2 _ rfl; have hy5f2 := blk_frozen hy5 2; have hy5c3 := blk_cell hy5 3 _ rfl; have hy5f3 := blk_frozen hy5 3; have hy5c4 := blk_cell hy5 4 _ rfl; have hy5f4 := blk_frozen hy5 4; have hy5c5 := blk_cell hy5 5 _ rfl; have hy5f5 := blk_frozen hy5 5; have hy5c6 := blk_cell hy5 6 _ rfl; have hy5f6 := blk_frozen hy5 6; have hy5c7 := blk_cell hy5 7 _ rfl; have hy5f7 := blk_frozen hy5 7; have hy5c8 := blk_cell hy5 8 _ rfl; have hy5f8 := blk_frozen hy5 8; have hy5c9 := blk_cell hy5 9 _ rfl; have hy5f9 := blk_frozen hy5 9; have hy5l := blk_lt hy5
  refine can_e (o := ⟨_,_,_,_,_,_⟩) rfl (fun K hK => ?_)
  go_wp2_with fail
  refine onK_normal (hK _ _ ⟨fun _ => True, trivial, (fun h => by cases h), ?_⟩)
  clear hK K
  refine can_done ?_
  have hgB : g ≠ B := fun h => HGZ.out 0 (h ▸ HZB.out)
  have hxB : w.heap.size ≠ B := fun h => by have := (HZ.out.lt 0 B HZB.out).2; omega
  have hgt : (Value.slice A5 n5 c5).ownBlock ≠ some g := fun h => by
    have h9 := HBi3.out.tag.2 _ h
    rw [upZ_ne _ (by decide)] at h9
    exact HGZ.out 3 h9
  have hgl : g < w2.heap.size := HS2.out.hi
  have HZ5 := HB5.out.size
  rw [size_alloc] at HZ5
  generalize hV : World.setCell w5 _ _ = V
  have hzV : w5.heap.size = V.heap.size := by rw [← hV, size_set]
  have HYV : Hd (V.heap[B]? = some (bdO M nv (.slice A7 n7 c7) (.slice A6 n5 c6))) := ⟨by rw [← hV]; exact blk_set hy5 5 _ _ rfl⟩
  have HXV : Hd (V.heap[w.heap.size]? = some (.cells #[.slice (some ⟨g, 0, none⟩) k1 k1, .int .i64 M.n] 28 (0, 0))) := ⟨by rw [← hV]; exact blk_far hx5 hxB _⟩
  have HBiV := Hd.mk (HBi5.out.store 5 (.slice A7 n7 c7))
  rw [hV] at HBiV
  have HSV : Hd (SetA V z g M.n ws) := ⟨HS2.out.move (by omega) (by
    rw [← hV]
    exact (Below.heap_setCell _ _ _ _ (by exact hgB)).trans ((HK5.out g (by rw [size_alloc]; omega) hgt).trans ((Below.heap_alloc _ _ _ (by omega)).trans (HB3.out.block g hgl))))⟩
  have HFV : Hd (Fr (fun b => Z 0 b ∨ Z 1 b ∨ Z 3 b ∨ Z 5 b) w V) := ⟨by
    rw [← hV]
    have f1 : Fr (fun b => Z 0 b ∨ Z 1 b ∨ Z 3 b ∨ Z 5 b) w w2 := ((Fr.of_below HB1.out).drew).trans (HF2.out.mono fun b hb => .inr (.inl (HLST.out.2.1 b hb)))
    have f2 : Fr (fun b => Z 0 b ∨ Z 1 b ∨ Z 3 b ∨ Z 5 b) w (w3.alloc (.cells #[.int .i64 bt] 3)) := (f1.trans (Fr.of_below HB3.out)).alloc _
    refine Fr.set (f2.trans ?_) (.inl (.inl HZB.out)) _ _
    refine ⟨HB5.out.mono (Nat.zero_le _), fun b hb hx => HK5.out b hb fun h => hx ?_⟩
    have h9 := HBi3.out.tag.2 _ h
    rw [upZ_ne _ (by decide)] at h9
    exact .inr (.inr (.inl h9))⟩
  have HOLD : Hd (∀ b, (Value.slice A5 n5 c5).ownBlock = some b → Z 3 b) := ⟨fun b hb => by
    have h9 := HBi3.out.tag.2 b hb
    rwa [upZ_ne _ (by decide)] at h9⟩
  clear hy5c0 hy5f0 hy5c1 hy5f1 hy5c2 hy5f2 hy5c3 hy5f3 hy5c4 hy5f4 hy5c5 hy5f5 hy5c6 hy5f6 hy5c7 hy5f7 hy5c8 hy5f8 hy5c9 hy5f9 hy5l
  clear hV hx5 hy5 hgB hxB hgt hgl HBi3 HBi5 HM5 HB5 HK5 HB3 HBi2 HBi1 HTG HJB hx3 hy3 HS2
  obtain ⟨S4, ys, how, hoz, hym, hyn⟩ := HBiV.out.wai
  have hyl : ys.length = n5 := by rw [← HNA.out, ← hym, List.length_map]
  have HOW := Hd.mk how; have HOZ := Hd.mk hoz; have HYM := Hd.mk hym; have HYN := Hd.mk hyn; have HYL := Hd.mk hyl
  clear how hoz hym hyn hyl
  have hyV := HYV.out
  unfold bdO at hyV
  have hxV := HXV.out
  have hlB : B < V.heap.size := blk_lt hyV
  have hlx : w.heap.size < V.heap.size := blk_lt hxV
  have hxVc0 := blk_cell hxV 0 _ rfl; have hxVf0 := blk_frozen hxV 0; have hxVc1 := blk_cell hxV 1 _ rfl; have hxVf1 := blk_frozen hxV 1; have hxVl := blk_lt hxV
  have hyVc0 := blk_cell hyV 0 _ rfl; have hyVf0 := blk_frozen hyV 0; have hyVc1 := blk_cell hyV 1 _ rfl; have hyVf1 := blk_frozen hyV 1; have hyVc2 := blk_cell hyV 2 _ rfl; have hyVf2 := blk_frozen hyV 2; have hyVc3 := blk_cell hyV 3 _ rfl; have hyVf3 := blk_frozen hyV 3; have hyVc4 := blk_cell hyV 4 _ rfl; have hyVf4 := blk_frozen hyV 4; have hyVc5 := blk_cell hyV 5 _ rfl; have hyVf5 := blk_frozen hyV 5; have hyVc6 := blk_cell hyV 6 _ rfl; have hyVf6 := blk_frozen hyV 6; have hyVc7 := blk_cell hyV 7 _ rfl; have hyVf7 := blk_frozen hyV 7; have hyVc8 := blk_cell hyV 8 _ rfl; have hyVf8 := blk_frozen hyV 8; have hyVc9 := blk_cell hyV 9 _ rfl; have hyVf9 := blk_frozen hyV 9; have hyVl := blk_lt hyV
  go_wp2
  refine wp_region_can (.q [0, 1, 2, 3, 4, 5] (.e 6 true (.e 7 false (.q [8, 9] (.e 10 false (.done)))))) (clsB _) (by kernel_rfl) (by kernel_rfl) (by intro _ _ d _ _ h; cases d <;> exact h) (clsB_drew _) ?_
  refine can_q (l := [⟨_,_,_,_,_,_⟩, ⟨_,_,_,_,_,_⟩, ⟨_,_,_,_,_,_⟩, ⟨_,_,_,_,_,_⟩, ⟨_,_,_,_,_,_⟩, ⟨_,_,_,_,_,_⟩]) rfl ?_
  repeat (go_big_quiet_step (fail))
  refine wpQuiet_nil ?_
  refine can_e (o := ⟨_,_,_,_,_,_⟩) rfl (fun K hK => ?_)
  go_wp2_with fail
  refine onK_normal (hK _ _ ⟨clsB _, clsB_of (by first | exact ((below_alloc (below_drew1 (Below.refl V.heap.size V)) _)) | exact below_undrew ((below_alloc (below_drew1 (Below.refl V.heap.size V)) _))), fun _ _ h => h, ?_⟩)
  clear hK K
  have hg4 : (Value.slice A6 n5 c6).ownBlock ≠ some g := fun h => by
    have h9 := HOZ.out.2 _ h
    rw [upZ_ne _ (by decide), upZ_ne _ (by decide)] at h9
    exact HGZ.out 5 h9
  have HG4 := Hd.mk hg4
  have HOL := Hd.mk (own_lt HOW.out)
  have HOWd : Hd (Base.Own setT (World.drew (V.alloc (.cells #[.slice (some ⟨g, 0, none⟩) k1 k1, .int .i64 M.n] 28))) z 28 S4 (.slice A6 n5 c6) ys) := ⟨(HOW.out.below (below_alloc (Below.refl _ _) _)).below (below_drew1 (Below.refl _ _))⟩
  have HSVd : Hd (SetA (World.drew (V.alloc (.cells #[.slice (some ⟨g, 0, none⟩) k1 k1, .int .i64 M.n] 28))) z g M.n ws) := ⟨(HSV.out.below (below_alloc (Below.refl _ _) _)).below (below_drew1 (Below.refl _ _))⟩
  have hgV := HSV.out.hi
  refine can_e (o := ⟨_,_,_,_,_,_⟩) rfl (fun K hK => ?_)
  go_wp2_with (at_builtin; go_must (refine append_one setT (S' := fun k => k = g) rfl (.tmp 42) (.tmp 44) 79 28 _ 32 rfl Tryd.underlying79 infoSet rfl (by decide) (by decide) z (.slice A6 n5 c6) ys (M.n, ws) [.slice (some ⟨g, 0, none⟩) k1 k1, .int .i64 M.n] V.heap.size rfl rfl (blk_drew (blk_new V _ _ rfl)) ⟨some ⟨g, 0, none⟩, k1, g, by rw [HK1.out], HS.out.ok, HSVd.out.wd, fun _ => rfl⟩ HOWd.out (fun k hk => by subst hk; exact ⟨by rw [size_drew, size_alloc]; omega, HG4.out⟩) (fun he => by have := HOL.out _ (.inr he); omega) (by rw [size_drew, size_alloc]; omega) (by rw [HYL.out]; omega) ?_; intro v2 w7 hown hgr hat; have HOWN := Hd.mk hown; have HGR := Hd.mk hgr; have HAT := Hd.mk hat; clear hown hgr hat))
  refine onK_normal (hK _ _ ⟨fun _ => True, trivial, (fun h => by cases h), ?_⟩)
  clear hK K
  refine can_q (l := [⟨_,_,_,_,_,_⟩, ⟨_,_,_,_,_,_⟩]) rfl ?_
  repeat (go_big_quiet_step (fail))
  refine wpQuiet_nil ?_
  obtain ⟨A8, c8, e8, -, -, -⟩ := HOWN.out.form
  rw [List.length_append, HYL.out, List.length_singleton] at e8
  subst e8
  have hnB4 : (Value.slice A6 n5 c6).ownBlock ≠ some B := fun h => HBiV.out.zn.dis 5 0 B (by decide) (HOZ.out.2 B h) HBiV.out.zB
  have hy7 := (HGR.out.block B (by rw [size_drew, size_alloc]; omega) (fun h => hnB4 h.symm)).trans (blk_drew (blk_alloc hyV (.cells #[.slice (some ⟨g, 0, none⟩) k1 k1, .int .i64 M.n] 28)))
  clear hyVc0 hyVf0 hyVc1 hyVf1 hyVc2 hyVf2 hyVc3 hyVf3 hyVc4 hyVf4 hyVc5 hyVf5 hyVc6 hyVf6 hyVc7 hyVf7 hyVc8 hyVf8 hyVc9 hyVf9 hyVl
  clear hyV
  have hy7c0 := blk_cell hy7 0 _ rfl; have hy7f0 := blk_frozen hy7 0; have hy7c1 := blk_cell hy7 1 _ rfl; have hy7f1 := blk_frozen hy7 1; have hy7c2 := blk_cell hy7 2 _ rfl; have hy7f2 := blk_frozen hy7 2; have hy7c3 := blk_cell hy7 3 _ rfl; have hy7f3 := blk_frozen hy7 3; have hy7c4 := blk_cell hy7 4 _ rfl; have hy7f4 := blk_frozen hy7 4; have hy7c5 := blk_cell hy7 5 _ rfl; have hy7f5 := blk_frozen hy7 5; have hy7c6 := blk_cell hy7 6 _ rfl; have hy7f6 := blk_frozen hy7 6; have hy7c7 := blk_cell hy7 7 _ rfl; have hy7f7 := blk_frozen hy7 7; have hy7c8 := blk_cell hy7 8 _ rfl; have hy7f8 := blk_frozen hy7 8; have hy7c9 := blk_cell hy7 9 _ rfl; have hy7f9 := blk_frozen hy7 9; have hy7l := blk_lt hy7
  refine can_e (o := ⟨_,_,_,_,_,_⟩) rfl (fun K hK => ?_)
  go_wp2_with fail
  refine onK_normal (hK _ _ ⟨fun _ => True, trivial, (fun h => by cases h), ?_⟩)
  clear hK K
  refine can_done ?_
  generalize hY : World.setCell w7 _ _ = Y
  have HYY : Hd (Y.heap[B]? = some (bdO M nv (.slice A7 n7 c7) (.slice A8 (n5 + 1) c8))) := ⟨by rw [← hY]; exact blk_set hy7 9 _ _ rfl⟩
  have HF7 : Hd (Fr (fun b => (Value.slice A6 n5 c6).ownBlock = some b) (World.drew (V.alloc (.cells #[.slice (some ⟨g, 0, none⟩) k1 k1, .int .i64 M.n] 28))) w7) := ⟨⟨⟨HGR.out.os, HGR.out.tape, HGR.out.output, HGR.out.size, fun k hk => absurd hk (Nat.not_lt_zero k)⟩, fun b hb hx => HGR.out.block b hb fun h => hx h.symm⟩⟩
  have HBiU := Hd.mk ((HBiV.out.below (below_alloc (Below.refl _ _) (.cells #[.slice (some ⟨g, 0, none⟩) k1 k1, .int .i64 M.n] 28))).below (below_drew1 (Below.refl _ _)))
  have hgZ : ∀ i, ¬ upZ (upZ Z 1 (fun b => Z 1 b ∨ F2 b)) 3 (fun b => (Value.slice A7 n7 c7).ownBlock = some b) i g := fun i hi => by
    have hg9 := HS.out.hi
    unfold upZ at hi
    split at hi
    · rcases HAT5.out with h9 | h9
      · rw [h9] at hi
        have h10 := HOLD.out g hi
        exact HGZ.out 3 h10
      · rw [h9] at hi
        cases hi
        rw [size_alloc] at *
        omega
    · split at hi
      · rcases hi with hi | hi
        · exact HGZ.out 1 hi
        · rcases HN2.out g hi with h9 | h9
          · exact HGZ.out 1 (HLST.out.2.1 g h9)
          · rw [size_drew] at h9; omega
      · exact HGZ.out i hi
  have hbZ : ∀ i, ¬ upZ (upZ Z 1 (fun b => Z 1 b ∨ F2 b)) 3 (fun b => (Value.slice A7 n7 c7).ownBlock = some b) i V.heap.size := fun i hi => by
    have := (HBiV.out.zn.lt i _ hi).2
    omega
  have HBiW := Hd.mk (HBiU.out.waits (by rw [size_drew, size_alloc]; omega) HOZ.out.1 HOZ.out.2 HF7.out HOWN.out (fun b hb => by
    rcases hb with hb | hb | hb
    · exact .inl hb
    · rw [hb]; exact .inr (.inl ⟨HS.out.lo, hgZ⟩)
    · rw [hb]; exact .inr (.inl ⟨by omega, hbZ⟩)) HAT.out HYM.out HYN.out)
  have HBY := Hd.mk (HBiW.out.store 9 (.slice A8 (n5 + 1) c8))
  rw [hY, HMM.out] at HBY
  have HFY : Hd (Fr (fun b => Z 0 b ∨ Z 1 b ∨ Z 3 b ∨ Z 5 b) w Y) := ⟨by
    rw [← hY]
    refine Fr.set (((HFV.out.alloc _).drew).trans (HF7.out.mono fun b hb => ?_)) (.inl (.inl HZB.out)) _ _
    have h9 := HOZ.out.2 b hb
    rw [upZ_ne _ (by decide), upZ_ne _ (by decide)] at h9
    exact .inr (.inr (.inr h9))⟩
  have hyY := HYY.out
  unfold bdO at hyY
  clear hy7c0 hy7f0 hy7c1 hy7f1 hy7c2 hy7f2 hy7c3 hy7f3 hy7c4 hy7f4 hy7c5 hy7f5 hy7c6 hy7f6 hy7c7 hy7f7 hy7c8 hy7f8 hy7c9 hy7f9 hy7l
  clear hY hy7
  clear HBiW HBiU HOWN HGR
  have HZS : Hd (∀ i b, upZ (upZ (upZ (upZ Z 1 (fun b => Z 1 b ∨ F2 b)) 3 (fun b => (Value.slice A7 n7 c7).ownBlock = some b)) 4 (fun b => S4 b ∨ b = g ∨ b = V.heap.size)) 5 (fun b => (Value.slice A8 (n5 + 1) c8).ownBlock = some b) i b → Z i b ∨ b = g ∨ w.heap.size ≤ b) := ⟨fun i b hb => by
    have hZ3 : ∀ i b, upZ (upZ Z 1 (fun b => Z 1 b ∨ F2 b)) 3 (fun b => (Value.slice A7 n7 c7).ownBlock = some b) i b → Z i b ∨ w.heap.size ≤ b := fun i b hb => by
      unfold upZ at hb
      split at hb
      · rename_i hi
        subst hi
        rcases HAT5.out with h9 | h9
        · rw [h9] at hb
          exact .inl (HOLD.out b hb)
        · rw [h9] at hb
          cases hb
          refine .inr ?_
          rw [size_alloc]
          omega
      · split at hb
        · rename_i hi
          subst hi
          rcases hb with hb | hb
          · exact .inl hb
          · rcases HN2.out b hb with h9 | h9
            · exact .inl (HLST.out.2.1 b h9)
            · rw [size_drew] at h9; exact .inr (by omega)
        · exact .inl hb
    by_cases hi5 : i = 5
    · subst hi5
      rw [upZ_same] at hb
      rcases HAT.out with h9 | h9
      · rw [h9] at hb
        have h10 := HOZ.out.2 b hb
        rw [upZ_ne _ (by decide), upZ_ne _ (by decide)] at h10
        exact .inl h10
      · rw [h9] at hb
        cases hb
        refine .inr (.inr ?_)
        rw [size_drew, size_alloc]
        omega
    rw [upZ_ne _ hi5] at hb
    by_cases hi : i = 4
    · subst hi
      rw [upZ_same] at hb
      rcases hb with hb | hb | hb
      · have h9 := HOZ.out.1 b hb
        rw [upZ_ne _ (by decide), upZ_ne _ (by decide)] at h9
        exact .inl h9
      · exact .inr (.inl hb)
      · exact .inr (.inr (by omega))
    · rw [upZ_ne _ hi] at hb
      rcases hZ3 i b hb with h9 | h9
      · exact .inl h9
      · exact .inr (.inr h9)⟩
  have hj0 : (0 : Int) ≤ (n5 : Int) := by omega
  have hkj : decide ((0 : Int) ≤ (n5 : Int)) = true := decide_eq_true hj0
  have hbb := HBBJ.out
  have hyYc0 := blk_cell hyY 0 _ rfl; have hyYf0 := blk_frozen hyY 0; have hyYc1 := blk_cell hyY 1 _ rfl; have hyYf1 := blk_frozen hyY 1; have hyYc2 := blk_cell hyY 2 _ rfl; have hyYf2 := blk_frozen hyY 2; have hyYc3 := blk_cell hyY 3 _ rfl; have hyYf3 := blk_frozen hyY 3; have hyYc4 := blk_cell hyY 4 _ rfl; have hyYf4 := blk_frozen hyY 4; have hyYc5 := blk_cell hyY 5 _ rfl; have hyYf5 := blk_frozen hyY 5; have hyYc6 := blk_cell hyY 6 _ rfl; have hyYf6 := blk_frozen hyY 6; have hyYc7 := blk_cell hyY 7 _ rfl; have hyYf7 := blk_frozen hyY 7; have hyYc8 := blk_cell hyY 8 _ rfl; have hyYf8 := blk_frozen hyY 8; have hyYc9 := blk_cell hyY 9 _ rfl; have hyYf9 := blk_frozen hyY 9; have hyYl := blk_lt hyY
  go_wp2
  refine wp_region_can (.q [0, 1, 2, 3, 4, 5, 6, 7, 8, 9, 10, 11, 12] (.done)) (clsB _) (by kernel_rfl) (by kernel_rfl) (by intro _ _ d _ _ h; cases d <;> exact h) (clsB_drew _) ?_
  refine can_q (l := [⟨_,_,_,_,_,_⟩, ⟨_,_,_,_,_,_⟩, ⟨_,_,_,_,_,_⟩, ⟨_,_,_,_,_,_⟩, ⟨_,_,_,_,_,_⟩, ⟨_,_,_,_,_,_⟩, ⟨_,_,_,_,_,_⟩, ⟨_,_,_,_,_,_⟩, ⟨_,_,_,_,_,_⟩, ⟨_,_,_,_,_,_⟩, ⟨_,_,_,_,_,_⟩, ⟨_,_,_,_,_,_⟩, ⟨_,_,_,_,_,_⟩]) rfl ?_
  repeat (go_big_quiet_step (fail))
  refine wpQuiet_nil ?_
  refine can_done ?_
  go_wp2
  go_ret2
  have hfin := HBY.out.below (below_drew1 (Below.refl _ _))
  rw [← HMM.out] at hfin
  refine ⟨rfl, _, _, _, ⟨HYY.out, hfin⟩, ?_, HZS.out, HFY.out.drew⟩
  rw [upZ_ne _ (by decide), upZ_ne _ (by decide), upZ_ne _ (by decide), upZ_ne _ (by decide)]
end Go.Proofs.YtbmpaokicphdjaaDoor.Fn
