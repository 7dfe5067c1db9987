/- Texts: A7, A8, A9, A10, A11, A12. -/
import Derived.Test.YtoambcpjdcehhaaGreatAA
/- The first bytes of classes, and the bytes of one. -/
set_option linter.unusedVariables false
set_option linter.unusedSimpArgs false
namespace Go.Proofs.YtoambcpjdcehhaaGreat.Al
open Go Go.RowKit Go.Proofs.YtoambcpjdcehhaaGreat.Can Go.Proofs.YtoambcpjdcehhaaGreat.Base
attribute [local go_sem] clsB AB.cell

/-- The first bytes of the classes, ahead of c. -/
def fstU {K : Type} [BEq K] [LawfulBEq K] (f : Nat → K) (c : Nat) : List Nat := (List.range c).filter fun j => cls f j == (met f j).length
theorem fstU_succ {K : Type} [BEq K] [LawfulBEq K] (f : Nat → K) (c : Nat) : fstU f (c + 1) = if cls f c = (met f c).length then fstU f c ++ [c] else fstU f c := by
  unfold fstU
  rw [List.range_succ, List.filter_append]
  by_cases h : cls f c = (met f c).length
  · rw [if_pos h]; simp [h]
  · rw [if_neg h]; simp [h]
theorem fm_congr {α β : Type} {f g : α → Option β} {l : List α} (h : ∀ x ∈ l, f x = g x) : l.filterMap f = l.filterMap g := by
  induction l with
  | nil => rfl
  | cons a l ih => rw [List.filterMap_cons, List.filterMap_cons, h a (by simp), ih (fun x hx => h x (List.mem_cons_of_mem _ hx))]
theorem fstU_len {K : Type} [BEq K] [LawfulBEq K] (f : Nat → K) (c : Nat) : (fstU f c).length = (met f c).length := by
  induction c with
  | zero => rfl
  | succ c ih =>
    rw [fstU_succ, met_len_succ]
    split
    · rw [List.length_append, ih]; rfl
    · exact ih
theorem fstU_ge {K : Type} [BEq K] [LawfulBEq K] {f : Nat → K} {k c : Nat} (h : k ≤ c) : (met f k).length ≤ (met f c).length := by
  induction c with
  | zero => obtain rfl : k = 0 := by omega
            exact Nat.le_refl _
  | succ c ih =>
    rcases Nat.lt_or_ge k (c + 1) with h1 | h1
    · rw [met_len_succ]
      have := ih (by omega)
      split <;> omega
    · obtain rfl : k = c + 1 := by omega
      exact Nat.le_refl _
/-- The numbers, as Go has them. -/
def asI (l : List Nat) : List Int := l.map fun (j : Nat) => (j : Int)
/-- The bytes of a class. -/
def bytesU (L : List Int) (k : Int) (c : Nat) : List Nat := (List.range c).filter fun j => L[j]? == some k
theorem bytesU_succ (L : List Int) (k : Int) (c : Nat) : bytesU L k (c + 1) = if L[c]? = some k then bytesU L k c ++ [c] else bytesU L k c := by
  unfold bytesU
  rw [List.range_succ, List.filter_append]
  by_cases h : L[c]? = some k
  · rw [if_pos h]; simp [h]
  · rw [if_neg h]; simp [h]
def fstOf {K : Type} [BEq K] [LawfulBEq K] (f : Nat → K) (c v : Nat) : Option Nat := (List.range c).find? fun j => cls f j == v
theorem fstOf_succ {K : Type} [BEq K] [LawfulBEq K] (f : Nat → K) (c v : Nat) : fstOf f (c + 1) v = (fstOf f c v).or (if cls f c = v then some c else none) := by
  unfold fstOf
  rw [List.range_succ, List.find?_append]
  congr 1
  by_cases h : cls f c = v
  · rw [if_pos h]; simp [h]
  · rw [if_neg h]; simp [h]
theorem fstOf_none {K : Type} [BEq K] [LawfulBEq K] {f : Nat → K} {c v : Nat} (h : (met f c).length ≤ v) : fstOf f c v = none := by
  unfold fstOf
  rw [List.find?_eq_none]
  intro j hj
  have := cls_lt (f := f) (List.mem_range.1 hj)
  simp; omega
theorem fstOf_some {K : Type} [BEq K] [LawfulBEq K] {f : Nat → K} {c v : Nat} (h : v < (met f c).length) : (fstOf f c v).isSome = true := by
  obtain ⟨j, hj, he⟩ := cls_onto h
  unfold fstOf
  rw [List.find?_isSome]
  exact ⟨j, List.mem_range.2 hj, by simp [he]⟩
theorem fsts_len {K : Type} [BEq K] [LawfulBEq K] {f : Nat → K} {c N : Nat} (h : (met f c).length ≤ N) : (List.range N).filterMap (fstOf f c) = (List.range (met f c).length).filterMap (fstOf f c) := by
  induction N with
  | zero => rw [show (met f c).length = 0 by omega]
  | succ N ih =>
    rcases Nat.lt_or_ge N (met f c).length with h1 | h1
    · rw [show (met f c).length = N + 1 by omega]
    · rw [List.range_succ, List.filterMap_append, ih h1]
      simp [fstOf_none h1]
theorem fsts_eq {K : Type} [BEq K] [LawfulBEq K] (f : Nat → K) (c : Nat) : (List.range (met f c).length).filterMap (fstOf f c) = fstU f c := by
  induction c with
  | zero => rfl
  | succ c ih =>
    rw [fstU_succ, met_len_succ]
    have hsame : (List.range (met f c).length).filterMap (fstOf f (c + 1)) = (List.range (met f c).length).filterMap (fstOf f c) := by
      apply fm_congr
      intro v hv
      have h1 := fstOf_some (f := f) (List.mem_range.1 hv)
      rw [fstOf_succ]
      cases h : fstOf f c v with
      | none => rw [h] at h1; cases h1
      | some j => rfl
    split
    · rename_i h
      rw [List.range_succ, List.filterMap_append, hsame, ih]
      congr 1
      simp [fstOf_succ, fstOf_none (Nat.le_refl _), h]
    · rw [hsame, ih]
theorem head_bytes {L : List Int} {c v : Nat} (h : ∀ j, j < c → L[j]? = some (cls (oneF L) j : Int)) : (bytesU L v c).head? = fstOf (oneF L) c v := by
  unfold bytesU fstOf
  rw [List.head?_filter]
  have key : ∀ l : List Nat, (∀ j ∈ l, j < c) → l.find? (fun j => L[j]? == some (v : Int)) = l.find? (fun j => cls (oneF L) j == v) := by
    intro l hl
    induction l with
    | nil => rfl
    | cons a l ih =>
      have h2 : (L[a]? == some (v : Int)) = (cls (oneF L) a == v) := by
        rw [h a (hl a (by simp)), Bool.eq_iff_iff]
        simp
        omega
      rw [List.find?_cons, List.find?_cons, h2, ih (fun j hj => hl j (List.mem_cons_of_mem _ hj))]
  exact key _ (fun j hj => List.mem_range.1 hj)
/-- The classes' first bytes, class for class. -/
def fstV (L : List Int) (N : Nat) : List Nat := (List.range N).filterMap fun (v : Nat) => (bytesU L v 256).head?
theorem fstV_succ (L : List Int) (N : Nat) : fstV L (N + 1) = match (bytesU L N 256).head? with | some j => fstV L N ++ [j] | none => fstV L N := by
  unfold fstV
  rw [List.range_succ, List.filterMap_append]
  cases h : (bytesU L N 256).head? <;> simp [h]
theorem fstV_eq {L : List Int} (h : L = clsL (oneF L) 256) : fstV L 256 = fstU (oneF L) 256 := by
  have h1 : ∀ j, j < 256 → L[j]? = some (cls (oneF L) j : Int) := fun j hj => by
    have := clsL_get (f := oneF L) hj
    rwa [← h] at this
  have h2 : fstV L 256 = (List.range 256).filterMap (fstOf (oneF L) 256) := fm_congr fun v _ => head_bytes h1
  rw [h2, fsts_len (met_len _ _), fsts_eq]
def firstL (L : List Int) : List Int := if rightB L then asI (fstU (oneF L) 256) else []
theorem asI_snoc (l : List Nat) (j : Nat) : asI (l ++ [j]) = asI l ++ [(j : Int)] := by simp [asI]
theorem asI_len (l : List Nat) : (asI l).length = l.length := by simp [asI]
theorem filt_len (p : Nat → Bool) (c : Nat) : ((List.range c).filter p).length ≤ c := Nat.le_trans (List.length_filter_le _ _) (by simp)

/-- min(len, 256) -/
def mn (n : Nat) : Nat := if n < 256 then n else 256
end Go.Proofs.YtoambcpjdcehhaaGreat.Al

/- What First computes. -/
set_option linter.unusedVariables false
set_option linter.unusedSimpArgs false
namespace Go.Proofs.YtoambcpjdcehhaaGreat.Al
open Go Go.RowKit Go.Proofs.YtoambcpjdcehhaaGreat.Can Go.Proofs.YtoambcpjdcehhaaGreat.Base
attribute [local go_sem] clsB AB.cell

theorem rightB_iff {L : List Int} : rightB L = true ↔ L = clsL (oneF L) 256 := by unfold rightB; rw [decide_eq_true_eq]
end Go.Proofs.YtoambcpjdcehhaaGreat.Al

/- What the reference's Apart, number, Of and Join compute. -/
set_option linter.unusedVariables false
set_option linter.unusedSimpArgs false
namespace Go.Proofs.YtoambcpjdcehhaaGreat.Al
open Go Go.RowKit Go.Proofs.YtoambcpjdcehhaaGreat.Can Go.Proofs.YtoambcpjdcehhaaGreat.Base
attribute [local go_sem] clsB AB.cell

theorem number_calls (A : Option Addr) (n c : Nat) (L : List Int) (i : Nat) (S : Nat → Prop) (w : World) (h : Row I w S A n L) (hi : i ≤ 1000) :
    Calls Tryz.prog 121 #[.slice A n c, .int .i64 i] w fun e w' => e = .returned (.int .i64 (atN L i)) ∧ w' = w := by
  have hn := h.le
  have hl := h.1
  by_cases hlt : i < n
  · obtain ⟨b, off, x, rfl, _, hb, hx, hcell⟩ := h.get_int i hlt
    have hv : atN L i = x := by unfold atN; rw [List.getD_eq_getElem?_getD, hx]; rfl
    rw [hv]
    have hge : ¬ (n : Int) ≤ i := by omega
    clear h hl hx hv
    go_enter Tryz.func121, Tryz.ntmps121
    go_wp2
    go_ret
    exact ⟨rfl, rfl⟩
  · have hv : atN L i = -1 := by unfold atN; rw [List.getD_eq_getElem?_getD, List.getElem?_eq_none (by omega)]; rfl
    rw [hv]
    have hge : (n : Int) ≤ i := by omega
    clear h hl hv
    go_enter Tryz.func121, Tryz.ntmps121
    go_wp2
    go_ret
    exact ⟨rfl, rfl⟩
theorem in_cases (r : Rg) (c : Int) : (¬ r.lo ≤ c ∧ inR r c = false) ∨ (r.lo ≤ c ∧ ¬ c ≤ r.hi ∧ inR r c = false) ∨ (r.lo ≤ c ∧ c ≤ r.hi ∧ inR r c = true) := by
  unfold inR
  by_cases h1 : r.lo ≤ c <;> by_cases h2 : c ≤ r.hi <;> simp [h1, h2]
/-- One of the ranges tells them apart. -/
def apB (L : List Rg) (x y : Int) : Bool := !decide (keyR L x = keyR L y)
/-- The reference's own class of c: that of the last one ahead of d that is like it; else a new one. -/
structure Like {K : Type} [BEq K] [LawfulBEq K] (f : Nat → K) (c d kk : Nat) : Prop where
  yes : (∃ j, j < d ∧ f j = f c) → kk = cls f c
  no : (∀ j, j < d → f j ≠ f c) → kk = (met f c).length
theorem Like.zero {K : Type} [BEq K] [LawfulBEq K] (f : Nat → K) (c : Nat) : Like f c 0 (met f c).length := ⟨fun ⟨j, hj, _⟩ => absurd hj (Nat.not_lt_zero j), fun _ => rfl⟩
theorem Like.hit {K : Type} [BEq K] [LawfulBEq K] {f : Nat → K} {c d : Nat} (h : f d = f c) : Like f c (d + 1) (cls f d) := ⟨fun _ => cls_same.2 h, fun hn => absurd h (hn d (by omega))⟩
theorem Like.miss {K : Type} [BEq K] [LawfulBEq K] {f : Nat → K} {c d kk : Nat} (hl : Like f c d kk) (h : f d ≠ f c) : Like f c (d + 1) kk :=
  ⟨fun ⟨j, hj, he⟩ => hl.yes ⟨j, (by
    rcases Nat.lt_or_ge j d with h1 | h1
    · exact h1
    · obtain rfl : j = d := by omega
      exact absurd he h), he⟩, fun hn => hl.no fun j hj => hn j (by omega)⟩
theorem Like.all {K : Type} [BEq K] [LawfulBEq K] {f : Nat → K} {c kk : Nat} (hl : Like f c c kk) : kk = cls f c := by
  by_cases h : f c ∈ met f c
  · obtain ⟨d, hd, he⟩ := of_mem h
    exact hl.yes ⟨d, hd, he⟩
  · rw [hl.no fun j hj he => h (he ▸ mem_upto hj)]
    exact (cls_new.2 h).symm
end Go.Proofs.YtoambcpjdcehhaaGreat.Al

/- What the reference's Of and Join compute. -/
set_option linter.unusedVariables false
set_option linter.unusedSimpArgs false
namespace Go.Proofs.YtoambcpjdcehhaaGreat.Al
open Go Go.RowKit Go.Proofs.YtoambcpjdcehhaaGreat.Can Go.Proofs.YtoambcpjdcehhaaGreat.Base
attribute [local go_sem] clsB AB.cell

set_option maxRecDepth 20000 in
set_option maxHeartbeats 1000000 in
theorem rjoin_calls (A1 A2 : Option Addr) (n1 c1 n2 c2 : Nat) (L1 L2 : List Int) (S1 S2 : Nat → Prop) (w : World) (hS1 : ∀ k, S1 k → k < w.heap.size) (hS2 : ∀ k, S2 k → k < w.heap.size) (h1 : Row I w S1 A1 n1 L1) (h2 : Row I w S2 A2 n2 L2) :
    Calls Tryz.prog 111 #[.slice A1 n1 c1, .slice A2 n2 c2] w fun e w' => ∃ A' n' c', e = .returned (.tuple #[.slice A' n' c', .int .i64 ((met (pairF L1 L2) 256).length : Nat)]) ∧ Row I w' (fun k => w.heap.size ≤ k ∧ k < w'.heap.size) A' n' (clsL (pairF L1 L2) 256) ∧ Below w.heap.size w w' := by
  have HS1 := Hd.mk hS1; have HS2 := Hd.mk hS2; have H1 := Hd.mk h1; have H2 := Hd.mk h2; clear hS1 hS2 h1 h2
  obtain ⟨f, hf⟩ : ∃ f, pairF L1 L2 = f := ⟨_, rfl⟩
  have HF : Hd (∀ c d, f c = f d ↔ (atN L1 c = atN L1 d ∧ atN L2 c = atN L2 d)) := ⟨fun c d => by rw [← hf]; simp [pairF]⟩
  rw [hf]
  clear hf
  go_enter Tryz.func111, Tryz.ntmps111
  go_wp2
  go_loopw [6, 7, 8] (fun v mm i wr => ∃ q m : Nat, q ≤ 256 ∧ m ≤ q ∧ i = .int .i64 q ∧ mm = .int .i64 m ∧ Hd (m = (met f q).length) ∧ Hd (Mine I wr w.heap.size 3 v (clsL f q)) ∧ Hd (Below w.heap.size w wr)) (fun _ _ i _ => 256 - (intOf i).toNat)
  case atStart => exact ⟨0, 0, Nat.zero_le _, Nat.le_refl _, rfl, rfl, ⟨rfl⟩, ⟨Mine.nil _ _ _ _⟩, ⟨Below.refl _ _⟩⟩
  case round =>
    obtain ⟨q, m, hq, hm, rfl, rfl, HM, HO, HB⟩ := hrel
    obtain ⟨A3, z, c3, rfl, hz, hc3, hA3, hR2⟩ := HO.out.formN
    rw [clsL_len] at hz
    obtain rfl := hz.symm
    have HR2 := Hd.mk hR2; clear hR2 hA3
    by_cases hlt : q < 256
    · have HK0 : Hd (Like f q 0 m) := ⟨by rw [HM.out]; exact Like.zero _ _⟩
      have H1r := Hd.mk (H1.out.below HS1.out HB.out); have H2r := Hd.mk (H2.out.below HS2.out HB.out)
      obtain ⟨x1, hx1⟩ : ∃ x, atN L1 q = x := ⟨_, rfl⟩
      obtain ⟨x2, hx2⟩ : ∃ x, atN L2 q = x := ⟨_, rfl⟩
      have HX1 := Hd.mk hx1; have HX2 := Hd.mk hx2; clear hx1 hx2
      go_wp2
      go_loopw [9, 10] (fun kv d wx => ∃ d' kk : Nat, d' ≤ q ∧ d = .int .i64 d' ∧ kv = .int .i64 kk ∧ Hd (Like f q d' kk) ∧ wx = wr) (fun _ d _ => q - (intOf d).toNat)
      case atStart => exact ⟨0, m, Nat.zero_le _, rfl, rfl, HK0, rfl⟩
      case round =>
        clear HK0
        obtain ⟨d, kk, hd, rfl, rfl, HK, rfl⟩ := hrel
        by_cases hdl : d < q
        · obtain ⟨y1, hy1⟩ : ∃ x, atN L1 d = x := ⟨_, rfl⟩
          obtain ⟨y2, hy2⟩ : ∃ x, atN L2 d = x := ⟨_, rfl⟩
          have HY1 := Hd.mk hy1; have HY2 := Hd.mk hy2; clear hy1 hy2
          have hff := HF.out d q
          rw [HX1.out, HX2.out, HY1.out, HY2.out] at hff
          have HFF := Hd.mk hff; clear hff
          by_cases e1 : x1 = y1
          · by_cases e2 : x2 = y2
            · have HK2 := Hd.mk (Like.hit (f := f) (c := q) (d := d) (HFF.out.2 ⟨e1.symm, e2.symm⟩))
              have e1J : (x1 == y1) = true := by simpa using e1
              have e2J : (x2 == y2) = true := by simpa using e2
              obtain ⟨b, off, x, rfl, _, hb1, hx, hcell⟩ := HR2.out.get_int d hdl
              have hx3 : x = (cls f d : Int) := by have := clsL_get (f := f) hdl; rw [hx] at this; exact Option.some.inj this
              subst hx3
              clear hx e1 e2
              go_wp2_with (first
                | (go_at_call 121; have hq_ := HQ3; clear hq_; go_must (refine Calls.mono (number_calls A2 n2 c2 L2 d S2 _ H2r.out (by omega)) ?_; rintro e w3 ⟨he, rfl⟩; rw [HY2.out] at he; subst he))
                | (go_at_call 121; have hq_ := HQ2; clear hq_; go_must (refine Calls.mono (number_calls A2 n2 c2 L2 q S2 _ H2r.out (by omega)) ?_; rintro e w3 ⟨he, rfl⟩; rw [HX2.out] at he; subst he; have HQ3 := Hd.mk True.intro))
                | (go_at_call 121; have hq_ := HQ1; clear hq_; go_must (refine Calls.mono (number_calls A1 n1 c1 L1 d S1 _ H1r.out (by omega)) ?_; rintro e w3 ⟨he, rfl⟩; rw [HY1.out] at he; subst he; have HQ2 := Hd.mk True.intro))
                | (go_at_call 121; go_must (refine Calls.mono (number_calls A1 n1 c1 L1 q S1 _ H1r.out (by omega)) ?_; rintro e w3 ⟨he, rfl⟩; rw [HX1.out] at he; subst he; have HQ1 := Hd.mk True.intro)))
              go_roundw
              case rel => exact ⟨d + 1, _, by omega, by go_num, rfl, HK2, trivial⟩
              case measure => simp [intOf]; omega
            · have HK2 := Hd.mk (Like.miss HK.out (fun h => e2 (HFF.out.1 h).2.symm))
              have e1J : (x1 == y1) = true := by simpa using e1
              have e2J : (x2 == y2) = false := by simpa using e2
              clear e1 e2
              go_wp2_with (first
                | (go_at_call 121; have hq_ := HQ3; clear hq_; go_must (refine Calls.mono (number_calls A2 n2 c2 L2 d S2 _ H2r.out (by omega)) ?_; rintro e w3 ⟨he, rfl⟩; rw [HY2.out] at he; subst he))
                | (go_at_call 121; have hq_ := HQ2; clear hq_; go_must (refine Calls.mono (number_calls A2 n2 c2 L2 q S2 _ H2r.out (by omega)) ?_; rintro e w3 ⟨he, rfl⟩; rw [HX2.out] at he; subst he; have HQ3 := Hd.mk True.intro))
                | (go_at_call 121; have hq_ := HQ1; clear hq_; go_must (refine Calls.mono (number_calls A1 n1 c1 L1 d S1 _ H1r.out (by omega)) ?_; rintro e w3 ⟨he, rfl⟩; rw [HY1.out] at he; subst he; have HQ2 := Hd.mk True.intro))
                | (go_at_call 121; go_must (refine Calls.mono (number_calls A1 n1 c1 L1 q S1 _ H1r.out (by omega)) ?_; rintro e w3 ⟨he, rfl⟩; rw [HX1.out] at he; subst he; have HQ1 := Hd.mk True.intro)))
              go_roundw
              case rel => exact ⟨d + 1, kk, by omega, by go_num, rfl, HK2, trivial⟩
              case measure => simp [intOf]; omega
          · have HK2 := Hd.mk (Like.miss HK.out (fun h => e1 (HFF.out.1 h).1.symm))
            have e1J : (x1 == y1) = false := by simpa using e1
            clear e1
            go_wp2_with (first
                | (go_at_call 121; have hq_ := HQ3; clear hq_; go_must (refine Calls.mono (number_calls A2 n2 c2 L2 d S2 _ H2r.out (by omega)) ?_; rintro e w3 ⟨he, rfl⟩; rw [HY2.out] at he; subst he))
                | (go_at_call 121; have hq_ := HQ2; clear hq_; go_must (refine Calls.mono (number_calls A2 n2 c2 L2 q S2 _ H2r.out (by omega)) ?_; rintro e w3 ⟨he, rfl⟩; rw [HX2.out] at he; subst he; have HQ3 := Hd.mk True.intro))
                | (go_at_call 121; have hq_ := HQ1; clear hq_; go_must (refine Calls.mono (number_calls A1 n1 c1 L1 d S1 _ H1r.out (by omega)) ?_; rintro e w3 ⟨he, rfl⟩; rw [HY1.out] at he; subst he; have HQ2 := Hd.mk True.intro))
                | (go_at_call 121; go_must (refine Calls.mono (number_calls A1 n1 c1 L1 q S1 _ H1r.out (by omega)) ?_; rintro e w3 ⟨he, rfl⟩; rw [HX1.out] at he; subst he; have HQ1 := Hd.mk True.intro)))
            go_roundw
            case rel => exact ⟨d + 1, kk, by omega, by go_num, rfl, HK2, trivial⟩
            case measure => simp [intOf]; omega
        · obtain rfl : q = d := by omega
          have hkc := HK.out.all
          have HKC := Hd.mk hkc; clear hkc
          have hkk : kk ≤ 256 := by rw [HKC.out]; have := cls_le f q; have := met_len f q; omega
          have HSS := Hd.mk (clsL_succ f q)
          rw [← HKC.out] at HSS
          by_cases hnew : kk = m
          · have hnJ : ((kk : Int) == (m : Int)) = true := by simp; omega
            have HM2 : Hd (m + 1 = (met f (q + 1)).length) := ⟨by rw [met_len_succ, ← HM.out, if_pos (by rw [← HKC.out]; exact hnew)]⟩
            clear hnew
            go_wp2_with (at_builtin; go_must (refine append_snoc I (Ty.int_flat _) rfl (.tmp 46) (.tmp 48) 95 3 _ 8 rfl Tryz.underlying95 info3 rfl (by decide) (by decide) w.heap.size (.slice A3 q c3) (clsL f q) (kk : Int) [.int .i64 (kk : Int)] wr.heap.size rfl rfl (blk_new _ _ _ rfl) rfl (HO.out.below (by repeat (first | (with_reducible assumption) | (with_reducible exact Below.refl _ _) | (with_reducible apply below_drewL) | (with_reducible apply below_alloc) | (with_reducible apply below_drew1) | (with_reducible apply below_drewN) | (refine below_set ?_ (by first | omega | (simp only [size_alloc, size_drew, size_set]; omega)) _ _)))) (HO.out.ne_new (Nat.le_refl _)) (by simp only [size_alloc, size_drew]; have := HB.out.size; omega) (by rw [clsL_len]; omega) ?_; intro v2 w2 hM2 hb2 hk2 hat2; replace hb2 := Hd.mk (Below.trans (HB.out.alloc HB.out.size _) hb2); have HO2 := Hd.mk hM2; clear hM2 hk2 hat2))
            go_roundw
            case rel => exact ⟨q + 1, m + 1, by omega, by omega, by go_num, by go_num, HM2, ⟨by rw [HSS.out]; exact HO2.out⟩, hb2⟩
            case measure => simp [intOf]; omega
          · have hnJ : ((kk : Int) == (m : Int)) = false := by simp; omega
            have HM2 : Hd (m = (met f (q + 1)).length) := ⟨by rw [met_len_succ, ← HM.out, if_neg (by rw [← HKC.out]; exact hnew)]⟩
            clear hnew
            go_wp2_with (at_builtin; go_must (refine append_snoc I (Ty.int_flat _) rfl (.tmp 46) (.tmp 48) 95 3 _ 8 rfl Tryz.underlying95 info3 rfl (by decide) (by decide) w.heap.size (.slice A3 q c3) (clsL f q) (kk : Int) [.int .i64 (kk : Int)] wr.heap.size rfl rfl (blk_new _ _ _ rfl) rfl (HO.out.below (by repeat (first | (with_reducible assumption) | (with_reducible exact Below.refl _ _) | (with_reducible apply below_drewL) | (with_reducible apply below_alloc) | (with_reducible apply below_drew1) | (with_reducible apply below_drewN) | (refine below_set ?_ (by first | omega | (simp only [size_alloc, size_drew, size_set]; omega)) _ _)))) (HO.out.ne_new (Nat.le_refl _)) (by simp only [size_alloc, size_drew]; have := HB.out.size; omega) (by rw [clsL_len]; omega) ?_; intro v2 w2 hM2 hb2 hk2 hat2; replace hb2 := Hd.mk (Below.trans (HB.out.alloc HB.out.size _) hb2); have HO2 := Hd.mk hM2; clear hM2 hk2 hat2))
            go_roundw
            case rel => exact ⟨q + 1, m, by omega, by omega, by go_num, rfl, HM2, ⟨by rw [HSS.out]; exact HO2.out⟩, hb2⟩
            case measure => simp [intOf]; omega
    · obtain rfl : q = 256 := by omega
      go_wp2
      go_ret2
      exact ⟨A3, 256, ⟨c3, by rw [← HM.out]; rfl⟩, HR2.out, HB.out⟩
end Go.Proofs.YtoambcpjdcehhaaGreat.Al

/- What the reference's Right, Bytes and First compute. -/
set_option linter.unusedVariables false
set_option linter.unusedSimpArgs false
namespace Go.Proofs.YtoambcpjdcehhaaGreat.Al
open Go Go.RowKit Go.Proofs.YtoambcpjdcehhaaGreat.Can Go.Proofs.YtoambcpjdcehhaaGreat.Base
attribute [local go_sem] clsB AB.cell

set_option maxRecDepth 20000 in
theorem rright_calls (A : Option Addr) (n c : Nat) (L : List Int) (S : Nat → Prop) (w : World) (hS : ∀ k, S k → k < w.heap.size) (hC : Row I w S A n L) :
    Calls Tryz.prog 89 #[.slice A n c] w fun e w' => e = .returned (.bool (rightB L)) ∧ Below w.heap.size w w' := by
  have hn := hC.le
  have HL := Hd.mk hC.1
  obtain ⟨bb, hbb⟩ : ∃ bb, rightB L = bb := ⟨_, rfl⟩
  rw [hbb]
  have HB := Hd.mk hbb; clear hbb
  have HC := Hd.mk hC; have HS := Hd.mk hS; clear hC hS
  by_cases hlen : n = 256
  · subst hlen
    go_enter Tryz.func89, Tryz.ntmps89
    go_wp2_with (go_at_call 111; go_must (refine Calls.mono (rjoin_calls A none 256 c 0 0 L [] S (fun _ => False) w HS.out (fun _ h => h.elim) HC.out (Row.nil _ _ _ _)) ?_; rintro e w1 ⟨A1, n1, c1, rfl, hr1, hb1⟩; have HR1 := Hd.mk hr1; have HB1 := Hd.mk hb1; have hn1 : n1 = 256 := (by rw [← hr1.1, clsL_len]); subst hn1; clear hr1 hb1))
    have HC1 := Hd.mk (HC.out.below HS.out HB1.out)
    go_loopw [5] (fun i wr => ∃ k : Nat, k ≤ 256 ∧ i = .int .i64 k ∧ Hd (∀ j, j < k → L[j]? = some (cls (oneF L) j : Int)) ∧ Hd (Below w.heap.size w wr) ∧ Hd (Below w1.heap.size w1 wr)) (fun i _ => 256 - (intOf i).toNat)
    case atStart => exact ⟨0, Nat.zero_le _, rfl, ⟨fun j hj => absurd hj (Nat.not_lt_zero j)⟩, HB1, ⟨Below.refl _ _⟩⟩
    case round =>
      obtain ⟨k, hk, rfl, HR, HBr, HBs⟩ := hrel
      by_cases hlt : k < 256
      · obtain ⟨b, off, x, rfl, _, hb1, hx, hcell⟩ := (HC1.out.below (fun k hk => Nat.lt_of_lt_of_le (HS.out k hk) HB1.out.size) HBs.out).get_int k hlt
        obtain ⟨b2, off2, y, rfl, _, hb2, hy, hcell2⟩ := (HR1.out.below (fun k hk => hk.2) HBs.out).get_int k hlt
        have hy2 : y = (cls (oneF L) k : Int) := by have := clsL_get (f := oneF L) hlt; rw [show oneF L = pairF L [] from rfl, hy] at this; exact Option.some.inj this
        have HX := Hd.mk hx; have HY := Hd.mk hy2; clear hx hy hy2
        by_cases hxy : y = x
        · have hJ : (y == x) = true := by simpa using hxy
          have HR2 : Hd (∀ j, j < k + 1 → L[j]? = some (cls (oneF L) j : Int)) := ⟨fun j hj => by
            rcases Nat.lt_or_ge j k with h | h
            · exact HR.out j h
            · obtain rfl : j = k := by omega
              rw [HX.out, ← HY.out, hxy]⟩
          go_wp2
          refine wp_region_can (.q [0, 1, 2, 3, 4, 5, 6, 7, 8] (.done)) (clsB _) (by kernel_rfl) (by kernel_rfl) (by intro _ _ d _ _ h; cases d <;> exact h) (clsB_drew _) ?_
          refine can_q (l := [⟨_,_,_,_,_,_⟩, ⟨_,_,_,_,_,_⟩, ⟨_,_,_,_,_,_⟩, ⟨_,_,_,_,_,_⟩, ⟨_,_,_,_,_,_⟩, ⟨_,_,_,_,_,_⟩, ⟨_,_,_,_,_,_⟩, ⟨_,_,_,_,_,_⟩, ⟨_,_,_,_,_,_⟩]) rfl ?_
          repeat (go_big_quiet_step (fail))
          refine wpQuiet_nil ?_
          refine can_done ?_
          go_wp2
          go_roundw
          case rel => exact ⟨k + 1, by omega, by go_num, HR2, ⟨by have := HBr.out; exact (by repeat (first | (with_reducible assumption) | (with_reducible exact Below.refl _ _) | (with_reducible apply below_drewL) | (with_reducible apply below_alloc) | (with_reducible apply below_drew1) | (with_reducible apply below_drewN) | (refine below_set ?_ (by first | omega | (simp only [size_alloc, size_drew, size_set]; omega)) _ _)))⟩, ⟨by have := HBs.out; exact (by repeat (first | (with_reducible assumption) | (with_reducible exact Below.refl _ _) | (with_reducible apply below_drewL) | (with_reducible apply below_alloc) | (with_reducible apply below_drew1) | (with_reducible apply below_drewN) | (refine below_set ?_ (by first | omega | (simp only [size_alloc, size_drew, size_set]; omega)) _ _)))⟩⟩
          case measure => simp [intOf]; omega
        · have hJ : (y == x) = false := by simpa using hxy
          obtain rfl : bb = false := by rw [← HB.out]; exact right_no hlt HX.out (fun he => hxy (by rw [he, HY.out]))
          go_wp2
          refine wp_region_can (.q [0, 1, 2, 3, 4, 5, 6, 7, 8] (.done)) (clsB _) (by kernel_rfl) (by kernel_rfl) (by intro _ _ d _ _ h; cases d <;> exact h) (clsB_drew _) ?_
          refine can_q (l := [⟨_,_,_,_,_,_⟩, ⟨_,_,_,_,_,_⟩, ⟨_,_,_,_,_,_⟩, ⟨_,_,_,_,_,_⟩, ⟨_,_,_,_,_,_⟩, ⟨_,_,_,_,_,_⟩, ⟨_,_,_,_,_,_⟩, ⟨_,_,_,_,_,_⟩, ⟨_,_,_,_,_,_⟩]) rfl ?_
          repeat (go_big_quiet_step (fail))
          refine wpQuiet_nil ?_
          refine can_done ?_
          go_wp2
          go_ret
          exact ⟨rfl, by have := HBr.out; exact (by repeat (first | (with_reducible assumption) | (with_reducible exact Below.refl _ _) | (with_reducible apply below_drewL) | (with_reducible apply below_alloc) | (with_reducible apply below_drew1) | (with_reducible apply below_drewN) | (refine below_set ?_ (by first | omega | (simp only [size_alloc, size_drew, size_set]; omega)) _ _)))⟩
      · obtain rfl : k = 256 := by omega
        obtain rfl : bb = true := by rw [← HB.out]; exact right_yes HL.out HR.out
        go_wp2
        go_ret
        exact ⟨rfl, HBr.out⟩
  · obtain rfl : bb = false := by rw [← HB.out]; exact right_len (by rw [HL.out]; exact hlen)
    have hI : ¬ (n : Int) = 256 := by omega
    go_enter Tryz.func89, Tryz.ntmps89
    go_wp2
    go_ret
    exact ⟨rfl, Below.refl _ _⟩
set_option maxRecDepth 20000 in
theorem rbytes_calls (A : Option Addr) (n c : Nat) (L : List Int) (q : Int) (S : Nat → Prop) (w : World) (hS : ∀ k, S k → k < w.heap.size) (hC : Row I w S A n L) :
    Calls Tryz.prog 112 #[.slice A n c, .int .i64 q] w fun e w' => ∃ A' n' c', e = .returned (.slice A' n' c') ∧ Row I w' (fun k => w.heap.size ≤ k ∧ k < w'.heap.size) A' n' (asI (bytesU L q (mn n))) ∧ Below w.heap.size w w' := by
  have hn := hC.le
  obtain ⟨m, hm⟩ : ∃ m, mn n = m := ⟨_, rfl⟩
  have hmn : m ≤ n ∧ m ≤ 256 ∧ (m = n ∨ m = 256) := by rw [← hm]; unfold mn; split <;> omega
  rw [hm]
  clear hm
  have HS := Hd.mk hS; have HC := Hd.mk hC
  clear hS hC
  go_enter Tryz.func112, Tryz.ntmps112
  go_wp2
  go_loopw [5, 6] (fun v i wr => ∃ (k : Nat), k ≤ m ∧ i = .int .i64 k ∧ Hd (Mine I wr w.heap.size 3 v (asI (bytesU L q k))) ∧ Hd (Below w.heap.size w wr)) (fun _ i _ => m - (intOf i).toNat)
  case atStart => exact ⟨0, Nat.zero_le _, rfl, ⟨Mine.nil _ _ _ _⟩, ⟨Below.refl _ _⟩⟩
  case round =>
    obtain ⟨k, hk, rfl, HM, HB⟩ := hrel
    obtain ⟨A2, z, c2, rfl, hz, hc2, hA2, hR2⟩ := HM.out.formN
    have hlen : z ≤ k := by rw [hz, asI_len]; exact filt_len _ _
    have HZ := Hd.mk hz; have HR2 := Hd.mk hR2; clear hz hR2 hA2
    by_cases hlt : k < m
    · obtain ⟨b, off, x, rfl, _, hb1, hx, hcell⟩ := (HC.out.below HS.out HB.out).get_int k (by omega)
      have HX := Hd.mk hx; clear hx
      have hk1 : k < n := by omega
      have hk2 : k < 256 := by omega
      by_cases hxq : x = q
      · have hJ : (x == q) = true := by simpa using hxq
        have HT : Hd (asI (bytesU L q (k + 1)) = asI (bytesU L q k) ++ [(k : Int)]) := ⟨by rw [bytesU_succ, if_pos (by rw [HX.out, hxq]), asI_snoc]⟩
        go_wp2_with (at_builtin; go_must (refine append_snoc I (Ty.int_flat _) rfl (.tmp 23) (.tmp 25) 95 3 _ 8 rfl Tryz.underlying95 info3 rfl (by decide) (by decide) w.heap.size (.slice A2 z c2) (asI (bytesU L q k)) (k : Int) [.int .i64 (k : Int)] wr.heap.size rfl rfl (blk_new _ _ _ rfl) rfl (HM.out.below (by repeat (first | (with_reducible assumption) | (with_reducible exact Below.refl _ _) | (with_reducible apply below_drewL) | (with_reducible apply below_alloc) | (with_reducible apply below_drew1) | (with_reducible apply below_drewN) | (refine below_set ?_ (by first | omega | (simp only [size_alloc, size_drew, size_set]; omega)) _ _)))) (HM.out.ne_new (Nat.le_refl _)) (by simp only [size_alloc, size_drew]; have := HB.out.size; omega) (by rw [← HZ.out]; omega) ?_; intro v2 w2 hM2 hb2 hk2 hat2; replace hb2 := Hd.mk (Below.trans (HB.out.alloc HB.out.size _) hb2); have HM2 := Hd.mk hM2; clear hM2 hk2 hat2))
        go_roundw
        case rel => exact ⟨k + 1, by omega, by go_num, ⟨by rw [HT.out]; exact HM2.out⟩, hb2⟩
        case measure => simp [intOf]; omega
      · have hJ : (x == q) = false := by simpa using hxq
        have HT : Hd (asI (bytesU L q (k + 1)) = asI (bytesU L q k)) := ⟨by rw [bytesU_succ, if_neg (by rw [HX.out]; intro h; exact hxq (Option.some.inj h))]⟩
        go_wp2
        go_roundw
        case rel => exact ⟨k + 1, by omega, by go_num, ⟨by rw [HT.out]; exact HM.out⟩, HB⟩
        case measure => simp [intOf]; omega
    · obtain rfl : k = m := by omega
      by_cases hkn : k < n
      · have h2 : ¬ k < 256 := by omega
        go_wp2
        go_ret
        exact ⟨A2, z, c2, rfl, HR2.out, HB.out⟩
      · go_wp2
        go_ret
        exact ⟨A2, z, c2, rfl, HR2.out, HB.out⟩
theorem fstV_len (L : List Int) (N : Nat) : (fstV L N).length ≤ N := Nat.le_trans (List.length_filterMap_le _ _) (by simp)
set_option maxRecDepth 20000 in
theorem rfirst_calls (A : Option Addr) (n c : Nat) (L : List Int) (S : Nat → Prop) (w : World) (hS : ∀ k, S k → k < w.heap.size) (hC : Row I w S A n L) :
    Calls Tryz.prog 90 #[.slice A n c] w fun e w' => ∃ A' n' c', e = .returned (.slice A' n' c') ∧ Row I w' (fun k => w.heap.size ≤ k ∧ k < w'.heap.size) A' n' (firstL L) ∧ Below w.heap.size w w' := by
  have hn := hC.le
  have HL := Hd.mk hC.1
  have HC := Hd.mk hC; have HS := Hd.mk hS; clear hC hS
  cases hb : rightB L with
  | false =>
    have HF : Hd (firstL L = []) := ⟨by unfold firstL; rw [hb]; rfl⟩
    have HB := Hd.mk hb; clear hb
    go_enter Tryz.func90, Tryz.ntmps90
    go_wp2_with (go_at_call 89; go_must (refine Calls.mono (rright_calls A n c L S w HS.out HC.out) ?_; rintro e w1 ⟨he, hb1⟩; rw [HB.out] at he; subst he))
    go_ret
    exact ⟨none, 0, 0, rfl, by rw [HF.out]; exact Row.nil _ _ _ _, hb1⟩
  | true =>
    have HE : Hd (L = clsL (oneF L) 256) := ⟨rightB_iff.1 hb⟩
    have HF : Hd (firstL L = asI (fstV L 256)) := ⟨by unfold firstL; rw [hb, fstV_eq HE.out]; rfl⟩
    have hn2 : n = 256 := by rw [← HL.out, HE.out, clsL_len]
    subst hn2
    have HB := Hd.mk hb; clear hb
    go_enter Tryz.func90, Tryz.ntmps90
    go_wp2_with (go_at_call 89; go_must (refine Calls.mono (rright_calls A 256 c L S w HS.out HC.out) ?_; rintro e w1 ⟨he, hb1⟩; rw [HB.out] at he; subst he; have HB1 := Hd.mk hb1; clear hb1))
    go_loopw [3, 4] (fun v i wr => ∃ (k : Nat), k ≤ 256 ∧ i = .int .i64 k ∧ Hd (Mine I wr w.heap.size 3 v (asI (fstV L k))) ∧ Hd (Below w.heap.size w wr)) (fun _ i _ => 256 - (intOf i).toNat)
    case atStart => exact ⟨0, Nat.zero_le _, rfl, ⟨Mine.nil _ _ _ _⟩, HB1⟩
    case round =>
      clear HB1
      obtain ⟨k, hk, rfl, HM, HB1⟩ := hrel
      obtain ⟨A2, z, c2, rfl, hz, hc2, hA2, hR2⟩ := HM.out.formN
      rw [asI_len] at hz
      have hlen : z ≤ k := by rw [hz]; exact fstV_len _ _
      have HZ := Hd.mk hz; have HR2 := Hd.mk hR2; clear hz hR2 hA2
      by_cases hlt : k < 256
      · have HMN : Hd (mn 256 = 256) := ⟨rfl⟩
        cases hh : bytesU L (k : Int) 256 with
        | nil =>
          have HT : Hd (asI (fstV L (k + 1)) = asI (fstV L k)) := ⟨by rw [fstV_succ, hh]; rfl⟩
          have HH := Hd.mk hh; clear hh
          go_wp2_with (go_at_call 112; go_must (refine Calls.mono (rbytes_calls A 256 c L k S _ (fun k hk => Nat.lt_of_lt_of_le (HS.out k hk) HB1.out.size) (HC.out.below HS.out HB1.out)) ?_; rintro e w3 ⟨A3, n3, c3, rfl, hr3, hb3⟩; rw [HMN.out, HH.out] at hr3; have hn3 : n3 = 0 := hr3.1.symm; subst hn3; have HB3 := Hd.mk (below_seq HB1.out hb3); have HM3 := Hd.mk (HM.out.below hb3); clear hr3 hb3))
          go_roundw
          case rel => exact ⟨k + 1, by omega, by go_num, ⟨by rw [HT.out]; exact HM3.out⟩, HB3⟩
          case measure => simp [intOf]; omega
        | cons j t =>
          have HT : Hd (asI (fstV L (k + 1)) = asI (fstV L k) ++ [(j : Int)]) := ⟨by rw [fstV_succ, hh]; exact asI_snoc _ _⟩
          have HH := Hd.mk hh; clear hh
          go_wp2_with (first
            | (at_builtin; have hq_ := HB3; clear hq_; go_must (refine append_snoc I (Ty.int_flat _) rfl (.tmp 20) (.tmp 24) 95 3 _ 8 rfl Tryz.underlying95 info3 rfl (by decide) (by decide) w.heap.size (.slice A2 z c2) (asI (fstV L k)) (j : Int) [.int .i64 (j : Int)] w3.heap.size rfl rfl (blk_new _ _ _ rfl) rfl (HM3.out.below (by repeat (first | (with_reducible assumption) | (with_reducible exact Below.refl _ _) | (with_reducible apply below_drewL) | (with_reducible apply below_alloc) | (with_reducible apply below_drew1) | (with_reducible apply below_drewN) | (refine below_set ?_ (by first | omega | (simp only [size_alloc, size_drew, size_set]; omega)) _ _)))) (HM3.out.ne_new (Nat.le_refl _)) (by simp only [size_alloc, size_drew]; have := HB3.out.size; omega) (by rw [asI_len, ← HZ.out]; omega) ?_; intro v2 w2 hM2 hb2 hk2 hat2; replace hb2 := Hd.mk (Below.trans (HB3.out.alloc HB3.out.size _) hb2); have HM2 := Hd.mk hM2; clear hM2 hk2 hat2))
            | (go_at_call 112; go_must (refine Calls.mono (rbytes_calls A 256 c L k S _ (fun k hk => Nat.lt_of_lt_of_le (HS.out k hk) HB1.out.size) (HC.out.below HS.out HB1.out)) ?_; rintro e w3 ⟨A3, n3, c3, rfl, hr3, hb3⟩; rw [HMN.out, HH.out] at hr3; have hn3 : 0 < n3 := (by have := hr3.1; simp [asI] at this; omega); have hnm3 := hr3.le; obtain ⟨b3, off3, x3, rfl, _, hl3, hx3, hcell3⟩ := hr3.get_int 0 hn3; have hx3' : x3 = (j : Int) := (by simpa [asI] using hx3.symm); subst hx3'; rw [Nat.add_zero] at hcell3; have hn3I : (0 : Int) < n3 := (by omega); have HB3 := Hd.mk (below_seq HB1.out hb3); have HM3 := Hd.mk (HM.out.below hb3); clear hr3 hb3 hx3)))
          go_roundw
          case rel => exact ⟨k + 1, by omega, by go_num, ⟨by rw [HT.out]; exact HM2.out⟩, hb2⟩
          case measure => simp [intOf]; omega
      · obtain rfl : k = 256 := by omega
        go_wp2
        go_ret
        exact ⟨A2, z, c2, rfl, by rw [HF.out]; exact HR2.out, HB1.out⟩
end Go.Proofs.YtoambcpjdcehhaaGreat.Al

/- The law's own example. -/
set_option linter.unusedVariables false
set_option linter.unusedSimpArgs false
namespace Go.Proofs.YtoambcpjdcehhaaGreat.Al
open Go Go.RowKit Go.Proofs.YtoambcpjdcehhaaGreat.Can Go.Proofs.YtoambcpjdcehhaaGreat.Base
attribute [local go_sem] clsB AB.cell

theorem one_cls {K : Type} [BEq K] [LawfulBEq K] (f : Nat → K) (a b : Nat) (ha : a < 256) (hb : b < 256) : f a = f b ↔ oneF (clsL f 256) a = oneF (clsL f 256) b := by
  rw [oneF_eq, atN_some (clsL_get ha), atN_some (clsL_get hb), ← cls_same]
  omega
theorem right_cls {K : Type} [BEq K] [LawfulBEq K] (f : Nat → K) : rightB (clsL f 256) = true := rightB_iff.2 (clsL_congr (one_cls f)).1
theorem first_cls {K : Type} [BEq K] [LawfulBEq K] (f : Nat → K) : firstL (clsL f 256) = asI (fstU f 256) := by
  unfold firstL
  rw [right_cls, if_pos rfl]
  congr 1
  unfold fstU
  apply List.filter_congr
  intro j hj
  have hj := List.mem_range.1 hj
  have h1 := cls_congr (one_cls f) (j + 1) (by omega)
  have h2 := cls_congr (one_cls f) j (by omega)
  rw [h1.2 j (by omega), h2.1]
end Go.Proofs.YtoambcpjdcehhaaGreat.Al
