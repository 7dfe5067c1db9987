/- Classes: the plain law. -/
import Derived.Test.YtpcjidbhkffncaaA1
namespace Go.Proofs.Ytpcjidbhkffncaa.Fn
open Go Go.RowKit Go.Proofs.Ytpcjidbhkffncaa.Can Go.Proofs.Ytpcjidbhkffncaa.Base

section
variable {K K' : Type} [BEq K] [LawfulBEq K] [BEq K'] [LawfulBEq K']
/-- What is met ahead of c, once each, as it is met. -/
def met (f : Nat → K) : Nat → List K
  | 0 => []
  | c + 1 => if f c ∈ met f c then met f c else met f c ++ [f c]
theorem met_succ (f : Nat → K) (c : Nat) : met f (c + 1) = if f c ∈ met f c then met f c else met f c ++ [f c] := rfl
def cls (f : Nat → K) (c : Nat) : Nat := if f c ∈ met f c then (met f c).idxOf (f c) else (met f c).length
theorem met_len (f : Nat → K) (c : Nat) : (met f c).length ≤ c := by
  induction c with
  | zero => exact Nat.le_refl _
  | succ c ih =>
    rw [met_succ]
    split
    · omega
    · rw [List.length_append]; simp; omega
theorem mem_step {f : Nat → K} {c : Nat} {x : K} (h : x ∈ met f c) : x ∈ met f (c + 1) := by
  rw [met_succ]; split
  · exact h
  · exact List.mem_append_left _ h
theorem mem_self (f : Nat → K) (c : Nat) : f c ∈ met f (c + 1) := by
  rw [met_succ]; split
  · assumption
  · simp
theorem mem_upto {f : Nat → K} {d c : Nat} (h : d < c) : f d ∈ met f c := by
  induction c with
  | zero => omega
  | succ c ih =>
    rcases Nat.lt_or_ge d c with h1 | h1
    · exact mem_step (ih h1)
    · obtain rfl : d = c := by omega
      exact mem_self f d
theorem of_mem {f : Nat → K} {c : Nat} {x : K} (h : x ∈ met f c) : ∃ d, d < c ∧ f d = x := by
  induction c with
  | zero => simp [met] at h
  | succ c ih =>
    rw [met_succ] at h
    split at h
    · obtain ⟨d, h1, h2⟩ := ih h; exact ⟨d, by omega, h2⟩
    · rcases List.mem_append.1 h with h | h
      · obtain ⟨d, h1, h2⟩ := ih h; exact ⟨d, by omega, h2⟩
      · exact ⟨c, by omega, (List.mem_singleton.1 h).symm⟩
theorem idx_step {f : Nat → K} {c : Nat} {x : K} (h : x ∈ met f c) : (met f (c + 1)).idxOf x = (met f c).idxOf x := by
  rw [met_succ]; split
  · rfl
  · rw [List.idxOf_append, if_pos h]
theorem cls_idx (f : Nat → K) (c : Nat) : cls f c = (met f (c + 1)).idxOf (f c) := by
  unfold cls
  rw [met_succ]
  split
  · rfl
  · rename_i h
    rw [List.idxOf_append, if_neg h]; simp
theorem cls_at {f : Nat → K} {d c : Nat} (h : d < c) : cls f d = (met f c).idxOf (f d) := by
  induction c with
  | zero => omega
  | succ c ih =>
    rcases Nat.lt_or_ge d c with h1 | h1
    · rw [idx_step (mem_upto h1)]; exact ih h1
    · obtain rfl : d = c := by omega
      exact cls_idx f d
theorem cls_same {f : Nat → K} {a b : Nat} : cls f a = cls f b ↔ f a = f b := by
  have ha : a < a + b + 1 := by omega
  have hb : b < a + b + 1 := by omega
  rw [cls_at ha, cls_at hb]
  constructor
  · intro h
    have h1 : (met f (a + b + 1))[(met f (a + b + 1)).idxOf (f a)]? = some (f a) := by
      rw [List.getElem?_eq_getElem (List.idxOf_lt_length_of_mem (mem_upto ha))]; simp
    have h2 : (met f (a + b + 1))[(met f (a + b + 1)).idxOf (f b)]? = some (f b) := by
      rw [List.getElem?_eq_getElem (List.idxOf_lt_length_of_mem (mem_upto hb))]; simp
    rw [h, h2] at h1
    exact (Option.some.inj h1).symm
  · intro h; rw [h]
theorem cls_le (f : Nat → K) (c : Nat) : cls f c ≤ (met f c).length := by
  unfold cls; split
  · exact Nat.le_of_lt (List.idxOf_lt_length_of_mem ‹_›)
  · exact Nat.le_refl _
theorem cls_new {f : Nat → K} {c : Nat} : cls f c = (met f c).length ↔ f c ∉ met f c := by
  unfold cls; split
  · rename_i h
    have := List.idxOf_lt_length_of_mem h
    constructor
    · intro h2; omega
    · intro h2; exact absurd h h2
  · rename_i h
    exact ⟨fun _ => h, fun _ => rfl⟩
theorem met_len_succ (f : Nat → K) (c : Nat) : (met f (c + 1)).length = if cls f c = (met f c).length then (met f c).length + 1 else (met f c).length := by
  rw [met_succ]
  by_cases h : f c ∈ met f c
  · rw [if_pos h, if_neg (fun e => cls_new.1 e h)]
  · rw [if_neg h, if_pos (cls_new.2 h), List.length_append]; rfl
/-- The classes hang on what is told apart alone. -/
theorem cls_congr {f : Nat → K} {g : Nat → K'} {N : Nat} (h : ∀ a b, a < N → b < N → (f a = f b ↔ g a = g b)) : ∀ c, c ≤ N → (met f c).length = (met g c).length ∧ ∀ d, d < c → cls f d = cls g d := by
  intro c
  induction c with
  | zero => exact fun _ => ⟨rfl, fun d hd => absurd hd (Nat.not_lt_zero d)⟩
  | succ c ih =>
    intro hc
    obtain ⟨h1, h2⟩ := ih (by omega)
    have hm : f c ∈ met f c ↔ g c ∈ met g c := by
      constructor
      · intro hm
        obtain ⟨d, hd, he⟩ := of_mem hm
        rw [← (h d c (by omega) (by omega)).1 he]
        exact mem_upto hd
      · intro hm
        obtain ⟨d, hd, he⟩ := of_mem hm
        rw [← (h d c (by omega) (by omega)).2 he]
        exact mem_upto hd
    have hcl : cls f c = cls g c := by
      by_cases hf : f c ∈ met f c
      · obtain ⟨d, hd, he⟩ := of_mem hf
        rw [← cls_same.2 he, ← cls_same.2 ((h d c (by omega) (by omega)).1 he)]
        exact h2 d hd
      · rw [cls_new.2 hf, cls_new.2 (fun hg => hf (hm.2 hg)), h1]
    refine ⟨by rw [met_len_succ, met_len_succ, hcl, h1], fun d hd => ?_⟩
    rcases Nat.lt_or_ge d c with h3 | h3
    · exact h2 d h3
    · obtain rfl : d = c := by omega
      exact hcl
/-- The classes of n bytes. -/
def clsL (f : Nat → K) (n : Nat) : List Int := (List.range n).map fun c => (cls f c : Int)
theorem clsL_len (f : Nat → K) (n : Nat) : (clsL f n).length = n := by simp [clsL]
theorem clsL_get {f : Nat → K} {n c : Nat} (h : c < n) : (clsL f n)[c]? = some (cls f c : Int) := by simp [clsL, h]
theorem clsL_succ (f : Nat → K) (n : Nat) : clsL f (n + 1) = clsL f n ++ [(cls f n : Int)] := by simp [clsL, List.range_succ]
theorem clsL_congr {f : Nat → K} {g : Nat → K'} {N : Nat} (h : ∀ a b, a < N → b < N → (f a = f b ↔ g a = g b)) : clsL f N = clsL g N ∧ (met f N).length = (met g N).length := by
  obtain ⟨h1, h2⟩ := cls_congr h N (Nat.le_refl _)
  refine ⟨?_, h1⟩
  unfold clsL
  apply List.map_congr_left
  intro c hc
  rw [h2 c (List.mem_range.1 hc)]
end
/-- A number of a row. -/
def atN (l : List Int) (i : Nat) : Int := l.getD i (-1)
def pairF (a b : List Int) (c : Nat) : Int × Int := (atN a c, atN b c)
/-- A range, and whether a number is in it. -/
structure Rg where
  lo : Int
  hi : Int
def inR (r : Rg) (c : Int) : Bool := decide (r.lo ≤ c) && decide (c ≤ r.hi)
def keyR (l : List Rg) (c : Int) : List Bool := l.map (inR · c)
def keyF (l : List Rg) (c : Nat) : List Bool := keyR l c
def inL (r : Rg) : List Int := (List.range 256).map fun (c : Nat) => if inR r (c : Int) then 1 else 0
/-- One range more. -/
theorem keys_step (l : List Rg) (r : Rg) : clsL (pairF (clsL (keyF l) 256) (inL r)) 256 = clsL (keyF (l ++ [r])) 256 ∧ (met (pairF (clsL (keyF l) 256) (inL r)) 256).length = (met (keyF (l ++ [r])) 256).length := by
  refine clsL_congr fun a b ha hb => ?_
  have h1 : ∀ c, c < 256 → pairF (clsL (keyF l) 256) (inL r) c = ((cls (keyF l) c : Int), if inR r (c : Int) then 1 else 0) := fun c hc => by
    unfold pairF atN
    rw [List.getD_eq_getElem?_getD, clsL_get hc, List.getD_eq_getElem?_getD]
    simp [inL, hc]
  rw [h1 a ha, h1 b hb]
  have h2 : ∀ c : Nat, keyF (l ++ [r]) c = keyF l c ++ [inR r (c : Int)] := fun c => by simp [keyF, keyR]
  rw [h2, h2]
  have hl : (keyF l a).length = (keyF l b).length := by simp [keyF, keyR]
  constructor
  · intro h
    simp only [Prod.mk.injEq] at h
    have e1 : keyF l a = keyF l b := cls_same.1 (by omega)
    rw [e1]
    cases ha : inR r (a : Int) <;> cases hb : inR r (b : Int) <;> simp [ha, hb] at h ⊢
  · intro h
    obtain ⟨e1, e2⟩ := List.append_inj h hl
    simp only [List.cons.injEq, and_true] at e2
    rw [e2, cls_same.2 e1]
/-- The classes of two joined. -/
theorem keys_join (l l' : List Rg) : clsL (pairF (clsL (keyF l) 256) (clsL (keyF l') 256)) 256 = clsL (keyF (l ++ l')) 256 ∧ (met (pairF (clsL (keyF l) 256) (clsL (keyF l') 256)) 256).length = (met (keyF (l ++ l')) 256).length := by
  refine clsL_congr fun a b ha hb => ?_
  have h1 : ∀ c, c < 256 → pairF (clsL (keyF l) 256) (clsL (keyF l') 256) c = ((cls (keyF l) c : Int), (cls (keyF l') c : Int)) := fun c hc => by
    unfold pairF atN
    rw [List.getD_eq_getElem?_getD, clsL_get hc, List.getD_eq_getElem?_getD, clsL_get hc]
    rfl
  rw [h1 a ha, h1 b hb]
  have h2 : ∀ c : Nat, keyF (l ++ l') c = keyF l c ++ keyF l' c := fun c => by simp [keyF, keyR]
  rw [h2, h2]
  have hl : (keyF l a).length = (keyF l b).length := by simp [keyF, keyR]
  constructor
  · intro h
    simp only [Prod.mk.injEq] at h
    rw [cls_same.1 (show cls (keyF l) a = cls (keyF l) b by omega), cls_same.1 (show cls (keyF l') a = cls (keyF l') b by omega)]
  · intro h
    obtain ⟨e1, e2⟩ := List.append_inj h hl
    rw [cls_same.2 e1, cls_same.2 e2]
theorem keys_nil : clsL (keyF []) 256 = List.replicate 256 0 ∧ (met (keyF []) 256).length = 1 := by
  have h : ∀ c, met (keyF []) (c + 1) = [[]] := fun c => by
    induction c with
    | zero => rfl
    | succ c ih => rw [met_succ, ih]; rfl
  refine ⟨?_, by rw [h 255]; rfl⟩
  apply List.ext_getElem?
  intro i
  by_cases hi : i < 256
  · rw [clsL_get hi, List.getElem?_replicate, if_pos hi, cls_idx, h i]
    rfl
  · rw [List.getElem?_eq_none (by rw [clsL_len]; omega), List.getElem?_eq_none (by rw [List.length_replicate]; omega)]
end Go.Proofs.Ytpcjidbhkffncaa.Fn
