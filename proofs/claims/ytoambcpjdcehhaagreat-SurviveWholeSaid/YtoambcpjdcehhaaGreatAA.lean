/- Texts: A1, A2, A3, A4, A5, A6. -/
import Derived.Test.YtoambcpjdcehhaaGreatProg
import Derived.Test.YtoambcpjdcehhaaGreatFrame
import Derived.Test.YtoambcpjdcehhaaGreatCut
import Derived.Test.YtoambcpjdcehhaaGreatFlat
import Derived.Test.YtoambcpjdcehhaaGreatInts
import Derived.Maps.OwnSet
import Derived.DeepKeys4
import Derived.WideKeyPair
import Derived.OwnWalk
import Derived.Laws.MakeOwn
import Derived.Test.YtoambcpjdcehhaaGreatOpens
/- The map that numbers pairs, as they are met. -/
set_option linter.unusedVariables false
set_option linter.unusedSimpArgs false
namespace Go.Proofs.YtoambcpjdcehhaaGreat.Al
open Go Go.RowKit Go.Proofs.YtoambcpjdcehhaaGreat.Can Go.Proofs.YtoambcpjdcehhaaGreat.Base
open Go.Maps (Keyed)
attribute [local go_sem] clsB AB.cell

theorem laidOut : laidOutB Tryz.prog = true := by kernel_rfl
/-- A pair of numbers that Go has. -/
def Wf (x : Int × Int) : Prop := (Lit.int .i64 x.1).wf = true ∧ (Lit.int .i64 x.2).wf = true
def kV (x : Int × Int) : Value := .agg #[.int .i64 x.1, .int .i64 x.2]
def kl (x : Int × Int) : Lit := .string (keyBytes [.int .i64 x.1, .int .i64 x.2])
theorem zero3 (w : World) : (zeroValue 3).run Tryz.prog w = .ok (.int .i64 0) w := by kernel_rfl
end Go.Proofs.YtoambcpjdcehhaaGreat.Al

/- Classes: the plain law. -/
set_option linter.unusedVariables false
set_option linter.unusedSimpArgs false
namespace Go.Proofs.YtoambcpjdcehhaaGreat.Al
open Go Go.RowKit Go.Proofs.YtoambcpjdcehhaaGreat.Can Go.Proofs.YtoambcpjdcehhaaGreat.Base

section
variable {K K' : Type} [BEq K] [LawfulBEq K] [BEq K'] [LawfulBEq K']
/-- What is met ahead of c, once each, as it is met. -/
def met (f : Nat → K) : Nat → List K
  | 0 => []
  | c + 1 => if f c ∈ met f c then met f c else met f c ++ [f c]
theorem met_succ (f : Nat → K) (c : Nat) : met f (c + 1) = if f c ∈ met f c then met f c else met f c ++ [f c] := rfl
def cls (f : Nat → K) (c : Nat) : Nat := if f c ∈ met f c then (met f c).idxOf (f c) else (met f c).length
theorem met_len (f : Nat → K) (c : Nat) : (met f c).length ≤ c := by
  induction c with
  | zero => exact Nat.le_refl _
  | succ c ih =>
    rw [met_succ]
    split
    · omega
    · rw [List.length_append]; simp; omega
theorem mem_step {f : Nat → K} {c : Nat} {x : K} (h : x ∈ met f c) : x ∈ met f (c + 1) := by
  rw [met_succ]; split
  · exact h
  · exact List.mem_append_left _ h
theorem mem_self (f : Nat → K) (c : Nat) : f c ∈ met f (c + 1) := by
  rw [met_succ]; split
  · assumption
  · simp
theorem mem_upto {f : Nat → K} {d c : Nat} (h : d < c) : f d ∈ met f c := by
  induction c with
  | zero => omega
  | succ c ih =>
    rcases Nat.lt_or_ge d c with h1 | h1
    · exact mem_step (ih h1)
    · obtain rfl : d = c := by omega
      exact mem_self f d
theorem of_mem {f : Nat → K} {c : Nat} {x : K} (h : x ∈ met f c) : ∃ d, d < c ∧ f d = x := by
  induction c with
  | zero => simp [met] at h
  | succ c ih =>
    rw [met_succ] at h
    split at h
    · obtain ⟨d, h1, h2⟩ := ih h; exact ⟨d, by omega, h2⟩
    · rcases List.mem_append.1 h with h | h
      · obtain ⟨d, h1, h2⟩ := ih h; exact ⟨d, by omega, h2⟩
      · exact ⟨c, by omega, (List.mem_singleton.1 h).symm⟩
theorem idx_step {f : Nat → K} {c : Nat} {x : K} (h : x ∈ met f c) : (met f (c + 1)).idxOf x = (met f c).idxOf x := by
  rw [met_succ]; split
  · rfl
  · rw [List.idxOf_append, if_pos h]
theorem cls_idx (f : Nat → K) (c : Nat) : cls f c = (met f (c + 1)).idxOf (f c) := by
  unfold cls
  rw [met_succ]
  split
  · rfl
  · rename_i h
    rw [List.idxOf_append, if_neg h]; simp
theorem cls_at {f : Nat → K} {d c : Nat} (h : d < c) : cls f d = (met f c).idxOf (f d) := by
  induction c with
  | zero => omega
  | succ c ih =>
    rcases Nat.lt_or_ge d c with h1 | h1
    · rw [idx_step (mem_upto h1)]; exact ih h1
    · obtain rfl : d = c := by omega
      exact cls_idx f d
theorem cls_same {f : Nat → K} {a b : Nat} : cls f a = cls f b ↔ f a = f b := by
  have ha : a < a + b + 1 := by omega
  have hb : b < a + b + 1 := by omega
  rw [cls_at ha, cls_at hb]
  constructor
  · intro h
    have h1 : (met f (a + b + 1))[(met f (a + b + 1)).idxOf (f a)]? = some (f a) := by
      rw [List.getElem?_eq_getElem (List.idxOf_lt_length_of_mem (mem_upto ha))]; simp
    have h2 : (met f (a + b + 1))[(met f (a + b + 1)).idxOf (f b)]? = some (f b) := by
      rw [List.getElem?_eq_getElem (List.idxOf_lt_length_of_mem (mem_upto hb))]; simp
    rw [h, h2] at h1
    exact (Option.some.inj h1).symm
  · intro h; rw [h]
theorem cls_le (f : Nat → K) (c : Nat) : cls f c ≤ (met f c).length := by
  unfold cls; split
  · exact Nat.le_of_lt (List.idxOf_lt_length_of_mem (by assumption))
  · exact Nat.le_refl _
theorem cls_new {f : Nat → K} {c : Nat} : cls f c = (met f c).length ↔ f c ∉ met f c := by
  unfold cls; split
  · rename_i h
    have := List.idxOf_lt_length_of_mem h
    constructor
    · intro h2; omega
    · intro h2; exact absurd h h2
  · rename_i h
    exact ⟨fun _ => h, fun _ => rfl⟩
theorem met_len_succ (f : Nat → K) (c : Nat) : (met f (c + 1)).length = if cls f c = (met f c).length then (met f c).length + 1 else (met f c).length := by
  rw [met_succ]
  by_cases h : f c ∈ met f c
  · rw [if_pos h, if_neg (fun e => cls_new.1 e h)]
  · rw [if_neg h, if_pos (cls_new.2 h), List.length_append]; rfl
/-- The classes hang on what is told apart alone. -/
theorem cls_congr {f : Nat → K} {g : Nat → K'} {N : Nat} (h : ∀ a b, a < N → b < N → (f a = f b ↔ g a = g b)) : ∀ c, c ≤ N → (met f c).length = (met g c).length ∧ ∀ d, d < c → cls f d = cls g d := by
  intro c
  induction c with
  | zero => exact fun _ => ⟨rfl, fun d hd => absurd hd (Nat.not_lt_zero d)⟩
  | succ c ih =>
    intro hc
    obtain ⟨h1, h2⟩ := ih (by omega)
    have hm : f c ∈ met f c ↔ g c ∈ met g c := by
      constructor
      · intro hm
        obtain ⟨d, hd, he⟩ := of_mem hm
        rw [← (h d c (by omega) (by omega)).1 he]
        exact mem_upto hd
      · intro hm
        obtain ⟨d, hd, he⟩ := of_mem hm
        rw [← (h d c (by omega) (by omega)).2 he]
        exact mem_upto hd
    have hcl : cls f c = cls g c := by
      by_cases hf : f c ∈ met f c
      · obtain ⟨d, hd, he⟩ := of_mem hf
        rw [← cls_same.2 he, ← cls_same.2 ((h d c (by omega) (by omega)).1 he)]
        exact h2 d hd
      · rw [cls_new.2 hf, cls_new.2 (fun hg => hf (hm.2 hg)), h1]
    refine ⟨by rw [met_len_succ, met_len_succ, hcl, h1], fun d hd => ?_⟩
    rcases Nat.lt_or_ge d c with h3 | h3
    · exact h2 d h3
    · obtain rfl : d = c := by omega
      exact hcl
/-- The classes of n bytes. -/
def clsL (f : Nat → K) (n : Nat) : List Int := (List.range n).map fun c => (cls f c : Int)
theorem clsL_len (f : Nat → K) (n : Nat) : (clsL f n).length = n := by simp [clsL]
theorem clsL_get {f : Nat → K} {n c : Nat} (h : c < n) : (clsL f n)[c]? = some (cls f c : Int) := by simp [clsL, h]
theorem clsL_succ (f : Nat → K) (n : Nat) : clsL f (n + 1) = clsL f n ++ [(cls f n : Int)] := by simp [clsL, List.range_succ]
theorem clsL_congr {f : Nat → K} {g : Nat → K'} {N : Nat} (h : ∀ a b, a < N → b < N → (f a = f b ↔ g a = g b)) : clsL f N = clsL g N ∧ (met f N).length = (met g N).length := by
  obtain ⟨h1, h2⟩ := cls_congr h N (Nat.le_refl _)
  refine ⟨?_, h1⟩
  unfold clsL
  apply List.map_congr_left
  intro c hc
  rw [h2 c (List.mem_range.1 hc)]
end
/-- A number of a row. -/
def atN (l : List Int) (i : Nat) : Int := l.getD i (-1)
def pairF (a b : List Int) (c : Nat) : Int × Int := (atN a c, atN b c)
/-- A range, and whether a number is in it. -/
structure Rg where
  lo : Int
  hi : Int
def inR (r : Rg) (c : Int) : Bool := decide (r.lo ≤ c) && decide (c ≤ r.hi)
def keyR (l : List Rg) (c : Int) : List Bool := l.map (inR · c)
def keyF (l : List Rg) (c : Nat) : List Bool := keyR l c
def inL (r : Rg) : List Int := (List.range 256).map fun (c : Nat) => if inR r (c : Int) then 1 else 0
/-- One range more. -/
theorem keys_step (l : List Rg) (r : Rg) : clsL (pairF (clsL (keyF l) 256) (inL r)) 256 = clsL (keyF (l ++ [r])) 256 ∧ (met (pairF (clsL (keyF l) 256) (inL r)) 256).length = (met (keyF (l ++ [r])) 256).length := by
  refine clsL_congr fun a b ha hb => ?_
  have h1 : ∀ c, c < 256 → pairF (clsL (keyF l) 256) (inL r) c = ((cls (keyF l) c : Int), if inR r (c : Int) then 1 else 0) := fun c hc => by
    unfold pairF atN
    rw [List.getD_eq_getElem?_getD, clsL_get hc, List.getD_eq_getElem?_getD]
    simp [inL, hc]
  rw [h1 a ha, h1 b hb]
  have h2 : ∀ c : Nat, keyF (l ++ [r]) c = keyF l c ++ [inR r (c : Int)] := fun c => by simp [keyF, keyR]
  rw [h2, h2]
  have hl : (keyF l a).length = (keyF l b).length := by simp [keyF, keyR]
  constructor
  · intro h
    simp only [Prod.mk.injEq] at h
    have e1 : keyF l a = keyF l b := cls_same.1 (by omega)
    rw [e1]
    cases ha : inR r (a : Int) <;> cases hb : inR r (b : Int) <;> simp [ha, hb] at h ⊢
  · intro h
    obtain ⟨e1, e2⟩ := List.append_inj h hl
    simp only [List.cons.injEq, and_true] at e2
    rw [e2, cls_same.2 e1]
/-- The classes of two joined. -/
theorem keys_join (l l' : List Rg) : clsL (pairF (clsL (keyF l) 256) (clsL (keyF l') 256)) 256 = clsL (keyF (l ++ l')) 256 ∧ (met (pairF (clsL (keyF l) 256) (clsL (keyF l') 256)) 256).length = (met (keyF (l ++ l')) 256).length := by
  refine clsL_congr fun a b ha hb => ?_
  have h1 : ∀ c, c < 256 → pairF (clsL (keyF l) 256) (clsL (keyF l') 256) c = ((cls (keyF l) c : Int), (cls (keyF l') c : Int)) := fun c hc => by
    unfold pairF atN
    rw [List.getD_eq_getElem?_getD, clsL_get hc, List.getD_eq_getElem?_getD, clsL_get hc]
    rfl
  rw [h1 a ha, h1 b hb]
  have h2 : ∀ c : Nat, keyF (l ++ l') c = keyF l c ++ keyF l' c := fun c => by simp [keyF, keyR]
  rw [h2, h2]
  have hl : (keyF l a).length = (keyF l b).length := by simp [keyF, keyR]
  constructor
  · intro h
    simp only [Prod.mk.injEq] at h
    rw [cls_same.1 (show cls (keyF l) a = cls (keyF l) b by omega), cls_same.1 (show cls (keyF l') a = cls (keyF l') b by omega)]
  · intro h
    obtain ⟨e1, e2⟩ := List.append_inj h hl
    rw [cls_same.2 e1, cls_same.2 e2]
theorem keys_nil : clsL (keyF []) 256 = List.replicate 256 0 ∧ (met (keyF []) 256).length = 1 := by
  have h : ∀ c, met (keyF []) (c + 1) = [[]] := fun c => by
    induction c with
    | zero => rfl
    | succ c ih => rw [met_succ, ih]; rfl
  refine ⟨?_, by rw [h 255]; rfl⟩
  apply List.ext_getElem?
  intro i
  by_cases hi : i < 256
  · rw [clsL_get hi, List.getElem?_replicate, if_pos hi, cls_idx, h i]
    rfl
  · rw [List.getElem?_eq_none (by rw [clsL_len]; omega), List.getElem?_eq_none (by rw [List.length_replicate]; omega)]
end Go.Proofs.YtoambcpjdcehhaaGreat.Al

/- What numbers pairs; what a row has at a place; Join. -/
set_option linter.unusedVariables false
set_option linter.unusedSimpArgs false
namespace Go.Proofs.YtoambcpjdcehhaaGreat.Al
open Go Go.RowKit Go.Proofs.YtoambcpjdcehhaaGreat.Can Go.Proofs.YtoambcpjdcehhaaGreat.Base
attribute [local go_sem] clsB AB.cell

end Go.Proofs.YtoambcpjdcehhaaGreat.Al

/- What Join computes. -/
set_option linter.unusedVariables false
set_option linter.unusedSimpArgs false
namespace Go.Proofs.YtoambcpjdcehhaaGreat.Al
open Go Go.RowKit Go.Proofs.YtoambcpjdcehhaaGreat.Can Go.Proofs.YtoambcpjdcehhaaGreat.Base
attribute [local go_sem] clsB AB.cell

abbrev I : Ty Int := Ty.int .i64
def iE (n : Int) : List Value := [.int .i64 n]
theorem i_len (n : Int) : (iE n).length = 1 := rfl
theorem info3 : (Tryz.prog.info? 3).map (fun i => (i.zero, i.size, i.bytes)) = some (some (.int .i64 0), 1, 8) := by kernel_rfl
theorem blk_rowI {w : World} {g : Nat} {xs : List Int} {S : Nat → Prop} (h : Blk iE w 3 g xs) (hS : S g) (hn : xs.length ≤ 9223372036854775807) : Row I w S (some ⟨g, 0, none⟩) xs.length xs :=
  h.row i_len (fun x u hu => by simp [iE] at hu; subst hu; rfl) hS hn
theorem atN_wf {L : List Int} (h : ∀ x ∈ L, (Lit.int .i64 x).wf = true) (i : Nat) : (Lit.int .i64 (atN L i)).wf = true := by
  unfold atN
  rw [List.getD_eq_getElem?_getD]
  cases hx : L[i]? with
  | none => rfl
  | some x => exact h x (List.mem_of_getElem? hx)
theorem fill_set (f : Nat → Int × Int) (k : Nat) (hk : k < 256) : (clsL f k ++ List.replicate (256 - k) 0).set k (cls f k) = clsL f (k + 1) ++ List.replicate (256 - (k + 1)) 0 := by
  rw [clsL_succ, List.set_append_right _ _ (by rw [clsL_len]; omega), clsL_len, Nat.sub_self, show 256 - k = (256 - (k + 1)) + 1 by omega, List.replicate_succ, List.set_cons_zero, List.append_assoc]; rfl
theorem fill_get (f : Nat → Int × Int) (k : Nat) (hk : k < 256) : (clsL f k ++ List.replicate (256 - k) (0 : Int))[k]? = some 0 := by
  rw [List.getElem?_append_right (by rw [clsL_len]; omega), clsL_len, Nat.sub_self, List.getElem?_replicate, if_pos (by omega)]
end Go.Proofs.YtoambcpjdcehhaaGreat.Al

/- What Of computes. -/
set_option linter.unusedVariables false
set_option linter.unusedSimpArgs false
namespace Go.Proofs.YtoambcpjdcehhaaGreat.Al
open Go Go.RowKit Go.Proofs.YtoambcpjdcehhaaGreat.Can Go.Proofs.YtoambcpjdcehhaaGreat.Base
attribute [local go_sem] clsB AB.cell

def rE (r : Rg) : List Value := [.int .i64 r.lo, .int .i64 r.hi]
theorem r_len (r : Rg) : (rE r).length = 2 := rfl
def rT : Ty Rg := Ty.flat 2 rE r_len (fun _ u hu => by simp [rE] at hu; rcases hu with rfl | rfl <;> rfl)
theorem rg_get {w : World} {S : Nat → Prop} {A : Option Addr} {n : Nat} {l : List Rg} (h : Row rT w S A n l) (k : Nat) (hk : k < n) :
    ∃ b off r, A = some ⟨b, off, none⟩ ∧ b < w.heap.size ∧ l[k]? = some r ∧ w.cell? ⟨b, off + k * 2, none⟩ = some (.int .i64 r.lo) ∧ w.cell? ⟨b, off + k * 2 + 1, none⟩ = some (.int .i64 r.hi) := by
  obtain ⟨b, off, cs, he, hs, hr, hcell⟩ := h.get k hk
  have hr' : cs = rE _ := hr
  subst hr'
  have h0 := hcell 0 _ rfl
  exact ⟨b, off, _, he, World.block_lt_of_cell? w _ h0, List.getElem?_eq_getElem _, h0, hcell 1 _ rfl⟩
theorem wf_small {x : Int} (h : 0 ≤ x ∧ x ≤ 1000) : (Lit.int .i64 x).wf = true := WalkArith.wf_i64 (by omega)
theorem clsL_wf {K : Type} [BEq K] [LawfulBEq K] (f : Nat → K) : ∀ x ∈ clsL f 256, (Lit.int .i64 x).wf = true := by
  intro x hx
  simp only [clsL, List.mem_map, List.mem_range] at hx
  obtain ⟨c, hc, rfl⟩ := hx
  have h1 := cls_le f c
  have h2 := met_len f c
  exact wf_small (by omega)
theorem inL_wf (r : Rg) : ∀ x ∈ inL r, (Lit.int .i64 x).wf = true := by
  intro x hx
  simp only [inL, List.mem_map] at hx
  obtain ⟨c, hc, rfl⟩ := hx
  split <;> rfl
def inU (r : Rg) (c : Nat) : List Int := ((List.range c).map fun (c : Nat) => if inR r (c : Int) then 1 else 0) ++ List.replicate (256 - c) 0
theorem inU_get (r : Rg) {c : Nat} (h : c < 256) : (inU r c)[c]? = some 0 := by
  unfold inU
  rw [List.getElem?_append_right (by simp), List.length_map, List.length_range, Nat.sub_self, List.getElem?_replicate, if_pos (by omega)]
theorem inU_yes (r : Rg) {c : Nat} (h : c < 256) (hr : inR r (c : Int) = true) : (inU r c).set c 1 = inU r (c + 1) := by
  unfold inU
  rw [List.set_append_right _ _ (by simp), List.length_map, List.length_range, Nat.sub_self, show 256 - c = (256 - (c + 1)) + 1 by omega, List.replicate_succ, List.set_cons_zero, List.range_succ, List.map_append, List.append_assoc]
  simp [hr]
theorem inU_no (r : Rg) {c : Nat} (h : c < 256) (hr : inR r (c : Int) = false) : inU r c = inU r (c + 1) := by
  unfold inU
  rw [show 256 - c = (256 - (c + 1)) + 1 by omega, List.replicate_succ, List.range_succ, List.map_append, List.append_assoc]
  simp [hr]
theorem inU_full (r : Rg) : inU r 256 = inL r := by unfold inU inL; simp
end Go.Proofs.YtoambcpjdcehhaaGreat.Al

/- Whether numbers are classes; the same numbers. -/
set_option linter.unusedVariables false
set_option linter.unusedSimpArgs false
namespace Go.Proofs.YtoambcpjdcehhaaGreat.Al
open Go Go.RowKit Go.Proofs.YtoambcpjdcehhaaGreat.Can Go.Proofs.YtoambcpjdcehhaaGreat.Base
attribute [local go_sem] clsB AB.cell

theorem cls_onto {K : Type} [BEq K] [LawfulBEq K] {f : Nat → K} {k v : Nat} (h : v < (met f k).length) : ∃ j, j < k ∧ cls f j = v := by
  induction k with
  | zero => exact absurd h (Nat.not_lt_zero v)
  | succ k ih =>
    rw [met_len_succ] at h
    by_cases hc : cls f k = (met f k).length
    · rw [if_pos hc] at h
      rcases Nat.lt_or_ge v (met f k).length with h1 | h1
      · obtain ⟨j, hj, he⟩ := ih h1; exact ⟨j, by omega, he⟩
      · exact ⟨k, by omega, by omega⟩
    · rw [if_neg hc] at h
      obtain ⟨j, hj, he⟩ := ih h; exact ⟨j, by omega, he⟩
theorem cls_lt {K : Type} [BEq K] [LawfulBEq K] {f : Nat → K} {j k : Nat} (h : j < k) : cls f j < (met f k).length := by
  rw [cls_at h]; exact List.idxOf_lt_length_of_mem (mem_upto h)
/-- What the classes of a row alone hang on. -/
def oneF (L : List Int) : Nat → Int × Int := pairF L []
theorem oneF_eq {L : List Int} {a b : Nat} : oneF L a = oneF L b ↔ atN L a = atN L b := by
  simp [oneF, pairF, atN]
theorem atN_some {L : List Int} {k : Nat} {x : Int} (h : L[k]? = some x) : atN L k = x := by
  unfold atN; rw [List.getD_eq_getElem?_getD, h]; rfl
theorem right_step {L : List Int} {k : Nat} {x : Int} (h : ∀ j, j < k → L[j]? = some (cls (oneF L) j : Int)) (hx : L[k]? = some x) : (0 ≤ x ∧ x ≤ (met (oneF L) k).length) ↔ x = cls (oneF L) k := by
  constructor
  · rintro ⟨h0, h1⟩
    obtain ⟨v, rfl⟩ : ∃ v : Nat, x = v := ⟨x.toNat, by omega⟩
    rcases Nat.lt_or_ge v (met (oneF L) k).length with h2 | h2
    · obtain ⟨j, hj, he⟩ := cls_onto h2
      have h3 := h j hj
      rw [he] at h3
      rw [← he]
      exact congrArg Int.ofNat (cls_same.2 (oneF_eq.2 (by rw [atN_some h3, atN_some hx])))
    · have hv : v = (met (oneF L) k).length := by omega
      rw [hv]
      refine congrArg Int.ofNat (cls_new.2 fun hm => ?_).symm
      obtain ⟨d, hd, he⟩ := of_mem hm
      have h3 := oneF_eq.1 he
      rw [atN_some (h d hd), atN_some hx] at h3
      have := cls_lt (f := oneF L) hd
      omega
  · rintro rfl
    have := cls_le (oneF L) k
    omega
/-- They are classes. -/
def rightB (L : List Int) : Bool := decide (L = clsL (oneF L) 256)
theorem right_yes {L : List Int} (hl : L.length = 256) (h : ∀ j, j < 256 → L[j]? = some (cls (oneF L) j : Int)) : rightB L = true := by
  unfold rightB
  rw [decide_eq_true_eq]
  apply List.ext_getElem?
  intro j
  by_cases hj : j < 256
  · rw [h j hj, clsL_get hj]
  · rw [List.getElem?_eq_none (by omega), List.getElem?_eq_none (by rw [clsL_len]; omega)]
theorem right_no {L : List Int} {k : Nat} {x : Int} (hk : k < 256) (hx : L[k]? = some x) (h : ¬ x = cls (oneF L) k) : rightB L = false := by
  unfold rightB
  rw [decide_eq_false_iff_not]
  intro he
  have h1 := clsL_get (f := oneF L) hk
  rw [← he, hx] at h1
  exact h (Option.some.inj h1)
theorem right_len {L : List Int} (h : ¬ L.length = 256) : rightB L = false := by
  unfold rightB
  rw [decide_eq_false_iff_not]
  intro he
  exact h (by rw [he, clsL_len])
set_option maxRecDepth 20000 in
theorem right_calls (A : Option Addr) (n c : Nat) (L : List Int) (S : Nat → Prop) (w : World) (hC : Row I w S A n L) :
    Calls Tryz.prog 99 #[.slice A n c] w fun e w' => e = .returned (.bool (rightB L)) ∧ w' = w := by
  have hn := hC.le
  have HL := Hd.mk hC.1
  obtain ⟨bb, hbb⟩ : ∃ bb, rightB L = bb := ⟨_, rfl⟩
  rw [hbb]
  have HB := Hd.mk hbb; clear hbb
  have HC := Hd.mk hC; clear hC
  by_cases hlen : n = 256
  · subst hlen
    go_enter Tryz.func99, Tryz.ntmps99
    go_wp2
    go_loopw [3, 11] (fun nx i wr => ∃ k m : Nat, k ≤ 256 ∧ m ≤ k ∧ i = .int .i64 k ∧ nx = .int .i64 m ∧ Hd (m = (met (oneF L) k).length) ∧ Hd (∀ j, j < k → L[j]? = some (cls (oneF L) j : Int)) ∧ wr = w) (fun _ i _ => 256 - (intOf i).toNat)
    case atStart => exact ⟨0, 0, Nat.zero_le _, Nat.le_refl _, rfl, rfl, ⟨rfl⟩, ⟨fun j hj => absurd hj (Nat.not_lt_zero j)⟩, rfl⟩
    case round =>
      obtain ⟨k, m, hk, hm, rfl, rfl, HM, HR, rfl⟩ := hrel
      by_cases hlt : k < 256
      · obtain ⟨b, off, x, rfl, _, hb1, hx, hcell⟩ := HC.out.get_int k hlt
        have HX := Hd.mk hx; clear hx
        have HST := Hd.mk (right_step HR.out HX.out)
        rw [← HM.out] at HST
        by_cases h0 : x < 0
        · obtain rfl : bb = false := by rw [← HB.out]; exact right_no hlt HX.out (fun he => by have := HST.out.2 he; omega)
          go_wp2
          go_ret
          exact ⟨rfl, rfl⟩
        by_cases h1 : x > m
        · obtain rfl : bb = false := by rw [← HB.out]; exact right_no hlt HX.out (fun he => by have := HST.out.2 he; omega)
          go_wp2
          go_ret
          exact ⟨rfl, rfl⟩
        · have HE := Hd.mk (HST.out.1 ⟨by omega, by omega⟩)
          have HR2 : Hd (∀ j, j < k + 1 → L[j]? = some (cls (oneF L) j : Int)) := ⟨fun j hj => by
            rcases Nat.lt_or_ge j k with h | h
            · exact HR.out j h
            · obtain rfl : j = k := by omega
              rw [HX.out, HE.out]⟩
          by_cases h2 : x = m
          · have HM2 : Hd (m + 1 = (met (oneF L) (k + 1)).length) := ⟨by rw [met_len_succ, ← HM.out, if_pos (by have := HE.out; omega)]⟩
            have h2J : (x == (m : Int)) = true := by simpa using h2
            go_wp2
            go_roundw
            case rel => exact ⟨k + 1, m + 1, by omega, by omega, by go_num, by go_num, HM2, HR2, trivial⟩
            case measure => simp [intOf]; omega
          · have HM2 : Hd (m = (met (oneF L) (k + 1)).length) := ⟨by rw [met_len_succ, ← HM.out, if_neg (by have := HE.out; omega)]⟩
            have h2J : (x == (m : Int)) = false := by simpa using h2
            go_wp2
            go_roundw
            case rel => exact ⟨k + 1, m, by omega, by omega, by go_num, rfl, HM2, HR2, trivial⟩
            case measure => simp [intOf]; omega
      · obtain rfl : k = 256 := by omega
        obtain rfl : bb = true := by rw [← HB.out]; exact right_yes HL.out HR.out
        go_wp2
        go_ret
        exact ⟨rfl, rfl⟩
  · obtain rfl : bb = false := by rw [← HB.out]; exact right_len (by rw [HL.out]; exact hlen)
    have hI : ¬ (n : Int) = 256 := by omega
    go_enter Tryz.func99, Tryz.ntmps99
    go_wp2
    go_ret
    exact ⟨rfl, rfl⟩
end Go.Proofs.YtoambcpjdcehhaaGreat.Al
