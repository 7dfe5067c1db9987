/- Texts: A1, A2, A3, A4. -/
import Derived.Test.YtbmpaokicphdjaaDoorProg
import Derived.Test.YtbmpaokicphdjaaDoorFrame
import Derived.Test.YtbmpaokicphdjaaDoorCut
import Derived.Test.YtbmpaokicphdjaaDoorFlat
import Derived.Test.YtbmpaokicphdjaaDoorInts
import Derived.Maps.OwnSet
import Derived.DeepKeys4
import Derived.WideKeyPair
import Derived.OwnWalk
import Derived.Laws.MakeOwn
set_option linter.unusedVariables false
set_option linter.unusedSimpArgs false
/- The map that numbers pairs, as they are met. -/
namespace Go.Proofs.YtbmpaokicphdjaaDoor.Al
open Go Go.RowKit Go.Proofs.YtbmpaokicphdjaaDoor.Can Go.Proofs.YtbmpaokicphdjaaDoor.Base
open Go.Maps (Keyed)
attribute [local go_sem] clsB AB.cell

theorem laidOut : laidOutB Tryd.prog = true := by kernel_rfl
set_option maxRecDepth 100000 in
theorem row46 : (149 : TypeId) < Tryd.prog.types.size := of_decide_eq_true (by kernel_rfl)
theorem wide46 : (match Tryd.prog.underlying 149 with | some (.array _ _) | some (.struct _) => true | _ => false) = true := by rw [Tryd.underlying149]
set_option maxRecDepth 100000 in
theorem law : Keyed Tryd.prog 149 := Keyed.of_law (deep_law_laid laidOut (m := 2) (by omega) row46 (by kernel_rfl) wide46)
set_option maxRecDepth 100000 in
theorem cells46 : Tryd.prog.cellsOf 149 = 2 := by kernel_rfl
set_option maxRecDepth 100000 in
theorem arr46 : WideMaps.ArrKey Tryd.prog 149 3 2 := ⟨Tryd.underlying149, by kernel_rfl, by kernel_rfl, cells46⟩
set_option maxRecDepth 100000 in
theorem types46 : ∃ m, Tryd.prog.types.size = m + 1 := ⟨Tryd.prog.types.size - 1, (Nat.sub_add_cancel (Nat.lt_of_le_of_lt (Nat.zero_le 149) row46)).symm⟩
/-- A pair of numbers that Go has. -/
def Wf (x : Int × Int) : Prop := (Lit.int .i64 x.1).wf = true ∧ (Lit.int .i64 x.2).wf = true
def kV (x : Int × Int) : Value := .agg #[.int .i64 x.1, .int .i64 x.2]
def kl (x : Int × Int) : Lit := .string (keyBytes [.int .i64 x.1, .int .i64 x.2])
set_option maxRecDepth 100000 in
theorem key_of {x : Int × Int} (h : Wf x) : keyOf Tryd.prog 149 (kV x) = some (kl x) := WideMaps.keyOf_pair arr46 Tryd.underlying3 types46 h.1 h.2
theorem kl_inj {x y : Int × Int} (hx : Wf x) (hy : Wf y) (h : kl x = kl y) : x = y := by
  have h1 := key_of hx
  rw [h] at h1
  have h2 := law.inj h1 (key_of hy)
  simp only [kV, Value.agg.injEq] at h2
  have h3 := congrArg Array.toList h2
  simp only [List.cons.injEq, Value.int.injEq, and_true, true_and] at h3
  exact Prod.ext h3.1 h3.2
theorem zero3 (w : World) : (zeroValue 3).run Tryd.prog w = .ok (.int .i64 0) w := by kernel_rfl
/-- Block b is a map in which the pairs L have their places. -/
def Met (w : World) (b : Nat) (L : List (Int × Int)) : Prop :=
  ∃ D : DataW Unit, w.ownsMap Tryd.prog 149 (plainElem Tryd.prog 3) b L.length D ∧ Maps.size D = L.length ∧ (∀ x ∈ L, Wf x) ∧ ∀ x, Wf x → Maps.has D (kl x) = decide (x ∈ L) ∧ (x ∈ L → D.atKey (kl x) (.lit (.int .i64 0)) = .lit (.int .i64 (L.idxOf x : Nat)))
theorem Met.lt {w : World} {b : Nat} {L : List (Int × Int)} (h : Met w b L) : b < w.heap.size := by obtain ⟨D, h, _⟩ := h; exact h.lt
theorem Met.move {w w' : World} {b : Nat} {L : List (Int × Int)} (h : Met w b L) (hm : w'.heap[b]? = w.heap[b]?) : Met w' b L := by
  obtain ⟨D, ⟨es, clock, hb, r⟩, r2⟩ := h
  exact ⟨D, ⟨es, clock, hm.trans hb, r⟩, r2⟩
theorem Met.below {w w' : World} {b : Nat} {L : List (Int × Int)} (h : Met w b L) (hb : Below w.heap.size w w') : Met w' b L := h.move (hb.block b h.lt)
theorem Met.made (w : World) : Met (w.alloc (.map #[] 0)) w.heap.size [] :=
  ⟨.map [], World.ownsMap_made w _ _ _, rfl, by simp, fun x _ => ⟨by simp [Maps.has], fun h => by simp at h⟩⟩
theorem Met.look {w : World} {b : Nat} {L : List (Int × Int)} (h : Met w b L) {x : Int × Int} (hx : Wf x) :
    ∃ c : Int, (∀ w' : World, w'.heap[b]? = w.heap[b]? → (Instr.lookup 144 (.map (some b)) (kV x) true).run Tryd.prog w' = .ok (.tuple #[.int .i64 c, .bool (decide (x ∈ L))]) w') ∧ (x ∈ L → c = (L.idxOf x : Nat)) := by
  obtain ⟨D, h, _, _, hD⟩ := h
  have key : ∀ w' : World, w'.heap[b]? = w.heap[b]? → ∃ c : Int, (Instr.lookup 144 (.map (some b)) (kV x) true).run Tryd.prog w' = .ok (.tuple #[.int .i64 c, .bool (decide (x ∈ L))]) w' ∧ D.atKey (kl x) (.lit (.int .i64 0)) = .lit (.int .i64 c) := fun w' hm => by
    obtain ⟨es, clock, hb, r⟩ := h
    have h' : w'.ownsMap Tryd.prog 149 (plainElem Tryd.prog 3) b L.length D := ⟨es, clock, hm.trans hb, r⟩
    obtain ⟨v, ps, hrun, hv⟩ := h'.look_ok law Tryd.underlying144 (zero3 w') (plainElem_int Tryd.underlying3 (by decide)) (key_of hx)
    obtain ⟨c, rfl, hc, _⟩ := plainElem_int_inv Tryd.underlying3 hv
    simp only [Prod.mk.injEq] at hc
    exact ⟨c, by rw [hrun, (hD x hx).1], hc.1⟩
  obtain ⟨c, h1, h2⟩ := key w rfl
  refine ⟨c, fun w' hm => ?_, fun hm => ?_⟩
  · obtain ⟨c', h3, h4⟩ := key w' hm
    rw [h2] at h4
    simp only [DataW.lit.injEq, Lit.int.injEq, true_and] at h4
    rw [h3, h4]
  · rw [(hD x hx).2 hm] at h2
    simp only [DataW.lit.injEq, Lit.int.injEq, true_and] at h2
    exact h2.symm
theorem Met.len {w : World} {b : Nat} {L : List (Int × Int)} (h : Met w b L) (ty : TypeId) : ∀ w' : World, w'.heap[b]? = w.heap[b]? → (Builtin.len_ #[144] ty #[.map (some b)]).run Tryd.prog w' = .ok (.int .i64 (L.length : Nat)) w' := by
  intro w' hm
  obtain ⟨D, h, hs, _⟩ := h.move hm
  rw [h.len Tryd.underlying144 ty, hs]
theorem Met.store {w : World} {b : Nat} {L : List (Int × Int)} (h : Met w b L) {x : Int × Int} (hx : Wf x) (hn : x ∉ L) (hl : L.length ≤ 1000000) :
    ∃ w', (Instr.mapUpdate 144 (.map (some b)) (kV x) (.int .i64 (L.length : Nat))).run Tryd.prog w = .ok () w' ∧ Met w' b (L ++ [x]) ∧ Fr (fun k => k = b) w w' := by
  obtain ⟨D, h, hs, hL, hD⟩ := h
  obtain ⟨w', hrun, hown, hg⟩ := h.update law Tryd.underlying144 (by unfold maxLen; omega) (key_of hx) (plainElem_int Tryd.underlying3 (a := (L.length : Nat)) (WalkArith.wf_i64 (by omega)))
  have hk : WideAt.IsKeyLit (kl x) := law.key (key_of hx)
  have hnot : Maps.has D (kl x) = false := by rw [(hD x hx).1]; simpa using hn
  refine ⟨w', hrun, ⟨_, by rw [List.length_append]; exact hown, ?_, ?_, fun y hy => ?_⟩, ?_⟩
  · rw [Maps.size_put (h.tidy law), hnot, hs, List.length_append]; rfl
  · intro y hy
    rcases List.mem_append.1 hy with hy | hy
    · exact hL y hy
    · rw [List.mem_singleton.1 hy]; exact hx
  · by_cases he : y = x
    · subst he
      refine ⟨?_, fun _ => ?_⟩
      · rw [Maps.has_put_same h.isMap hk]; simp
      · rw [Maps.atKey_put_same h.isMap hk, List.idxOf_append, if_neg hn]
        simp
    · have hne : kl y ≠ kl x := fun e => he (kl_inj hy hx e)
      refine ⟨?_, fun hm => ?_⟩
      · rw [Maps.has_put_other hne, (hD y hy).1]
        simp [he]
      · have hm' : y ∈ L := by
          rcases List.mem_append.1 hm with hm | hm
          · exact hm
          · exact absurd (List.mem_singleton.1 hm) he
        rw [Maps.atKey_put_other hne, (hD y hy).2 hm', List.idxOf_append, if_pos hm']
  · exact ⟨⟨hg.os, hg.tape, hg.output, hg.size, fun k hk => absurd hk (Nat.not_lt_zero k)⟩, fun k hk hx => hg.block k hk (fun e => hx (by cases e; rfl))⟩
end Go.Proofs.YtbmpaokicphdjaaDoor.Al

/- Classes: the plain law. -/
namespace Go.Proofs.YtbmpaokicphdjaaDoor.Al
open Go Go.RowKit Go.Proofs.YtbmpaokicphdjaaDoor.Can Go.Proofs.YtbmpaokicphdjaaDoor.Base

section
variable {K K' : Type} [BEq K] [LawfulBEq K] [BEq K'] [LawfulBEq K']
/-- What is met ahead of c, once each, as it is met. -/
def met (f : Nat → K) : Nat → List K
  | 0 => []
  | c + 1 => if f c ∈ met f c then met f c else met f c ++ [f c]
theorem met_succ (f : Nat → K) (c : Nat) : met f (c + 1) = if f c ∈ met f c then met f c else met f c ++ [f c] := rfl
def cls (f : Nat → K) (c : Nat) : Nat := if f c ∈ met f c then (met f c).idxOf (f c) else (met f c).length
theorem met_len (f : Nat → K) (c : Nat) : (met f c).length ≤ c := by
  induction c with
  | zero => exact Nat.le_refl _
  | succ c ih =>
    rw [met_succ]
    split
    · omega
    · rw [List.length_append]; simp; omega
theorem mem_step {f : Nat → K} {c : Nat} {x : K} (h : x ∈ met f c) : x ∈ met f (c + 1) := by
  rw [met_succ]; split
  · exact h
  · exact List.mem_append_left _ h
theorem mem_self (f : Nat → K) (c : Nat) : f c ∈ met f (c + 1) := by
  rw [met_succ]; split
  · assumption
  · simp
theorem mem_upto {f : Nat → K} {d c : Nat} (h : d < c) : f d ∈ met f c := by
  induction c with
  | zero => omega
  | succ c ih =>
    rcases Nat.lt_or_ge d c with h1 | h1
    · exact mem_step (ih h1)
    · obtain rfl : d = c := by omega
      exact mem_self f d
theorem of_mem {f : Nat → K} {c : Nat} {x : K} (h : x ∈ met f c) : ∃ d, d < c ∧ f d = x := by
  induction c with
  | zero => simp [met] at h
  | succ c ih =>
    rw [met_succ] at h
    split at h
    · obtain ⟨d, h1, h2⟩ := ih h; exact ⟨d, by omega, h2⟩
    · rcases List.mem_append.1 h with h | h
      · obtain ⟨d, h1, h2⟩ := ih h; exact ⟨d, by omega, h2⟩
      · exact ⟨c, by omega, (List.mem_singleton.1 h).symm⟩
theorem idx_step {f : Nat → K} {c : Nat} {x : K} (h : x ∈ met f c) : (met f (c + 1)).idxOf x = (met f c).idxOf x := by
  rw [met_succ]; split
  · rfl
  · rw [List.idxOf_append, if_pos h]
theorem cls_idx (f : Nat → K) (c : Nat) : cls f c = (met f (c + 1)).idxOf (f c) := by
  unfold cls
  rw [met_succ]
  split
  · rfl
  · rename_i h
    rw [List.idxOf_append, if_neg h]; simp
theorem cls_at {f : Nat → K} {d c : Nat} (h : d < c) : cls f d = (met f c).idxOf (f d) := by
  induction c with
  | zero => omega
  | succ c ih =>
    rcases Nat.lt_or_ge d c with h1 | h1
    · rw [idx_step (mem_upto h1)]; exact ih h1
    · obtain rfl : d = c := by omega
      exact cls_idx f d
theorem cls_same {f : Nat → K} {a b : Nat} : cls f a = cls f b ↔ f a = f b := by
  have ha : a < a + b + 1 := by omega
  have hb : b < a + b + 1 := by omega
  rw [cls_at ha, cls_at hb]
  constructor
  · intro h
    have h1 : (met f (a + b + 1))[(met f (a + b + 1)).idxOf (f a)]? = some (f a) := by
      rw [List.getElem?_eq_getElem (List.idxOf_lt_length_of_mem (mem_upto ha))]; simp
    have h2 : (met f (a + b + 1))[(met f (a + b + 1)).idxOf (f b)]? = some (f b) := by
      rw [List.getElem?_eq_getElem (List.idxOf_lt_length_of_mem (mem_upto hb))]; simp
    rw [h, h2] at h1
    exact (Option.some.inj h1).symm
  · intro h; rw [h]
theorem cls_le (f : Nat → K) (c : Nat) : cls f c ≤ (met f c).length := by
  unfold cls; split
  · exact Nat.le_of_lt (List.idxOf_lt_length_of_mem (by assumption))
  · exact Nat.le_refl _
theorem cls_new {f : Nat → K} {c : Nat} : cls f c = (met f c).length ↔ f c ∉ met f c := by
  unfold cls; split
  · rename_i h
    have := List.idxOf_lt_length_of_mem h
    constructor
    · intro h2; omega
    · intro h2; exact absurd h h2
  · rename_i h
    exact ⟨fun _ => h, fun _ => rfl⟩
theorem met_len_succ (f : Nat → K) (c : Nat) : (met f (c + 1)).length = if cls f c = (met f c).length then (met f c).length + 1 else (met f c).length := by
  rw [met_succ]
  by_cases h : f c ∈ met f c
  · rw [if_pos h, if_neg (fun e => cls_new.1 e h)]
  · rw [if_neg h, if_pos (cls_new.2 h), List.length_append]; rfl
/-- The classes hang on what is told apart alone. -/
theorem cls_congr {f : Nat → K} {g : Nat → K'} {N : Nat} (h : ∀ a b, a < N → b < N → (f a = f b ↔ g a = g b)) : ∀ c, c ≤ N → (met f c).length = (met g c).length ∧ ∀ d, d < c → cls f d = cls g d := by
  intro c
  induction c with
  | zero => exact fun _ => ⟨rfl, fun d hd => absurd hd (Nat.not_lt_zero d)⟩
  | succ c ih =>
    intro hc
    obtain ⟨h1, h2⟩ := ih (by omega)
    have hm : f c ∈ met f c ↔ g c ∈ met g c := by
      constructor
      · intro hm
        obtain ⟨d, hd, he⟩ := of_mem hm
        rw [← (h d c (by omega) (by omega)).1 he]
        exact mem_upto hd
      · intro hm
        obtain ⟨d, hd, he⟩ := of_mem hm
        rw [← (h d c (by omega) (by omega)).2 he]
        exact mem_upto hd
    have hcl : cls f c = cls g c := by
      by_cases hf : f c ∈ met f c
      · obtain ⟨d, hd, he⟩ := of_mem hf
        rw [← cls_same.2 he, ← cls_same.2 ((h d c (by omega) (by omega)).1 he)]
        exact h2 d hd
      · rw [cls_new.2 hf, cls_new.2 (fun hg => hf (hm.2 hg)), h1]
    refine ⟨by rw [met_len_succ, met_len_succ, hcl, h1], fun d hd => ?_⟩
    rcases Nat.lt_or_ge d c with h3 | h3
    · exact h2 d h3
    · obtain rfl : d = c := by omega
      exact hcl
/-- The classes of n bytes. -/
def clsL (f : Nat → K) (n : Nat) : List Int := (List.range n).map fun c => (cls f c : Int)
theorem clsL_len (f : Nat → K) (n : Nat) : (clsL f n).length = n := by simp [clsL]
theorem clsL_get {f : Nat → K} {n c : Nat} (h : c < n) : (clsL f n)[c]? = some (cls f c : Int) := by simp [clsL, h]
theorem clsL_succ (f : Nat → K) (n : Nat) : clsL f (n + 1) = clsL f n ++ [(cls f n : Int)] := by simp [clsL, List.range_succ]
theorem clsL_congr {f : Nat → K} {g : Nat → K'} {N : Nat} (h : ∀ a b, a < N → b < N → (f a = f b ↔ g a = g b)) : clsL f N = clsL g N ∧ (met f N).length = (met g N).length := by
  obtain ⟨h1, h2⟩ := cls_congr h N (Nat.le_refl _)
  refine ⟨?_, h1⟩
  unfold clsL
  apply List.map_congr_left
  intro c hc
  rw [h2 c (List.mem_range.1 hc)]
end
/-- A number of a row. -/
def atN (l : List Int) (i : Nat) : Int := l.getD i (-1)
def pairF (a b : List Int) (c : Nat) : Int × Int := (atN a c, atN b c)
/-- A range, and whether a number is in it. -/
structure Rg where
  lo : Int
  hi : Int
def inR (r : Rg) (c : Int) : Bool := decide (r.lo ≤ c) && decide (c ≤ r.hi)
def keyR (l : List Rg) (c : Int) : List Bool := l.map (inR · c)
def keyF (l : List Rg) (c : Nat) : List Bool := keyR l c
def inL (r : Rg) : List Int := (List.range 256).map fun (c : Nat) => if inR r (c : Int) then 1 else 0
/-- One range more. -/
theorem keys_step (l : List Rg) (r : Rg) : clsL (pairF (clsL (keyF l) 256) (inL r)) 256 = clsL (keyF (l ++ [r])) 256 ∧ (met (pairF (clsL (keyF l) 256) (inL r)) 256).length = (met (keyF (l ++ [r])) 256).length := by
  refine clsL_congr fun a b ha hb => ?_
  have h1 : ∀ c, c < 256 → pairF (clsL (keyF l) 256) (inL r) c = ((cls (keyF l) c : Int), if inR r (c : Int) then 1 else 0) := fun c hc => by
    unfold pairF atN
    rw [List.getD_eq_getElem?_getD, clsL_get hc, List.getD_eq_getElem?_getD]
    simp [inL, hc]
  rw [h1 a ha, h1 b hb]
  have h2 : ∀ c : Nat, keyF (l ++ [r]) c = keyF l c ++ [inR r (c : Int)] := fun c => by simp [keyF, keyR]
  rw [h2, h2]
  have hl : (keyF l a).length = (keyF l b).length := by simp [keyF, keyR]
  constructor
  · intro h
    simp only [Prod.mk.injEq] at h
    have e1 : keyF l a = keyF l b := cls_same.1 (by omega)
    rw [e1]
    cases ha : inR r (a : Int) <;> cases hb : inR r (b : Int) <;> simp [ha, hb] at h ⊢
  · intro h
    obtain ⟨e1, e2⟩ := List.append_inj h hl
    simp only [List.cons.injEq, and_true] at e2
    rw [e2, cls_same.2 e1]
/-- The classes of two joined. -/
theorem keys_join (l l' : List Rg) : clsL (pairF (clsL (keyF l) 256) (clsL (keyF l') 256)) 256 = clsL (keyF (l ++ l')) 256 ∧ (met (pairF (clsL (keyF l) 256) (clsL (keyF l') 256)) 256).length = (met (keyF (l ++ l')) 256).length := by
  refine clsL_congr fun a b ha hb => ?_
  have h1 : ∀ c, c < 256 → pairF (clsL (keyF l) 256) (clsL (keyF l') 256) c = ((cls (keyF l) c : Int), (cls (keyF l') c : Int)) := fun c hc => by
    unfold pairF atN
    rw [List.getD_eq_getElem?_getD, clsL_get hc, List.getD_eq_getElem?_getD, clsL_get hc]
    rfl
  rw [h1 a ha, h1 b hb]
  have h2 : ∀ c : Nat, keyF (l ++ l') c = keyF l c ++ keyF l' c := fun c => by simp [keyF, keyR]
  rw [h2, h2]
  have hl : (keyF l a).length = (keyF l b).length := by simp [keyF, keyR]
  constructor
  · intro h
    simp only [Prod.mk.injEq] at h
    rw [cls_same.1 (show cls (keyF l) a = cls (keyF l) b by omega), cls_same.1 (show cls (keyF l') a = cls (keyF l') b by omega)]
  · intro h
    obtain ⟨e1, e2⟩ := List.append_inj h hl
    rw [cls_same.2 e1, cls_same.2 e2]
theorem keys_nil : clsL (keyF []) 256 = List.replicate 256 0 ∧ (met (keyF []) 256).length = 1 := by
  have h : ∀ c, met (keyF []) (c + 1) = [[]] := fun c => by
    induction c with
    | zero => rfl
    | succ c ih => rw [met_succ, ih]; rfl
  refine ⟨?_, by rw [h 255]; rfl⟩
  apply List.ext_getElem?
  intro i
  by_cases hi : i < 256
  · rw [clsL_get hi, List.getElem?_replicate, if_pos hi, cls_idx, h i]
    rfl
  · rw [List.getElem?_eq_none (by rw [clsL_len]; omega), List.getElem?_eq_none (by rw [List.length_replicate]; omega)]
end Go.Proofs.YtbmpaokicphdjaaDoor.Al

/- What numbers pairs; what a row has at a place; Join. -/
namespace Go.Proofs.YtbmpaokicphdjaaDoor.Al
open Go Go.RowKit Go.Proofs.YtbmpaokicphdjaaDoor.Can Go.Proofs.YtbmpaokicphdjaaDoor.Base
attribute [local go_sem] clsB AB.cell

theorem of_calls {w : World} {p b : Nat} {L : List (Int × Int)} (x : Int × Int) (hx : Wf x) (hp : w.heap[p]? = some (.cells #[.map (some b)] 146 (0, 0))) (hL : Met w b L) (hl : L.length ≤ 1000000) :
    Calls Tryd.prog 114 #[.pointer (some ⟨p, 0, none⟩), .agg #[.int .i64 x.1, .int .i64 x.2]] w fun e w' =>
      e = .returned (.int .i64 ((if x ∈ L then L.idxOf x else L.length : Nat) : Int)) ∧ Met w' b (if x ∈ L then L else L ++ [x]) ∧ Fr (fun k => k = b) w w' := by
  obtain ⟨c, hlook, hc⟩ := hL.look hx
  obtain ⟨k, hk⟩ : ∃ k, (if x ∈ L then L.idxOf x else L.length) = k := ⟨_, rfl⟩
  obtain ⟨L2, hL2⟩ : ∃ L2, (if x ∈ L then L else L ++ [x]) = L2 := ⟨_, rfl⟩
  rw [hk, hL2]
  have HK := Hd.mk hk; have HL2 := Hd.mk hL2; clear hk hL2
  have hb := hL.lt
  have hlk : ∀ X : AB (w.alloc (.cells #[.int .i64 x.1, .int .i64 x.2] 149)), (Instr.lookup 144 (.map (some b)) (.agg #[.int .i64 x.1, .int .i64 x.2]) true).run Tryd.prog X.x = .ok (.tuple #[.int .i64 c, .bool (decide (x ∈ L))]) X.x := fun X => hlook X.x ((X.ok b (by rw [size_alloc]; omega)).trans (Below.heap_alloc w _ b hb))
  have hlk2 : ∀ X : AB (w.alloc (.cells #[.int .i64 x.1, .int .i64 x.2] 149)).drew, (Instr.lookup 144 (.map (some b)) (.agg #[.int .i64 x.1, .int .i64 x.2]) true).run Tryd.prog X.x = .ok (.tuple #[.int .i64 c, .bool (decide (x ∈ L))]) X.x := fun X => hlook X.x ((X.ok b (by rw [size_drew, size_alloc]; omega)).trans (Below.heap_alloc w _ b hb))
  have HL := Hd.mk hL; have HC := Hd.mk hc; have HLK := Hd.mk hlook
  have HP := Hd.mk hp
  have hpc0 := blk_cell hp 0 _ rfl; have hpf0 := blk_frozen hp 0; have hpl := blk_lt hp
  clear hL hc hp hlook
  by_cases hm : x ∈ L
  · have hmt : (decide (x ∈ L)) = true := by simpa using hm
    have HM := Hd.mk hm
    rw [hmt] at hlk hlk2
    clear hm hmt
    go_enter Tryd.func114, Tryd.ntmps114
    go_wp2
    refine wp_region_can (.q [0, 1, 2, 3, 4, 5, 6, 7, 8, 9, 10] (.done)) (clsB _) (by kernel_rfl) (by kernel_rfl) (by intro _ _ d _ _ h; cases d <;> exact h) (clsB_drew _) ?_
    refine can_q (l := [⟨_,_,_,_,_,_⟩, ⟨_,_,_,_,_,_⟩, ⟨_,_,_,_,_,_⟩, ⟨_,_,_,_,_,_⟩, ⟨_,_,_,_,_,_⟩, ⟨_,_,_,_,_,_⟩, ⟨_,_,_,_,_,_⟩, ⟨_,_,_,_,_,_⟩, ⟨_,_,_,_,_,_⟩, ⟨_,_,_,_,_,_⟩, ⟨_,_,_,_,_,_⟩]) rfl ?_
    repeat (go_big_quiet_step (fail))
    refine wpQuiet_nil ?_
    refine can_done ?_
    go_wp2
    go_ret
    refine ⟨ret_int ?_, ?_, Fr.of_below (by repeat (first | (with_reducible assumption) | (with_reducible exact Below.refl _ _) | (with_reducible apply below_drewL) | (with_reducible apply below_alloc) | (with_reducible apply below_drew1) | (with_reducible apply below_drewN) | (refine below_set ?_ (by first | omega | (simp only [size_alloc, size_drew, size_set]; omega)) _ _)))⟩
    · rw [← HK.out, if_pos HM.out]; exact HC.out HM.out
    · rw [← HL2.out, if_pos HM.out]; exact HL.out.below (by repeat (first | (with_reducible assumption) | (with_reducible exact Below.refl _ _) | (with_reducible apply below_drewL) | (with_reducible apply below_alloc) | (with_reducible apply below_drew1) | (with_reducible apply below_drewN) | (refine below_set ?_ (by first | omega | (simp only [size_alloc, size_drew, size_set]; omega)) _ _)))
  · have hmt : (decide (x ∈ L)) = false := by simpa using hm
    have HM := Hd.mk hm
    rw [hmt] at hlk hlk2
    obtain ⟨w', hrun, hmet, hfr⟩ := (HL.out.move (w' := (w.alloc (.cells #[.int .i64 x.1, .int .i64 x.2] 149)).drew.drew) (Below.heap_alloc w _ b hb)).store hx hm hl
    rw [show kV x = .agg #[.int .i64 x.1, .int .i64 x.2] from rfl] at hrun
    have hlen : (Builtin.len_ #[144] 3 #[.map (some b)]).run Tryd.prog (w.alloc (.cells #[.int .i64 x.1, .int .i64 x.2] 149)).drew = .ok (.int .i64 (L.length : Nat)) (w.alloc (.cells #[.int .i64 x.1, .int .i64 x.2] 149)).drew := HL.out.len 3 _ (Below.heap_alloc w _ b hb)
    have HMet := Hd.mk hmet; have HFr := Hd.mk hfr
    clear hm hmt hmet hfr
    go_enter Tryd.func114, Tryd.ntmps114
    go_wp2
    refine wp_region_can (.q [0, 1, 2, 3, 4, 5, 6, 7, 8, 9, 10] (.done)) (clsB _) (by kernel_rfl) (by kernel_rfl) (by intro _ _ d _ _ h; cases d <;> exact h) (clsB_drew _) ?_
    refine can_q (l := [⟨_,_,_,_,_,_⟩, ⟨_,_,_,_,_,_⟩, ⟨_,_,_,_,_,_⟩, ⟨_,_,_,_,_,_⟩, ⟨_,_,_,_,_,_⟩, ⟨_,_,_,_,_,_⟩, ⟨_,_,_,_,_,_⟩, ⟨_,_,_,_,_,_⟩, ⟨_,_,_,_,_,_⟩, ⟨_,_,_,_,_,_⟩, ⟨_,_,_,_,_,_⟩]) rfl ?_
    repeat (go_big_quiet_step (fail))
    refine wpQuiet_nil ?_
    refine can_done ?_
    go_wp2
    refine wp_region_can (.q [0, 1, 2, 3, 4, 5] (.e 6 false (.done))) (clsB _) (by kernel_rfl) (by kernel_rfl) (by intro _ _ d _ _ h; cases d <;> exact h) (clsB_drew _) ?_
    refine can_q (l := [⟨_,_,_,_,_,_⟩, ⟨_,_,_,_,_,_⟩, ⟨_,_,_,_,_,_⟩, ⟨_,_,_,_,_,_⟩, ⟨_,_,_,_,_,_⟩, ⟨_,_,_,_,_,_⟩]) rfl ?_
    repeat (go_big_quiet_step (fail))
    refine wpQuiet_nil ?_
    refine can_e (o := ⟨_,_,_,_,_,_⟩) rfl (fun K hK => ?_)
    go_wp2_with fail
    refine onK_normal (hK _ _ ⟨fun _ => True, trivial, (fun h => by cases h), ?_⟩)
    clear hK K
    refine can_done ?_
    go_wp2
    go_ret
    refine ⟨ret_int ?_, ?_, ?_⟩
    · rw [← HK.out, if_neg HM.out]
    · rw [← HL2.out, if_neg HM.out]; exact HMet.out
    · exact (((Fr.refl (fun k => k = b) w).alloc _).drew.drew).trans HFr.out
theorem at_calls (A : Option Addr) (n c : Nat) (L : List Int) (i : Nat) (S : Nat → Prop) (w : World) (h : Row (Ty.int .i64) w S A n L) (hi : i ≤ 1000) :
    Calls Tryd.prog 115 #[.slice A n c, .int .i64 i] w fun e w' => e = .returned (.int .i64 (atN L i)) ∧ w' = w := by
  have hn := h.le
  have hl := h.1
  by_cases hlt : i < n
  · obtain ⟨b, off, x, rfl, _, hb, hx, hcell⟩ := h.get_int i hlt
    have hv : atN L i = x := by unfold atN; rw [List.getD_eq_getElem?_getD, hx]; rfl
    rw [hv]
    clear h hl hx hv
    go_enter Tryd.func115, Tryd.ntmps115
    go_wp2
    go_ret
    exact ⟨rfl, rfl⟩
  · have hv : atN L i = -1 := by unfold atN; rw [List.getD_eq_getElem?_getD, List.getElem?_eq_none (by omega)]; rfl
    rw [hv]
    clear h hl hv
    go_enter Tryd.func115, Tryd.ntmps115
    go_wp2
    go_ret
    exact ⟨rfl, rfl⟩
end Go.Proofs.YtbmpaokicphdjaaDoor.Al

/- What Join computes. -/
namespace Go.Proofs.YtbmpaokicphdjaaDoor.Al
open Go Go.RowKit Go.Proofs.YtbmpaokicphdjaaDoor.Can Go.Proofs.YtbmpaokicphdjaaDoor.Base
attribute [local go_sem] clsB AB.cell

abbrev I : Ty Int := Ty.int .i64
def iE (n : Int) : List Value := [.int .i64 n]
theorem i_len (n : Int) : (iE n).length = 1 := rfl
theorem info3 : (Tryd.prog.info? 3).map (fun i => (i.zero, i.size, i.bytes)) = some (some (.int .i64 0), 1, 8) := by kernel_rfl
theorem blk_rowI {w : World} {g : Nat} {xs : List Int} {S : Nat → Prop} (h : Blk iE w 3 g xs) (hS : S g) (hn : xs.length ≤ 9223372036854775807) : Row I w S (some ⟨g, 0, none⟩) xs.length xs :=
  h.row i_len (fun x u hu => by simp [iE] at hu; subst hu; rfl) hS hn
theorem atN_wf {L : List Int} (h : ∀ x ∈ L, (Lit.int .i64 x).wf = true) (i : Nat) : (Lit.int .i64 (atN L i)).wf = true := by
  unfold atN
  rw [List.getD_eq_getElem?_getD]
  cases hx : L[i]? with
  | none => rfl
  | some x => exact h x (List.mem_of_getElem? hx)
theorem fill_set (f : Nat → Int × Int) (k : Nat) (hk : k < 256) : (clsL f k ++ List.replicate (256 - k) 0).set k (cls f k) = clsL f (k + 1) ++ List.replicate (256 - (k + 1)) 0 := by
  rw [clsL_succ, List.set_append_right _ _ (by rw [clsL_len]; omega), clsL_len, Nat.sub_self, show 256 - k = (256 - (k + 1)) + 1 by omega, List.replicate_succ, List.set_cons_zero, List.append_assoc]; rfl
theorem fill_get (f : Nat → Int × Int) (k : Nat) (hk : k < 256) : (clsL f k ++ List.replicate (256 - k) (0 : Int))[k]? = some 0 := by
  rw [List.getElem?_append_right (by rw [clsL_len]; omega), clsL_len, Nat.sub_self, List.getElem?_replicate, if_pos (by omega)]
theorem of_calls' {w : World} {p b : Nat} (f : Nat → Int × Int) (k : Nat) (hx : Wf (f k)) (hp : w.heap[p]? = some (.cells #[.map (some b)] 146 (0, 0))) (hL : Met w b (met f k)) (hl : k ≤ 1000000) :
    Calls Tryd.prog 114 #[.pointer (some ⟨p, 0, none⟩), .agg #[.int .i64 (f k).1, .int .i64 (f k).2]] w fun e w' =>
      e = .returned (.int .i64 (cls f k : Nat)) ∧ Met w' b (met f (k + 1)) ∧ Fr (fun k => k = b) w w' :=
  of_calls (f k) hx hp hL (Nat.le_trans (met_len f k) hl)

set_option maxHeartbeats 1000000 in
set_option maxRecDepth 20000 in
theorem join_calls (A1 A2 : Option Addr) (n1 c1 n2 c2 : Nat) (L1 L2 : List Int) (S1 S2 : Nat → Prop) (w : World) (hS1 : ∀ k, S1 k → k < w.heap.size) (hS2 : ∀ k, S2 k → k < w.heap.size) (h1 : Row I w S1 A1 n1 L1) (h2 : Row I w S2 A2 n2 L2)
    (w1 : ∀ x ∈ L1, (Lit.int .i64 x).wf = true) (w2 : ∀ x ∈ L2, (Lit.int .i64 x).wf = true) :
    Calls Tryd.prog 108 #[.slice A1 n1 c1, .slice A2 n2 c2] w fun e w' => ∃ g, e = .returned (.tuple #[.slice (some ⟨g, 0, none⟩) 256 256, .int .i64 ((met (pairF L1 L2) 256).length : Nat)]) ∧ w.heap.size ≤ g ∧ Blk iE w' 3 g (clsL (pairF L1 L2) 256) ∧ Below w.heap.size w w' := by
  obtain ⟨i0, hi, hz, hs, hbb⟩ := info_of info3
  obtain ⟨F, hF⟩ : ∃ F, pairF L1 L2 = F := ⟨_, rfl⟩
  have HWf : Hd (∀ i, Wf (F i)) := ⟨fun i => by rw [← hF]; exact ⟨atN_wf w1 i, atN_wf w2 i⟩⟩
  rw [hF]
  have HF := Hd.mk hF; clear hF w1 w2
  have HS1 := Hd.mk hS1; have HS2 := Hd.mk hS2; have H1 := Hd.mk h1; have H2 := Hd.mk h2; have HI := Hd.mk (And.intro hi (And.intro hz (And.intro hs hbb)))
  clear hS1 hS2 h1 h2 hi hz hs hbb
  have hmk : (Instr.makeMap 144 none).run Tryd.prog w = .ok (.map (some w.heap.size)) (w.alloc (.map #[] 0)) := run_makeMap 144 w
  go_enter Tryd.func108, Tryd.ntmps108
  go_wp2_with (at_make; go_must (refine wpList_make_full _ rfl (.const (.int .i64 256)) (.const (.int .i64 256)) 24 rfl w.heap.size 3 i0 (.int .i64 0) 1 Tryd.underlying24 HI.out.1 HI.out.2.1 HI.out.2.2.1 .i64 .i64 256 256 256 rfl rfl rfl rfl (by rw [HI.out.2.2.2]; omega) (by simp only [maxLen]; omega) (by simp only [size_alloc]; omega) ?_; intro w1 ho1 hg1))
  have hz1 := hg1.size
  simp only [size_alloc] at hz1
  have hb1 : Below (w.heap.size + 2) ((w.alloc (.map #[] 0)).alloc (.cells #[.map (some w.heap.size)] 146)) w1 := (Below.refl _ _).grown hg1 (by simp only [size_alloc]; omega) (fun k hk => by cases hk)
  have hp1 : w1.heap[w.heap.size + 1]? = some (.cells #[.map (some w.heap.size)] 146 (0, 0)) := (hb1.block _ (by omega)).trans (blk_new _ _ _ (by rw [size_alloc]))
  have HM1 : Hd (Met w1 w.heap.size []) := ⟨((Met.made w).move (Below.heap_alloc _ _ _ (by rw [size_alloc]; omega))).move (hb1.block _ (by omega))⟩
  have HB1 : Hd (Below w.heap.size w w1) := ⟨Below.trans (below_alloc (below_alloc (Below.refl _ _) _) _) (hb1.mono (by omega))⟩
  have hg0 := Blk.made (enc := iE) (x := 0) i_len (by decide) rfl ho1
  simp only [size_alloc] at hg0
  have HG := Hd.mk hg0
  have HP1 := Hd.mk hp1
  clear ho1 hg1 hb1 hz1 hp1 hg0
  go_loopw [13, 8] (fun i _ wr => ∃ k : Nat, k ≤ 256 ∧ i = .int .i64 k ∧ Hd (Blk iE wr 3 (w.heap.size + 1 + 1) (clsL F k ++ List.replicate (256 - k) 0)) ∧ Hd (Met wr w.heap.size (met F k)) ∧ Hd (wr.heap[w.heap.size + 1]? = some (.cells #[.map (some w.heap.size)] 146 (0, 0))) ∧ Hd (Below w.heap.size w wr)) (fun i _ _ => 256 - (intOf i).toNat)
  case atStart => exact ⟨0, Nat.zero_le _, rfl, HG, HM1, HP1, HB1⟩
  case round =>
    clear HG HM1 HP1 HB1
    obtain ⟨k, hk, rfl, HG, HM, HP, HB⟩ := hrel
    by_cases hlt : k < 256
    · have HX : Hd ((atN L1 k, atN L2 k) = F k) := ⟨by rw [← HF.out]; rfl⟩
      obtain ⟨x1, hx1⟩ : ∃ x, atN L1 k = x := ⟨_, rfl⟩
      obtain ⟨x2, hx2⟩ : ∃ x, atN L2 k = x := ⟨_, rfl⟩
      rw [hx1, hx2] at HX
      have HX1 := Hd.mk hx1; have HX2 := Hd.mk hx2; clear hx1 hx2
      go_wp2_with (first
        | (go_at_call 114; go_must (have h9 := of_calls' F k (HWf.out k) HP.out HM.out (by omega); rw [← HX.out] at h9; refine Calls.mono h9 ?_; clear h9; rintro e w3 ⟨rfl, hm3, f3⟩; have hg3 := HG.out.fr f3 (by show ¬ w.heap.size + 1 + 1 = w.heap.size; omega); have hc3 := hg3.cell0 i_len (fill_get F k hlt) rfl; rw [Nat.mul_one] at hc3; have hf3 := hg3.frozen k; have HM3 := Hd.mk hm3; have HG3 := Hd.mk hg3; have F3 := Hd.mk f3; have hl3 := hg3.lt; clear hm3 hg3 f3))
        | (go_at_call 115; have hq_ := HQ; clear hq_; go_must (refine Calls.mono (at_calls A2 n2 c2 L2 k S2 _ (H2.out.below HS2.out HB.out) (by omega)) ?_; rintro e w2 ⟨he, rfl⟩; rw [HX2.out] at he; subst he; clear HQ))
        | (go_at_call 115; go_must (refine Calls.mono (at_calls A1 n1 c1 L1 k S1 _ (H1.out.below HS1.out HB.out) (by omega)) ?_; rintro e w2 ⟨he, rfl⟩; rw [HX1.out] at he; subst he; have HQ := Hd.mk True.intro)))
      go_roundw
      case rel => exact ⟨k + 1, by omega, by go_num, ⟨by rw [← fill_set F k hlt]; have := HG3.out.set0 i_len (y := (cls F k : Int)) (fill_get F k hlt) (by decide) rfl; rw [Nat.mul_one] at this; exact this⟩, ⟨HM3.out.move (Below.heap_setCell _ _ _ _ (by show ¬ w.heap.size = w.heap.size + 1 + 1; omega))⟩, ⟨blk_far (F3.out.blk HP.out (by omega)) (by show ¬ w.heap.size + 1 = w.heap.size + 1 + 1; omega) _⟩, ⟨below_set (Fr.seq HB.out F3.out HB.out.size (fun b hb hx => by omega)) (by omega) _ _⟩⟩
      case measure => simp [intOf]; omega
    · obtain rfl : k = 256 := by omega
      have hp := HP.out
      have hlen := HM.out.len 3 wr rfl
      have hpc0 := blk_cell hp 0 _ rfl; have hpf0 := blk_frozen hp 0; have hpl := blk_lt hp
      go_wp2
      go_ret2
      exact ⟨_, rfl, by omega, by have := HG.out; rwa [Nat.sub_self, List.replicate_zero, List.append_nil] at this, HB.out⟩
end Go.Proofs.YtbmpaokicphdjaaDoor.Al
