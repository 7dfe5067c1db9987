/- The map that numbers pairs, as they are met. -/
import Derived.Test.YtpcjidbhkffncaaProg
import Derived.Test.YtpcjidbhkffncaaFrame
import Derived.Test.YtpcjidbhkffncaaCut
import Derived.Test.YtpcjidbhkffncaaFlat
import Derived.Test.YtpcjidbhkffncaaInts
import Derived.Maps.OwnSet
import Derived.DeepKeys4
import Derived.WideKeyPair
namespace Go.Proofs.Ytpcjidbhkffncaa.Fn
open Go Go.RowKit Go.Proofs.Ytpcjidbhkffncaa.Can Go.Proofs.Ytpcjidbhkffncaa.Base
open Go.Maps (Keyed)
attribute [local go_sem] clsB AB.cell

theorem laidOut : laidOutB Try.prog = true := by kernel_rfl
theorem row46 : (46 : TypeId) < Try.prog.types.size := of_decide_eq_true (by kernel_rfl)
theorem wide46 : (match Try.prog.underlying 46 with | some (.array _ _) | some (.struct _) => true | _ => false) = true := by rw [Try.underlying46]
theorem law : Keyed Try.prog 46 := Keyed.of_law (deep_law_laid laidOut (m := 2) (by omega) row46 (by kernel_rfl) wide46)
theorem cells46 : Try.prog.cellsOf 46 = 2 := by kernel_rfl
theorem arr46 : WideMaps.ArrKey Try.prog 46 3 2 := ⟨Try.underlying46, by kernel_rfl, by kernel_rfl, cells46⟩
theorem types46 : ∃ m, Try.prog.types.size = m + 1 := ⟨Try.prog.types.size - 1, (Nat.sub_add_cancel (Nat.lt_of_le_of_lt (Nat.zero_le 46) row46)).symm⟩
/-- A pair of numbers that Go has. -/
def Wf (x : Int × Int) : Prop := (Lit.int .i64 x.1).wf = true ∧ (Lit.int .i64 x.2).wf = true
def kV (x : Int × Int) : Value := .agg #[.int .i64 x.1, .int .i64 x.2]
def kl (x : Int × Int) : Lit := .string (keyBytes [.int .i64 x.1, .int .i64 x.2])
theorem key_of {x : Int × Int} (h : Wf x) : keyOf Try.prog 46 (kV x) = some (kl x) := WideMaps.keyOf_pair arr46 Try.underlying3 types46 h.1 h.2
theorem kl_inj {x y : Int × Int} (hx : Wf x) (hy : Wf y) (h : kl x = kl y) : x = y := by
  have h1 := key_of hx
  rw [h] at h1
  have h2 := law.inj h1 (key_of hy)
  simp only [kV, Value.agg.injEq] at h2
  have h3 := congrArg Array.toList h2
  simp only [List.cons.injEq, Value.int.injEq, and_true, true_and] at h3
  exact Prod.ext h3.1 h3.2
theorem zero3 (w : World) : (zeroValue 3).run Try.prog w = .ok (.int .i64 0) w := by kernel_rfl
/-- Block b is a map in which the pairs L have their places. -/
def Met (w : World) (b : Nat) (L : List (Int × Int)) : Prop :=
  ∃ D : DataW Unit, w.ownsMap Try.prog 46 (plainElem Try.prog 3) b L.length D ∧ Maps.size D = L.length ∧ (∀ x ∈ L, Wf x) ∧ ∀ x, Wf x → Maps.has D (kl x) = decide (x ∈ L) ∧ (x ∈ L → D.atKey (kl x) (.lit (.int .i64 0)) = .lit (.int .i64 (L.idxOf x : Nat)))
theorem Met.lt {w : World} {b : Nat} {L : List (Int × Int)} (h : Met w b L) : b < w.heap.size := by obtain ⟨D, h, _⟩ := h; exact h.lt
theorem Met.move {w w' : World} {b : Nat} {L : List (Int × Int)} (h : Met w b L) (hm : w'.heap[b]? = w.heap[b]?) : Met w' b L := by
  obtain ⟨D, ⟨es, clock, hb, r⟩, r2⟩ := h
  exact ⟨D, ⟨es, clock, hm.trans hb, r⟩, r2⟩
theorem Met.below {w w' : World} {b : Nat} {L : List (Int × Int)} (h : Met w b L) (hb : Below w.heap.size w w') : Met w' b L := h.move (hb.block b h.lt)
theorem Met.made (w : World) : Met (w.alloc (.map #[] 0)) w.heap.size [] :=
  ⟨.map [], World.ownsMap_made w _ _ _, rfl, by simp, fun x _ => ⟨by simp [Maps.has], fun h => by simp at h⟩⟩
theorem Met.look {w : World} {b : Nat} {L : List (Int × Int)} (h : Met w b L) {x : Int × Int} (hx : Wf x) :
    ∃ c : Int, (∀ w' : World, w'.heap[b]? = w.heap[b]? → (Instr.lookup 41 (.map (some b)) (kV x) true).run Try.prog w' = .ok (.tuple #[.int .i64 c, .bool (decide (x ∈ L))]) w') ∧ (x ∈ L → c = (L.idxOf x : Nat)) := by
  obtain ⟨D, h, _, _, hD⟩ := h
  have key : ∀ w' : World, w'.heap[b]? = w.heap[b]? → ∃ c : Int, (Instr.lookup 41 (.map (some b)) (kV x) true).run Try.prog w' = .ok (.tuple #[.int .i64 c, .bool (decide (x ∈ L))]) w' ∧ D.atKey (kl x) (.lit (.int .i64 0)) = .lit (.int .i64 c) := fun w' hm => by
    obtain ⟨es, clock, hb, r⟩ := h
    have h' : w'.ownsMap Try.prog 46 (plainElem Try.prog 3) b L.length D := ⟨es, clock, hm.trans hb, r⟩
    obtain ⟨v, ps, hrun, hv⟩ := h'.look_ok law Try.underlying41 (zero3 w') (plainElem_int Try.underlying3 (by decide)) (key_of hx)
    obtain ⟨c, rfl, hc, _⟩ := plainElem_int_inv Try.underlying3 hv
    simp only [Prod.mk.injEq] at hc
    exact ⟨c, by rw [hrun, (hD x hx).1], hc.1⟩
  obtain ⟨c, h1, h2⟩ := key w rfl
  refine ⟨c, fun w' hm => ?_, fun hm => ?_⟩
  · obtain ⟨c', h3, h4⟩ := key w' hm
    rw [h2] at h4
    simp only [DataW.lit.injEq, Lit.int.injEq, true_and] at h4
    rw [h3, h4]
  · rw [(hD x hx).2 hm] at h2
    simp only [DataW.lit.injEq, Lit.int.injEq, true_and] at h2
    exact h2.symm
theorem Met.len {w : World} {b : Nat} {L : List (Int × Int)} (h : Met w b L) (ty : TypeId) : ∀ w' : World, w'.heap[b]? = w.heap[b]? → (Builtin.len_ #[41] ty #[.map (some b)]).run Try.prog w' = .ok (.int .i64 (L.length : Nat)) w' := by
  intro w' hm
  obtain ⟨D, h, hs, _⟩ := h.move hm
  rw [h.len Try.underlying41 ty, hs]
theorem Met.store {w : World} {b : Nat} {L : List (Int × Int)} (h : Met w b L) {x : Int × Int} (hx : Wf x) (hn : x ∉ L) (hl : L.length ≤ 1000000) :
    ∃ w', (Instr.mapUpdate 41 (.map (some b)) (kV x) (.int .i64 (L.length : Nat))).run Try.prog w = .ok () w' ∧ Met w' b (L ++ [x]) ∧ Fr (fun k => k = b) w w' := by
  obtain ⟨D, h, hs, hL, hD⟩ := h
  obtain ⟨w', hrun, hown, hg⟩ := h.update law Try.underlying41 (by unfold maxLen; omega) (key_of hx) (plainElem_int Try.underlying3 (a := (L.length : Nat)) (WalkArith.wf_i64 (by omega)))
  have hk : WideAt.IsKeyLit (kl x) := law.key (key_of hx)
  have hnot : Maps.has D (kl x) = false := by rw [(hD x hx).1]; simpa using hn
  refine ⟨w', hrun, ⟨_, by rw [List.length_append]; exact hown, ?_, ?_, fun y hy => ?_⟩, ?_⟩
  · rw [Maps.size_put (h.tidy law), hnot, hs, List.length_append]; rfl
  · intro y hy
    rcases List.mem_append.1 hy with hy | hy
    · exact hL y hy
    · rw [List.mem_singleton.1 hy]; exact hx
  · by_cases he : y = x
    · subst he
      refine ⟨?_, fun _ => ?_⟩
      · rw [Maps.has_put_same h.isMap hk]; simp
      · rw [Maps.atKey_put_same h.isMap hk, List.idxOf_append, if_neg hn]
        simp
    · have hne : kl y ≠ kl x := fun e => he (kl_inj hy hx e)
      refine ⟨?_, fun hm => ?_⟩
      · rw [Maps.has_put_other hne, (hD y hy).1]
        simp [he]
      · have hm' : y ∈ L := by
          rcases List.mem_append.1 hm with hm | hm
          · exact hm
          · exact absurd (List.mem_singleton.1 hm) he
        rw [Maps.atKey_put_other hne, (hD y hy).2 hm', List.idxOf_append, if_pos hm']
  · exact ⟨⟨hg.os, hg.tape, hg.output, hg.size, fun k hk => absurd hk (Nat.not_lt_zero k)⟩, fun k hk hx => hg.block k hk (fun e => hx (by cases e; rfl))⟩
end Go.Proofs.Ytpcjidbhkffncaa.Fn
