/- A map of numbers to values, as it is kept. -/
import Derived.Test.YtcejfnnimfpahaaS1
import Derived.Maps.OwnSet
import Derived.Maps.Keyed
namespace Go.Proofs.Ytcejfnnimfpahaa.Fn
open Go Go.RowKit Go.Proofs.Ytcejfnnimfpahaa.Can Go.Proofs.Ytcejfnnimfpahaa.Base
open Go.Maps (Keyed)

/-- An element, as it is. -/
def asIs : Value → Option (DataW Value × List MemPlace) := fun v => some (.held v, [])
theorem law3 : Keyed Try.prog 3 := Maps.int_keyed Try.underlying3
def kI (x : Int) : Lit := .int .i64 x
theorem key3 {x : Int} (h : (Lit.int .i64 x).wf = true) : keyOf Try.prog 3 (.int .i64 x) = some (kI x) := by
  simp [keyOf, mapKey, Try.underlying3, h, kI]
theorem kI_inj {x y : Int} (h : kI x = kI y) : x = y := by simpa [kI] using h
/-- Block b is a map that reads as m, at the numbers that Go has. -/
def VMap (w : World) (b n : Nat) (m : Int → Option Value) : Prop :=
  ∃ D : DataW Value, w.ownsMap Try.prog 3 asIs b n D ∧ ∀ x, (Lit.int .i64 x).wf = true → Maps.has D (kI x) = (m x).isSome ∧ ∀ v, m x = some v → ∀ z, D.atKey (kI x) z = .held v
section
variable {w w' : World} {b n : Nat} {m : Int → Option Value}
theorem VMap.lt (h : VMap w b n m) : b < w.heap.size := by obtain ⟨D, h, _⟩ := h; exact h.lt
theorem VMap.move (h : VMap w b n m) (hm : w'.heap[b]? = w.heap[b]?) : VMap w' b n m := by
  obtain ⟨D, ⟨es, clock, hb, r⟩, r2⟩ := h
  exact ⟨D, ⟨es, clock, hm.trans hb, r⟩, r2⟩
theorem VMap.below (h : VMap w b n m) (hb : Below w.heap.size w w') : VMap w' b n m := h.move (hb.block b h.lt)
theorem VMap.made (w : World) : VMap (w.alloc (.map #[] 0)) w.heap.size 0 (fun _ => none) :=
  ⟨.map [], World.ownsMap_made w _ _ _, fun x _ => ⟨by simp [Maps.has], fun v h => by cases h⟩⟩
theorem VMap.empty {b : Nat} (h : w.heap[b]? = some (.map #[] 0)) : VMap w b 0 (fun _ => none) := by
  obtain ⟨D, ⟨es, clock, hb, r⟩, r2⟩ := VMap.made w
  rw [blk_new _ _ _ rfl] at hb
  simp only [Option.some.injEq, Obj.map.injEq] at hb
  obtain ⟨rfl, rfl⟩ := hb
  exact ⟨D, ⟨_, _, h, r⟩, r2⟩
theorem zero62 (w : World) : (zeroValue 62).run Try.prog w = .ok (.agg #[.int .i64 0, .int .i64 0, .slice none 0 0]) w := by kernel_rfl
theorem VMap.look (h : VMap w b n m) {x : Int} (hx : (Lit.int .i64 x).wf = true) :
    ∃ v : Value, (∀ w' : World, w'.heap[b]? = w.heap[b]? → (Instr.lookup 72 (.map (some b)) (.int .i64 x) true).run Try.prog w' = .ok (.tuple #[v, .bool (m x).isSome]) w') ∧ (∀ u, m x = some u → v = u) ∧ (m x = none → v = .agg #[.int .i64 0, .int .i64 0, .slice none 0 0]) := by
  obtain ⟨D, h, hD⟩ := h
  have key : ∀ w' : World, w'.heap[b]? = w.heap[b]? → ∃ v : Value, (Instr.lookup 72 (.map (some b)) (.int .i64 x) true).run Try.prog w' = .ok (.tuple #[v, .bool (m x).isSome]) w' ∧ D.atKey (kI x) (.held (.agg #[.int .i64 0, .int .i64 0, .slice none 0 0])) = .held v := fun w' hm => by
    obtain ⟨es, clock, hb, r⟩ := h
    have h' : w'.ownsMap Try.prog 3 asIs b n D := ⟨es, clock, hm.trans hb, r⟩
    obtain ⟨v, ps, hrun, hv⟩ := h'.look_ok law3 Try.underlying72 (zero62 w') (zd := .held (.agg #[.int .i64 0, .int .i64 0, .slice none 0 0])) (zp := []) rfl (key3 hx)
    simp only [asIs, Option.some.injEq, Prod.mk.injEq] at hv
    exact ⟨v, by rw [hrun, (hD x hx).1], hv.1.symm⟩
  obtain ⟨v, h1, h2⟩ := key w rfl
  refine ⟨v, fun w' hm => ?_, fun u hu => ?_, fun hu => ?_⟩
  · obtain ⟨v', h3, h4⟩ := key w' hm
    rw [h2] at h4
    simp only [DataW.held.injEq] at h4
    rw [h3, h4]
  · rw [(hD x hx).2 u hu] at h2
    simp only [DataW.held.injEq] at h2
    exact h2.symm
  · have h3 := (hD x hx).1
    rw [hu] at h3
    rw [Maps.atKey_of_not_has h3] at h2
    simp only [DataW.held.injEq] at h2
    exact h2.symm
theorem VMap.store (h : VMap w b n m) {x : Int} (hx : (Lit.int .i64 x).wf = true) (v : Value) (hl : n ≤ 1000000) :
    ∃ w', (Instr.mapUpdate 72 (.map (some b)) (.int .i64 x) v).run Try.prog w = .ok () w' ∧ VMap w' b (n + 1) (fun y => if y = x then some v else m y) ∧ Fr (fun k => k = b) w w' := by
  obtain ⟨D, h, hD⟩ := h
  obtain ⟨w', hrun, hown, hg⟩ := h.update law3 Try.underlying72 (by unfold maxLen; omega) (key3 hx) (val := v) (d := .held v) (ps := []) rfl
  have hk : WideAt.IsKeyLit (kI x) := law3.key (key3 hx)
  refine ⟨w', hrun, ⟨_, hown, fun y hy => ?_⟩, ⟨⟨hg.os, hg.tape, hg.output, hg.size, fun k hk => absurd hk (Nat.not_lt_zero k)⟩, fun k hk hx => hg.block k hk (fun e => hx (by cases e; rfl))⟩⟩
  by_cases he : y = x
  · subst he
    simp only [reduceIte]
    exact ⟨Maps.has_put_same h.isMap hk _, fun u hu z => by cases hu; exact Maps.atKey_put_same h.isMap hk _ _⟩
  · have hne : kI y ≠ kI x := fun e => he (kI_inj e)
    simp only [he, reduceIte]
    refine ⟨(Maps.has_put_other hne _).trans (hD y hy).1, fun u hu z => ?_⟩
    rw [Maps.atKey_put_other hne]
    exact (hD y hy).2 u hu z
theorem VMap.drop (h : VMap w b n m) {x : Int} (hx : (Lit.int .i64 x).wf = true) (ty : TypeId) :
    ∃ w', (Builtin.delete_ #[72, 3] ty #[.map (some b), .int .i64 x]).run Try.prog w = .ok (.tuple #[]) w' ∧ VMap w' b n (fun y => if y = x then none else m y) ∧ Fr (fun k => k = b) w w' := by
  obtain ⟨D, h, hD⟩ := h
  obtain ⟨w', hrun, hown, ht⟩ := h.drop law3 Try.underlying72 (key3 hx) ty
  have hg := ht.grown
  refine ⟨w', hrun, ⟨_, hown, fun y hy => ?_⟩, ⟨⟨hg.os, hg.tape, hg.output, hg.size, fun k hk => absurd hk (Nat.not_lt_zero k)⟩, fun k hk hx => hg.block k hk (fun e => hx (by cases e; rfl))⟩⟩
  by_cases he : y = x
  · subst he
    simp only [reduceIte]
    exact ⟨Maps.has_del_same, fun u hu => by cases hu⟩
  · have hne : kI y ≠ kI x := fun e => he (kI_inj e)
    simp only [he, reduceIte]
    refine ⟨(Maps.has_del_other hne).trans (hD y hy).1, fun u hu z => ?_⟩
    rw [Maps.atKey_del_other hne]
    exact (hD y hy).2 u hu z
end
end Go.Proofs.Ytcejfnnimfpahaa.Fn
