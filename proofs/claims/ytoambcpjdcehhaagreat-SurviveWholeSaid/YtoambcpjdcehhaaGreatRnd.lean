/- A region that draws its order, in a round of a range over a function. -/
import Derived.Test.YtoambcpjdcehhaaGreatCan
import Derived.OrdersIn
import Derived.RangeFuncCalls
set_option linter.unusedVariables false
set_option linter.unusedSimpArgs false
namespace Go.Proofs.YtoambcpjdcehhaaGreat.Can
open Go Go.RowKit
variable {P : Program} {ops : Array Oper} {Q : Exit → Act → World → Prop}

theorem oper_in (F : Fence) (hF : F.depth = none) (hw : ∀ k, F.fn k) (hc : ∀ (n : Nat) (f : FuncId) (args : Array Value) (w : World) (R : Ending → World → Prop), Calls P f args w R → CallsIn F n P f args w R) (hr : ∀ (n : Nat) (row : String) (args : Array Value) (w : World) (R : Value → World → Prop), Rows P row args w R → RowsIn F n P row args w R)
    (n : Nat) {o : Oper} {a : Act} {w : World} {K : Act → World → Prop} (hd : ∀ c, o.op ≠ .defer c) (h : o.wp P a w K Q) : o.wpIn F n P a w K Q := by
  unfold Oper.wp at h
  unfold Oper.wpIn
  refine ⟨fun f _ => hw f, ?_⟩
  rw [Oper.semAt_eq _ _ _ hd]
  generalize (execOp a.eval o).run P w = r at h ⊢
  cases r with
  | ok x w' =>
    cases x <;> simp only [Oper.upon, Oper.uponIn] at h ⊢ <;>
      first
        | exact h
        | exact ⟨fun h1 => (by rw [hF] at h1; cases h1), hc _ _ _ _ _ h⟩
        | exact ⟨fun h1 => (by rw [hF] at h1; cases h1), hr _ _ _ _ _ h⟩
        | exact h.elim
  | halt x w' => cases x <;> simp only [Oper.upon, Oper.uponIn] at h ⊢ <;> exact h
def noDefer (ops : Array Oper) : Bool := ops.all fun o => match o.op with | .defer _ => false | _ => true
theorem noDefer_at (h : noDefer ops = true) {i : Nat} {o : Oper} (ho : ops[i]? = some o) : ∀ c, o.op ≠ .defer c := by
  intro c hc
  unfold noDefer at h
  rw [Array.all_eq_true] at h
  obtain ⟨hi, he⟩ := Array.getElem?_eq_some_iff.1 ho
  have := h i hi
  rw [he, hc] at this
  cases this
theorem wide_calls (l n : Nat) (f : FuncId) (args : Array Value) (w : World) (R : Ending → World → Prop) (h : Calls P f args w R) : CallsIn (Fence.wide.inRound l) n P f args w R := CallsIn.inRound l (callsIn_wide.2 h)
theorem wide_rows (l n : Nat) (row : String) (args : Array Value) (w : World) (R : Value → World → Prop) (h : Rows P row args w R) : RowsIn (Fence.wide.inRound l) n P row args w R := fun c cs _ =>
  let ⟨v, w', r, s⟩ := h c cs; ⟨v, w', r, stepsIn_wide.2 s⟩
theorem wpAny_in (l n : Nat) (hd : noDefer ops = true) (hno : ¬ LetsOut Q) : ∀ (k : Nat) (ls : Array Bool) (a : Act) (w : World), wpAny P .any ops Q k ls a w → wpAnyIn (Fence.wide.inRound l) n P .any ops Q k ls a w
  | 0, _, _, _, h => h
  | k + 1, ls, a, w, h => ⟨h.1, fun i hi => by
      have h2 := h.2 i hi
      unfold wpOp at h2
      unfold wpOpIn
      cases ho : ops[i]? with
      | none => rw [ho] at h2; exact wpAny_in l n hd hno k _ _ _ h2
      | some o =>
        rw [ho] at h2
        simp only at h2 ⊢
        split at h2
        · rename_i hw
          rw [if_pos hw]
          rcases h2 with h2 | h2
          · exact Oper.wpIn_mono (fun a w => wpAny_in l n hd hno k _ _ _) (oper_in _ rfl (fun _ => trivial) (wide_calls l) (wide_rows l) n (noDefer_at hd ho) h2)
          · exact absurd h2.2 hno
        · rename_i hw
          rw [if_neg hw]
          exact ⟨fun _ _ => trivial, wpAny_in l n hd hno k _ _ _ h2⟩⟩
theorem wpIn_region_can {id l n : Nat} {a : Act} {w : World} (t : Can) (C : World → Prop) (hd : noDefer ops = true) (hno : ¬ LetsOut Q) (hm : P.follows .mixedOrders = true) (hB : (Region.noSelect ops && canB ops t ops.size (Array.replicate ops.size false)) = true)
    (hQ : ∀ c a d v w, Q (.panic c) (a.put d v) w → Q (.panic c) a w) (hC : C w.drew) (h : wpCan P ops Q t C a w.drew) : (Code.region id ops true).wpIn (Fence.wide.inRound l) n P Q a w := by
  simp only [Bool.and_eq_true] at hB
  refine wpIn_region_any hm (wpAny_in l n hd hno _ _ _ _ (wpAny_of_C _ _ C _ _ (can_sound hB.1 hQ t _ _ C a _ ?_ hB.2 hC h)))
  intro j o _ hj
  exfalso
  simp [Array.getElem?_replicate] at hj
  split at hj <;> simp at hj
end Go.Proofs.YtoambcpjdcehhaaGreat.Can
