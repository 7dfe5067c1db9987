/- One walk for every order of a region that draws its order: the quiet operations are taken first, the others come up one at a time; the conditions: no two that act come up together (else both ways are walked), and what is read stays as it was until all that reads has come up. -/
import Derived.WalkKit
import Derived.BigQuiet
import Derived.OrdersHeld
import Derived.KernelRfl
set_option linter.unusedVariables false
set_option linter.unusedSimpArgs false
namespace Go.Proofs.YtoambcpjdcehhaaGreat.Can
open Go Go.RowKit

inductive Can where
  | done
  | q (is : List Nat) (t : Can)
  | e (i : Nat) (p : Bool) (t : Can)
  | b (i : Nat) (p : Bool) (t : Can) (j : Nat) (r : Bool) (u : Can)
  | inv (acts : List Nat) (t : Can)

/-- An operation that only reads. -/
def kindB (o : Oper) : Bool :=
  match o.op with
  | .move _ | .assign _ | .pick .. | .build .. | .load .. | .binOp .. | .unOp .. | .convert .. | .makeInterface .. | .slice .. | .fieldAddr .. | .field .. | .indexAddr .. | .index .. | .lookup .. | .extract .. | .nilCheck _ => true
  | .call { callee := .builtin b, .. } => match b with | .len | .cap | .max | .min => true | _ => false
  | _ => false

/-- An operation that looks at no memory. -/
def kindP (o : Oper) : Bool :=
  match o.op with
  | .move _ | .assign _ | .pick .. | .extract .. => true
  | _ => false

def masks : List Oper → List Nat → List Nat
  | [], acc => acc
  | o :: os, acc => masks os (acc ++ [o.after.toList.foldl (fun s e => if Region.binds .any e then s ||| 2 ^ e.on ||| acc.getD e.on 0 else s) 0])

/-- May an operation that only reads come up behind number j? -/
def keepB (ops : Array Oper) (j : Nat) : Bool :=
  let ms := masks ops.toList []
  !(ops.toList.zipIdx.all fun (o, i) => !kindB o || kindP o || (ms.getD j 0).testBit i || (ms.getD i 0).testBit j)

def segB (ops : Array Oper) : List Nat → Nat → Array Bool → (Nat → Array Bool → Bool) → Bool
  | [], n, l, k => k n l
  | i :: is, n + 1, l, k => ((ops[i]?).map kindB).getD false && (Region.ready .any ops l).contains i && Region.free .any ops l i && segB ops is n (l.setIfInBounds i true) k
  | _ :: _, 0, _, _ => false

/-- What must have come up ahead of number i. -/
def predsB (ops : Array Oper) (i : Nat) : List Nat := ((ops[i]?).map fun o => (o.after.toList.filter (Region.binds .any)).map (·.on)).getD []
def setAll (l : Array Bool) (acts : List Nat) : Array Bool := acts.foldl (fun l i => l.setIfInBounds i true) l
/-- These operations may come up in any order; all others come up ahead of them, or behind them all. -/
def invB (ops : Array Oper) (acts : List Nat) (l : Array Bool) : Bool :=
  let ms := masks ops.toList []
  acts.all (fun i => !(l.getD i true)) && acts.all (fun i => (predsB ops i).all fun j => l.getD j false || (acts.contains j && decide (j < i))) &&
    (List.range ops.size).all (fun j => l.getD j true || acts.contains j || acts.all (fun i => (ms.getD j 0).testBit i)) && decide acts.Nodup && decide (l.size = ops.size)

def canB (ops : Array Oper) : Can → Nat → Array Bool → Bool
  | .done, _, l => Region.ready .any ops l == []
  | .q is t, n, l => segB ops is n l (canB ops t)
  | .e i p t, n + 1, l => Region.ready .any ops l == [i] && (p || !keepB ops i) && canB ops t n (l.setIfInBounds i true)
  | .b i p t j r u, n + 1, l => Region.ready .any ops l == [i, j] && (p || !keepB ops i) && (r || !keepB ops j) && canB ops t n (l.setIfInBounds i true) && canB ops u n (l.setIfInBounds j true)
  | .inv acts t, n, l => invB ops acts l && decide (acts.length ≤ n) && canB ops t (n - acts.length) (setAll l acts)
  | _, 0, _ => false

def pickL (ops : Array Oper) (is : List Nat) : List Oper := is.map fun i => ops.getD i default

section
variable (P : Program) (ops : Array Oper) (Q : Exit → Act → World → Prop)
def wpCan : Can → (World → Prop) → Act → World → Prop
  | .done, _, a, w => Q .normal a w
  | .q is t, C, a, w => wpQuiet P ops C (fun a' => wpCan t C a' w) (pickL ops is) a
  | .e i p t, C, a, w => wpOp P ops Q i (fun a' w' => ∃ C' : World → Prop, C' w' ∧ (p = true → ∀ x, C' x → C x) ∧ wpCan t C' a' w') a w
  | .b i p t j r u, C, a, w => wpOp P ops Q i (fun a' w' => ∃ C' : World → Prop, C' w' ∧ (p = true → ∀ x, C' x → C x) ∧ wpCan t C' a' w') a w ∧
      wpOp P ops Q j (fun a' w' => ∃ C' : World → Prop, C' w' ∧ (r = true → ∀ x, C' x → C x) ∧ wpCan u C' a' w') a w
  | .inv acts t, C, a, w => ∃ Inv : (Nat → Bool) → Act → World → Prop, Inv (fun _ => false) a w ∧ (∀ D a w, Inv D a w → C w) ∧
      (∀ i ∈ acts, ∀ D a w, Inv D a w → D i = false → (∀ j ∈ predsB ops i, j ∈ acts → D j = true) → wpOp P ops Q i (fun a' w' => Inv (fun j => j == i || D j) a' w') a w) ∧
      (∀ D a w, Inv D a w → (∀ i ∈ acts, D i = true) → wpCan t C a w)
def wpAnyC : Nat → Array Bool → (World → Prop) → Act → World → Prop
  | 0, l, _, a, w => Region.ready .any ops l = [] ∧ Q .normal a w
  | n + 1, l, C, a, w => (Region.ready .any ops l = [] → Q .normal a w) ∧
      ∀ i ∈ Region.ready .any ops l, wpOp P ops Q i (fun a' w' => ∃ C' : World → Prop, C' w' ∧ (keepB ops i = true → ∀ x, C' x → C x) ∧ wpAnyC n (l.setIfInBounds i true) C' a' w') a w
end

section
variable {P : Program} {ops : Array Oper} {Q : Exit → Act → World → Prop}
theorem wpAny_of_C : ∀ (n : Nat) (l : Array Bool) (C : World → Prop) (a : Act) (w : World), wpAnyC P ops Q n l C a w → wpAny P .any ops Q n l a w
  | 0, _, _, _, _, h => h
  | n + 1, _, _, _, _, h => ⟨h.1, fun i hi => wpOp_mono (fun a' w' h' => by
      obtain ⟨C', _, _, h3⟩ := h'
      exact wpAny_of_C n _ C' a' w' h3) (h.2 i hi)⟩

/-- i comes up ahead of j. -/
inductive Anc (ops : Array Oper) : Nat → Nat → Prop
  | one {i j : Nat} {o : Oper} {e : Edge} (h : ops[j]? = some o) (he : e ∈ o.after) (hb : Region.binds .any e = true) (hi : e.on = i) : Anc ops i j
  | more {i j : Nat} {o : Oper} {e : Edge} (h : ops[j]? = some o) (he : e ∈ o.after) (hb : Region.binds .any e = true) (hi : Anc ops i e.on) : Anc ops i j

theorem fold_bit (acc : List Nat) (i : Nat) : ∀ (l : List Edge) (s : Nat), (l.foldl (fun s e => if Region.binds .any e then s ||| 2 ^ e.on ||| acc.getD e.on 0 else s) s).testBit i = true →
    s.testBit i = true ∨ ∃ e ∈ l, Region.binds .any e = true ∧ (e.on = i ∨ (acc.getD e.on 0).testBit i = true)
  | [], s, h => .inl h
  | e :: l, s, h => by
    rcases fold_bit acc i l _ h with h' | ⟨e', h1, h2⟩
    · simp only [] at h'
      by_cases hb : Region.binds .any e = true
      · rw [if_pos hb] at h'
        simp only [Nat.testBit_or, Bool.or_eq_true] at h'
        rcases h' with (h' | h') | h'
        · exact .inl h'
        · refine .inr ⟨e, List.mem_cons_self, hb, .inl ?_⟩
          rw [Nat.testBit_two_pow] at h'
          simpa using h'
        · exact .inr ⟨e, List.mem_cons_self, hb, .inr h'⟩
      · rw [if_neg hb] at h'
        exact .inl h'
    · exact .inr ⟨e', List.mem_cons_of_mem _ h1, h2⟩

theorem masks_anc : ∀ (os : List Oper) (acc : List Nat), (∀ k, os[k]? = ops[acc.length + k]?) → (∀ j i, (acc.getD j 0).testBit i = true → Anc ops i j) →
    ∀ j i, ((masks os acc).getD j 0).testBit i = true → Anc ops i j
  | [], _, _, h => h
  | o :: os, acc, hk, h => by
    refine masks_anc os _ (fun k => ?_) ?_
    · have := hk (k + 1)
      simp only [List.getElem?_cons_succ] at this
      rw [this, List.length_append, List.length_singleton]
      congr 1
      omega
    · intro j i hb
      rcases Nat.lt_trichotomy j acc.length with hj | hj | hj
      · rw [List.getD_eq_getElem?_getD, List.getElem?_append_left hj, ← List.getD_eq_getElem?_getD] at hb
        exact h j i hb
      · subst hj
        rw [List.getD_eq_getElem?_getD, List.getElem?_append_right (Nat.le_refl _), Nat.sub_self, List.getElem?_cons_zero, Option.getD_some] at hb
        have h0 : ops[acc.length]? = some o := by simpa using (hk 0).symm
        rcases fold_bit acc i _ _ hb with h' | ⟨e, he, h1, h2⟩
        · simp at h'
        · rcases h2 with h2 | h2
          · exact .one h0 (by simpa using he) h1 h2
          · exact .more h0 (by simpa using he) h1 (h _ _ h2)
      · rw [List.getD_eq_getElem?_getD, List.getElem?_eq_none (by simp; omega)] at hb
        simp at hb

/-- What has come up is closed downwards. -/
def DC (ops : Array Oper) (l : Array Bool) : Prop := ∀ j o, ops[j]? = some o → l.getD j false = true → ∀ e ∈ o.after, Region.binds .any e = true → l.getD e.on false = true

theorem DC.anc {l : Array Bool} (h : DC ops l) {i j : Nat} (ha : Anc ops i j) : l.getD j false = true → l.getD i false = true := by
  induction ha with
  | one ho he hb hi => intro hj; subst hi; exact h _ _ ho hj _ he hb
  | more ho he hb _ ih => intro hj; exact ih (h _ _ ho hj _ he hb)
theorem DC.ready {l : Array Bool} (h : DC ops l) {i j : Nat} (ha : Anc ops i j) (hr : j ∈ Region.ready .any ops l) : l.getD i false = true := by
  obtain ⟨_, o, ho, hall⟩ := mem_ready.1 hr
  cases ha with
  | one ho' he hb hi => rw [ho] at ho'; cases ho'; subst hi; exact hall _ he hb
  | more ho' he hb h' => rw [ho] at ho'; cases ho'; exact h.anc h' (hall _ he hb)
theorem DC.step {l : Array Bool} (h : DC ops l) {i : Nat} (hr : i ∈ Region.ready .any ops l) : DC ops (l.setIfInBounds i true) := by
  intro j o ho hj e he hb
  refine getD_set_true ?_
  by_cases hij : i = j
  · subst hij
    obtain ⟨_, o', ho', hall⟩ := mem_ready.1 hr
    rw [ho] at ho'; cases ho'
    exact hall e he hb
  · rw [getD_set_ne false hij] at hj
    exact h j o ho hj e he hb

theorem keep_of {l : Array Bool} (h : DC ops l) {i j : Nat} {oi : Oper} (hi : ops[i]? = some oi) (hk : kindB oi = true) (hp : kindP oi = false) (hri : i ∈ Region.ready .any ops l) (hr : j ∈ Region.ready .any ops l) : keepB ops j = true := by
  have hu := (mem_ready.1 hri).1
  rcases Bool.eq_false_or_eq_true (keepB ops j) with h0 | h0
  · exact h0
  · exfalso
    unfold keepB at h0
    simp only [Bool.not_eq_false'] at h0
    rw [List.all_eq_true] at h0
    have hm : (oi, i) ∈ ops.toList.zipIdx := by
      rw [List.mem_zipIdx_iff_getElem?]
      simpa using hi
    have h1 := h0 (oi, i) hm
    simp only [hk, hp, Bool.not_true, Bool.false_or, Bool.or_eq_true] at h1
    have no : ∀ {x : Nat}, l.getD x false = true → l.getD x true = false → False := fun {x} this hu => by
      have hlt : x < l.size := by
        rcases Nat.lt_or_ge x l.size with h' | h'
        · exact h'
        · simp [Array.getElem?_eq_none h'] at hu
      simp [hlt] at this hu
      rw [this] at hu; cases hu
    rcases h1 with h1 | h1
    · exact no (h.ready (masks_anc ops.toList [] (by simp) (by simp) j i h1) hr) hu
    · exact no (h.ready (masks_anc ops.toList [] (by simp) (by simp) i j h1) hri) (mem_ready.1 hr).1

theorem YieldsIf.mono {C C' : World → Prop} {o : Oper} {v : Value} {a : Act} (h : YieldsIf P ops C o v a) (hs : ∀ x, C' x → C x) : YieldsIf P ops C' o v a :=
  h.imp (fun ⟨h1, h2⟩ => ⟨h1, fun w hw => h2 w (hs w hw)⟩) id

theorem run_pure {o : Oper} (hk : kindP o = true) {ρ : Operand → Value} {w : World} {v : Value} (h : (execOp ρ o).run P w = .ok (.value v) w) (w' : World) : (execOp ρ o).run P w' = .ok (.value v) w' := by
  obtain ⟨dst, op, type, pos, after, guard⟩ := o
  unfold kindP at hk
  cases op <;> simp only [Bool.false_eq_true] at hk
  case move x => simp [execOp, Sem.run] at h ⊢; exact h
  case assign x => simp [execOp, Sem.run] at h ⊢; exact h
  case pick c x y =>
    simp only [execOp, Sem.run_bind] at h ⊢
    cases hc : ρ c <;> simp [hc, asBool, stuck, Sem.run, Result.andThen, pure] at h ⊢
    exact h
  case extract x j =>
    simp only [execOp, Sem.run_bind] at h ⊢
    unfold Instr.extract at h ⊢
    cases hx : ρ x <;> simp [hx, stuck, Sem.run, Result.andThen, pure] at h ⊢
    rename_i vs
    cases hv : vs[j]? with
    | none => rw [hv] at h; simp [Sem.run] at h
    | some u => rw [hv] at h; simp [Sem.run] at h ⊢; exact h
theorem YieldsIf.pure {C C' : World → Prop} {o : Oper} {v : Value} {a : Act} (hk : kindP o = true) {w : World} (hw : C w) (h : YieldsIf P ops C o v a) : YieldsIf P ops C' o v a :=
  h.imp (fun ⟨h1, h2⟩ => ⟨h1, fun w' _ => run_pure hk (h2 w hw) w'⟩) id

theorem wpAnyC_first {i : Nat} {oi : Oper} {v : Value} (hi : ops[i]? = some oi) (hk : kindB oi = true) (hsel : ∀ (j : Nat) (o : Oper) cs b, ops[j]? = some o → o.op ≠ .select cs b)
    (hQ : ∀ c a d v w, Q (.panic c) (a.put d v) w → Q (.panic c) a w) :
    ∀ (n : Nat) (l : Array Bool) (C : World → Prop) (a : Act) (w : World), DC ops l →
      (∀ j oj, ops[j]? = some oj → j ≠ i → l.getD j true = false → (∀ e ∈ oj.after, Region.binds .any e = true → e.on ≠ i) → oi.apart ops oj = true) →
      i ∈ Region.ready .any ops l → YieldsIf P ops C oi v a → C w →
      wpAnyC P ops Q n (l.setIfInBounds i true) C (a.put oi.dst v) w → wpAnyC P ops Q (n + 1) l C a w := by
  intro n
  induction n with
  | zero =>
    intro l C a w _ _ hr hy hC H
    refine ⟨fun h => (by rw [h] at hr; cases hr), fun j hj => ?_⟩
    by_cases hji : j = i
    · subst hji; exact hy.wpOp hi hC ⟨C, hC, fun _ _ h => h, H⟩
    · have := ready_mono hj hji
      rw [H.1] at this
      cases this
  | succ n ih =>
    intro l C a w hD hfree hr hy hC H
    refine ⟨fun h => (by rw [h] at hr; cases hr), fun j hj => ?_⟩
    by_cases hji : j = i
    · subst hji; exact hy.wpOp hi hC ⟨C, hC, fun _ _ h => h, H⟩
    · have h1 := H.2 j (ready_mono hj hji)
      obtain ⟨hjun, oj, hoj, hall⟩ := mem_ready.1 hj
      have hnot : ∀ e ∈ oj.after, Region.binds .any e = true → e.on ≠ i := fun e he hb heq => by
        have h1 := hall e he hb
        have h0 := (mem_ready.1 hr).1
        rw [heq] at h1
        rcases Nat.lt_or_ge i l.size with h' | h'
        · simp [h'] at h0 h1; rw [h0] at h1; cases h1
        · simp [Array.getElem?_eq_none h'] at h1
      have h2 := wpOp_putIf hoj (hfree j oj hoj hji hjun hnot) (fun cs b => hsel i oi cs b hi) (fun cs b => hsel j oj cs b hoj) (fun c a w => hQ c a oi.dst v w) hy h1
      have hfree' : ∀ k ok, ops[k]? = some ok → k ≠ i → (l.setIfInBounds j true).getD k true = false →
          (∀ e ∈ ok.after, Region.binds .any e = true → e.on ≠ i) → oi.apart ops ok = true := fun k ok hk hki hun hno => by
        refine hfree k ok hk hki ?_ hno
        by_cases hjk : j = k
        · subst hjk; exact hjun
        · rw [getD_set_ne true hjk] at hun; exact hun
      have hmono : ∀ (C' : World → Prop) (a' : Act), (keepB ops j = true → ∀ x, C' x → C x) → YieldsIf P ops C oi v a' → YieldsIf P ops C' oi v a' := fun C' a' hs hy' => by
        rcases Bool.eq_false_or_eq_true (kindP oi) with hp | hp
        · exact YieldsIf.pure hp hC hy'
        · exact YieldsIf.mono hy' (hs (keep_of hD hi hk hp hr hj))
      refine wpOp_mono (fun a' w' h3 => ?_) h2
      obtain ⟨hy', C', hC', hsub, h4⟩ := h3
      refine ⟨C', hC', hsub, ih (l.setIfInBounds j true) C' a' w' (hD.step hj) hfree' (ready_mono hr (Ne.symm hji)) (hmono C' a' hsub hy') hC' ?_⟩
      rw [Array.setIfInBounds_comm _ _ hji]
      exact h4

theorem run_v {s : Sem Value} {w w' : World} {n : Next} (h : ((do pure (Next.value (← s))) : Sem Next).run P w = .ok n w') : ∃ u, n = .value u := by
  rw [show ((do pure (Next.value (← s))) : Sem Next) = s >>= fun u => pure (.value u) from rfl, Sem.run_bind] at h
  cases hs : s.run P w with
  | ok u w1 => rw [hs] at h; simp [Result.andThen, Sem.run_pure] at h; exact ⟨u, h.1.symm⟩
  | halt x w1 => rw [hs] at h; simp [Result.andThen] at h

theorem kind_value {o : Oper} (hk : kindB o = true) {ρ : Operand → Value} {w w' : World} {n : Next} (h : (execOp ρ o).run P w = .ok n w') : ∃ u, n = .value u := by
  obtain ⟨dst, op, type, pos, after, guard⟩ := o
  unfold kindB at hk
  cases op <;> simp only [Bool.false_eq_true] at hk
  case move x => simp [execOp, Sem.run] at h; exact ⟨_, h.1.symm⟩
  case assign x => simp [execOp, Sem.run] at h; exact ⟨_, h.1.symm⟩
  case call c =>
    obtain ⟨callee, args, ats⟩ := c
    cases callee with
    | builtin b =>
      cases b <;> simp only [Bool.false_eq_true] at hk
      all_goals
        simp only [execOp, resolve, invoke, builtin, Sem.run_bind, Sem.run_pure, Result.andThen_ok] at h
        exact run_v (s := _) (by rw [show ∀ s : Sem Value, ((do pure (Next.value (← s))) : Sem Next) = s >>= fun u => pure (.value u) from fun _ => rfl, Sem.run_bind]; exact h)
    | value f => simp at hk
    | invoke r m => simp at hk
  case pick c x y =>
    simp only [execOp] at h
    rw [Sem.run_bind] at h
    cases hs : (asBool (ρ c)).run P w with
    | ok u w1 => rw [hs] at h; simp [Result.andThen, Sem.run_pure] at h; exact ⟨_, h.1.symm⟩
    | halt x w1 => rw [hs] at h; simp [Result.andThen] at h
  case nilCheck x =>
    simp only [execOp] at h
    have hp : (runtimePanic .nilDeref : Sem Next).run P w = .ok n w' → ∃ u, n = .value u := fun h => by
      simp [runtimePanic, goPanic, Sem.run_bind] at h
    have hbind : ∀ {α : Type} (w0 : World) (s : Sem α) (f : α → Sem Next), (∀ a w1, (f a).run P w1 = .ok n w' → ∃ u, n = .value u) → (s >>= f).run P w0 = .ok n w' → ∃ u, n = .value u := fun w0 s f hf h => by
      rw [Sem.run_bind] at h
      cases hs : s.run P w0 with
      | ok a w1 => rw [hs] at h; exact hf a w1 h
      | halt x w1 => rw [hs] at h; simp [Result.andThen] at h
    split at h
    · exact hp h
    · exact hp h
    · exact hp h
    · split at h
      · exact hp h
      · refine hbind _ _ _ (fun p w1 h => hbind _ _ _ (fun r w2 h => ?_) h) h
        split at h
        · exact hbind _ _ _ (fun _ w3 h => by simp [Sem.run_pure] at h; exact ⟨_, h.1.symm⟩) h
        · simp [Sem.run_pure] at h; exact ⟨_, h.1.symm⟩
      · simp [Sem.run_pure] at h; exact ⟨_, h.1.symm⟩
    · simp [Sem.run_pure] at h; exact ⟨_, h.1.symm⟩
  all_goals exact run_v h

theorem yields_of_quiet {o : Oper} (hk : kindB o = true) {C : World → Prop} {v : Value} {a : Act} (hw : Region.wanted o (yielded ops a.tmps) = true) (h : ∀ w, C w → o.quietAt P a C w v) : YieldsIf P ops C o v a := by
  refine .inl ⟨hw, fun w hC => ?_⟩
  have h1 := h w hC
  unfold Oper.quietAt at h1
  cases hr : (execOp a.eval o).run P w with
  | ok n w' =>
    obtain ⟨u, rfl⟩ := kind_value hk hr
    rw [hr] at h1
    simp only [Oper.quietUpon] at h1
    rw [h1.1, h1.2]
  | halt x w' => rw [hr] at h1; simp [Oper.quietUpon] at h1

theorem ready_of_contains {l : Array Bool} {i : Nat} (h : (Region.ready .any ops l).contains i = true) : i ∈ Region.ready .any ops l := by simpa using h

theorem seg_sound (hsel : Region.noSelect ops = true) (hQ : ∀ c a d v w, Q (.panic c) (a.put d v) w → Q (.panic c) a w) (C : World → Prop) (w : World) (hC : C w)
    {k : Nat → Array Bool → Bool} {R : Act → Prop} (hk : ∀ n l a, DC ops l → k n l = true → R a → wpAnyC P ops Q n l C a w) :
    ∀ (is : List Nat) (n : Nat) (l : Array Bool) (a : Act), DC ops l → segB ops is n l k = true → wpQuiet P ops C R (pickL ops is) a → wpAnyC P ops Q n l C a w
  | [], n, l, a, hD, hB, h => hk n l a hD hB h
  | i :: is, 0, l, a, hD, hB, h => by simp [segB] at hB
  | i :: is, n + 1, l, a, hD, hB, h => by
    simp only [segB, Bool.and_eq_true] at hB
    obtain ⟨⟨⟨hkind, hr⟩, hf⟩, hrest⟩ := hB
    have hr' := ready_of_contains hr
    obtain ⟨_, oi, hoi, _⟩ := mem_ready.1 hr'
    rw [hoi] at hkind
    have hkind' : kindB oi = true := by simpa using hkind
    have hp : pickL ops (i :: is) = oi :: pickL ops is := by
      simp only [pickL, List.map_cons]
      congr 1
      rw [Array.getD_eq_getD_getElem?, hoi]; rfl
    rw [hp] at h
    simp only [wpQuiet] at h
    have fin : ∀ v, YieldsIf P ops C oi v a → wpQuiet P ops C R (pickL ops is) (a.put oi.dst v) → wpAnyC P ops Q (n + 1) l C a w := fun v hy hn =>
      wpAnyC_first hoi hkind' (Region.noSelect_spec hsel) hQ n l C a w hD (Region.free_spec hoi hf) hr' hy hC (seg_sound hsel hQ C w hC hk is n _ _ (hD.step hr') hrest hn)
    by_cases hw : Region.wanted oi (yielded ops a.tmps) = true
    · rw [if_pos hw] at h
      obtain ⟨v, h1, h2⟩ := h
      exact fin v (yields_of_quiet hkind' hw h1) h2
    · rw [if_neg hw] at h
      exact fin undef (.inr ⟨by simpa using hw, rfl⟩) h

theorem gd_true {l : Array Bool} {i : Nat} : l.getD i true = false ↔ i < l.size ∧ l.getD i false = false := by
  rcases Nat.lt_or_ge i l.size with h | h
  · simp [h]
  · simp [Array.getElem?_eq_none h]; omega
theorem gd_ext {a b : Array Bool} (hs : a.size = b.size) (h : ∀ i, a.getD i false = b.getD i false) : a = b := by
  apply Array.ext hs
  intro i h1 h2
  have := h i
  simpa [h1, h2] using this
theorem size_setAll (acts : List Nat) : ∀ l : Array Bool, (setAll l acts).size = l.size := by
  induction acts with
  | nil => intro l; rfl
  | cons i acts ih => intro l; show (setAll (l.setIfInBounds i true) acts).size = _; rw [ih]; simp
theorem getD_setAll (acts : List Nat) : ∀ (l : Array Bool), (∀ i ∈ acts, i < l.size) → ∀ j, (setAll l acts).getD j false = (l.getD j false || acts.contains j) := by
  induction acts with
  | nil => intro l _ j; simp [setAll]
  | cons i acts ih =>
    intro l hl j
    show (setAll (l.setIfInBounds i true) acts).getD j false = _
    rw [ih _ (fun k hk => by simpa using hl k (List.mem_cons_of_mem _ hk)), List.contains_cons]
    have hi := hl i (by simp)
    by_cases hij : i = j
    · subst hij; simp [hi]
    · rw [getD_set_ne false hij]
      have : (j == i) = false := by simpa using fun h => hij h.symm
      rw [this]; simp
theorem least_undone {acts : List Nat} {D : Nat → Bool} : ∀ n, (∃ i ∈ acts, D i = false ∧ i ≤ n) → ∃ i ∈ acts, D i = false ∧ ∀ j ∈ acts, j < i → D j = true := by
  intro n
  induction n with
  | zero =>
    rintro ⟨i, hi, hd, hle⟩
    exact ⟨i, hi, hd, fun j _ hj => by omega⟩
  | succ n ih =>
    rintro ⟨i, hi, hd, hle⟩
    by_cases h : ∃ i ∈ acts, D i = false ∧ i ≤ n
    · exact ih h
    · refine ⟨i, hi, hd, fun j hj hlt => ?_⟩
      rcases Bool.eq_false_or_eq_true (D j) with h' | h'
      · exact h'
      · exact absurd ⟨j, hj, h', by omega⟩ h
theorem undone_len {acts : List Nat} (hn : acts.Nodup) {D : Nat → Bool} {i : Nat} (hi : i ∈ acts) (hd : D i = false) : (acts.filter fun j => !D j).length = (acts.filter fun j => !(j == i || D j)).length + 1 := by
  induction acts with
  | nil => cases hi
  | cons a acts ih =>
    rw [List.nodup_cons] at hn
    by_cases ha : a = i
    · subst ha
      have h0 : acts.filter (fun j => !(j == a || D j)) = acts.filter fun j => !D j := by
        apply List.filter_congr
        intro j hj
        have : (j == a) = false := by simp; rintro rfl; exact hn.1 hj
        rw [this]; rfl
      rw [List.filter_cons, List.filter_cons, h0]
      simp [hd]
    · have hi' : i ∈ acts := by rcases List.mem_cons.1 hi with h | h; exact absurd h.symm ha; exact h
      have := ih hn.2 hi'
      have hb : (a == i) = false := by simpa using ha
      rw [List.filter_cons, List.filter_cons, hb]
      cases hD : D a <;> simp [this]
theorem inv_sound {C : World → Prop} {Inv : (Nat → Bool) → Act → World → Prop} {acts : List Nat} {l : Array Bool} {n0 : Nat} (hB : invB ops acts l = true) (hC : ∀ D a w, Inv D a w → C w)
    (hstep : ∀ i ∈ acts, ∀ D a w, Inv D a w → D i = false → (∀ j ∈ predsB ops i, j ∈ acts → D j = true) → wpOp P ops Q i (fun a' w' => Inv (fun j => j == i || D j) a' w') a w)
    (hend : ∀ D a w, Inv D a w → (∀ i ∈ acts, D i = true) → DC ops (setAll l acts) → wpAnyC P ops Q n0 (setAll l acts) C a w) :
    ∀ (m : Nat) (D : Nat → Bool) (l' : Array Bool) (a : Act) (w : World), (acts.filter fun i => !D i).length = m → DC ops l' → l'.size = l.size → (∀ i, l'.getD i false = (l.getD i false || (acts.contains i && D i))) → Inv D a w → wpAnyC P ops Q (n0 + m) l' C a w := by
  simp only [invB, Bool.and_eq_true, List.all_eq_true, decide_eq_true_eq, Bool.not_eq_true'] at hB
  obtain ⟨⟨⟨⟨h1, h2⟩, h3⟩, h4⟩, h5⟩ := hB
  have hlt : ∀ i ∈ acts, i < l.size := fun i hi => (gd_true.1 (h1 i hi)).1
  intro m
  induction m with
  | zero =>
    intro D l' a w hm hD hs hrel hI
    have hall : ∀ i ∈ acts, D i = true := fun i hi => by
      rcases Bool.eq_false_or_eq_true (D i) with h | h
      · exact h
      · have : i ∈ acts.filter fun i => !D i := List.mem_filter.2 ⟨hi, by simp [h]⟩
        rw [List.eq_nil_of_length_eq_zero hm] at this; cases this
    have hl' : l' = setAll l acts := gd_ext (by rw [hs, size_setAll]) fun i => by
      rw [hrel, getD_setAll acts l hlt]
      by_cases hi : i ∈ acts
      · rw [hall i hi]; simp
      · have : acts.contains i = false := by simpa using hi
        rw [this]; rfl
    subst hl'
    exact hend D a w hI hall hD
  | succ m ih =>
    intro D l' a w hm hD hs hrel hI
    have hund : ∃ i ∈ acts, D i = false := by
      have hne : acts.filter (fun i => !D i) ≠ [] := fun h => by rw [h] at hm; cases hm
      obtain ⟨i, hi⟩ := List.exists_mem_of_ne_nil _ hne
      obtain ⟨h6, h7⟩ := List.mem_filter.1 hi
      exact ⟨i, h6, by simpa using h7⟩
    have hnot : ∀ i ∈ acts, D i = false → l'.getD i false = false := fun i hi hd => by
      rw [hrel, (gd_true.1 (h1 i hi)).2, hd]; simp
    refine ⟨fun h0 => ?_, fun i hi => ?_⟩
    · exfalso
      obtain ⟨k, hk, hkd⟩ := hund
      obtain ⟨i, hi, hd, hmin⟩ := least_undone (acts := acts) (D := D) k ⟨k, hk, hkd, Nat.le_refl _⟩
      have hio : i < ops.size := by have := hlt i hi; omega
      have : i ∈ Region.ready .any ops l' := mem_ready.2 ⟨gd_true.2 ⟨by rw [hs]; exact hlt i hi, hnot i hi hd⟩, ops[i], Array.getElem?_eq_getElem hio, fun e he hb => by
        have hp : e.on ∈ predsB ops i := by
          unfold predsB
          rw [Array.getElem?_eq_getElem hio]
          exact List.mem_map.2 ⟨e, List.mem_filter.2 ⟨by simpa using he, hb⟩, rfl⟩
        have h8 := h2 i hi e.on hp
        rw [hrel]
        rcases Bool.or_eq_true_iff.1 h8 with h8 | h8
        · rw [h8]; rfl
        · obtain ⟨h9, h10⟩ := Bool.and_eq_true_iff.1 h8
          rw [h9, hmin e.on (by simpa using h9) (by simpa using h10)]; simp⟩
      rw [h0] at this; cases this
    · obtain ⟨hir, o, ho, hpre⟩ := mem_ready.1 hi
      obtain ⟨hir1, hir2⟩ := gd_true.1 hir
      have hio : i < ops.size := (Array.getElem?_eq_some_iff.1 ho).1
      by_cases hia : i ∈ acts
      · have hd : D i = false := by
          rcases Bool.eq_false_or_eq_true (D i) with h | h
          · rw [hrel, h] at hir2
            have : acts.contains i = true := by simpa using hia
            rw [this] at hir2; simp at hir2
          · exact h
        have hpr : ∀ j ∈ predsB ops i, j ∈ acts → D j = true := fun j hj hja => by
          unfold predsB at hj
          rw [ho] at hj
          obtain ⟨e, he, rfl⟩ := List.mem_map.1 (show j ∈ (o.after.toList.filter (Region.binds .any)).map (·.on) from hj)
          obtain ⟨he1, he2⟩ := List.mem_filter.1 he
          have h8 := hpre e (by simpa using he1) he2
          rcases Bool.eq_false_or_eq_true (D e.on) with h | h
          · exact h
          · rw [hnot e.on hja h] at h8; cases h8
        refine wpOp_mono (fun a' w' hI' => ⟨C, hC _ _ _ hI', fun _ _ h => h, ih (fun j => j == i || D j) _ a' w' ?_ (hD.step hi) (by simp [hs]) (fun j => ?_) hI'⟩) (hstep i hia D a w hI hd hpr)
        · have := undone_len h4 hia hd
          omega
        · by_cases hij : i = j
          · subst hij
            have : acts.contains i = true := by simpa using hia
            rw [this]; simp [hir1]
          · rw [getD_set_ne false hij, hrel]
            have : (j == i) = false := by simpa using fun h => hij h.symm
            rw [this]; rfl
      · exfalso
        obtain ⟨k, hk, hkd⟩ := hund
        have h8 := h3 i (List.mem_range.2 hio)
        have hc : acts.contains i = false := by simpa using hia
        have hli : l.getD i true = false := gd_true.2 ⟨by omega, by rw [hrel, hc] at hir2; simpa using hir2⟩
        rw [hli, hc] at h8
        simp only [Bool.false_or, List.all_eq_true] at h8
        have h9 := hD.ready (masks_anc ops.toList [] (by simp) (by simp) i k (h8 k hk)) hi
        rw [hnot k hk hkd] at h9; cases h9

theorem can_sound (hsel : Region.noSelect ops = true) (hQ : ∀ c a d v w, Q (.panic c) (a.put d v) w → Q (.panic c) a w) :
    ∀ (t : Can) (n : Nat) (l : Array Bool) (C : World → Prop) (a : Act) (w : World), DC ops l → canB ops t n l = true → C w → wpCan P ops Q t C a w → wpAnyC P ops Q n l C a w := by
  intro t
  induction t with
  | done =>
    intro n l C a w _ hB _ h
    have hr : Region.ready .any ops l = [] := by cases n <;> simpa [canB] using hB
    cases n with
    | zero => exact ⟨hr, h⟩
    | succ n => exact ⟨fun _ => h, by rw [hr]; simp⟩
  | q is t ih =>
    intro n l C a w hD hB hC h
    have hB' : segB ops is n l (canB ops t) = true := by cases n <;> exact hB
    exact seg_sound hsel hQ C w hC (fun n l a hD hB h => ih n l C a w hD hB hC h) is n l a hD hB' h
  | e i p t ih =>
    intro n l C a w hD hB hC h
    cases n with
    | zero => simp [canB] at hB
    | succ n =>
      simp only [canB, Bool.and_eq_true, beq_iff_eq] at hB
      obtain ⟨⟨hr, hp⟩, hrest⟩ := hB
      refine ⟨fun h0 => (by rw [h0] at hr; cases hr), fun j hj => ?_⟩
      have hj' := hj
      rw [hr, List.mem_singleton] at hj
      subst hj
      refine wpOp_mono (fun a' w' h' => ?_) h
      obtain ⟨C', hC', hsub, h3⟩ := h'
      refine ⟨C', hC', fun hk => hsub ?_, ih n _ C' a' w' (hD.step hj') hrest hC' h3⟩
      simpa [hk] using hp
  | b i p t j r u iht ihu =>
    intro n l C a w hD hB hC h
    cases n with
    | zero => simp [canB] at hB
    | succ n =>
      simp only [canB, Bool.and_eq_true, beq_iff_eq] at hB
      obtain ⟨⟨⟨⟨hr, hp⟩, hp2⟩, hrest⟩, hrest2⟩ := hB
      refine ⟨fun h0 => (by rw [h0] at hr; cases hr), fun k hk => ?_⟩
      have hk' := hk
      rw [hr] at hk
      simp only [List.mem_cons, List.not_mem_nil, or_false] at hk
      rcases hk with rfl | rfl
      · refine wpOp_mono (fun a' w' h' => ?_) h.1
        obtain ⟨C', hC', hsub, h3⟩ := h'
        refine ⟨C', hC', fun hk => hsub ?_, iht n _ C' a' w' (hD.step hk') hrest hC' h3⟩
        simpa [hk] using hp
      · refine wpOp_mono (fun a' w' h' => ?_) h.2
        obtain ⟨C', hC', hsub, h3⟩ := h'
        refine ⟨C', hC', fun hk => hsub ?_, ihu n _ C' a' w' (hD.step hk') hrest2 hC' h3⟩
        simpa [hk] using hp2
  | inv acts t ih =>
    intro n l C a w hD hB hC h
    have hB' : (invB ops acts l && decide (acts.length ≤ n) && canB ops t (n - acts.length) (setAll l acts)) = true := by cases n <;> exact hB
    simp only [Bool.and_eq_true, decide_eq_true_eq] at hB'
    obtain ⟨⟨hb, hn⟩, hrest⟩ := hB'
    obtain ⟨Inv, h0, h1, h2, h3⟩ := h
    have := inv_sound (n0 := n - acts.length) hb h1 h2 (fun D a w hI hall hD' => ih _ _ C a w hD' hrest (h1 _ _ _ hI) (h3 D a w hI hall)) acts.length (fun _ => false) l a w (by simp) hD rfl (fun i => by simp) h0
    rwa [Nat.sub_add_cancel hn] at this

theorem wp_region_can {id : Nat} {a : Act} {w : World} (t : Can) (C : World → Prop) (hm : P.follows .mixedOrders = true) (hB : (Region.noSelect ops && canB ops t ops.size (Array.replicate ops.size false)) = true)
    (hQ : ∀ c a d v w, Q (.panic c) (a.put d v) w → Q (.panic c) a w) (hC : C w.drew) (h : wpCan P ops Q t C a w.drew) : (Code.region id ops true).wp P Q a w := by
  simp only [Bool.and_eq_true] at hB
  refine wp_region_any hm (wpAny_of_C _ _ C _ _ (can_sound hB.1 hQ t _ _ C a _ ?_ hB.2 hC h))
  intro j o _ hj
  exfalso
  simp [Array.getElem?_replicate] at hj
  split at hj <;> simp at hj

/-! ### The steps -/
theorem can_done {C : World → Prop} {a : Act} {w : World} (h : Q .normal a w) : wpCan P ops Q .done C a w := h
theorem can_q {is : List Nat} {t : Can} {C : World → Prop} {a : Act} {w : World} {l : List Oper} (hl : pickL ops is = l) (h : wpQuiet P ops C (fun a' => wpCan P ops Q t C a' w) l a) : wpCan P ops Q (.q is t) C a w := by
  subst hl; exact h
/-- What follows one operation. -/
def onK (Q : Exit → Act → World → Prop) (K : Act → World → Prop) : Exit → Act → World → Prop
  | .normal, a, w => K a w
  | e, a, w => Q e a w
theorem onK_normal {K : Act → World → Prop} {a : Act} {w : World} (h : K a w) : onK Q K .normal a w := h
theorem upon_onK {o : Oper} {a : Act} {next K : Act → World → Prop} {r : Result Next} (h : o.upon P a next (onK Q K) r) : o.upon P a next Q r := by
  cases r with
  | ok n w' =>
    cases n <;> simp only [Oper.upon] at h ⊢ <;> first | exact h | (exact Calls.mono h (fun e w'' he => by cases e <;> exact he))
  | halt x w' => cases x <;> simp only [Oper.upon] at h ⊢ <;> exact h
theorem op_of_list {i : Nat} {o : Oper} {K : Act → World → Prop} {a : Act} {w : World} (ho : ops[i]? = some o)
    (h : ∀ K' : Act → World → Prop, (∀ a w, K a w → K' a w) → wpList P ops (onK Q K') [o] a w) : wpOp P ops Q i K a w := by
  have h1 := h K (fun _ _ h => h)
  unfold wpOp
  simp only [ho]
  simp only [wpList] at h1
  split
  · rename_i hw
    rw [if_pos hw] at h1
    rcases h1 with h1 | ⟨h1, h2⟩
    · exact .inl (Oper.wp_mono (fun _ _ h => h) (upon_onK h1))
    · exact .inr ⟨h1, h2⟩
  · rename_i hw
    rw [if_neg hw] at h1
    exact h1
theorem can_e {i : Nat} {p : Bool} {t : Can} {C : World → Prop} {a : Act} {w : World} {o : Oper} (ho : ops[i]? = some o)
    (h : ∀ K : Act → World → Prop, (∀ a' w', (∃ C' : World → Prop, C' w' ∧ (p = true → ∀ x, C' x → C x) ∧ wpCan P ops Q t C' a' w') → K a' w') → wpList P ops (onK Q K) [o] a w) : wpCan P ops Q (.e i p t) C a w :=
  op_of_list ho h
theorem can_b {i j : Nat} {p r : Bool} {t u : Can} {C : World → Prop} {a : Act} {w : World} {o oj : Oper} (ho : ops[i]? = some o) (hoj : ops[j]? = some oj)
    (h : ∀ K : Act → World → Prop, (∀ a' w', (∃ C' : World → Prop, C' w' ∧ (p = true → ∀ x, C' x → C x) ∧ wpCan P ops Q t C' a' w') → K a' w') → wpList P ops (onK Q K) [o] a w)
    (h2 : ∀ K : Act → World → Prop, (∀ a' w', (∃ C' : World → Prop, C' w' ∧ (r = true → ∀ x, C' x → C x) ∧ wpCan P ops Q u C' a' w') → K a' w') → wpList P ops (onK Q K) [oj] a w) : wpCan P ops Q (.b i p t j r u) C a w :=
  ⟨op_of_list ho h, op_of_list hoj h2⟩
theorem can_inv {acts : List Nat} {t : Can} {C : World → Prop} {a : Act} {w : World} (Inv : (Nat → Bool) → Act → World → Prop) (h0 : Inv (fun _ => false) a w) (hC : ∀ D a w, Inv D a w → C w)
    (hstep : ∀ i ∈ acts, ∀ D a w, Inv D a w → D i = false → (∀ j ∈ predsB ops i, j ∈ acts → D j = true) → wpOp P ops Q i (fun a' w' => Inv (fun j => j == i || D j) a' w') a w)
    (hend : ∀ D a w, Inv D a w → (∀ i ∈ acts, D i = true) → wpCan P ops Q t C a w) : wpCan P ops Q (.inv acts t) C a w := ⟨Inv, h0, hC, hstep, hend⟩
end

/-! ### The class: below block number N, but for W, as w was -/
structure AW (N : Nat) (W : Nat → Prop) (w : World) where
  x : World
  ok : ∀ b, b < N → ¬ W b → x.heap[b]? = w.heap[b]?
instance {N : Nat} {W : Nat → Prop} {w : World} : Nonempty (AW N W w) := ⟨⟨w, fun _ _ _ => rfl⟩⟩
def cls (N : Nat) (W : Nat → Prop) (w : World) : World → Prop := fun w' => ∃ X : AW N W w, w' = X.x
theorem AW.cell {N : Nat} {W : Nat → Prop} {w : World} (X : AW N W w) {a : Addr} (hb : a.block < N) (hW : ¬ W a.block) : X.x.cell? a = w.cell? a := World.cell?_of_block (w := w) (X.ok a.block hb hW)
theorem AW.frozen {N : Nat} {W : Nat → Prop} {w : World} (X : AW N W w) {a : Addr} (hb : a.block < N) (hW : ¬ W a.block) : X.x.frozen? a = w.frozen? a := World.frozen?_of_block (w := w) (X.ok a.block hb hW)
theorem cls_self (N : Nat) (W : Nat → Prop) (w : World) : cls N W w w := ⟨⟨w, fun _ _ _ => rfl⟩, rfl⟩
/-- Behind an operation that leaves what is below N as it was. -/
theorem cls_next {N N' : Nat} {W W' : Nat → Prop} {w w' : World} (hN : N ≤ N') (hW : ∀ b, b < N → W' b → W b) (h : ∀ b, b < N → ¬ W b → w'.heap[b]? = w.heap[b]?) : ∀ x, cls N' W' w' x → cls N W w x := by
  rintro x ⟨X, rfl⟩
  exact ⟨⟨X.x, fun b hb hw => (X.ok b (by omega) (fun h' => hw (hW b hb h'))).trans (h b hb hw)⟩, rfl⟩

/-- As w was, wherever w has a block. -/
structure AB (w : World) where
  x : World
  ok : ∀ b, b < w.heap.size → x.heap[b]? = w.heap[b]?
instance {w : World} : Nonempty (AB w) := ⟨⟨w, fun _ _ => rfl⟩⟩
theorem AB.cell {w : World} (X : AB w) {a : Addr} (h : a.block < w.heap.size) : X.x.cell? a = w.cell? a := World.cell?_of_block (w := w) (X.ok a.block h)
def clsB (w : World) : World → Prop := fun w' => ∃ X : AB w, w' = X.x
theorem clsB_self (w : World) : clsB w w := ⟨⟨w, fun _ _ => rfl⟩, rfl⟩
theorem clsB_drew (w : World) : clsB w w.drew := ⟨⟨w.drew, fun _ _ => rfl⟩, rfl⟩
theorem clsB_of {w w' : World} (h : Below w.heap.size w w') : clsB w w' := ⟨⟨w', h.block⟩, rfl⟩
theorem clsB_next {w w' : World} (h : Below w.heap.size w w') : ∀ x, clsB w' x → clsB w x := by
  rintro x ⟨X, rfl⟩
  exact ⟨⟨X.x, fun b hb => (X.ok b (by have := h.size; omega)).trans (h.block b hb)⟩, rfl⟩
/-- .. but for W. -/
structure AX (W : Nat → Prop) (w : World) where
  x : World
  ok : ∀ b, b < w.heap.size → ¬ W b → x.heap[b]? = w.heap[b]?
instance {W : Nat → Prop} {w : World} : Nonempty (AX W w) := ⟨⟨w, fun _ _ _ => rfl⟩⟩
theorem AX.cell {W : Nat → Prop} {w : World} (X : AX W w) {a : Addr} (h : a.block < w.heap.size) (hW : ¬ W a.block) : X.x.cell? a = w.cell? a := World.cell?_of_block (w := w) (X.ok a.block h hW)
def clsX (W : Nat → Prop) (w : World) : World → Prop := fun w' => ∃ X : AX W w, w' = X.x
theorem clsX_self (W : Nat → Prop) (w : World) : clsX W w w := ⟨⟨w, fun _ _ _ => rfl⟩, rfl⟩
theorem clsX_drew (W : Nat → Prop) (w : World) : clsX W w w.drew := ⟨⟨w.drew, fun _ _ _ => rfl⟩, rfl⟩
theorem clsX_next {W : Nat → Prop} {w w' : World} (hz : w.heap.size ≤ w'.heap.size) (h : ∀ b, b < w.heap.size → ¬ W b → w'.heap[b]? = w.heap[b]?) : ∀ x, clsX W w' x → clsX W w x := by
  rintro x ⟨X, rfl⟩
  exact ⟨⟨X.x, fun b hb hw => (X.ok b (by omega) hw).trans (h b hb hw)⟩, rfl⟩
/-- .. but for some cells. -/
structure AO (W : Nat → Nat → Prop) (w : World) where
  x : World
  ok : ∀ a : Addr, a.block < w.heap.size → ¬ W a.block a.off → x.cell? a = w.cell? a
instance {W : Nat → Nat → Prop} {w : World} : Nonempty (AO W w) := ⟨⟨w, fun _ _ _ => rfl⟩⟩
theorem AO.cell {W : Nat → Nat → Prop} {w : World} (X : AO W w) {a : Addr} (h : a.block < w.heap.size) (hW : ¬ W a.block a.off) : X.x.cell? a = w.cell? a := X.ok a h hW
def clsO (W : Nat → Nat → Prop) (w : World) : World → Prop := fun w' => ∃ X : AO W w, w' = X.x
theorem clsO_self (W : Nat → Nat → Prop) (w : World) : clsO W w w := ⟨⟨w, fun _ _ _ => rfl⟩, rfl⟩
theorem clsO_drew (W : Nat → Nat → Prop) (w : World) : clsO W w w.drew := ⟨⟨w.drew, fun _ _ _ => rfl⟩, rfl⟩
theorem clsO_next {W : Nat → Nat → Prop} {w w' : World} (hz : w.heap.size ≤ w'.heap.size) (h : ∀ a : Addr, a.block < w.heap.size → ¬ W a.block a.off → w'.cell? a = w.cell? a) : ∀ x, clsO W w' x → clsO W w x := by
  rintro x ⟨X, rfl⟩
  exact ⟨⟨X.x, fun a hb hw => (X.ok a (by omega) hw).trans (h a hb hw)⟩, rfl⟩
end Go.Proofs.YtoambcpjdcehhaaGreat.Can
