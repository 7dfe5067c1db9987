/- Rows of plain values that grow: appends, as one step each. -/
import Derived.Test.YtpcjidbhkffncaaFrame
set_option linter.unusedVariables false
namespace Go.Proofs.Ytpcjidbhkffncaa.Base
open Go Go.RowKit

/-- The cells say all. -/
def Ty.Flat {α : Type} (T : Ty α) : Prop := ∀ (w w' : World) (S S' : Nat → Prop) (x : α) (cs : List Value), T.rel w S x cs → T.rel w' S' x cs
theorem Ty.flat_flat {α : Type} (sz : Nat) (enc : α → List Value) (h : ∀ x, (enc x).length = sz) (h1 : ∀ x, ∀ u ∈ enc x, u.oneCell' = true) : (Ty.flat sz enc h h1).Flat := fun _ _ _ _ _ _ e => e
theorem Ty.int_flat (k : IntKind) : (Ty.int k).Flat := Ty.flat_flat _ _ _ _
theorem Ty.bool_flat : Ty.bool.Flat := Ty.flat_flat _ _ _ _
theorem Ty.str_flat : Ty.str.Flat := Ty.flat_flat _ _ _ _

section
variable {α : Type} {T : Ty α} {w w' : World} {S : Nat → Prop} {base : Nat} {e : TypeId} {v : Value} {xs : List α}
/-- A row of plain values, that the call owns. -/
def Mine (T : Ty α) (w : World) (base : Nat) (e : TypeId) (v : Value) (xs : List α) : Prop := Own T w base e (fun _ => False) v xs
theorem Own.mine (hT : T.Flat) (h : Own T w base e S v xs) : Mine T w base e v xs := by
  obtain ⟨inner, ho, hc, _⟩ := h
  exact ⟨inner, ho, ⟨hc.1, fun j p hj => hT _ _ _ _ _ _ (hc.2 j p hj)⟩, fun _ h => h.elim⟩
theorem Mine.nil (T : Ty α) (w : World) (base : Nat) (e : TypeId) : Mine T w base e (.slice none 0 0) [] := Own.nil T w base e
theorem Mine.form (h : Mine T w base e v xs) : ∃ A c, v = .slice A xs.length c ∧ xs.length ≤ c ∧ (A = none → c = 0) ∧ Row T w (fun k => base ≤ k ∧ k < w.heap.size) A xs.length xs := by
  obtain ⟨A, c, e, hc, hA, hr⟩ := Own.form h
  exact ⟨A, c, e, hc, hA, hr.mono fun k hk => by rcases hk with hk | hk; exact hk.elim; have := Own.lt h hk; exact ⟨this.2, this.1⟩⟩
theorem Mine.formN (h : Mine T w base e v xs) : ∃ A n c, v = .slice A n c ∧ n = xs.length ∧ n ≤ c ∧ (A = none → c = 0) ∧ Row T w (fun k => base ≤ k ∧ k < w.heap.size) A n xs := by
  obtain ⟨A, c, e, hc, hA, hr⟩ := h.form
  exact ⟨A, xs.length, c, e, rfl, hc, hA, hr⟩
theorem Mine.below (h : Mine T w base e v xs) (hb : Below w.heap.size w w') : Mine T w' base e v xs := Own.below h hb
theorem Mine.lower {b : Nat} (h : Mine T w base e v xs) (hb : b ≤ base) : Mine T w b e v xs := Own.lower h hb
theorem Mine.set (h : Mine T w base e v xs) {g i : Nat} (hg : ∀ k, v.ownBlock = some k → k ≠ g) (u : Value) : Mine T (w.setCell ⟨g, i, none⟩ u) base e v xs :=
  Own.set h (fun k hk => by rcases hk with hk | hk; exact hk.elim; exact hg k hk) u
theorem Mine.lt (h : Mine T w base e v xs) {k : Nat} (hk : v.ownBlock = some k) : k < w.heap.size ∧ base ≤ k := Own.lt h hk
theorem Mine.ne_new (h : Mine T w base e v xs) {k : Nat} (hk : w.heap.size ≤ k) : v.ownBlock ≠ some k := fun he => by have := (h.lt he).1; omega
theorem Mine.ne_old (h : Mine T w base e v xs) {k : Nat} (hk : k < base) : v.ownBlock ≠ some k := fun he => by have := (h.lt he).2; omega
theorem below_by {U w1 : World} (hg : U.grownBy w1 v.ownBlock) (hb : base ≤ U.heap.size) (hv : ∀ k, v.ownBlock = some k → base ≤ k) : Below base U w1 :=
  ⟨hg.os, hg.tape, hg.output, hg.size, fun k hk => hg.block k (by omega) fun he => by have := hv k he.symm; omega⟩
end

theorem Row.get_int {k : IntKind} {w : World} {S : Nat → Prop} {A : Option Addr} {n : Nat} {xs : List Int} (h : Row (Ty.int k) w S A n xs) (i : Nat) (hi : i < n) :
    ∃ b off x, A = some ⟨b, off, none⟩ ∧ S b ∧ b < w.heap.size ∧ xs[i]? = some x ∧ w.cell? ⟨b, off + i, none⟩ = some (.int k x) := by
  obtain ⟨b, off, cs, he, hs, hr, hcell⟩ := h.get i hi
  have hr' : cs = [.int k _] := hr
  subst hr'
  have h0 := hcell 0 _ rfl
  have h1 : off + i * (Ty.int k).sz + 0 = off + i := by show off + i * 1 + 0 = _; omega
  rw [h1] at h0
  exact ⟨b, off, _, he, hs, World.block_lt_of_cell? w _ h0, List.getElem?_eq_getElem _, h0⟩

section
variable {P : Program} {ops : Array Oper} {rest : List Oper} {o : Oper} {a : Act} {Q : Exit → Act → World → Prop} {α : Type} {e : TypeId}
/-- append(v, p): p in a block of its own. -/
theorem append_snoc (T : Ty α) (hT : T.Flat) {U : World} (hgd : o.guard = none) (s x : Operand) (t e : TypeId) (z : Value) (bytes : Nat)
    (ho : o.op = .call { callee := .builtin .append, args := #[s, x], argTypes := #[t, t] })
    (ht : P.underlying t = some (.slice e)) (hinfo : (P.info? e).map (fun i => (i.zero, i.size, i.bytes)) = some (some z, T.sz, bytes)) (hz : z.cells.size = T.sz) (hs0 : 0 < T.sz) (hb0 : 0 < bytes)
    (base : Nat) (v : Value) (xs : List α) (p : α) (cs : List Value) (b : Nat) (hs : a.eval s = v) (hx : a.eval x = .slice (some ⟨b, 0, none⟩) 1 1)
    (hbox : U.heap[b]? = some (.cells cs.toArray e (0, 0))) (hp : T.rel U (fun _ => False) p cs)
    (HO : Mine T U base e v xs) (hvb : v.ownBlock ≠ some b) (hbase : base ≤ U.heap.size) (hl : (xs.length + 1) * bytes ≤ 140737488355328)
    (h : ∀ v1 w1, Mine T w1 base e v1 (xs ++ [p]) → Below base U w1 → (∀ k, k < U.heap.size → v.ownBlock ≠ some k → w1.heap[k]? = U.heap[k]?) → (v1.ownBlock = v.ownBlock ∨ v1.ownBlock = some U.heap.size) → wpList P ops Q rest (a.put o.dst v1) w1) :
    wpList P ops Q (o :: rest) a U :=
  append_one T (S' := fun _ => False) hgd s x t e z bytes ho ht hinfo hz hs0 hb0 base v xs p cs b hs hx hbox hp HO (fun _ h => h.elim) hvb hbase hl
    fun v1 w1 h1 hg hat => h v1 w1 (h1.mine hT) (below_by hg hbase fun k hk => (HO.lt hk).2) (fun k hk hne => hg.block k hk fun he => hne he.symm) hat
/-- append(v, ys...): ys lies elsewhere. -/
theorem append_row (T : Ty α) (hT : T.Flat) {U : World} {S' : Nat → Prop} (hgd : o.guard = none) (s x : Operand) (t e : TypeId) (z : Value) (bytes : Nat)
    (ho : o.op = .call { callee := .builtin .append, args := #[s, x], argTypes := #[t, t] })
    (ht : P.underlying t = some (.slice e)) (hinfo : (P.info? e).map (fun i => (i.zero, i.size, i.bytes)) = some (some z, T.sz, bytes)) (hz : z.cells.size = T.sz) (hs0 : 0 < T.sz) (hb0 : 0 < bytes)
    (base : Nat) (v : Value) (xs ys : List α) (A : Option Addr) (m c : Nat) (hs : a.eval s = v) (hx : a.eval x = .slice A m c) (hA : A = none → c = 0)
    (HO : Mine T U base e v xs) (HR : Row T U S' A m ys) (hS' : ∀ k, S' k → k < U.heap.size ∧ v.ownBlock ≠ some k) (hbase : base ≤ U.heap.size) (hl : (xs.length + m) * bytes ≤ 140737488355328)
    (h : ∀ v1 w1, Mine T w1 base e v1 (xs ++ ys) → Below base U w1 → (∀ k, k < U.heap.size → v.ownBlock ≠ some k → w1.heap[k]? = U.heap[k]?) → (v1.ownBlock = v.ownBlock ∨ v1.ownBlock = some U.heap.size) → wpList P ops Q rest (a.put o.dst v1) w1) :
    wpList P ops Q (o :: rest) a U :=
  append_own T (S' := S') hgd s x t e z bytes ho ht hinfo hz hs0 hb0 base v xs ys A m c hs hx hA HO HR hS' hbase hl
    fun v1 w1 h1 hg hat => h v1 w1 (h1.mine hT) (below_by hg hbase fun k hk => (HO.lt hk).2) (fun k hk hne => hg.block k hk fun he => hne he.symm) hat
/-- []T{}, in a block that has just been made. -/
theorem Mine.empty (T : Ty α) (w : World) {b n : Nat} (hn : w.heap.size = n) (hb : b ≤ n) : Mine T (w.alloc (.cells #[] e)) b e (.slice (some ⟨n, 0, none⟩) 0 0) [] := Own.empty_at T w e hn hb
end
end Go.Proofs.Ytpcjidbhkffncaa.Base
