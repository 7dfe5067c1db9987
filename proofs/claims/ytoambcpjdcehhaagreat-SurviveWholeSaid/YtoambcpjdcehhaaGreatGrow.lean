/- Rows of plain values that grow: appends, as one step each. -/
import Derived.Test.YtoambcpjdcehhaaGreatFrame
import Derived.Deep.DeepAppendRoom
set_option linter.unusedVariables false
set_option linter.unusedSimpArgs false
set_option linter.unusedVariables false
namespace Go.Proofs.YtoambcpjdcehhaaGreat.Base
open Go Go.RowKit

/-- The cells say all. -/
def Ty.Flat {α : Type} (T : Ty α) : Prop := ∀ (w w' : World) (S S' : Nat → Prop) (x : α) (cs : List Value), T.rel w S x cs → T.rel w' S' x cs
theorem Ty.flat_flat {α : Type} (sz : Nat) (enc : α → List Value) (h : ∀ x, (enc x).length = sz) (h1 : ∀ x, ∀ u ∈ enc x, u.oneCell' = true) : (Ty.flat sz enc h h1).Flat := fun _ _ _ _ _ _ e => e
theorem Ty.int_flat (k : IntKind) : (Ty.int k).Flat := Ty.flat_flat _ _ _ _
theorem Ty.bool_flat : Ty.bool.Flat := Ty.flat_flat _ _ _ _
theorem Ty.str_flat : Ty.str.Flat := Ty.flat_flat _ _ _ _

section
variable {α : Type} {T : Ty α} {w w' : World} {S : Nat → Prop} {base : Nat} {e : TypeId} {v : Value} {xs : List α}
/-- A row of plain values, that the call owns. -/
def Mine (T : Ty α) (w : World) (base : Nat) (e : TypeId) (v : Value) (xs : List α) : Prop := Own T w base e (fun _ => False) v xs
theorem Own.mine (hT : T.Flat) (h : Own T w base e S v xs) : Mine T w base e v xs := by
  obtain ⟨inner, ho, hc, _⟩ := h
  exact ⟨inner, ho, ⟨hc.1, fun j p hj => hT _ _ _ _ _ _ (hc.2 j p hj)⟩, fun _ h => h.elim⟩
theorem Mine.nil (T : Ty α) (w : World) (base : Nat) (e : TypeId) : Mine T w base e (.slice none 0 0) [] := Own.nil T w base e
theorem Mine.form (h : Mine T w base e v xs) : ∃ A c, v = .slice A xs.length c ∧ xs.length ≤ c ∧ (A = none → c = 0) ∧ Row T w (fun k => base ≤ k ∧ k < w.heap.size) A xs.length xs := by
  obtain ⟨A, c, e, hc, hA, hr⟩ := Own.form h
  exact ⟨A, c, e, hc, hA, hr.mono fun k hk => by rcases hk with hk | hk; exact hk.elim; have := Own.lt h hk; exact ⟨this.2, this.1⟩⟩
theorem Mine.formN (h : Mine T w base e v xs) : ∃ A n c, v = .slice A n c ∧ n = xs.length ∧ n ≤ c ∧ (A = none → c = 0) ∧ Row T w (fun k => base ≤ k ∧ k < w.heap.size) A n xs := by
  obtain ⟨A, c, e, hc, hA, hr⟩ := h.form
  exact ⟨A, xs.length, c, e, rfl, hc, hA, hr⟩
theorem Mine.below (h : Mine T w base e v xs) (hb : Below w.heap.size w w') : Mine T w' base e v xs := Own.below h hb
theorem Mine.lower {b : Nat} (h : Mine T w base e v xs) (hb : b ≤ base) : Mine T w b e v xs := Own.lower h hb
theorem Mine.set (h : Mine T w base e v xs) {g i : Nat} (hg : ∀ k, v.ownBlock = some k → k ≠ g) (u : Value) : Mine T (w.setCell ⟨g, i, none⟩ u) base e v xs :=
  Own.set h (fun k hk => by rcases hk with hk | hk; exact hk.elim; exact hg k hk) u
theorem Mine.lt (h : Mine T w base e v xs) {k : Nat} (hk : v.ownBlock = some k) : k < w.heap.size ∧ base ≤ k := Own.lt h hk
theorem Mine.ne_new (h : Mine T w base e v xs) {k : Nat} (hk : w.heap.size ≤ k) : v.ownBlock ≠ some k := fun he => by have := (h.lt he).1; omega
theorem Mine.ne_old (h : Mine T w base e v xs) {k : Nat} (hk : k < base) : v.ownBlock ≠ some k := fun he => by have := (h.lt he).2; omega
theorem below_by {U w1 : World} (hg : U.grownBy w1 v.ownBlock) (hb : base ≤ U.heap.size) (hv : ∀ k, v.ownBlock = some k → base ≤ k) : Below base U w1 :=
  ⟨hg.os, hg.tape, hg.output, hg.size, fun k hk => hg.block k (by omega) fun he => by have := hv k he.symm; omega⟩
end

theorem Row.get_int {k : IntKind} {w : World} {S : Nat → Prop} {A : Option Addr} {n : Nat} {xs : List Int} (h : Row (Ty.int k) w S A n xs) (i : Nat) (hi : i < n) :
    ∃ b off x, A = some ⟨b, off, none⟩ ∧ S b ∧ b < w.heap.size ∧ xs[i]? = some x ∧ w.cell? ⟨b, off + i, none⟩ = some (.int k x) := by
  obtain ⟨b, off, cs, he, hs, hr, hcell⟩ := h.get i hi
  have hr' : cs = [.int k _] := hr
  subst hr'
  have h0 := hcell 0 _ rfl
  have h1 : off + i * (Ty.int k).sz + 0 = off + i := by show off + i * 1 + 0 = _; omega
  rw [h1] at h0
  exact ⟨b, off, _, he, hs, World.block_lt_of_cell? w _ h0, List.getElem?_eq_getElem _, h0⟩

section
variable {P : Program} {ops : Array Oper} {rest : List Oper} {o : Oper} {a : Act} {Q : Exit → Act → World → Prop} {α : Type} {e : TypeId}
/-- append(v, p): p in a block of its own. -/
theorem append_snoc (T : Ty α) (hT : T.Flat) {U : World} (hgd : o.guard = none) (s x : Operand) (t e : TypeId) (z : Value) (bytes : Nat)
    (ho : o.op = .call { callee := .builtin .append, args := #[s, x], argTypes := #[t, t] })
    (ht : P.underlying t = some (.slice e)) (hinfo : (P.info? e).map (fun i => (i.zero, i.size, i.bytes)) = some (some z, T.sz, bytes)) (hz : z.cells.size = T.sz) (hs0 : 0 < T.sz) (hb0 : 0 < bytes)
    (base : Nat) (v : Value) (xs : List α) (p : α) (cs : List Value) (b : Nat) (hs : a.eval s = v) (hx : a.eval x = .slice (some ⟨b, 0, none⟩) 1 1)
    (hbox : U.heap[b]? = some (.cells cs.toArray e (0, 0))) (hp : T.rel U (fun _ => False) p cs)
    (HO : Mine T U base e v xs) (hvb : v.ownBlock ≠ some b) (hbase : base ≤ U.heap.size) (hl : (xs.length + 1) * bytes ≤ 140737488355328)
    (h : ∀ v1 w1, Mine T w1 base e v1 (xs ++ [p]) → Below base U w1 → (∀ k, k < U.heap.size → v.ownBlock ≠ some k → w1.heap[k]? = U.heap[k]?) → (v1.ownBlock = v.ownBlock ∨ v1.ownBlock = some U.heap.size) → wpList P ops Q rest (a.put o.dst v1) w1) :
    wpList P ops Q (o :: rest) a U :=
  append_one T (S' := fun _ => False) hgd s x t e z bytes ho ht hinfo hz hs0 hb0 base v xs p cs b hs hx hbox hp HO (fun _ h => h.elim) hvb hbase hl
    fun v1 w1 h1 hg hat => h v1 w1 (h1.mine hT) (below_by hg hbase fun k hk => (HO.lt hk).2) (fun k hk hne => hg.block k hk fun he => hne he.symm) hat
/-- append(v, ys...): ys lies elsewhere. -/
theorem append_row (T : Ty α) (hT : T.Flat) {U : World} {S' : Nat → Prop} (hgd : o.guard = none) (s x : Operand) (t e : TypeId) (z : Value) (bytes : Nat)
    (ho : o.op = .call { callee := .builtin .append, args := #[s, x], argTypes := #[t, t] })
    (ht : P.underlying t = some (.slice e)) (hinfo : (P.info? e).map (fun i => (i.zero, i.size, i.bytes)) = some (some z, T.sz, bytes)) (hz : z.cells.size = T.sz) (hs0 : 0 < T.sz) (hb0 : 0 < bytes)
    (base : Nat) (v : Value) (xs ys : List α) (A : Option Addr) (m c : Nat) (hs : a.eval s = v) (hx : a.eval x = .slice A m c) (hA : A = none → c = 0)
    (HO : Mine T U base e v xs) (HR : Row T U S' A m ys) (hS' : ∀ k, S' k → k < U.heap.size ∧ v.ownBlock ≠ some k) (hbase : base ≤ U.heap.size) (hl : (xs.length + m) * bytes ≤ 140737488355328)
    (h : ∀ v1 w1, Mine T w1 base e v1 (xs ++ ys) → Below base U w1 → (∀ k, k < U.heap.size → v.ownBlock ≠ some k → w1.heap[k]? = U.heap[k]?) → (v1.ownBlock = v.ownBlock ∨ v1.ownBlock = some U.heap.size) → wpList P ops Q rest (a.put o.dst v1) w1) :
    wpList P ops Q (o :: rest) a U :=
  append_own T (S' := S') hgd s x t e z bytes ho ht hinfo hz hs0 hb0 base v xs ys A m c hs hx hA HO HR hS' hbase hl
    fun v1 w1 h1 hg hat => h v1 w1 (h1.mine hT) (below_by hg hbase fun k hk => (HO.lt hk).2) (fun k hk hne => hg.block k hk fun he => hne he.symm) hat
/-- append(xs[:n:n], x): there is no room: the call owns what comes of it. -/
theorem append_mine (T : Ty α) (hT : T.Flat) {U : World} {S : Nat → Prop} (hgd : o.guard = none) (s x : Operand) (t e : TypeId) (z : Value) (bytes : Nat)
    (ho : o.op = .call { callee := .builtin .append, args := #[s, x], argTypes := #[t, t] })
    (ht : P.underlying t = some (.slice e)) (hinfo : (P.info? e).map (fun i => (i.zero, i.size, i.bytes)) = some (some z, T.sz, bytes)) (hz : z.cells.size = T.sz) (hs0 : 0 < T.sz) (hb0 : 0 < bytes)
    (A : Option Addr) (n : Nat) (xs : List α) (p : α) (cs : List Value) (b : Nat) (hs : a.eval s = .slice A n n) (hx : a.eval x = .slice (some ⟨b, 0, none⟩) 1 1)
    (hbox : U.heap[b]? = some (.cells cs.toArray e (0, 0))) (hC : Row T U S A n xs) (hp : T.rel U S p cs) (hl : (n + 1) * bytes ≤ 140737488355328)
    (h : ∀ v1 w1, Mine T w1 U.heap.size e v1 (xs ++ [p]) → Below U.heap.size U w1 → wpList P ops Q rest (a.put o.dst v1) w1) :
    wpList P ops Q (o :: rest) a U := by
  obtain ⟨i0, hi, hzz⟩ := Option.map_eq_some_iff.1 hinfo
  simp only [Prod.mk.injEq] at hzz
  obtain ⟨hz0, hz1, hz2⟩ := hzz
  have hlen : n + 1 ≤ 140737488355328 := Nat.le_trans (Nat.le_mul_of_pos_right _ hb0) hl
  have hxl : xs.length = n := hC.1
  obtain ⟨inner, hr, hcell⟩ : ∃ inner, Cells T U S xs inner ∧ ∀ ad, A = some ad → ∀ j u, inner[j]? = some u → U.cell? (ad.add j) = some u := by
    rcases Nat.eq_zero_or_pos n with h0 | h0
    · obtain rfl : xs = [] := List.eq_nil_of_length_eq_zero (by omega)
      exact ⟨[], Cells.nil, fun ad _ j u hu => by simp at hu⟩
    · obtain ⟨bb, off, rfl, _⟩ := hC.2.2 h0
      obtain ⟨inner, h1, h2⟩ := hC.cells
      refine ⟨inner, h1, fun ad' h' j u hu => ?_⟩
      cases h'
      have := h2 j u hu
      rwa [show (⟨bb, off, none⟩ : Addr).add j = ⟨bb, off + j, none⟩ by unfold Addr.add; split <;> simp_all]
  have hnone : A = none → n = 0 ∧ n = 0 := fun h' => by
    rcases Nat.eq_zero_or_pos n with h0 | h0
    · exact ⟨h0, h0⟩
    · obtain ⟨_, _, h'', _⟩ := hC.2.2 h0; rw [h'] at h''; cases h''
  have hcl : cs.length = T.sz := T.len hp
  refine wpList_append_grows U hgd s x t ho e i0 z T.sz bytes ht hi hz0 hz1 hz2 hz hs0 A n n inner hs hnone (by rw [hr.1, hxl]) hcell ⟨b, 0, none⟩ 1 1 cs hx (by omega) (news_at hbox) (T.one hp) (by omega) (by simp only [maxLen]; omega) hl ?_
  intro v1 w1 hown hg
  have hb : Below U.heap.size U w1 := (Below.refl _ _).grown hg (Nat.le_refl _) (fun k hk => by cases hk)
  have hr1 := hr.snoc hp
  exact h v1 w1 ⟨inner ++ cs, by rw [List.length_append, hxl]; exact hown, ⟨hr1.1, fun j q hj => hT _ _ _ _ _ _ (hr1.2 j q hj)⟩, fun _ h => h.elim⟩ hb
/-- append(v, x), and there is room: in place. -/
theorem append_room (T : Ty α) (hT : T.Flat) {U : World} (hgd : o.guard = none) (s x : Operand) (t e : TypeId) (z : Value) (bytes : Nat)
    (ho : o.op = .call { callee := .builtin .append, args := #[s, x], argTypes := #[t, t] })
    (ht : P.underlying t = some (.slice e)) (hinfo : (P.info? e).map (fun i => (i.zero, i.size, i.bytes)) = some (some z, T.sz, bytes))
    (base g n c : Nat) (xs : List α) (p : α) (cs : List Value) (b : Nat) (hs : a.eval s = .slice (some ⟨g, 0, none⟩) n c) (hx : a.eval x = .slice (some ⟨b, 0, none⟩) 1 1)
    (hbox : U.heap[b]? = some (.cells cs.toArray e (0, 0))) (hp : T.rel U (fun _ => False) p cs) (HO : Mine T U base e (.slice (some ⟨g, 0, none⟩) n c) xs) (hn : xs.length = n) (hc : n < c)
    (h : ∀ w1, Mine T w1 base e (.slice (some ⟨g, 0, none⟩) (n + 1) c) (xs ++ [p]) → Below base U w1 → (∀ k, k < U.heap.size → k ≠ g → w1.heap[k]? = U.heap[k]?) → wpList P ops Q rest (a.put o.dst (.slice (some ⟨g, 0, none⟩) (n + 1) c)) w1) :
    wpList P ops Q (o :: rest) a U := by
  obtain ⟨i0, hi, hzz⟩ := Option.map_eq_some_iff.1 hinfo
  simp only [Prod.mk.injEq] at hzz
  obtain ⟨hz0, hz1, hz2⟩ := hzz
  obtain ⟨inner, hown, hC, _⟩ := HO
  have hgb : base ≤ g ∧ g < U.heap.size := by
    rcases hown.2 with ⟨h0, _⟩ | ⟨g', cap, cur, he, hb, hh, _⟩
    · cases h0
    · cases he; exact ⟨hb, blk_lt hh⟩
  have hcl : cs.length = T.sz := T.len hp
  rw [hn] at hown
  refine wpList_append_own_spare U hgd s x t ho base e i0 T.sz ht hi hz1 g n c inner hs hown ⟨b, 0, none⟩ 1 1 cs hx (by omega) (news_at hbox) (T.one hp) (by omega) ?_
  intro w1 hown1 hg
  have hr1 := hC.snoc (p := p) (hT _ U _ (fun _ => False) _ _ hp)
  exact h w1 ⟨inner ++ cs, by rw [List.length_append, hn]; exact hown1, ⟨hr1.1, fun j q hj => hT _ _ _ _ _ _ (hr1.2 j q hj)⟩, fun _ h => h.elim⟩ ⟨hg.os, hg.tape, hg.output, hg.size, fun k hk => hg.block k (by omega) (fun he => by cases he; omega)⟩ (fun k hk hne => hg.block k hk (fun he => hne (by cases he; rfl)))
/-- []T{}, in a block that has just been made. -/
theorem Mine.empty (T : Ty α) (w : World) {b n : Nat} (hn : w.heap.size = n) (hb : b ≤ n) : Mine T (w.alloc (.cells #[] e)) b e (.slice (some ⟨n, 0, none⟩) 0 0) [] := Own.empty_at T w e hn hb
end
end Go.Proofs.YtoambcpjdcehhaaGreat.Base
