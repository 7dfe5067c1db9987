/- What values read as, and which blocks that leans on; small laws on blocks, rows and appends. -/
import Derived.Test.YtoambcpjdcehhaaGreatCan
import Derived.Below
import Derived.Deep.AppendLies
import Derived.ArgAppend
import Derived.Laws.ResultCell
import Derived.Laws.BytesArg
import Derived.Laws.MakeOwn
import Derived.Laws.OwnMore
import Derived.Maps.AppendAt
import Derived.Laws.AppendOwnNone
import Derived.WalkKit
import Derived.Laws.StructEq
import Derived.WalkSpells
import Derived.Deep.LoopGhost
set_option linter.unusedVariables false
set_option linter.unusedSimpArgs false
set_option linter.unusedVariables false
namespace Go.Proofs.YtoambcpjdcehhaaGreat.Base
open Go Go.RowKit Go.Proofs.YtoambcpjdcehhaaGreat.Can

/-- A fact that the walk doesn't look into. -/
structure Hd (p : Prop) : Prop where mk :: (out : p)

theorem ret_bool {a b : Bool} (h : a = b) : Ending.returned (.bool a) = .returned (.bool b) := by rw [h]
theorem ret_int {k : IntKind} {a b : Int} (h : a = b) : Ending.returned (.int k a) = .returned (.int k b) := by rw [h]
theorem ret_str {a b : ByteArray} (h : a = b) : Ending.returned (.string a) = .returned (.string b) := by rw [h]
/-! ### Blocks -/
theorem blk_lt {w : World} {g : Nat} {o : Obj} (h : w.heap[g]? = some o) : g < w.heap.size := (Array.getElem?_eq_some_iff.1 h).1
theorem size_alloc (w : World) (o : Obj) : (w.alloc o).heap.size = w.heap.size + 1 := by
  show (w.heap.push o).size = _
  simp
theorem heap_drew (w : World) : w.drew.heap = w.heap := rfl
theorem size_drew (w : World) : w.drew.heap.size = w.heap.size := rfl
theorem size_set (w : World) (a : Addr) (v : Value) : (w.setCell a v).heap.size = w.heap.size := by simp [World.setCell]
theorem below_drewL {w W : World} (h : Below w.heap.size w W) : Below w.drew.heap.size w.drew W := ⟨h.os, h.tape, h.output, h.size, h.block⟩
theorem below_undrew {w W : World} (h : Below w.drew.heap.size w.drew W) : Below w.heap.size w W := ⟨h.os, h.tape, h.output, h.size, h.block⟩
theorem below_drewN {B : Nat} {w W : World} (h : Below B w W) (n : Nat) : Below B w (W.drewN n) := ⟨h.os, h.tape, h.output, h.size, h.block⟩
theorem below_drew1 {B : Nat} {w W : World} (h : Below B w W) : Below B w W.drew := ⟨h.os, h.tape, h.output, h.size, h.block⟩
theorem below_alloc {w W : World} (h : Below w.heap.size w W) (o : Obj) : Below w.heap.size w (W.alloc o) := h.alloc h.size o
/-- Two stretches, one behind the other. -/
theorem below_seq {a b c : World} (h : Below a.heap.size a b) (k : Below b.heap.size b c) : Below a.heap.size a c :=
  h.trans ⟨k.os, k.tape, k.output, k.size, fun i hi => k.block i (Nat.lt_of_lt_of_le hi h.size)⟩
theorem below_set {w W : World} (h : Below w.heap.size w W) {g : Nat} (hg : w.heap.size ≤ g) (i : Nat) (v : Value) : Below w.heap.size w (W.setCell ⟨g, i, none⟩ v) := h.setCell (p := ⟨g, i, none⟩) hg v
theorem blk_below {w w1 : World} {g : Nat} {o : Obj} (h : w.heap[g]? = some o) (hb : Below w.heap.size w w1) : w1.heap[g]? = some o := (hb.block g (blk_lt h)).trans h
theorem blk_alloc {w : World} {g : Nat} {o : Obj} (h : w.heap[g]? = some o) (o' : Obj) : (w.alloc o').heap[g]? = some o := (Below.heap_alloc w o' g (blk_lt h)).trans h
theorem blk_drew {w : World} {g : Nat} {o : Obj} (h : w.heap[g]? = some o) : w.drew.heap[g]? = some o := h
theorem blk_drewN {w : World} {g : Nat} {o : Obj} (h : w.heap[g]? = some o) (n : Nat) : (w.drewN n).heap[g]? = some o := h
theorem blk_new (w : World) (o : Obj) (k : Nat) (hk : k = w.heap.size) : (w.alloc o).heap[k]? = some o := by
  subst hk
  show (w.heap.push o)[w.heap.size]? = _
  simp
theorem blk_far {w : World} {g : Nat} {o : Obj} (h : w.heap[g]? = some o) {p : Addr} (hne : g ≠ p.block) (v : Value) : (w.setCell p v).heap[g]? = some o := (Below.heap_setCell w p v g hne).trans h
theorem blk_set {w : World} {g : Nat} {t : TypeId} {cs : Array Value} {fr : Nat × Nat} (h : w.heap[g]? = some (.cells cs t fr)) (i : Nat) (v : Value) (cs' : Array Value) (e : cs.setIfInBounds i v = cs') : (w.setCell ⟨g, i, none⟩ v).heap[g]? = some (.cells cs' t fr) := by
  subst e
  simp [World.setCell, Array.getElem?_modify, h]
theorem blk_cell {w : World} {g : Nat} {t : TypeId} {cs : Array Value} {fr : Nat × Nat} (h : w.heap[g]? = some (.cells cs t fr)) (i : Nat) (v : Value) (e : cs[i]? = some v) : w.cell? ⟨g, i, none⟩ = some v := by
  simp [World.cell?, h, e]
theorem blk_frozen {w : World} {g : Nat} {t : TypeId} {cs : Array Value} (h : w.heap[g]? = some (.cells cs t (0, 0))) (i : Nat) : w.frozen? ⟨g, i, none⟩ = false := by simp [World.frozen?, h]

theorem at_of {w W : World} (h : w = W) {k : Nat} {o : Obj} (hb : w.heap[k]? = some o) : W.heap[k]? = some o := h ▸ hb
theorem below_of {v w W : World} (h : w = W) (hb : Below v.heap.size v w) : Below v.heap.size v W := h ▸ hb

/-- '==' of structs whose fields are told by one Bool each. -/
theorem eq_struct {P : Program} {d : Nat} {t : TypeId} {fs : Array Field} {xs ys : Array Value} {r : Bool} {w : World} (hu : P.underlying t = some (.struct fs)) (hp : P.stoodInHeld t = false)
    (h : (Op.eqFields d xs ys fs.toList).run P w = .ok r w) : (Op.equalIn (d + 1) t (.agg xs) (.agg ys)).run P w = .ok r w := by
  have hf : P.fieldsOf t = fs := by simp [Program.fieldsOf, hu]
  rw [run_equalIn_struct (P := P) w d t xs ys (by rw [hf]; exact hu) hp, hf]
  exact h

/-! ### Kinds -/
structure Ty (α : Type) where
  sz : Nat
  rel : World → (Nat → Prop) → α → List Value → Prop
  len : ∀ {w S x cs}, rel w S x cs → cs.length = sz
  one : ∀ {w S x cs}, rel w S x cs → ∀ u ∈ cs, u.oneCell' = true
  move : ∀ {w w' : World} {S : Nat → Prop} {x cs}, (∀ b, S b → w'.heap[b]? = w.heap[b]?) → rel w S x cs → rel w' S x cs
  mono : ∀ {w : World} {S S' : Nat → Prop} {x cs}, (∀ b, S b → S' b) → rel w S x cs → rel w S' x cs
  bound : ∀ {w : World} {S : Nat → Prop} {x cs}, rel w S x cs → rel w (fun b => S b ∧ b < w.heap.size) x cs

/-- A row of elements that is read; S: the blocks that this leans on. -/
def Row {α : Type} (T : Ty α) (w : World) (S : Nat → Prop) (A : Option Addr) (n : Nat) (xs : List α) : Prop :=
  xs.length = n ∧ n ≤ 9223372036854775807 ∧
  (0 < n → ∃ b off, A = some ⟨b, off, none⟩ ∧ S b ∧ ∀ j p, xs[j]? = some p → ∃ c, T.rel w S p c ∧ ∀ i u, c[i]? = some u → w.cell? ⟨b, off + j * T.sz + i, none⟩ = some u)

section
variable {α : Type} {T : Ty α} {w w' : World} {S S' : Nat → Prop} {A : Option Addr} {n : Nat} {xs : List α}
theorem cell_move (hm : ∀ b, S b → w'.heap[b]? = w.heap[b]?) {b : Nat} (hb : S b) (o : Nat) : w'.cell? ⟨b, o, none⟩ = w.cell? ⟨b, o, none⟩ := World.cell?_of_block (w := w) (hm b hb)
theorem Row.move (h : Row T w S A n xs) (hm : ∀ b, S b → w'.heap[b]? = w.heap[b]?) : Row T w' S A n xs := by
  refine ⟨h.1, h.2.1, fun hn => ?_⟩
  obtain ⟨b, off, e, hs, hc⟩ := h.2.2 hn
  refine ⟨b, off, e, hs, fun j p hj => ?_⟩
  obtain ⟨c, hr, hcell⟩ := hc j p hj
  exact ⟨c, T.move hm hr, fun i u hu => (cell_move hm hs _).trans (hcell i u hu)⟩
theorem Row.mono (h : Row T w S A n xs) (hs : ∀ b, S b → S' b) : Row T w S' A n xs := by
  refine ⟨h.1, h.2.1, fun hn => ?_⟩
  obtain ⟨b, off, e, hb, hc⟩ := h.2.2 hn
  refine ⟨b, off, e, hs b hb, fun j p hj => ?_⟩
  obtain ⟨c, hr, hcell⟩ := hc j p hj
  exact ⟨c, T.mono hs hr, hcell⟩
theorem Row.bound (hz : 0 < T.sz) (h : Row T w S A n xs) : Row T w (fun b => S b ∧ b < w.heap.size) A n xs := by
  refine ⟨h.1, h.2.1, fun hn => ?_⟩
  obtain ⟨b, off, e, hs, hc⟩ := h.2.2 hn
  have hlt : b < w.heap.size := by
    have h0 : 0 < xs.length := by have := h.1; omega
    obtain ⟨c, hr, hcell⟩ := hc 0 _ (List.getElem?_eq_getElem h0)
    have hl := T.len hr
    have h1 : 0 < c.length := by omega
    exact World.block_lt_of_cell? w _ (hcell 0 _ (List.getElem?_eq_getElem h1))
  refine ⟨b, off, e, ⟨hs, hlt⟩, fun j p hj => ?_⟩
  obtain ⟨c, hr, hcell⟩ := hc j p hj
  exact ⟨c, T.bound hr, hcell⟩
theorem Row.below (h : Row T w S A n xs) (hS : ∀ b, S b → b < w.heap.size) (hb : Below w.heap.size w w') : Row T w' S A n xs := h.move fun b hs => hb.block b (hS b hs)
theorem Row.set (h : Row T w S A n xs) {g i : Nat} (hS : ∀ b, S b → b ≠ g) (v : Value) : Row T (w.setCell ⟨g, i, none⟩ v) S A n xs := h.move fun b hs => Below.heap_setCell w ⟨g, i, none⟩ v b (hS b hs)
theorem Row.nil (T : Ty α) (w : World) (S : Nat → Prop) (A : Option Addr) : Row T w S A 0 [] := ⟨rfl, by omega, fun h => by omega⟩
theorem Row.some_of (h : Row T w S A n xs) (hn : 0 < n) : A ≠ none := by
  obtain ⟨b, off, rfl, _⟩ := h.2.2 hn
  simp
theorem Row.le (h : Row T w S A n xs) : n ≤ 9223372036854775807 := h.2.1
theorem Row.get (h : Row T w S A n xs) (k : Nat) (hk : k < n) : ∃ b off c, A = some ⟨b, off, none⟩ ∧ S b ∧ T.rel w S (xs[k]'(by have := h.1; omega)) c ∧ ∀ i u, c[i]? = some u → w.cell? ⟨b, off + k * T.sz + i, none⟩ = some u := by
  obtain ⟨b, off, e, hs, hc⟩ := h.2.2 (by omega)
  obtain ⟨c, hr, hcell⟩ := hc k _ (List.getElem?_eq_getElem (by have := h.1; omega))
  exact ⟨b, off, c, e, hs, hr, hcell⟩
theorem Row.take (h : Row T w S A n xs) (m : Nat) (hm : m ≤ n) : Row T w S A m (xs.take m) := by
  refine ⟨by rw [List.length_take, h.1]; omega, by have := h.2.1; omega, fun hn => ?_⟩
  obtain ⟨b, off, e, hs, hc⟩ := h.2.2 (by omega)
  refine ⟨b, off, e, hs, fun j p hj => hc j p ?_⟩
  rw [List.getElem?_take] at hj
  split at hj
  · exact hj
  · cases hj
theorem Row.drop (h : Row T w S A n xs) (m c : Nat) (hm : m ≤ n) (hc : n ≤ c) : Row T w S (if c = m then A else A.map (·.add (m * T.sz))) (n - m) (xs.drop m) := by
  refine ⟨by rw [List.length_drop, h.1], by have := h.2.1; omega, fun hn => ?_⟩
  obtain ⟨b, off, rfl, hs, hcell⟩ := h.2.2 (by omega)
  rw [if_neg (by omega)]
  refine ⟨b, off + m * T.sz, ?_, hs, fun j p hj => ?_⟩
  · simp only [Option.map_some, Option.some.injEq]
    unfold Addr.add
    split <;> simp_all
  · rw [List.getElem?_drop] at hj
    obtain ⟨cs, h1, h2⟩ := hcell (m + j) p hj
    refine ⟨cs, h1, fun i u hu => ?_⟩
    have := h2 i u hu
    rwa [show off + m * T.sz + j * T.sz + i = off + (m + j) * T.sz + i by rw [Nat.add_mul]; omega]
end

/-- Plain values: their cells say all. -/
def Ty.flat {α : Type} (sz : Nat) (enc : α → List Value) (h : ∀ x, (enc x).length = sz) (h1 : ∀ x, ∀ u ∈ enc x, u.oneCell' = true) : Ty α where
  sz := sz
  rel := fun _ _ x cs => cs = enc x
  len := fun e => by rw [e]; exact h _
  one := fun e => by rw [e]; exact h1 _
  move := fun _ e => e
  mono := fun _ e => e
  bound := fun e => e
def Ty.int (k : IntKind) : Ty Int := Ty.flat 1 (fun n => [.int k n]) (fun _ => rfl) (fun _ u hu => by rw [List.mem_singleton.1 hu]; rfl)
def Ty.bool : Ty Bool := Ty.flat 1 (fun n => [.bool n]) (fun _ => rfl) (fun _ u hu => by rw [List.mem_singleton.1 hu]; rfl)
def Ty.str : Ty ByteArray := Ty.flat 1 (fun n => [.string n]) (fun _ => rfl) (fun _ u hu => by rw [List.mem_singleton.1 hu]; rfl)
/-- A slice of such. -/
def Ty.slice {α : Type} (T : Ty α) (hz : 0 < T.sz) : Ty (List α) where
  sz := 1
  rel := fun w S xs cs => ∃ A c, cs = [.slice A xs.length c] ∧ xs.length ≤ c ∧ (A = none → c = 0) ∧ Row T w S A xs.length xs
  len := by rintro w S x cs ⟨A, c, rfl, _⟩; rfl
  one := by rintro w S x cs ⟨A, c, rfl, _⟩ u hu; rw [List.mem_singleton.1 hu]; rfl
  move := by rintro w w' S x cs hm ⟨A, c, e, hl, hn, hr⟩; exact ⟨A, c, e, hl, hn, hr.move hm⟩
  mono := by rintro w S S' x cs hm ⟨A, c, e, hl, hn, hr⟩; exact ⟨A, c, e, hl, hn, hr.mono hm⟩
  bound := by rintro w S x cs ⟨A, c, e, hl, hn, hr⟩; exact ⟨A, c, e, hl, hn, hr.bound hz⟩
/-- Two in line. -/
def Ty.pair {α β : Type} (a : Ty α) (b : Ty β) : Ty (α × β) where
  sz := a.sz + b.sz
  rel := fun w S x cs => ∃ c0 c1, cs = c0 ++ c1 ∧ a.rel w S x.1 c0 ∧ b.rel w S x.2 c1
  len := by rintro w S x cs ⟨c0, c1, rfl, h0, h1⟩; rw [List.length_append, a.len h0, b.len h1]
  one := by
    rintro w S x cs ⟨c0, c1, rfl, h0, h1⟩ u hu
    rcases List.mem_append.1 hu with hu | hu
    · exact a.one h0 u hu
    · exact b.one h1 u hu
  move := by rintro w w' S x cs hm ⟨c0, c1, e, h0, h1⟩; exact ⟨c0, c1, e, a.move hm h0, b.move hm h1⟩
  mono := by rintro w S S' x cs hm ⟨c0, c1, e, h0, h1⟩; exact ⟨c0, c1, e, a.mono hm h0, b.mono hm h1⟩
  bound := by rintro w S x cs ⟨c0, c1, e, h0, h1⟩; exact ⟨c0, c1, e, a.bound h0, b.bound h1⟩
/-- A Lean structure by its fields. -/
def Ty.iso {α β : Type} (d : Ty α) (f : β → α) : Ty β where
  sz := d.sz
  rel := fun w S x cs => d.rel w S (f x) cs
  len := d.len
  one := d.one
  move := d.move
  mono := d.mono
  bound := d.bound

/-! ### Rows of the call's own, read -/
section
variable {α : Type} {T : Ty α} {w : World} {S : Nat → Prop} {base n : Nat} {e : TypeId} {v : Value} {xs : List α} {inner : List Value}
/-- The cells of some values, one behind the other. -/
def Cells {α : Type} (T : Ty α) (w : World) (S : Nat → Prop) (xs : List α) (cs : List Value) : Prop := cs.length = xs.length * T.sz ∧ ∀ j p, xs[j]? = some p → T.rel w S p ((cs.drop (j * T.sz)).take T.sz)
theorem Cells.nil : Cells T w S [] [] := ⟨by simp, fun j p h => by simp at h⟩
theorem Cells.mono {S' : Nat → Prop} {cs : List Value} (h : Cells T w S xs cs) (hs : ∀ b, S b → S' b) : Cells T w S' xs cs := ⟨h.1, fun j p hj => T.mono hs (h.2 j p hj)⟩
theorem Cells.move {w' : World} {cs : List Value} (h : Cells T w S xs cs) (hm : ∀ b, S b → w'.heap[b]? = w.heap[b]?) : Cells T w' S xs cs := ⟨h.1, fun j p hj => T.move hm (h.2 j p hj)⟩
theorem Cells.snoc {cs c : List Value} {p : α} (h : Cells T w S xs cs) (hp : T.rel w S p c) : Cells T w S (xs ++ [p]) (cs ++ c) := by
  have hc := T.len hp
  refine ⟨by rw [List.length_append, h.1, hc, List.length_append, List.length_singleton, Nat.add_mul, Nat.one_mul], fun j q hq => ?_⟩
  rcases Nat.lt_or_ge j xs.length with hj | hj
  · rw [List.getElem?_append_left hj] at hq
    have h1 : j * T.sz + T.sz ≤ cs.length := by rw [h.1, ← Nat.succ_mul]; exact Nat.mul_le_mul_right _ hj
    have h2 := h.2 j q hq
    rw [List.drop_append_of_le_length (by omega), List.take_append_of_le_length (by rw [List.length_drop]; omega)]
    exact h2
  · rw [List.getElem?_append_right hj] at hq
    have hj0 : j - xs.length = 0 := by
      rcases Nat.eq_zero_or_pos (j - xs.length) with h0 | h0
      · exact h0
      · rw [List.getElem?_eq_none (by simp; omega)] at hq; cases hq
    rw [hj0] at hq
    simp at hq
    subst hq
    have hje : j = xs.length := by omega
    subst hje
    rw [← h.1, List.drop_left, ← hc, List.take_length]
    exact hp
theorem Row.cells {b off : Nat} (h : Row T w S (some ⟨b, off, none⟩) n xs) : ∃ cs, Cells T w S xs cs ∧ ∀ j u, cs[j]? = some u → w.cell? ⟨b, off + j, none⟩ = some u := by
  have key : ∀ m, m ≤ xs.length → ∃ cs, Cells T w S (xs.take m) cs ∧ ∀ j u, cs[j]? = some u → w.cell? ⟨b, off + j, none⟩ = some u := by
    intro m
    induction m with
    | zero => exact fun _ => ⟨[], by simpa using Cells.nil, fun j u hu => by simp at hu⟩
    | succ m ih =>
      intro hm
      obtain ⟨cs, hr, hc⟩ := ih (by omega)
      obtain ⟨b', off', c, he, _, hp, hcc⟩ := h.get m (by have := h.1; omega)
      simp only [Option.some.injEq, Addr.mk.injEq, and_true] at he
      obtain ⟨rfl, rfl⟩ := he
      refine ⟨cs ++ c, ?_, fun j u hu => ?_⟩
      · rw [List.take_succ_eq_append_getElem (show m < xs.length by omega)]
        exact hr.snoc hp
      · have hil : cs.length = m * T.sz := by rw [hr.1, List.length_take, Nat.min_eq_left (by omega)]
        rcases Nat.lt_or_ge j cs.length with hj | hj
        · rw [List.getElem?_append_left hj] at hu
          exact hc j u hu
        · rw [List.getElem?_append_right hj] at hu
          have := hcc (j - cs.length) u hu
          rwa [Nat.add_assoc, ← hil, Nat.add_sub_cancel' (by omega)] at this
  obtain ⟨cs, h1, h2⟩ := key xs.length (Nat.le_refl _)
  rw [List.take_length] at h1
  exact ⟨cs, h1, h2⟩
theorem Cells.row {b off : Nat} {cs : List Value} (h : Cells T w S xs cs) (hb : S b) (hn : xs.length ≤ 9223372036854775807) (hc : ∀ j u, cs[j]? = some u → w.cell? ⟨b, off + j, none⟩ = some u) : Row T w S (some ⟨b, off, none⟩) xs.length xs := by
  refine ⟨rfl, hn, fun _ => ⟨b, off, rfl, hb, fun j p hj => ⟨_, h.2 j p hj, fun i u hu => ?_⟩⟩⟩
  have hi : i < T.sz := by
    have := (List.getElem?_eq_some_iff.1 hu).1
    rw [List.length_take] at this
    omega
  rw [List.getElem?_take, if_pos hi, List.getElem?_drop] at hu
  rw [Nat.add_assoc]
  exact hc _ u hu
theorem row_of_own (h : w.ownsRow base e T.sz v n inner) (hR : Cells T w S xs inner) (hn : xs.length = n) (hS : ∀ k, v.ownBlock = some k → S k) :
    ∃ A c, v = .slice A n c ∧ n ≤ c ∧ Row T w S A n xs := by
  subst hn
  rcases h.2 with ⟨rfl, h0⟩ | ⟨g, cap, cur, rfl, _, hh, hcap, hm, hcs, ht⟩
  · rw [h0]
    obtain rfl := List.eq_nil_of_length_eq_zero h0
    exact ⟨none, 0, rfl, Nat.le_refl _, Row.nil _ _ _ _⟩
  · refine ⟨_, cap, rfl, hcap, hR.row (hS g (by simp [Value.ownBlock])) (by simp only [maxLen] at hm; omega) fun j u hu => ?_⟩
    rw [Nat.zero_add]
    refine blk_cell hh j u ?_
    rw [← ht, List.getElem?_take] at hu
    split at hu
    · simpa using hu
    · cases hu
end

/-- xs[m:], its address under one name. -/
theorem cut_from {α : Type} {P : Program} (T : Ty α) (t e : TypeId) {i : TypeInfo} (ht : P.underlying t = some (.slice e)) (hi : P.info? e = some i) (hsz : i.size = T.sz) (A : Option Addr) (n c m : Nat) (hm : m ≤ n) (hc : n ≤ c) :
    ∃ A' : Option Addr, (∀ (W : World) (kl : IntKind), (Instr.slice t (.slice A n c) (some (.int kl (m : Int))) none none).run P W = .ok (.slice A' (n - m) (c - m)) W) ∧ (∀ (w : World) (S : Nat → Prop) (xs : List α), Row T w S A n xs → Row T w S A' (n - m) (xs.drop m)) ∧ ((A = none → c = 0) → A' = none → c - m = 0) := by
  refine ⟨if c = m then A else A.map (·.add (m * T.sz)), fun W kl => ?_, fun w S xs h => h.drop m c hm hc, fun h h' => ?_⟩
  · have hel : P.elem t = e := by simp [Program.elem, ht]
    have hu : P.underlying t = some (.slice (P.elem t)) := by rw [hel]; exact ht
    rw [run_slice_l W t A n c hu kl m (by omega) (by omega), hel]
    simp [sizeOf, typeInfo, hi, hsz, sliced, Result.andThen]
  · split at h'
    · omega
    · cases A with
      | none => have := h rfl; omega
      | some a => simp at h'

/-! ### append -/
section
variable {P : Program} {ops : Array Oper} {rest : List Oper} {o : Oper} {a : Act} {Q : Exit → Act → World → Prop} {α : Type}
theorem news_at {w : World} {b : Nat} {cs : List Value} {t : TypeId} {fr : Nat × Nat} (hb : w.heap[b]? = some (.cells cs.toArray t fr)) (j : Nat) (u : Value) (hu : cs[j]? = some u) : w.cell? ((⟨b, 0, none⟩ : Addr).add j) = some u :=
  World.news_of_block (cs := cs.toArray) hb j u (by simpa using hu)
theorem info_of {P : Program} {e : TypeId} {z : Option Value} {s b : Nat} (h : (P.info? e).map (fun i => (i.zero, i.size, i.bytes)) = some (z, s, b)) : ∃ i, P.info? e = some i ∧ i.zero = z ∧ i.size = s ∧ i.bytes = b := by
  obtain ⟨i0, hi, hzz⟩ := Option.map_eq_some_iff.1 h
  simp only [Prod.mk.injEq] at hzz
  exact ⟨i0, hi, hzz⟩
/-- append(xs[:n:n], x): there is no room: what comes of it lies in new memory. -/
theorem append_full (T : Ty α) {U : World} {S : Nat → Prop} (hgd : o.guard = none) (s x : Operand) (t e : TypeId) (z : Value) (bytes : Nat)
    (ho : o.op = .call { callee := .builtin .append, args := #[s, x], argTypes := #[t, t] })
    (ht : P.underlying t = some (.slice e)) (hinfo : (P.info? e).map (fun i => (i.zero, i.size, i.bytes)) = some (some z, T.sz, bytes)) (hz : z.cells.size = T.sz) (hs0 : 0 < T.sz) (hb0 : 0 < bytes)
    (A : Option Addr) (n : Nat) (xs : List α) (p : α) (cs : List Value) (b : Nat) (hs : a.eval s = .slice A n n) (hx : a.eval x = .slice (some ⟨b, 0, none⟩) 1 1)
    (hbox : U.heap[b]? = some (.cells cs.toArray e (0, 0))) (hC : Row T U S A n xs) (hp : T.rel U S p cs) (hl : (n + 1) * bytes ≤ 140737488355328)
    (h : ∀ A1 c1 w1, n + 1 ≤ c1 → Row T w1 (fun k => (S k ∧ k < U.heap.size) ∨ (U.heap.size ≤ k ∧ k < w1.heap.size)) A1 (n + 1) (xs ++ [p]) → Below U.heap.size U w1 → wpList P ops Q rest (a.put o.dst (.slice A1 (n + 1) c1)) w1) :
    wpList P ops Q (o :: rest) a U := by
  obtain ⟨i0, hi, hzz⟩ := Option.map_eq_some_iff.1 hinfo
  simp only [Prod.mk.injEq] at hzz
  obtain ⟨hz0, hz1, hz2⟩ := hzz
  have hlen : n + 1 ≤ 140737488355328 := Nat.le_trans (Nat.le_mul_of_pos_right _ hb0) hl
  have hxl : xs.length = n := hC.1
  have hC' := hC.bound hs0
  have hp' := T.bound hp
  obtain ⟨inner, hr, hcell⟩ : ∃ inner, Cells T U (fun k => S k ∧ k < U.heap.size) xs inner ∧ ∀ ad, A = some ad → ∀ j u, inner[j]? = some u → U.cell? (ad.add j) = some u := by
    rcases Nat.eq_zero_or_pos n with h0 | h0
    · obtain rfl : xs = [] := List.eq_nil_of_length_eq_zero (by omega)
      exact ⟨[], Cells.nil, fun ad _ j u hu => by simp at hu⟩
    · obtain ⟨bb, off, rfl, _⟩ := hC'.2.2 h0
      obtain ⟨inner, h1, h2⟩ := hC'.cells
      refine ⟨inner, h1, fun ad' h' j u hu => ?_⟩
      cases h'
      have := h2 j u hu
      rwa [show (⟨bb, off, none⟩ : Addr).add j = ⟨bb, off + j, none⟩ by unfold Addr.add; split <;> simp_all]
  have hnone : A = none → n = 0 ∧ n = 0 := fun h' => by
    rcases Nat.eq_zero_or_pos n with h0 | h0
    · exact ⟨h0, h0⟩
    · obtain ⟨_, _, h'', _⟩ := hC.2.2 h0; rw [h'] at h''; cases h''
  have hcl : cs.length = T.sz := T.len hp
  refine wpList_append_grows U hgd s x t ho e i0 z T.sz bytes ht hi hz0 hz1 hz2 hz hs0 A n n inner hs hnone (by rw [hr.1, hxl]) hcell ⟨b, 0, none⟩ 1 1 cs hx (by omega) (news_at hbox) (T.one hp) (by omega) (by simp only [maxLen]; omega) hl ?_
  intro v1 w1 hown hg
  have hb : Below U.heap.size U w1 := (Below.refl _ _).grown hg (Nat.le_refl _) (fun k hk => by cases hk)
  have hr1 : Cells T w1 (fun k => (S k ∧ k < U.heap.size) ∨ (U.heap.size ≤ k ∧ k < w1.heap.size)) (xs ++ [p]) (inner ++ cs) :=
    ((hr.snoc hp').move (fun k hk => hb.block k hk.2)).mono (fun _ hk => .inl hk)
  obtain ⟨A1, c1, rfl, hc1, hC1⟩ := row_of_own hown hr1 (by simp [hxl]) (fun k hk => by
    rcases hown.2 with ⟨rfl, h0⟩ | ⟨g, cap, cur, rfl, hbg, hh, _⟩
    · simp [Value.ownBlock] at hk
    · have : g = k := by simpa [Value.ownBlock] using hk
      subst this
      exact .inr ⟨hbg, blk_lt hh⟩)
  exact h A1 c1 w1 hc1 hC1 hb
end
theorem ownBlock_ne {n k o a b : Nat} (h : k < n) : (Value.slice (some ⟨n, o, none⟩) a b).ownBlock ≠ some k := fun he => by
  simp [Value.ownBlock] at he; omega
theorem ownBlock_eq {n k o a b : Nat} (h : (Value.slice (some ⟨n, o, none⟩) a b).ownBlock = some k) : n = k := by
  simpa [Value.ownBlock] using h
/-! ### A row of the call's own that is appended to -/
/-- v owns a row (in a block from base on) whose elements are xs; S: what the elements lean on. -/
def Own {α : Type} (T : Ty α) (w : World) (base : Nat) (e : TypeId) (S : Nat → Prop) (v : Value) (xs : List α) : Prop :=
  ∃ inner, w.ownsRow base e T.sz v xs.length inner ∧ Cells T w S xs inner ∧ ∀ k, S k → k < w.heap.size ∧ v.ownBlock ≠ some k
section
variable {α : Type} {T : Ty α} {w w' : World} {S : Nat → Prop} {base : Nat} {e : TypeId} {v : Value} {xs : List α}
theorem Own.nil (T : Ty α) (w : World) (base : Nat) (e : TypeId) : Own T w base e (fun _ => False) (.slice none 0 0) [] := ⟨[], World.ownsRow_nil _ _ _ _, Cells.nil, fun _ h => h.elim⟩
/-- A literal, in a block of its own. -/
theorem Own.lit {cs : List Value} (hc : Cells T w S xs cs) (hb : base ≤ w.heap.size) (hm : xs.length ≤ 9223372036854775807) (hS : ∀ k, S k → k < w.heap.size) : Own T (w.alloc (.cells cs.toArray e)) base e S (.slice (some ⟨w.heap.size, 0, none⟩) xs.length xs.length) xs :=
  ⟨cs, by
    have h := World.ownsRow_lit (base := base) (e := e) (size := T.sz) w cs.toArray xs.length hb (by simpa [maxLen] using hm) (by simpa using hc.1)
    simpa using h, hc.move (fun k hk => Below.heap_alloc w _ k (hS k hk)), fun k hk => ⟨by rw [size_alloc]; have := hS k hk; omega, fun he => by simp [Value.ownBlock] at he; have := hS k hk; omega⟩⟩
theorem Own.empty (T : Ty α) (w : World) (e : TypeId) (hb : base ≤ w.heap.size) : Own T (w.alloc (.cells #[] e)) base e (fun _ => False) (.slice (some ⟨w.heap.size, 0, none⟩) 0 0) [] := Own.lit (cs := []) Cells.nil hb (by simp) (fun _ h => h.elim)
theorem Own.empty_at (T : Ty α) (w : World) (e : TypeId) {n : Nat} (hn : w.heap.size = n) (hb : base ≤ n) : Own T (w.alloc (.cells #[] e)) base e (fun _ => False) (.slice (some ⟨n, 0, none⟩) 0 0) [] := by
  subst hn; exact Own.empty T w e hb
theorem Own.lt (h : Own T w base e S v xs) {k : Nat} (hk : v.ownBlock = some k) : k < w.heap.size ∧ base ≤ k := by
  obtain ⟨inner, ho, _, _⟩ := h
  rcases ho.2 with ⟨rfl, _⟩ | ⟨g, cap, cur, rfl, hb, hh, _⟩
  · simp [Value.ownBlock] at hk
  · have : g = k := by simpa [Value.ownBlock] using hk
    subst this
    exact ⟨blk_lt hh, hb⟩
theorem Own.form (h : Own T w base e S v xs) : ∃ A c, v = .slice A xs.length c ∧ xs.length ≤ c ∧ (A = none → c = 0) ∧ Row T w (fun k => S k ∨ v.ownBlock = some k) A xs.length xs := by
  obtain ⟨inner, ho, hc, hs⟩ := h
  obtain ⟨A, c, rfl, hle, hr⟩ := row_of_own (S := fun k => S k ∨ v.ownBlock = some k) ho (hc.mono fun _ h => .inl h) rfl (fun k hk => .inr hk)
  refine ⟨A, c, rfl, hle, fun hA => ?_, hr⟩
  subst hA
  rcases ho.2 with ⟨h1, h2⟩ | ⟨g, cap, cur, h1, _⟩
  · injection h1
  · injection h1 with h1; cases h1
/-- Other blocks have been written. -/
theorem Own.move (h : Own T w base e S v xs) (hm : ∀ k, (S k ∨ v.ownBlock = some k) → w'.heap[k]? = w.heap[k]?) (hz : w.heap.size ≤ w'.heap.size) : Own T w' base e S v xs := by
  obtain ⟨inner, ho, hc, hs⟩ := h
  refine ⟨inner, ⟨ho.1, ?_⟩, hc.move fun k hk => hm k (.inl hk), fun k hk => ⟨Nat.lt_of_lt_of_le (hs k hk).1 hz, (hs k hk).2⟩⟩
  rcases ho.2 with h2 | ⟨g, cap, cur, rfl, hg, hh, r⟩
  · exact .inl h2
  · exact .inr ⟨g, cap, cur, rfl, hg, (hm g (.inr rfl)).trans hh, r⟩
theorem Own.below (h : Own T w base e S v xs) (hb : Below w.heap.size w w') : Own T w' base e S v xs :=
  h.move (fun k hk => hb.block k (by
    rcases hk with hk | hk
    · obtain ⟨_, _, _, hs⟩ := h; exact (hs k hk).1
    · exact (h.lt hk).1)) hb.size
theorem Own.set (h : Own T w base e S v xs) {g i : Nat} (hg : ∀ k, (S k ∨ v.ownBlock = some k) → k ≠ g) (u : Value) : Own T (w.setCell ⟨g, i, none⟩ u) base e S v xs :=
  h.move (fun k hk => Below.heap_setCell w ⟨g, i, none⟩ u k (hg k hk)) (by rw [size_set]; exact Nat.le_refl _)
theorem Own.lower {b : Nat} (h : Own T w base e S v xs) (hb : b ≤ base) : Own T w b e S v xs := by
  obtain ⟨inner, ho, hc, hs⟩ := h
  refine ⟨inner, ⟨ho.1, ?_⟩, hc, hs⟩
  rcases ho.2 with h2 | ⟨g, cap, cur, h1, hg, r⟩
  · exact .inl h2
  · exact .inr ⟨g, cap, cur, h1, by omega, r⟩
end
section
variable {P : Program} {ops : Array Oper} {rest : List Oper} {o : Oper} {a : Act} {Q : Exit → Act → World → Prop} {α : Type}
/-- append(v, ys...) -/
theorem append_own (T : Ty α) {U : World} {S S' : Nat → Prop} (hgd : o.guard = none) (s x : Operand) (t e : TypeId) (z : Value) (bytes : Nat)
    (ho : o.op = .call { callee := .builtin .append, args := #[s, x], argTypes := #[t, t] })
    (ht : P.underlying t = some (.slice e)) (hinfo : (P.info? e).map (fun i => (i.zero, i.size, i.bytes)) = some (some z, T.sz, bytes)) (hz : z.cells.size = T.sz) (hs0 : 0 < T.sz) (hb0 : 0 < bytes)
    (base : Nat) (v : Value) (xs ys : List α) (A : Option Addr) (m c : Nat) (hs : a.eval s = v) (hx : a.eval x = .slice A m c) (hA : A = none → c = 0)
    (HO : Own T U base e S v xs) (HR : Row T U S' A m ys) (hS' : ∀ k, S' k → k < U.heap.size ∧ v.ownBlock ≠ some k) (hbase : base ≤ U.heap.size) (hl : (xs.length + m) * bytes ≤ 140737488355328)
    (h : ∀ v1 w1, Own T w1 base e (fun k => S k ∨ S' k) v1 (xs ++ ys) → U.grownBy w1 v.ownBlock → (v1.ownBlock = v.ownBlock ∨ v1.ownBlock = some U.heap.size) → wpList P ops Q rest (a.put o.dst v1) w1) :
    wpList P ops Q (o :: rest) a U := by
  obtain ⟨i0, hi, hzz⟩ := Option.map_eq_some_iff.1 hinfo
  simp only [Prod.mk.injEq] at hzz
  obtain ⟨hz0, hz1, hz2⟩ := hzz
  have hlen : xs.length + m ≤ 140737488355328 := Nat.le_trans (Nat.le_mul_of_pos_right _ hb0) hl
  obtain ⟨inner, hown, hc, hSk⟩ := HO
  have hyl : ys.length = m := HR.1
  rcases A with _ | ad
  · obtain rfl := hA rfl
    have hm0 : m = 0 := by
      rcases Nat.eq_zero_or_pos m with h0 | h0
      · exact h0
      · obtain ⟨_, _, h', _⟩ := HR.2.2 h0; cases h'
    subst hm0
    obtain rfl : ys = [] := List.eq_nil_of_length_eq_zero hyl
    refine wpList_plain hgd fun K hK => ?_
    have hrun := run_append_owned_none (P := P) (w := U) base t o.type e i0 T.sz ht hi v xs.length inner hown
    unfold Oper.wp
    simp only [execOp, ho, resolve, invoke, builtin, Sem.run_bind, Sem.run_pure, Result.andThen_ok, List.map_toArray, List.map_cons, List.map_nil, hs, hx, hrun]
    refine hK _ _ (h v U ⟨inner, by simpa using hown, by simpa using hc.mono fun _ h => .inl h, fun k hk => ?_⟩ ⟨rfl, rfl, rfl, Nat.le_refl _, fun _ _ _ => rfl⟩ (.inl rfl))
    rcases hk with hk | hk
    · exact hSk k hk
    · exact hS' k hk
  · obtain ⟨news, hn1, hn2⟩ : ∃ news, Cells T U S' ys news ∧ ∀ j u, news[j]? = some u → U.cell? (ad.add j) = some u := by
      rcases Nat.eq_zero_or_pos m with h0 | h0
      · obtain rfl : ys = [] := List.eq_nil_of_length_eq_zero (by omega)
        exact ⟨[], Cells.nil, fun j u hu => by simp at hu⟩
      · obtain ⟨bb, off, he, _⟩ := HR.2.2 h0
        cases he
        obtain ⟨news, h1, h2⟩ := HR.cells
        refine ⟨news, h1, fun j u hu => ?_⟩
        have := h2 j u hu
        rwa [show (⟨bb, off, none⟩ : Addr).add j = ⟨bb, off + j, none⟩ by unfold Addr.add; split <;> simp_all]
    have hone : ∀ u ∈ news, u.oneCell' = true := fun u hu => by
      obtain ⟨j, hj, rfl⟩ := List.mem_iff_getElem.1 hu
      have hq : j / T.sz < ys.length := by rw [hn1.1] at hj; exact Nat.div_lt_of_lt_mul (by rwa [Nat.mul_comm] at hj)
      have hr := hn1.2 (j / T.sz) _ (List.getElem?_eq_getElem hq)
      refine T.one hr _ ?_
      have hmod : j % T.sz < T.sz := Nat.mod_lt _ hs0
      have hidx : ((news.drop (j / T.sz * T.sz)).take T.sz)[j % T.sz]? = some news[j] := by
        rw [List.getElem?_take, if_pos hmod, List.getElem?_drop, Nat.div_add_mod' j T.sz, List.getElem?_eq_getElem hj]
      exact List.mem_of_getElem? hidx
    refine wpList_append_own_at U hgd s x t ho base e i0 z T.sz bytes ht hi hz0 hz1 hz2 hz hs0 v xs.length inner hs hown ad m c news hx (by rw [hn1.1, hyl]) hn2 hone (by simp only [maxLen]; omega) hl hbase ?_
    intro v1 w1 hown1 hg _ hat
    have hlen1 : (xs ++ ys).length = xs.length + m := by rw [List.length_append, hyl]
    have mv : ∀ k, S k ∨ S' k → w1.heap[k]? = U.heap[k]? := fun k hk => by
      have hk' : k < U.heap.size ∧ v.ownBlock ≠ some k := by
        rcases hk with hk | hk
        · exact hSk k hk
        · exact hS' k hk
      exact hg.block k hk'.1 (fun he => hk'.2 he.symm)
    refine h v1 w1 ⟨inner ++ news, by rw [hlen1]; exact hown1, ?_, fun k hk => ?_⟩ hg hat
    · refine Cells.move ?_ mv
      have h1 := hc.mono (S' := fun k => S k ∨ S' k) (fun _ h => .inl h)
      have h2 := hn1.mono (S' := fun k => S k ∨ S' k) (fun _ h => .inr h)
      refine ⟨by rw [List.length_append, h1.1, h2.1, List.length_append, Nat.add_mul], fun j p hj => ?_⟩
      rcases Nat.lt_or_ge j xs.length with hlt | hge
      · rw [List.getElem?_append_left hlt] at hj
        have h3 : j * T.sz + T.sz ≤ inner.length := by rw [h1.1, ← Nat.succ_mul]; exact Nat.mul_le_mul_right _ hlt
        rw [List.drop_append_of_le_length (by omega), List.take_append_of_le_length (by rw [List.length_drop]; omega)]
        exact h1.2 j p hj
      · rw [List.getElem?_append_right hge] at hj
        have h3 := h2.2 _ p hj
        have he : (inner ++ news).drop (j * T.sz) = news.drop ((j - xs.length) * T.sz) := by
          rw [List.drop_append, List.drop_eq_nil_of_le (by rw [h1.1]; exact Nat.mul_le_mul_right _ hge), List.nil_append, h1.1, ← Nat.sub_mul]
        rw [he]
        exact h3
    · have hk' : k < U.heap.size ∧ v.ownBlock ≠ some k := by
        rcases hk with hk | hk
        · exact hSk k hk
        · exact hS' k hk
      refine ⟨Nat.lt_of_lt_of_le hk'.1 hg.size, fun he => ?_⟩
      rcases hat with hat | hat
      · exact hk'.2 (hat.symm.trans he)
      · rw [hat] at he; injection he with he; omega
/-- append(v, y), y in a block of its own. -/
theorem append_one (T : Ty α) {U : World} {S S' : Nat → Prop} (hgd : o.guard = none) (s x : Operand) (t e : TypeId) (z : Value) (bytes : Nat)
    (ho : o.op = .call { callee := .builtin .append, args := #[s, x], argTypes := #[t, t] })
    (ht : P.underlying t = some (.slice e)) (hinfo : (P.info? e).map (fun i => (i.zero, i.size, i.bytes)) = some (some z, T.sz, bytes)) (hz : z.cells.size = T.sz) (hs0 : 0 < T.sz) (hb0 : 0 < bytes)
    (base : Nat) (v : Value) (xs : List α) (p : α) (cs : List Value) (b : Nat) (hs : a.eval s = v) (hx : a.eval x = .slice (some ⟨b, 0, none⟩) 1 1)
    (hbox : U.heap[b]? = some (.cells cs.toArray e (0, 0))) (hp : T.rel U S' p cs)
    (HO : Own T U base e S v xs) (hS' : ∀ k, S' k → k < U.heap.size ∧ v.ownBlock ≠ some k) (hvb : v.ownBlock ≠ some b) (hbase : base ≤ U.heap.size) (hl : (xs.length + 1) * bytes ≤ 140737488355328)
    (h : ∀ v1 w1, Own T w1 base e (fun k => S k ∨ S' k ∨ k = b) v1 (xs ++ [p]) → U.grownBy w1 v.ownBlock → (v1.ownBlock = v.ownBlock ∨ v1.ownBlock = some U.heap.size) → wpList P ops Q rest (a.put o.dst v1) w1) :
    wpList P ops Q (o :: rest) a U := by
  have hcl := T.len hp
  have hr : Row T U (fun k => S' k ∨ k = b) (some ⟨b, 0, none⟩) 1 [p] := by
    refine ⟨rfl, by omega, fun _ => ⟨b, 0, rfl, .inr rfl, fun j q hj => ?_⟩⟩
    obtain ⟨rfl, rfl⟩ : j = 0 ∧ p = q := by
      rcases j with _ | j
      · simpa using hj
      · simp at hj
    refine ⟨cs, T.mono (fun _ h => .inl h) hp, fun i u hu => ?_⟩
    rw [Nat.zero_mul, Nat.add_zero, Nat.zero_add]
    exact blk_cell hbox i u (by simpa using hu)
  refine append_own T hgd s x t e z bytes ho ht hinfo hz hs0 hb0 base v xs [p] _ 1 1 hs hx (fun h => by cases h) HO hr (fun k hk => ?_) hbase hl h
  rcases hk with hk | rfl
  · exact hS' k hk
  · exact ⟨blk_lt hbox, hvb⟩
/-- min(p, q), max(p, q) of integers, as one value. -/
theorem min_int {U : World} (hgd : o.guard = none) (s x : Operand) (t : Array TypeId) (ho : o.op = .call { callee := .builtin .min, args := #[s, x], argTypes := t }) (k : IntKind) (p q r : Int) (hs : a.eval s = .int k p) (hx : a.eval x = .int k q) (hr : (if q < p then q else p) = r)
    (h : wpList P ops Q rest (a.put o.dst (.int k r)) U) : wpList P ops Q (o :: rest) a U := by
  refine wpList_plain hgd fun K hK => ?_
  unfold Oper.wp
  simp only [execOp, ho, resolve, invoke, builtin, Builtin.min_, List.foldlM, Builtin.min2, Sem.run_bind, Sem.run_pure, Result.andThen_ok, List.map_toArray, List.map_cons, List.map_nil, hs, hx, hr]
  exact hK _ _ h
theorem max_int {U : World} (hgd : o.guard = none) (s x : Operand) (t : Array TypeId) (ho : o.op = .call { callee := .builtin .max, args := #[s, x], argTypes := t }) (k : IntKind) (p q r : Int) (hs : a.eval s = .int k p) (hx : a.eval x = .int k q) (hr : (if p < q then q else p) = r)
    (h : wpList P ops Q rest (a.put o.dst (.int k r)) U) : wpList P ops Q (o :: rest) a U := by
  refine wpList_plain hgd fun K hK => ?_
  unfold Oper.wp
  simp only [execOp, ho, resolve, invoke, builtin, Builtin.max_, List.foldlM, Builtin.max2, Sem.run_bind, Sem.run_pure, Result.andThen_ok, List.map_toArray, List.map_cons, List.map_nil, hs, hx, gt_iff_lt, hr]
  exact hK _ _ h
end
end Go.Proofs.YtoambcpjdcehhaaGreat.Base
