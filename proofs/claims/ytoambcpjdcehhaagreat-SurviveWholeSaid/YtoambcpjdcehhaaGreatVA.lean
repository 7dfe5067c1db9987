/- Texts: V1, V2, V3, V4, V5, V6. -/
import Derived.Test.YtoambcpjdcehhaaGreatProg
import Derived.Test.YtoambcpjdcehhaaGreatFlat
import Derived.Test.YtoambcpjdcehhaaGreatCut
import Derived.Test.YtoambcpjdcehhaaGreatOpens
import Derived.Maps.OwnSet
import Derived.Maps.Keyed
import Derived.Deep.DeepAppendRoom
import Derived.Laws.EntriesVeiled
/- Spots, tokens, takes, events; when two are the same. -/
set_option linter.unusedVariables false
set_option linter.unusedSimpArgs false
namespace Go.Proofs.YtoambcpjdcehhaaGreat.Fn
open Go Go.RowKit Go.Proofs.YtoambcpjdcehhaaGreat.Can Go.Proofs.YtoambcpjdcehhaaGreat.Base
attribute [local go_sem] clsB AB.cell

structure Spot where
  at_ : Int
  mode : Int
  deriving DecidableEq
structure Tok where
  k : Int
  r : Int
  f : Int
  a : Int
  t : Int
  m : Int
  deriving DecidableEq
def spotE (s : Spot) : List Value := [.int .i64 s.at_, .int .i64 s.mode]
def tokE (t : Tok) : List Value := [.int .i64 t.k, .int .i64 t.r, .int .i64 t.f, .int .i64 t.a, .int .i64 t.t, .int .i64 t.m]
def spotV (s : Spot) : Value := .agg #[.int .i64 s.at_, .int .i64 s.mode]
def tokV (t : Tok) : Value := .agg #[.int .i64 t.k, .int .i64 t.r, .int .i64 t.f, .int .i64 t.a, .int .i64 t.t, .int .i64 t.m]
def tok0 : Tok := ⟨0, 0, 0, 0, 0, 0⟩
/-- A take. -/
structure E where
  at_ : Spot
  tok : Tok
  deriving DecidableEq
def eE (e : E) : List Value := spotE e.at_ ++ tokE e.tok
def eV (e : E) : Value := .agg #[.int .i64 e.at_.at_, .int .i64 e.at_.mode, .int .i64 e.tok.k, .int .i64 e.tok.r, .int .i64 e.tok.f, .int .i64 e.tok.a, .int .i64 e.tok.t, .int .i64 e.tok.m]
theorem ints_one {l : List Value} (h : ∀ u ∈ l, ∃ n, u = .int .i64 n) : ∀ u ∈ l, u.oneCell' = true := fun u hu => by obtain ⟨n, rfl⟩ := h u hu; rfl
theorem e_len (e : E) : (eE e).length = 8 := rfl
theorem e_one (e : E) : ∀ u ∈ eE e, u.oneCell' = true := ints_one fun u hu => by simp [eE, spotE, tokE] at hu; rcases hu with h | h | h | h | h | h | h | h <;> exact ⟨_, h⟩
theorem spot_len (s : Spot) : (spotE s).length = 2 := rfl
theorem spot_one (s : Spot) : ∀ u ∈ spotE s, u.oneCell' = true := ints_one fun u hu => by simp [spotE] at hu; rcases hu with h | h <;> exact ⟨_, h⟩
theorem tok_len (s : Tok) : (tokE s).length = 6 := rfl
theorem tok_one (s : Tok) : ∀ u ∈ tokE s, u.oneCell' = true := ints_one fun u hu => by simp [tokE] at hu; rcases hu with h | h | h | h | h | h <;> exact ⟨_, h⟩
abbrev eT : Ty E := Ty.flat 8 eE e_len e_one
abbrev spotT : Ty Spot := Ty.flat 2 spotE spot_len spot_one
abbrev tokT : Ty Tok := Ty.flat 6 tokE tok_len tok_one
theorem e_flat : eT.Flat := Ty.flat_flat _ _ _ _
theorem spot_flat : spotT.Flat := Ty.flat_flat _ _ _ _
theorem tok_flat : tokT.Flat := Ty.flat_flat _ _ _ _
/-- An event. -/
structure Ev where
  kind : Int
  id : Int
  client : Int
  op : Int
  n : Int
  data : ByteArray
  e : Int
  rn : Int
  tok : Tok
def evE (v : Ev) : List Value := [.int .i64 v.kind, .int .i64 v.id, .int .i64 v.client, .int .i64 v.op, .int .i64 v.n, .string v.data, .int .i64 v.e, .int .i64 v.rn, .int .i64 v.tok.k, .int .i64 v.tok.r, .int .i64 v.tok.f, .int .i64 v.tok.a, .int .i64 v.tok.t, .int .i64 v.tok.m]
def evV (v : Ev) : Value := .agg #[.int .i64 v.kind, .int .i64 v.id, .int .i64 v.client, .int .i64 v.op, .int .i64 v.n, .string v.data, .int .i64 v.e, .int .i64 v.rn, .int .i64 v.tok.k, .int .i64 v.tok.r, .int .i64 v.tok.f, .int .i64 v.tok.a, .int .i64 v.tok.t, .int .i64 v.tok.m]
theorem ev_len (v : Ev) : (evE v).length = 14 := rfl
theorem ev_one (v : Ev) : ∀ u ∈ evE v, u.oneCell' = true := fun u hu => by simp [evE] at hu; rcases hu with h | h | h | h | h | h | h | h | h | h | h | h | h | h <;> subst h <;> rfl
abbrev evT : Ty Ev := Ty.flat 14 evE ev_len ev_one

/-- A plain element of a row. -/
theorem flat_at {α : Type} {k : Nat} {enc : α → List Value} {hk : ∀ x, (enc x).length = k} {h1 : ∀ x, ∀ u ∈ enc x, u.oneCell' = true} {w : World} {S : Nat → Prop} {A : Option Addr} {n : Nat} {l : List α} (h : Row (Ty.flat k enc hk h1) w S A n l) (i : Nat) (hi : i < n) :
    ∃ b off x, A = some ⟨b, off, none⟩ ∧ S b ∧ l[i]? = some x ∧ ∀ j u, (enc x)[j]? = some u → w.cell? ⟨b, off + i * k + j, none⟩ = some u := by
  obtain ⟨b, off, cs, he, hs, hr, hcell⟩ := h.get i hi
  have hr' : cs = enc _ := hr
  subst hr'
  exact ⟨b, off, _, he, hs, List.getElem?_eq_getElem _, hcell⟩
theorem e_get {w : World} {S : Nat → Prop} {A : Option Addr} {n : Nat} {l : List E} (h : Row eT w S A n l) (k : Nat) (hk : k < n) :
    ∃ b off e, A = some ⟨b, off, none⟩ ∧ b < w.heap.size ∧ l[k]? = some e ∧ w.cell? ⟨b, off + k * 8, none⟩ = some (.int .i64 e.at_.at_) ∧ w.cell? ⟨b, off + k * 8 + 1, none⟩ = some (.int .i64 e.at_.mode) ∧ w.cell? ⟨b, off + k * 8 + 2, none⟩ = some (.int .i64 e.tok.k) ∧ w.cell? ⟨b, off + k * 8 + 2 + 1, none⟩ = some (.int .i64 e.tok.r) ∧ w.cell? ⟨b, off + k * 8 + 2 + 2, none⟩ = some (.int .i64 e.tok.f) ∧ w.cell? ⟨b, off + k * 8 + 2 + 3, none⟩ = some (.int .i64 e.tok.a) ∧ w.cell? ⟨b, off + k * 8 + 2 + 4, none⟩ = some (.int .i64 e.tok.t) ∧ w.cell? ⟨b, off + k * 8 + 2 + 5, none⟩ = some (.int .i64 e.tok.m) := by
  obtain ⟨b, off, e, he, _, hx, hc⟩ := flat_at h k hk
  have h0 := hc 0 _ rfl
  exact ⟨b, off, e, he, World.block_lt_of_cell? w _ h0, hx, h0, hc 1 _ rfl, hc 2 _ rfl, hc 3 _ rfl, hc 4 _ rfl, hc 5 _ rfl, hc 6 _ rfl, hc 7 _ rfl⟩
theorem spot_get {w : World} {S : Nat → Prop} {A : Option Addr} {n : Nat} {l : List Spot} (h : Row spotT w S A n l) (k : Nat) (hk : k < n) :
    ∃ b off s, A = some ⟨b, off, none⟩ ∧ b < w.heap.size ∧ l[k]? = some s ∧ w.cell? ⟨b, off + k * 2, none⟩ = some (.int .i64 s.at_) ∧ w.cell? ⟨b, off + k * 2 + 1, none⟩ = some (.int .i64 s.mode) := by
  obtain ⟨b, off, e, he, _, hx, hc⟩ := flat_at h k hk
  have h0 := hc 0 _ rfl
  exact ⟨b, off, e, he, World.block_lt_of_cell? w _ h0, hx, h0, hc 1 _ rfl⟩
theorem tok_get {w : World} {S : Nat → Prop} {A : Option Addr} {n : Nat} {l : List Tok} (h : Row tokT w S A n l) (k : Nat) (hk : k < n) :
    ∃ b off t, A = some ⟨b, off, none⟩ ∧ b < w.heap.size ∧ l[k]? = some t ∧ w.cell? ⟨b, off + k * 6, none⟩ = some (.int .i64 t.k) ∧ w.cell? ⟨b, off + k * 6 + 1, none⟩ = some (.int .i64 t.r) ∧ w.cell? ⟨b, off + k * 6 + 2, none⟩ = some (.int .i64 t.f) ∧ w.cell? ⟨b, off + k * 6 + 3, none⟩ = some (.int .i64 t.a) ∧ w.cell? ⟨b, off + k * 6 + 4, none⟩ = some (.int .i64 t.t) ∧ w.cell? ⟨b, off + k * 6 + 5, none⟩ = some (.int .i64 t.m) := by
  obtain ⟨b, off, e, he, _, hx, hc⟩ := flat_at h k hk
  have h0 := hc 0 _ rfl
  exact ⟨b, off, e, he, World.block_lt_of_cell? w _ h0, hx, h0, hc 1 _ rfl, hc 2 _ rfl, hc 3 _ rfl, hc 4 _ rfl, hc 5 _ rfl⟩
theorem ev_get {w : World} {S : Nat → Prop} {A : Option Addr} {n : Nat} {l : List Ev} (h : Row evT w S A n l) (k : Nat) (hk : k < n) :
    ∃ b off v, A = some ⟨b, off, none⟩ ∧ b < w.heap.size ∧ l[k]? = some v ∧ w.cell? ⟨b, off + k * 14, none⟩ = some (.int .i64 v.kind) ∧ w.cell? ⟨b, off + k * 14 + 1, none⟩ = some (.int .i64 v.id) ∧ w.cell? ⟨b, off + k * 14 + 2, none⟩ = some (.int .i64 v.client) ∧ w.cell? ⟨b, off + k * 14 + 3, none⟩ = some (.int .i64 v.op) ∧ w.cell? ⟨b, off + k * 14 + 3 + 1, none⟩ = some (.int .i64 v.n) ∧ w.cell? ⟨b, off + k * 14 + 3 + 2, none⟩ = some (.string v.data) ∧ w.cell? ⟨b, off + k * 14 + 6, none⟩ = some (.int .i64 v.e) ∧ w.cell? ⟨b, off + k * 14 + 6 + 1, none⟩ = some (.int .i64 v.rn) ∧
      w.cell? ⟨b, off + k * 14 + 6 + 2, none⟩ = some (.int .i64 v.tok.k) ∧ w.cell? ⟨b, off + k * 14 + 6 + 2 + 1, none⟩ = some (.int .i64 v.tok.r) ∧ w.cell? ⟨b, off + k * 14 + 6 + 2 + 2, none⟩ = some (.int .i64 v.tok.f) ∧ w.cell? ⟨b, off + k * 14 + 6 + 2 + 3, none⟩ = some (.int .i64 v.tok.a) ∧ w.cell? ⟨b, off + k * 14 + 6 + 2 + 4, none⟩ = some (.int .i64 v.tok.t) ∧ w.cell? ⟨b, off + k * 14 + 6 + 2 + 5, none⟩ = some (.int .i64 v.tok.m) := by
  obtain ⟨b, off, e, he, _, hx, hc⟩ := flat_at h k hk
  have h0 := hc 0 _ rfl
  exact ⟨b, off, e, he, World.block_lt_of_cell? w _ h0, hx, h0, hc 1 _ rfl, hc 2 _ rfl, hc 3 _ rfl, hc 4 _ rfl, hc 5 _ rfl, hc 6 _ rfl, hc 7 _ rfl, hc 8 _ rfl, hc 9 _ rfl, hc 10 _ rfl, hc 11 _ rfl, hc 12 _ rfl, hc 13 _ rfl⟩
theorem eq27 (d : Nat) (w : World) (x0 x1 y0 y1 : Int) :
    (Op.equalIn (d + 2) 57 (.agg #[.int .i64 x0, .int .i64 x1]) (.agg #[.int .i64 y0, .int .i64 y1])).run Tryz.prog w = .ok (x0 == y0 && x1 == y1) w := by
  refine eq_struct Tryz.underlying57 (by kernel_rfl) ?_
  cases h0 : (x0 == y0) <;> cases h1 : (x1 == y1) <;> simp [Op.eqFields, go_sem, h0, h1]
theorem eq29_same (d : Nat) (w : World) (x0 x1 x2 x3 x4 x5 : Int) :
    (Op.equalIn (d + 2) 43 (.agg #[.int .i64 x0, .int .i64 x1, .int .i64 x2, .int .i64 x3, .int .i64 x4, .int .i64 x5]) (.agg #[.int .i64 x0, .int .i64 x1, .int .i64 x2, .int .i64 x3, .int .i64 x4, .int .i64 x5])).run Tryz.prog w = .ok true w := by
  refine eq_struct Tryz.underlying43 (by kernel_rfl) ?_
  simp [Op.eqFields, go_sem]
theorem eq31_same (d : Nat) (w : World) (x0 x1 x2 x3 x4 x5 x6 x7 : Int) :
    (Op.equalIn (d + 3) 59 (.agg #[.int .i64 x0, .int .i64 x1, .int .i64 x2, .int .i64 x3, .int .i64 x4, .int .i64 x5, .int .i64 x6, .int .i64 x7]) (.agg #[.int .i64 x0, .int .i64 x1, .int .i64 x2, .int .i64 x3, .int .i64 x4, .int .i64 x5, .int .i64 x6, .int .i64 x7])).run Tryz.prog w = .ok true w := by
  refine eq_struct Tryz.underlying59 (by kernel_rfl) ?_
  simp [Op.eqFields, go_sem, eq27, eq29_same]
end Go.Proofs.YtoambcpjdcehhaaGreat.Fn

/- A map of numbers to values, as it is kept. -/
set_option linter.unusedVariables false
set_option linter.unusedSimpArgs false
namespace Go.Proofs.YtoambcpjdcehhaaGreat.Fn
open Go Go.RowKit Go.Proofs.YtoambcpjdcehhaaGreat.Can Go.Proofs.YtoambcpjdcehhaaGreat.Base
open Go.Maps (Keyed)

/-- An element, as it is. -/
def asIs : Value → Option (DataW Value × List MemPlace) := fun v => some (.held v, [])
theorem law3 : Keyed Tryz.prog 3 := Maps.int_keyed Tryz.underlying3
def kI (x : Int) : Lit := .int .i64 x
theorem key3 {x : Int} (h : (Lit.int .i64 x).wf = true) : keyOf Tryz.prog 3 (.int .i64 x) = some (kI x) := by
  simp [keyOf, mapKey, Tryz.underlying3, h, kI]
theorem kI_inj {x y : Int} (h : kI x = kI y) : x = y := by simpa [kI] using h
/-- Block b is a map that reads as m, at the numbers that Go has. -/
def VMap (w : World) (b n : Nat) (m : Int → Option Value) : Prop :=
  ∃ D : DataW Value, w.ownsMap Tryz.prog 3 asIs b n D ∧ ∀ x, (Lit.int .i64 x).wf = true → Maps.has D (kI x) = (m x).isSome ∧ ∀ v, m x = some v → ∀ z, D.atKey (kI x) z = .held v
section
variable {w w' : World} {b n : Nat} {m : Int → Option Value}
theorem VMap.lt (h : VMap w b n m) : b < w.heap.size := by obtain ⟨D, h, _⟩ := h; exact h.lt
theorem VMap.move (h : VMap w b n m) (hm : w'.heap[b]? = w.heap[b]?) : VMap w' b n m := by
  obtain ⟨D, ⟨es, clock, hb, r⟩, r2⟩ := h
  exact ⟨D, ⟨es, clock, hm.trans hb, r⟩, r2⟩
theorem VMap.below (h : VMap w b n m) (hb : Below w.heap.size w w') : VMap w' b n m := h.move (hb.block b h.lt)
theorem VMap.made (w : World) : VMap (w.alloc (.map #[] 0)) w.heap.size 0 (fun _ => none) :=
  ⟨.map [], World.ownsMap_made w _ _ _, fun x _ => ⟨by simp [Maps.has], fun v h => by cases h⟩⟩
theorem VMap.empty {b : Nat} (h : w.heap[b]? = some (.map #[] 0)) : VMap w b 0 (fun _ => none) := by
  obtain ⟨D, ⟨es, clock, hb, r⟩, r2⟩ := VMap.made w
  rw [blk_new _ _ _ rfl] at hb
  simp only [Option.some.injEq, Obj.map.injEq] at hb
  obtain ⟨rfl, rfl⟩ := hb
  exact ⟨D, ⟨_, _, h, r⟩, r2⟩
theorem zero62 (w : World) : (zeroValue 100).run Tryz.prog w = .ok (.agg #[.int .i64 0, .int .i64 0, .slice none 0 0]) w := by kernel_rfl
theorem VMap.look (h : VMap w b n m) {x : Int} (hx : (Lit.int .i64 x).wf = true) :
    ∃ v : Value, (∀ w' : World, w'.heap[b]? = w.heap[b]? → (Instr.lookup 122 (.map (some b)) (.int .i64 x) true).run Tryz.prog w' = .ok (.tuple #[v, .bool (m x).isSome]) w') ∧ (∀ u, m x = some u → v = u) ∧ (m x = none → v = .agg #[.int .i64 0, .int .i64 0, .slice none 0 0]) := by
  obtain ⟨D, h, hD⟩ := h
  have key : ∀ w' : World, w'.heap[b]? = w.heap[b]? → ∃ v : Value, (Instr.lookup 122 (.map (some b)) (.int .i64 x) true).run Tryz.prog w' = .ok (.tuple #[v, .bool (m x).isSome]) w' ∧ D.atKey (kI x) (.held (.agg #[.int .i64 0, .int .i64 0, .slice none 0 0])) = .held v := fun w' hm => by
    obtain ⟨es, clock, hb, r⟩ := h
    have h' : w'.ownsMap Tryz.prog 3 asIs b n D := ⟨es, clock, hm.trans hb, r⟩
    obtain ⟨v, ps, hrun, hv⟩ := h'.look_ok law3 Tryz.underlying122 (zero62 w') (zd := .held (.agg #[.int .i64 0, .int .i64 0, .slice none 0 0])) (zp := []) rfl (key3 hx)
    simp only [asIs, Option.some.injEq, Prod.mk.injEq] at hv
    exact ⟨v, by rw [hrun, (hD x hx).1], hv.1.symm⟩
  obtain ⟨v, h1, h2⟩ := key w rfl
  refine ⟨v, fun w' hm => ?_, fun u hu => ?_, fun hu => ?_⟩
  · obtain ⟨v', h3, h4⟩ := key w' hm
    rw [h2] at h4
    simp only [DataW.held.injEq] at h4
    rw [h3, h4]
  · rw [(hD x hx).2 u hu] at h2
    simp only [DataW.held.injEq] at h2
    exact h2.symm
  · have h3 := (hD x hx).1
    rw [hu] at h3
    rw [Maps.atKey_of_not_has h3] at h2
    simp only [DataW.held.injEq] at h2
    exact h2.symm
theorem VMap.store (h : VMap w b n m) {x : Int} (hx : (Lit.int .i64 x).wf = true) (v : Value) (hl : n ≤ 1000000) :
    ∃ w', (Instr.mapUpdate 122 (.map (some b)) (.int .i64 x) v).run Tryz.prog w = .ok () w' ∧ VMap w' b (n + 1) (fun y => if y = x then some v else m y) ∧ Fr (fun k => k = b) w w' := by
  obtain ⟨D, h, hD⟩ := h
  obtain ⟨w', hrun, hown, hg⟩ := h.update law3 Tryz.underlying122 (by unfold maxLen; omega) (key3 hx) (val := v) (d := .held v) (ps := []) rfl
  have hk : WideAt.IsKeyLit (kI x) := law3.key (key3 hx)
  refine ⟨w', hrun, ⟨_, hown, fun y hy => ?_⟩, ⟨⟨hg.os, hg.tape, hg.output, hg.size, fun k hk => absurd hk (Nat.not_lt_zero k)⟩, fun k hk hx => hg.block k hk (fun e => hx (by cases e; rfl))⟩⟩
  by_cases he : y = x
  · subst he
    simp only [reduceIte]
    exact ⟨Maps.has_put_same h.isMap hk _, fun u hu z => by cases hu; exact Maps.atKey_put_same h.isMap hk _ _⟩
  · have hne : kI y ≠ kI x := fun e => he (kI_inj e)
    simp only [he, reduceIte]
    refine ⟨(Maps.has_put_other hne _).trans (hD y hy).1, fun u hu z => ?_⟩
    rw [Maps.atKey_put_other hne]
    exact (hD y hy).2 u hu z
theorem VMap.drop (h : VMap w b n m) {x : Int} (hx : (Lit.int .i64 x).wf = true) (ty : TypeId) :
    ∃ w', (Builtin.delete_ #[122, 3] ty #[.map (some b), .int .i64 x]).run Tryz.prog w = .ok (.tuple #[]) w' ∧ VMap w' b n (fun y => if y = x then none else m y) ∧ Fr (fun k => k = b) w w' := by
  obtain ⟨D, h, hD⟩ := h
  obtain ⟨w', hrun, hown, ht⟩ := h.drop law3 Tryz.underlying122 (key3 hx) ty
  have hg := ht.grown
  refine ⟨w', hrun, ⟨_, hown, fun y hy => ?_⟩, ⟨⟨hg.os, hg.tape, hg.output, hg.size, fun k hk => absurd hk (Nat.not_lt_zero k)⟩, fun k hk hx => hg.block k hk (fun e => hx (by cases e; rfl))⟩⟩
  by_cases he : y = x
  · subst he
    simp only [reduceIte]
    exact ⟨Maps.has_del_same, fun u hu => by cases hu⟩
  · have hne : kI y ≠ kI x := fun e => he (kI_inj e)
    simp only [he, reduceIte]
    refine ⟨(Maps.has_del_other hne).trans (hD y hy).1, fun u hu z => ?_⟩
    rw [Maps.atKey_del_other hne]
    exact (hD y hy).2 u hu z
end
end Go.Proofs.YtoambcpjdcehhaaGreat.Fn

/- What the fold is in memory: the takes that survive now, and those that are kept. -/
set_option linter.unusedVariables false
set_option linter.unusedSimpArgs false
namespace Go.Proofs.YtoambcpjdcehhaaGreat.Fn
open Go Go.RowKit Go.Proofs.YtoambcpjdcehhaaGreat.Can Go.Proofs.YtoambcpjdcehhaaGreat.Base

/-- Where the cursor stands, and the takes that survive. -/
structure St where
  at_ : Spot
  l : List E
/-- What is kept: its list as it lies in memory. -/
structure KE where
  at_ : Spot
  A : Option Addr
  n : Nat
  l : List E
def KE.st (e : KE) : St := ⟨e.at_, e.l⟩
def kval (e : KE) : Value := .agg #[.int .i64 e.at_.at_, .int .i64 e.at_.mode, .slice e.A e.n e.n]
/-- All of a fold. -/
structure FS where
  s : St
  K : Int → Option KE
  own : Option Nat
  A : Option Addr
  n : Nat
  c : Nat
def KR (w : World) (base : Nat) (own : Option Nat) (A : Option Addr) (n : Nat) (l : List E) (e : KE) : Prop :=
  Row eT w (fun k => (base ≤ k ∧ k < w.heap.size) ∧ own ≠ some k) e.A e.n e.l ∨ (e.A = A ∧ e.n ≤ n ∧ e.l = l.take e.n)
structure Fold (w : World) (p b base B : Nat) (F : FS) : Prop where
  str : w.heap[p]? = some (.cells #[.int .i64 F.s.at_.at_, .int .i64 F.s.at_.mode, .slice F.A F.n F.c, .map (some b)] 124 (0, 0))
  map : VMap w b B (fun x => (F.K x).map kval)
  ne : p ≠ b
  pb : p < base
  bb : b < base
  size : base ≤ w.heap.size
  row : Row eT w (fun k => base ≤ k ∧ k < w.heap.size) F.A F.n F.s.l
  cap : F.n ≤ F.c
  nil : F.A = none → F.c = 0
  tail : (F.own = none ∧ F.c = F.n) ∨ (F.own = (Value.slice F.A F.n F.c).ownBlock ∧ Mine eT w base 59 (.slice F.A F.n F.c) F.s.l)
  kept : ∀ x e, F.K x = some e → KR w base F.own F.A F.n F.s.l e
  lenN : F.s.l.length ≤ B
  lenK : ∀ x e, F.K x = some e → e.l.length ≤ B
section
variable {w w' : World} {p b base B : Nat} {F : FS}
theorem KR.row {own : Option Nat} {A : Option Addr} {n : Nat} {l : List E} {e : KE} (h : KR w base own A n l e) (hr : Row eT w (fun k => base ≤ k ∧ k < w.heap.size) A n l) : Row eT w (fun k => base ≤ k ∧ k < w.heap.size) e.A e.n e.l := by
  rcases h with h | ⟨h1, h2, h3⟩
  · exact h.mono fun k hk => hk.1
  · rw [h1, h3]; exact hr.take _ h2
theorem Fold.below (h : Fold w p b base B F) (hb : Below w.heap.size w w') : Fold w' p b base B F := by
  have hz := hb.size
  refine ⟨(hb.block p (blk_lt h.str)).trans h.str, h.map.below hb, h.ne, h.pb, h.bb, Nat.le_trans h.size hz, (h.row.below (fun _ hk => hk.2) hb).mono (fun k hk => ⟨hk.1, by omega⟩), h.cap, h.nil, ?_, fun x e hx => ?_, h.lenN, h.lenK⟩
  · rcases h.tail with ht | ⟨h1, h2⟩
    · exact .inl ht
    · exact .inr ⟨h1, h2.below hb⟩
  · rcases h.kept x e hx with hk | hk
    · exact .inl ((hk.below (fun _ hk => hk.1.2) hb).mono fun k hk => ⟨⟨hk.1.1, by omega⟩, hk.2⟩)
    · exact .inr hk
theorem Fold.more (h : Fold w p b base B F) {B' : Nat} (hB : B ≤ B') : Fold w p b base B' F :=
  ⟨h.str, by obtain ⟨D, h1, h2⟩ := h.map; exact ⟨D, h1.mono hB, h2⟩, h.ne, h.pb, h.bb, h.size, h.row, h.cap, h.nil, h.tail, h.kept, Nat.le_trans h.lenN hB, fun x e hx => Nat.le_trans (h.lenK x e hx) hB⟩
/-- All rows, with nothing that may grow in place. -/
theorem Fold.keptRow (h : Fold w p b base B F) {x : Int} {e : KE} (hx : F.K x = some e) : Row eT w (fun k => base ≤ k ∧ k < w.heap.size) e.A e.n e.l := (h.kept x e hx).row h.row
/-- The struct is written: a list that may not grow in place. -/
theorem Fold.capped (h : Fold w p b base B F) (at_ : Spot) (A : Option Addr) (n : Nat) (l : List E) (hs : w'.heap[p]? = some (.cells #[.int .i64 at_.at_, .int .i64 at_.mode, .slice A n n, .map (some b)] 124 (0, 0)))
    (hf : Fr (fun k => k = p) w w') (hr : Row eT w (fun k => base ≤ k ∧ k < w.heap.size) A n l) (hA : A = none → n = 0) (hl : l.length ≤ B) : Fold w' p b base B ⟨⟨at_, l⟩, F.K, none, A, n, n⟩ := by
  have hz := hf.size
  have hpb := h.pb
  have mv : ∀ {A : Option Addr} {n : Nat} {l : List E}, Row eT w (fun k => base ≤ k ∧ k < w.heap.size) A n l → Row eT w' (fun k => base ≤ k ∧ k < w'.heap.size) A n l := fun hr => (hf.row hr (fun k hk => ⟨hk.2, by show ¬ k = p; omega⟩)).mono fun k hk => ⟨hk.1, by omega⟩
  refine ⟨hs, h.map.move (hf.same b h.map.lt (fun he => h.ne he.symm)), h.ne, h.pb, h.bb, Nat.le_trans h.size hz, mv hr, Nat.le_refl _, hA, .inl ⟨rfl, rfl⟩, fun x e hx => .inl ((mv (h.keptRow hx)).mono fun k hk => ⟨hk, by simp⟩), hl, h.lenK⟩
end

section
variable {P : Program} {ops : Array Oper} {rest : List Oper} {o : Oper} {a : Act} {Q : Exit → Act → World → Prop}
/-- append(l, x), of the fold's list: the lists that are kept stay as they are. -/
theorem fold_append {w U : World} {p b base B : Nat} {F : FS} (h : Fold w p b base B F) (hb : Below w.heap.size w U) (hgd : o.guard = none) (s x : Operand)
    (ho : o.op = .call { callee := .builtin .append, args := #[s, x], argTypes := #[54, 54] })
    (ht : P.underlying 54 = some (.slice 59)) (z : Value) (hinfo : (P.info? 59).map (fun i => (i.zero, i.size, i.bytes)) = some (some z, 8, 64)) (hz : z.cells.size = 8)
    (y : E) (g : Nat) (hs : a.eval s = .slice F.A F.n F.c) (hx : a.eval x = .slice (some ⟨g, 0, none⟩) 1 1) (hg : w.heap.size ≤ g) (hbox : U.heap[g]? = some (.cells (eE y).toArray 59 (0, 0))) (hB : B ≤ 1000000)
    (hK : ∀ A' n' c' own' W, (∀ at_ : Spot, ∀ W', W'.heap[p]? = some (.cells #[.int .i64 at_.at_, .int .i64 at_.mode, .slice A' n' c', .map (some b)] 124 (0, 0)) → Fr (fun k => k = p) W W' → Fold W' p b base (B + 1) ⟨⟨at_, F.s.l ++ [y]⟩, F.K, own', A', n', c'⟩) →
      Below base U W → W.heap[p]? = U.heap[p]? → wpList P ops Q rest (a.put o.dst (.slice A' n' c')) W) :
    wpList P ops Q (o :: rest) a U := by
  obtain ⟨i0, hi, hzz⟩ := Option.map_eq_some_iff.1 hinfo
  simp only [Prod.mk.injEq] at hzz
  obtain ⟨hz0, hz1, hz2⟩ := hzz
  have hU := h.below hb
  have hbs := h.size
  have hbz := hb.size
  have hnl : F.s.l.length = F.n := h.row.1
  have hn1 : F.n ≤ B := by rw [← hnl]; exact h.lenN
  have hone : ∀ u ∈ eE y, u.oneCell' = true := e_one y
  have hnews : ∀ (j : Nat) (u : Value), (eE y)[j]? = some u → U.cell? ((⟨g, 0, none⟩ : Addr).add j) = some u := news_at hbox
  have hgl := blk_lt hbox
  have hpb := h.pb
  have hbb := h.bb
  have fin : ∀ (A' : Option Addr) (n' c' : Nat) (W : World), Mine eT W base 59 (.slice A' n' c') (F.s.l ++ [y]) → Below base U W →
      (∀ x e, F.K x = some e → KR W base (Value.slice A' n' c').ownBlock A' n' (F.s.l ++ [y]) e) → wpList P ops Q rest (a.put o.dst (.slice A' n' c')) W := fun A' n' c' W hM hbW hk => by
    refine hK A' n' c' (Value.slice A' n' c').ownBlock W (fun at_ W' hs' hf => ?_) hbW (hbW.block p hpb)
    have hzW := hf.size
    have hzW2 := hbW.size
    have hM' : Mine eT W' base 59 (.slice A' n' c') (F.s.l ++ [y]) := hM.by hf (by rintro k rfl; exact hpb)
    obtain ⟨A2, n2, c2, he2, hn2, hc2, hA2, hr2⟩ := hM'.formN
    simp only [Value.slice.injEq] at he2
    obtain ⟨rfl, rfl, rfl⟩ := he2
    refine ⟨hs', (hU.more (Nat.le_succ B)).map.move ((hf.same b (by omega) (fun he => h.ne he.symm)).trans (hbW.block b hbb)), h.ne, hpb, hbb, by omega, hr2, hc2, hA2, .inr ⟨rfl, hM'⟩, fun x e hx => ?_, by show (F.s.l ++ [y]).length ≤ B + 1; rw [List.length_append, hnl]; simp; omega, fun x e hx => Nat.le_succ_of_le (h.lenK x e hx)⟩
    rcases hk x e hx with hr | hr
    · exact .inl ((hf.row hr fun k hk => ⟨hk.1.2, by show ¬ k = p; omega⟩).mono fun k hk => ⟨⟨hk.1.1, by omega⟩, hk.2⟩)
    · exact .inr hr
  have grows : F.c = F.n → wpList P ops Q (o :: rest) a U := fun hc => by
    have hs' : a.eval s = .slice F.A F.n F.n := by rw [hs, hc]
    refine append_mine eT e_flat hgd s x 54 59 z 64 ho ht hinfo hz (by decide) (by decide) F.A F.n F.s.l y (eE y) g hs' hx hbox hU.row rfl (by omega) ?_
    intro v1 w1 hM hb1
    have hM0 := hM.lower (b := base) (by omega)
    obtain ⟨A2, n2, c2, rfl, hn2, hc2, hA2, hr2⟩ := hM0.formN
    have hz1 := hb1.size
    refine fin A2 n2 c2 w1 hM0 (hb1.mono (by omega)) fun x e hx => .inl ?_
    refine ((hU.keptRow hx).below (fun _ hk => hk.2) hb1).mono fun k hk => ⟨⟨hk.1, by omega⟩, fun he => ?_⟩
    have := (hM.lt he).2
    omega
  rcases h.tail with ⟨_, hc⟩ | ⟨ho', hM⟩
  · exact grows hc
  · rcases Nat.lt_or_ge F.n F.c with hlt | hge
    · have hM' := hM.below hb
      obtain ⟨g0, hA⟩ : ∃ g0, F.A = some ⟨g0, 0, none⟩ := by
        obtain ⟨inner, hown, _⟩ := hM
        rcases hown.2 with ⟨h0, _⟩ | ⟨g', cap, cur, he, _⟩
        · simp only [Value.slice.injEq] at h0; omega
        · simp only [Value.slice.injEq] at he; exact ⟨g', he.1⟩
      rw [hA] at hM' hs ho'
      have hg0 := hM'.lt (k := g0) rfl
      refine append_room eT e_flat hgd s x 54 59 z 64 ho ht hinfo base g0 F.n F.c F.s.l y (eE y) g hs hx hbox rfl hM' hnl hlt ?_
      intro w1 hM1 hb1 hk1
      have hz1 := hb1.size
      refine fin _ _ _ w1 hM1 hb1 fun x e hx => ?_
      rcases hU.kept x e hx with hr | ⟨r1, r2, r3⟩
      · rw [ho'] at hr
        refine .inl ((hr.move fun k hk => hk1 k hk.1.2 (fun he => hk.2 (by rw [he]; rfl))).mono fun k hk => ⟨⟨hk.1.1, by omega⟩, hk.2⟩)
      · exact .inr ⟨by rw [r1, hA], by omega, by rw [r3, List.take_append_of_le_length (by omega)]⟩
    · exact grows (by have := h.cap; omega)
end
end Go.Proofs.YtoambcpjdcehhaaGreat.Fn

/- What an operation turns: a take, and a mode. -/
set_option linter.unusedVariables false
set_option linter.unusedSimpArgs false
namespace Go.Proofs.YtoambcpjdcehhaaGreat.Fn
open Go Go.RowKit Go.Proofs.YtoambcpjdcehhaaGreat.Can Go.Proofs.YtoambcpjdcehhaaGreat.Base
attribute [local go_sem] clsB AB.cell

theorem fr_base {w w' : World} {base : Nat} {X : Nat → Prop} (h : Below base w w') (hX : ∀ k, base ≤ k → X k) : Fr X w w' :=
  ⟨⟨h.os, h.tape, h.output, h.size, fun k hk => absurd hk (Nat.not_lt_zero k)⟩, fun k hk hx => h.block k (Nat.lt_of_not_le fun hle => hx (hX k hle))⟩
theorem cut_one {G : Prop} (F : Nat → World → Prop) {C : Nat → World → Prop} (main : (∀ g U, F g U → C g U) → G) (key : ∀ g U, F g U → C g U) : G := main key
theorem info31 : (Tryz.prog.info? 59).map (fun i => (i.zero, i.size, i.bytes)) = some (some (eV ⟨⟨0, 0⟩, tok0⟩), 8, 64) := by kernel_rfl
theorem behind_calls (t : Tok) (w : World) : Calls Tryz.prog 62 #[tokV t] w fun e w' => e = .returned (.agg #[.int .i64 t.t, .int .i64 t.m]) ∧ Below w.heap.size w w' := by
  unfold tokV
  go_enter Tryz.func62, Tryz.ntmps62
  go_wp2
  refine bodyPost_ret (results_cell_row rfl _ _ (w.heap.size + 1) 57 _ (0, 0) _ rfl (blk_new _ _ _ (by rw [size_alloc])) Tryz.underlying57 rfl (by kernel_rfl)) rfl ?_
  exact ⟨rfl, (by repeat (first | (with_reducible assumption) | (with_reducible exact Below.refl _ _) | (with_reducible apply below_drewL) | (with_reducible apply below_alloc) | (with_reducible apply below_drew1) | (with_reducible apply below_drewN) | (refine below_set ?_ (by first | omega | (simp only [size_alloc, size_drew, size_set]; omega)) _ _)))⟩
def XF (p b base : Nat) : Nat → Prop := fun k => k = p ∨ k = b ∨ base ≤ k
/-- What has come of a turn. -/
def Turned (w w' : World) (p b base B : Nat) (s : St) (κ : Int → Option St) : Prop := ∃ F', Fold w' p b base (B + 1) F' ∧ F'.s = s ∧ (∀ y, (F'.K y).map KE.st = κ y) ∧ Fr (XF p b base) w w'
def kst (F : FS) : Int → Option St := fun y => (F.K y).map KE.st
theorem Turned.same {w w' : World} {p b base B : Nat} {F : FS} (h : Fold w p b base B F) (hb : Below w.heap.size w w') : Turned w w' p b base B F.s (kst F) :=
  ⟨F, (h.below hb).more (Nat.le_succ B), rfl, fun _ => rfl, Fr.of_below hb⟩
theorem take_end {w : World} {p b base B : Nat} {F : FS} (h : Fold w p b base B F) (v : Ev) (hk : v.tok.k = 3) : Calls Tryz.prog 91 #[.pointer (some ⟨p, 0, none⟩), evV v] w fun e w' =>
    e = .returned (.tuple #[]) ∧ Turned w w' p b base B F.s (kst F) := by
  unfold evV
  have hJ : (v.tok.k == 3) = true := by simpa using hk
  have HH := Hd.mk h
  clear h
  go_enter Tryz.func91, Tryz.ntmps91
  go_wp2
  refine bodyPost_ret (results_none rfl _ _ _) rfl ?_
  exact ⟨rfl, Turned.same HH.out (by repeat (first | (with_reducible assumption) | (with_reducible exact Below.refl _ _) | (with_reducible apply below_drewL) | (with_reducible apply below_alloc) | (with_reducible apply below_drew1) | (with_reducible apply below_drewN) | (refine below_set ?_ (by first | omega | (simp only [size_alloc, size_drew, size_set]; omega)) _ _)))⟩
theorem take_calls {w : World} {p b base B : Nat} {F : FS} (h : Fold w p b base B F) (v : Ev) (hk : ¬ v.tok.k = 3) (hB : B ≤ 1000000) : Calls Tryz.prog 91 #[.pointer (some ⟨p, 0, none⟩), evV v] w fun e w' =>
    e = .returned (.tuple #[]) ∧ Turned w w' p b base B ⟨⟨v.tok.t, v.tok.m⟩, F.s.l ++ [⟨F.s.at_, v.tok⟩]⟩ (kst F) := by
  unfold evV
  have hJ : (v.tok.k == 3) = false := by simpa using hk
  have hs := h.str
  have HH := Hd.mk h
  have hbs := h.size
  have hpb := h.pb
  have HNe := Hd.mk h.ne
  obtain ⟨A, hA⟩ : ∃ A, F.A = A := ⟨_, rfl⟩
  obtain ⟨n, hn⟩ : ∃ n, F.n = n := ⟨_, rfl⟩
  obtain ⟨c, hc⟩ : ∃ c, F.c = c := ⟨_, rfl⟩
  obtain ⟨sp, hsp⟩ : ∃ sp, F.s.at_ = sp := ⟨_, rfl⟩
  rw [hA, hn, hc, hsp] at hs
  have HA := Hd.mk hA; have HN := Hd.mk hn; have HC := Hd.mk hc; have HSP := Hd.mk hsp
  clear h hA hn hc hsp
  go_enter Tryz.func91, Tryz.ntmps91
  go_wp2
  generalize hV : World.alloc _ _ = V
  have HBV : Below w.heap.size w V := below_of hV (by repeat (first | (with_reducible assumption) | (with_reducible exact Below.refl _ _) | (with_reducible apply below_drewL) | (with_reducible apply below_alloc) | (with_reducible apply below_drew1) | (with_reducible apply below_drewN) | (refine below_set ?_ (by first | omega | (simp only [size_alloc, size_drew, size_set]; omega)) _ _)))
  have zV : Hd (V.heap.size = w.heap.size + 1 + 1) := ⟨by rw [← hV]; simp only [size_alloc]⟩
  have V0 := at_of hV (blk_alloc (blk_new _ _ _ rfl) _)
  have V0l := blk_lt V0
  have V1 := at_of hV (blk_new _ _ _ rfl)
  simp only [size_alloc] at V1
  have V1l := blk_lt V1
  clear hV
  have hs2 := blk_below hs HBV
  have hs2c0 := blk_cell hs2 0 _ rfl; have hs2f0 := blk_frozen hs2 0; have hs2c1 := blk_cell hs2 1 _ rfl; have hs2f1 := blk_frozen hs2 1; have hs2c2 := blk_cell hs2 2 _ rfl; have hs2f2 := blk_frozen hs2 2; have hs2c3 := blk_cell hs2 3 _ rfl; have hs2f3 := blk_frozen hs2 3; have hs2l := blk_lt hs2
  have HV := Hd.mk HBV
  have V1c0 := blk_cell V1 0 _ rfl
  have V1f0 := blk_frozen V1 0
  have V1c1 := blk_cell V1 1 _ rfl
  have V1f1 := blk_frozen V1 1
  have V1c2 := blk_cell V1 2 _ rfl
  have V1f2 := blk_frozen V1 2
  have V1c3 := blk_cell V1 3 _ rfl
  have V1f3 := blk_frozen V1 3
  have V1c4 := blk_cell V1 4 _ rfl
  have V1f4 := blk_frozen V1 4
  have V1c5 := blk_cell V1 5 _ rfl
  have V1f5 := blk_frozen V1 5
  have HS2 := Hd.mk hs2
  clear hs V0 hs2
  refine wp_region_can (.q [0, 1, 2, 3, 4, 5, 6] (.e 7 true (.e 8 false (.done)))) (clsB _) (by kernel_rfl) (by kernel_rfl) (by intro _ _ d _ _ h; cases d <;> exact h) (clsB_drew _) ?_
  refine can_q (l := [⟨_,_,_,_,_,_⟩, ⟨_,_,_,_,_,_⟩, ⟨_,_,_,_,_,_⟩, ⟨_,_,_,_,_,_⟩, ⟨_,_,_,_,_,_⟩, ⟨_,_,_,_,_,_⟩, ⟨_,_,_,_,_,_⟩]) rfl ?_
  repeat (go_big_quiet_step (fail))
  refine wpQuiet_nil ?_
  refine can_e (o := ⟨_,_,_,_,_,_⟩) rfl (fun K hK => ?_)
  go_wp2_with fail
  refine onK_normal (hK _ _ ⟨clsB _, clsB_of (by first | exact ((by repeat (first | (with_reducible assumption) | (with_reducible exact Below.refl _ _) | (with_reducible apply below_drewL) | (with_reducible apply below_alloc) | (with_reducible apply below_drew1) | (with_reducible apply below_drewN) | (refine below_set ?_ (by first | omega | (simp only [size_alloc, size_drew, size_set]; omega)) _ _)))) | exact below_undrew ((by repeat (first | (with_reducible assumption) | (with_reducible exact Below.refl _ _) | (with_reducible apply below_drewL) | (with_reducible apply below_alloc) | (with_reducible apply below_drew1) | (with_reducible apply below_drewN) | (refine below_set ?_ (by first | omega | (simp only [size_alloc, size_drew, size_set]; omega)) _ _))))), fun _ _ h => h, ?_⟩)
  clear hK K
  refine can_e (o := ⟨_,_,_,_,_,_⟩) rfl (fun K hK => ?_)
  go_wp2_with fail
  refine onK_normal (hK _ _ ⟨fun _ => True, trivial, (fun h => by cases h), ?_⟩)
  clear hK K
  refine can_done ?_
  clear HBV
  go_wp2
  generalize hU : World.drew (World.alloc _ _) = U
  have hbU : Below V.heap.size V U := by rw [← hU]; exact (by repeat (first | (with_reducible assumption) | (with_reducible exact Below.refl _ _) | (with_reducible apply below_drewL) | (with_reducible apply below_alloc) | (with_reducible apply below_drew1) | (with_reducible apply below_drewN) | (refine below_set ?_ (by first | omega | (simp only [size_alloc, size_drew, size_set]; omega)) _ _)))
  have hU1 : U.heap[V.heap.size]? = some (.cells (eE ⟨sp, v.tok⟩).toArray 59 (0, 0)) := by
    rw [← hU]
    exact blk_new _ _ _ rfl
  have HU1 := Hd.mk hU1
  have HWU := Hd.mk (below_seq HV.out hbU)
  clear hs2c0 hs2f0 hs2c1 hs2f1 hs2c2 hs2f2 hs2c3 hs2f3 hs2l
  clear V1c0 V1f0 V1c1 V1f1 V1c2 V1f2 V1c3 V1f3 V1c4 V1f4 V1c5 V1f5
  have hs3 := blk_below HS2.out hbU
  have hv3 := blk_below V1 hbU
  have hu3 := hU1
  simp only [eE, spotE, tokE, List.cons_append, List.nil_append] at hu3
  have hs3c0 := blk_cell hs3 0 _ rfl; have hs3f0 := blk_frozen hs3 0; have hs3c1 := blk_cell hs3 1 _ rfl; have hs3f1 := blk_frozen hs3 1; have hs3c2 := blk_cell hs3 2 _ rfl; have hs3f2 := blk_frozen hs3 2; have hs3c3 := blk_cell hs3 3 _ rfl; have hs3f3 := blk_frozen hs3 3; have hs3l := blk_lt hs3
  have hv3c0 := blk_cell hv3 0 _ rfl; have hv3f0 := blk_frozen hv3 0; have hv3c1 := blk_cell hv3 1 _ rfl; have hv3f1 := blk_frozen hv3 1; have hv3c2 := blk_cell hv3 2 _ rfl; have hv3f2 := blk_frozen hv3 2; have hv3c3 := blk_cell hv3 3 _ rfl; have hv3f3 := blk_frozen hv3 3; have hv3c4 := blk_cell hv3 4 _ rfl; have hv3f4 := blk_frozen hv3 4; have hv3c5 := blk_cell hv3 5 _ rfl; have hv3f5 := blk_frozen hv3 5; have hv3l := blk_lt hv3
  have hu3c0 := blk_cell hu3 0 _ rfl; have hu3f0 := blk_frozen hu3 0; have hu3c1 := blk_cell hu3 1 _ rfl; have hu3f1 := blk_frozen hu3 1; have hu3c2 := blk_cell hu3 2 _ rfl; have hu3f2 := blk_frozen hu3 2; have hu3c3 := blk_cell hu3 3 _ rfl; have hu3f3 := blk_frozen hu3 3; have hu3c4 := blk_cell hu3 4 _ rfl; have hu3f4 := blk_frozen hu3 4; have hu3c5 := blk_cell hu3 5 _ rfl; have hu3f5 := blk_frozen hu3 5; have hu3c6 := blk_cell hu3 6 _ rfl; have hu3f6 := blk_frozen hu3 6; have hu3c7 := blk_cell hu3 7 _ rfl; have hu3f7 := blk_frozen hu3 7; have hu3l := blk_lt hu3
  have hvU := hbU.size
  clear hU hbU hU1 hu3 hv3 V1 V1l
  have hzV : w.heap.size + 2 ≤ V.heap.size := by have := zV.out; omega
  clear zV
  generalize V.heap.size = g0 at *
  have HS3 := Hd.mk hs3
  clear hs3
  refine wp_region_can (.q [0, 1, 3, 4, 5, 6, 7, 8] (.b 2 true (.e 9 true (.e 10 false (.q [11, 12, 13] (.e 14 false (.done))))) 9 true (.e 2 true (.e 10 false (.q [11, 12, 13] (.e 14 false (.done))))))) (clsB _) (by kernel_rfl) (by kernel_rfl) (by intro _ _ d _ _ h; cases d <;> exact h) (clsB_drew _) ?_
  refine can_q (l := [⟨_,_,_,_,_,_⟩, ⟨_,_,_,_,_,_⟩, ⟨_,_,_,_,_,_⟩, ⟨_,_,_,_,_,_⟩, ⟨_,_,_,_,_,_⟩, ⟨_,_,_,_,_,_⟩, ⟨_,_,_,_,_,_⟩, ⟨_,_,_,_,_,_⟩]) rfl ?_
  repeat (go_big_quiet_step (fail))
  refine wpQuiet_nil ?_
  apply cut_one (fun g W => U.heap.size ≤ g ∧ Below U.heap.size U W ∧ W.heap[g]? = some (.cells (eE ⟨sp, v.tok⟩).toArray 59 (0, 0)))
  case main =>
    intro key
    refine can_b (o := ⟨_,_,_,_,_,_⟩) (oj := ⟨_,_,_,_,_,_⟩) rfl rfl (fun K hK => ?_) (fun K hK => ?_)
    · go_wp2_with (go_at_call 62; go_must (refine Calls.mono (behind_calls v.tok _) ?_; rintro e w1 ⟨rfl, hb1⟩; replace hb1 := below_undrew hb1; have hz1 := hb1.size))
      refine onK_normal (hK _ _ ⟨clsB _, clsB_of (by first | exact (hb1) | exact below_undrew (hb1)), fun _ _ h => h, ?_⟩)
      clear hK K
      refine can_e (o := ⟨_,_,_,_,_,_⟩) rfl (fun K hK => ?_)
      go_wp2_with fail
      refine onK_normal (hK _ _ ⟨clsB _, clsB_of (by first | exact ((below_alloc hb1 _)) | exact below_undrew ((below_alloc hb1 _))), fun _ _ h => h, ?_⟩)
      clear hK K
      generalize hW9 : World.alloc w1 _ = W9
      have k1 : Below U.heap.size U W9 := by rw [← hW9]; exact below_alloc hb1 _
      have k2 : W9.heap[w1.heap.size]? = some (.cells (eE ⟨sp, v.tok⟩).toArray 59 (0, 0)) := by rw [← hW9]; exact blk_new _ _ _ rfl
      generalize w1.heap.size = g at k2 hz1 ⊢
      exact key g W9 ⟨hz1, k1, k2⟩
    · go_wp2_with fail
      refine onK_normal (hK _ _ ⟨clsB _, clsB_of (by first | exact ((by repeat (first | (with_reducible assumption) | (with_reducible exact Below.refl _ _) | (with_reducible apply below_drewL) | (with_reducible apply below_alloc) | (with_reducible apply below_drew1) | (with_reducible apply below_drewN) | (refine below_set ?_ (by first | omega | (simp only [size_alloc, size_drew, size_set]; omega)) _ _)))) | exact below_undrew ((by repeat (first | (with_reducible assumption) | (with_reducible exact Below.refl _ _) | (with_reducible apply below_drewL) | (with_reducible apply below_alloc) | (with_reducible apply below_drew1) | (with_reducible apply below_drewN) | (refine below_set ?_ (by first | omega | (simp only [size_alloc, size_drew, size_set]; omega)) _ _))))), fun _ _ h => h, ?_⟩)
      clear hK K
      refine can_e (o := ⟨_,_,_,_,_,_⟩) rfl (fun K hK => ?_)
      go_wp2_with (go_at_call 62; go_must (refine Calls.mono (behind_calls v.tok _) ?_; rintro e w1 ⟨rfl, hb1⟩; have hb2 : Below U.heap.size U w1 := (by first | exact below_seq (by repeat (first | (with_reducible assumption) | (with_reducible exact Below.refl _ _) | (with_reducible apply below_drewL) | (with_reducible apply below_alloc) | (with_reducible apply below_drew1) | (with_reducible apply below_drewN) | (refine below_set ?_ (by first | omega | (simp only [size_alloc, size_drew, size_set]; omega)) _ _))) hb1 | exact below_seq (by repeat (first | (with_reducible assumption) | (with_reducible exact Below.refl _ _) | (with_reducible apply below_drewL) | (with_reducible apply below_alloc) | (with_reducible apply below_drew1) | (with_reducible apply below_drewN) | (refine below_set ?_ (by first | omega | (simp only [size_alloc, size_drew, size_set]; omega)) _ _))) (below_undrew hb1)); have hg1 : w1.heap[U.heap.size]? = some (.cells (eE ⟨sp, v.tok⟩).toArray 59 (0, 0)) := (by first | exact blk_below (blk_new _ _ _ rfl) hb1 | exact blk_below (blk_new _ _ _ rfl) (below_undrew hb1))))
      refine onK_normal (hK _ _ ⟨clsB _, clsB_of (by first | exact (hb2) | exact below_undrew (hb2)), fun _ _ h => h, ?_⟩)
      clear hK K
      generalize hk : U.heap.size = g at hg1 ⊢
      exact key g w1 ⟨by omega, hb2, hg1⟩
  case key =>
    rintro g W ⟨hg, hbW, hgW⟩
    have HW := Hd.mk (below_seq HWU.out hbW)
    clear hs3c0 hs3f0 hs3c1 hs3f1 hs3c2 hs3f2 hs3c3 hs3f3 hs3l
    clear hv3c0 hv3f0 hv3c1 hv3f1 hv3c2 hv3f2 hv3c3 hv3f3 hv3c4 hv3f4 hv3c5 hv3f5 hv3l hu3c0 hu3f0 hu3c1 hu3f1 hu3c2 hu3f2 hu3c3 hu3f3 hu3c4 hu3f4 hu3c5 hu3f5 hu3c6 hu3f6 hu3c7 hu3f7 hu3l
    have hpW := blk_below HS3.out hbW
    have hgg : w.heap.size ≤ g := by omega
    clear hvU hzV hbW
    refine can_e (o := ⟨_,_,_,_,_,_⟩) rfl (fun K hK => ?_)
    go_wp2_with (at_builtin; go_must (refine fold_append HH.out HW.out rfl (.tmp 26) (.tmp 28) rfl Tryz.underlying54 _ info31 rfl ⟨sp, v.tok⟩ g (by rw [HA.out, HN.out, HC.out]; rfl) rfl hgg hgW hB ?_; intro A' n' c' own' Z hfold hbZ hpZ; have HF := Hd.mk hfold; have HBZ := Hd.mk hbZ; clear hfold hbZ; have hs4 := hpZ.trans hpW; clear hpZ hpW; have hs4c0 := blk_cell hs4 0 _ rfl; have hs4f0 := blk_frozen hs4 0; have hs4c1 := blk_cell hs4 1 _ rfl; have hs4f1 := blk_frozen hs4 1; have hs4c2 := blk_cell hs4 2 _ rfl; have hs4f2 := blk_frozen hs4 2; have hs4c3 := blk_cell hs4 3 _ rfl; have hs4f3 := blk_frozen hs4 3; have hs4l := blk_lt hs4))
    refine onK_normal (hK _ _ ⟨fun _ => True, trivial, (fun h => by cases h), ?_⟩)
    clear hK K
    refine can_q (l := [⟨_,_,_,_,_,_⟩, ⟨_,_,_,_,_,_⟩, ⟨_,_,_,_,_,_⟩]) rfl ?_
    repeat (go_big_quiet_step (fail))
    refine wpQuiet_nil ?_
    refine can_e (o := ⟨_,_,_,_,_,_⟩) rfl (fun K hK => ?_)
    go_wp2_with fail
    refine onK_normal (hK _ _ ⟨fun _ => True, trivial, (fun h => by cases h), ?_⟩)
    clear hK K
    refine can_done ?_
    go_wp2
    go_end0
    refine ⟨rfl, _, HF.out ⟨v.tok.t, v.tok.m⟩ _ ?_ ?_, by rw [HSP.out], fun _ => rfl, ?_⟩
    · exact blk_drew (blk_set (blk_set (blk_set hs4 0 _ _ rfl) 1 _ _ rfl) 2 _ _ rfl)
    · exact (Fr.set (Fr.set (Fr.set (Fr.refl (fun k => k = p) _) (.inl rfl) _ _) (.inl rfl) _ _) (.inl rfl) _ _)
    · refine ((fr_base (HW.out.mono hbs) (fun k hk => .inr (.inr hk))).trans (fr_base HBZ.out (fun k hk => .inr (.inr hk)))).trans ?_
      exact (Fr.set (Fr.set (Fr.set (Fr.refl (XF p b base) _) (.inl (.inl rfl)) _ _) (.inl (.inl rfl)) _ _) (.inl (.inl rfl)) _ _)
end Go.Proofs.YtoambcpjdcehhaaGreat.Fn

/- What the other operations turn. -/
set_option linter.unusedVariables false
set_option linter.unusedSimpArgs false
namespace Go.Proofs.YtoambcpjdcehhaaGreat.Fn
open Go Go.RowKit Go.Proofs.YtoambcpjdcehhaaGreat.Can Go.Proofs.YtoambcpjdcehhaaGreat.Base
attribute [local go_sem] clsB AB.cell

section
variable {w w' : World} {p b base B : Nat} {F : FS}
theorem Fold.spot (h : Fold w p b base B F) (at_ : Spot) (hs : w'.heap[p]? = some (.cells #[.int .i64 at_.at_, .int .i64 at_.mode, .slice F.A F.n F.c, .map (some b)] 124 (0, 0))) (hf : Fr (fun k => k = p) w w') : Fold w' p b base B ⟨⟨at_, F.s.l⟩, F.K, F.own, F.A, F.n, F.c⟩ := by
  have hz := hf.size
  have hpb := h.pb
  have hX : ∀ k, k = p → k < base := by rintro k rfl; exact hpb
  refine ⟨hs, h.map.move (hf.same b h.map.lt (fun he => h.ne he.symm)), h.ne, h.pb, h.bb, Nat.le_trans h.size hz, (hf.row h.row (fun k hk => ⟨hk.2, by show ¬ k = p; omega⟩)).mono fun k hk => ⟨hk.1, by omega⟩, h.cap, h.nil, ?_, fun x e hx => ?_, h.lenN, h.lenK⟩
  · rcases h.tail with ht | ⟨h1, h2⟩
    · exact .inl ht
    · exact .inr ⟨h1, h2.by hf hX⟩
  · rcases h.kept x e hx with hk | hk
    · exact .inl ((hf.row hk fun k hk => ⟨hk.1.2, by show ¬ k = p; omega⟩).mono fun k hk => ⟨⟨hk.1.1, by omega⟩, hk.2⟩)
    · exact .inr hk
theorem Fold.maps (h : Fold w p b base B F) (K : Int → Option KE) (hm : VMap w' b (B + 1) (fun y => (K y).map kval)) (hf : Fr (fun k => k = b) w w')
    (hK : ∀ x e, K x = some e → F.K x = some e ∨ e = ⟨F.s.at_, F.A, F.n, F.s.l⟩) : Fold w' p b base (B + 1) ⟨F.s, K, F.own, F.A, F.n, F.c⟩ := by
  have hz := hf.size
  have hbb := h.bb
  have hX : ∀ k, k = b → k < base := by rintro k rfl; exact hbb
  refine ⟨(hf.same p (blk_lt h.str) h.ne).trans h.str, hm, h.ne, h.pb, h.bb, Nat.le_trans h.size hz, (hf.row h.row (fun k hk => ⟨hk.2, by show ¬ k = b; omega⟩)).mono fun k hk => ⟨hk.1, by omega⟩, h.cap, h.nil, ?_, fun x e hx => ?_, Nat.le_succ_of_le h.lenN, fun x e hx => ?_⟩
  · rcases h.tail with ht | ⟨h1, h2⟩
    · exact .inl ht
    · exact .inr ⟨h1, h2.by hf hX⟩
  · rcases hK x e hx with he | rfl
    · rcases h.kept x e he with hk | hk
      · exact .inl ((hf.row hk fun k hk => ⟨hk.1.2, by show ¬ k = b; omega⟩).mono fun k hk => ⟨⟨hk.1.1, by omega⟩, hk.2⟩)
      · exact .inr hk
    · exact .inr ⟨rfl, Nat.le_refl _, by rw [List.take_of_length_le (by show F.s.l.length ≤ F.n; rw [h.row.1]; exact Nat.le_refl _)]⟩
  · rcases hK x e hx with he | rfl
    · exact Nat.le_succ_of_le (h.lenK x e he)
    · exact Nat.le_succ_of_le h.lenN
end
theorem nothing_calls {w : World} {p b base B : Nat} {F : FS} (h : Fold w p b base B F) (v : Ev) : Calls Tryz.prog 97 #[.pointer (some ⟨p, 0, none⟩), evV v] w fun e w' =>
    e = .returned (.tuple #[]) ∧ Turned w w' p b base B F.s (kst F) := by
  unfold evV
  have HH := Hd.mk h
  clear h
  go_enter Tryz.func97, Tryz.ntmps97
  go_wp2
  go_end0
  exact ⟨rfl, Turned.same HH.out (by repeat (first | (with_reducible assumption) | (with_reducible exact Below.refl _ _) | (with_reducible apply below_drewL) | (with_reducible apply below_alloc) | (with_reducible apply below_drew1) | (with_reducible apply below_drewN) | (refine below_set ?_ (by first | omega | (simp only [size_alloc, size_drew, size_set]; omega)) _ _)))⟩
theorem mode_calls {w : World} {p b base B : Nat} {F : FS} (h : Fold w p b base B F) (v : Ev) : Calls Tryz.prog 96 #[.pointer (some ⟨p, 0, none⟩), evV v] w fun e w' =>
    e = .returned (.tuple #[]) ∧ Turned w w' p b base B ⟨⟨F.s.at_.at_, v.n⟩, F.s.l⟩ (kst F) := by
  unfold evV
  have hs := h.str
  have HH := Hd.mk h
  have hbs := h.size
  have hpb := h.pb
  have hbb := h.bb
  have hcap := h.cap
  obtain ⟨A, hA⟩ : ∃ A, F.A = A := ⟨_, rfl⟩
  obtain ⟨n, hn⟩ : ∃ n, F.n = n := ⟨_, rfl⟩
  obtain ⟨c, hc⟩ : ∃ c, F.c = c := ⟨_, rfl⟩
  obtain ⟨sp, hsp⟩ : ∃ sp, F.s.at_ = sp := ⟨_, rfl⟩
  rw [hn, hc] at hcap
  rw [hA, hn, hc, hsp] at hs
  have HA := Hd.mk hA; have HN := Hd.mk hn; have HC := Hd.mk hc; have HSP := Hd.mk hsp
  have HS := Hd.mk hs
  have hsc0 := blk_cell hs 0 _ rfl; have hsf0 := blk_frozen hs 0; have hsc1 := blk_cell hs 1 _ rfl; have hsf1 := blk_frozen hs 1; have hsc2 := blk_cell hs 2 _ rfl; have hsf2 := blk_frozen hs 2; have hsc3 := blk_cell hs 3 _ rfl; have hsf3 := blk_frozen hs 3; have hsl := blk_lt hs
  clear h hA hn hc hsp hs
  go_enter Tryz.func96, Tryz.ntmps96
  go_wp2
  go_end0
  have hsp := HH.out.spot (w' := w.setCell ⟨p, 1, none⟩ (.int .i64 v.n)) ⟨F.s.at_.at_, v.n⟩ (by rw [HA.out, HN.out, HC.out, HSP.out]; exact blk_set HS.out 1 _ _ rfl) (Fr.set (Fr.refl (fun k => k = p) _) (.inl rfl) _ _)
  exact ⟨rfl, _, (hsp.below (below_alloc (Below.refl _ _) _)).more (Nat.le_succ B), rfl, fun _ => rfl, (Fr.set (Fr.refl (XF p b base) _) (.inl (.inl rfl)) _ _).alloc _⟩
theorem kst_none {F : FS} {x : Int} (h : kst F x = none) : F.K x = none := by
  unfold kst at h
  cases hx : F.K x with
  | none => rfl
  | some e => rw [hx] at h; cases h
theorem release_calls {w : World} {p b base B : Nat} {F : FS} (h : Fold w p b base B F) (v : Ev) (hv : (Lit.int .i64 v.n).wf = true) : Calls Tryz.prog 95 #[.pointer (some ⟨p, 0, none⟩), evV v] w fun e w' =>
    e = .returned (.tuple #[]) ∧ Turned w w' p b base B F.s (fun y => if y = v.n then none else kst F y) := by
  unfold evV
  obtain ⟨w3, hrun, hmap, hfr⟩ := (h.map.move (w' := (w.alloc (.cells #[.int .i64 v.kind, .int .i64 v.id, .int .i64 v.client, .int .i64 v.op, .int .i64 v.n, .string v.data, .int .i64 v.e, .int .i64 v.rn, .int .i64 v.tok.k, .int .i64 v.tok.r, .int .i64 v.tok.f, .int .i64 v.tok.a, .int .i64 v.tok.t, .int .i64 v.tok.m] 47)).drew) (Below.heap_alloc w _ b h.map.lt)).drop hv 0
  have HM := Hd.mk hmap; have HF := Hd.mk hfr
  clear hmap hfr
  have hs := h.str
  have HH := Hd.mk h
  have hbs := h.size
  have hpb := h.pb
  have hbb := h.bb
  have hcap := h.cap
  obtain ⟨A, hA⟩ : ∃ A, F.A = A := ⟨_, rfl⟩
  obtain ⟨n, hn⟩ : ∃ n, F.n = n := ⟨_, rfl⟩
  obtain ⟨c, hc⟩ : ∃ c, F.c = c := ⟨_, rfl⟩
  obtain ⟨sp, hsp⟩ : ∃ sp, F.s.at_ = sp := ⟨_, rfl⟩
  rw [hn, hc] at hcap
  rw [hA, hn, hc, hsp] at hs
  have HA := Hd.mk hA; have HN := Hd.mk hn; have HC := Hd.mk hc; have HSP := Hd.mk hsp
  have HS := Hd.mk hs
  have hsc0 := blk_cell hs 0 _ rfl; have hsf0 := blk_frozen hs 0; have hsc1 := blk_cell hs 1 _ rfl; have hsf1 := blk_frozen hs 1; have hsc2 := blk_cell hs 2 _ rfl; have hsf2 := blk_frozen hs 2; have hsc3 := blk_cell hs 3 _ rfl; have hsf3 := blk_frozen hs 3; have hsl := blk_lt hs
  clear h hA hn hc hsp hs
  go_enter Tryz.func95, Tryz.ntmps95
  go_wp2
  refine wp_region_can (.q [0, 1, 2, 3, 4, 5, 6] (.e 7 false (.done))) (clsB _) (by kernel_rfl) (by kernel_rfl) (by intro _ _ d _ _ h; cases d <;> exact h) (clsB_drew _) ?_
  refine can_q (l := [⟨_,_,_,_,_,_⟩, ⟨_,_,_,_,_,_⟩, ⟨_,_,_,_,_,_⟩, ⟨_,_,_,_,_,_⟩, ⟨_,_,_,_,_,_⟩, ⟨_,_,_,_,_,_⟩, ⟨_,_,_,_,_,_⟩]) rfl ?_
  repeat (go_big_quiet_step (fail))
  refine wpQuiet_nil ?_
  refine can_e (o := ⟨_,_,_,_,_,_⟩) rfl (fun K hK => ?_)
  go_wp2_with fail
  refine onK_normal (hK _ _ ⟨fun _ => True, trivial, (fun h => by cases h), ?_⟩)
  clear hK K
  refine can_done ?_
  go_wp2
  go_end0
  refine ⟨rfl, _, (HH.out.below (w' := (w.alloc _).drew) (by repeat (first | (with_reducible assumption) | (with_reducible exact Below.refl _ _) | (with_reducible apply below_drewL) | (with_reducible apply below_alloc) | (with_reducible apply below_drew1) | (with_reducible apply below_drewN) | (refine below_set ?_ (by first | omega | (simp only [size_alloc, size_drew, size_set]; omega)) _ _)))).maps (fun y => if y = v.n then none else F.K y) ?_ HF.out ?_, rfl, fun y => ?_, ?_⟩
  · obtain ⟨D, h1, h2⟩ := HM.out
    refine ⟨D, h1.mono (Nat.le_succ B), fun x hx => ?_⟩
    have h3 := h2 x hx
    by_cases he : x = v.n
    · simpa [he] using h3
    · simpa [he] using h3
  · intro x e hx
    by_cases he : x = v.n
    · simp [he] at hx
    · simp [he] at hx; exact .inl hx
  · show Option.map KE.st (if y = v.n then none else F.K y) = _
    by_cases he : y = v.n
    · simp [he]
    · simp [he, kst]
  · exact ((Fr.refl (XF p b base) _).alloc _).drew.trans (HF.out.mono fun k hk => .inr (.inl hk))
end Go.Proofs.YtoambcpjdcehhaaGreat.Fn

/- What a mark, a rewind and a push-back turn. -/
set_option linter.unusedVariables false
set_option linter.unusedSimpArgs false
namespace Go.Proofs.YtoambcpjdcehhaaGreat.Fn
open Go Go.RowKit Go.Proofs.YtoambcpjdcehhaaGreat.Can Go.Proofs.YtoambcpjdcehhaaGreat.Base
attribute [local go_sem] clsB AB.cell

theorem mark_calls {w : World} {p b base B : Nat} {F : FS} (h : Fold w p b base B F) (v : Ev) (hv : (Lit.int .i64 v.rn).wf = true) (hB : B ≤ 1000000) : Calls Tryz.prog 93 #[.pointer (some ⟨p, 0, none⟩), evV v] w fun e w' =>
    e = .returned (.tuple #[]) ∧ Turned w w' p b base B F.s (fun y => if y = v.rn then some F.s else kst F y) := by
  unfold evV
  obtain ⟨w3, hrun, hmap, hfr⟩ := (h.map.move (w' := (w.alloc (.cells #[.int .i64 v.kind, .int .i64 v.id, .int .i64 v.client, .int .i64 v.op, .int .i64 v.n, .string v.data, .int .i64 v.e, .int .i64 v.rn, .int .i64 v.tok.k, .int .i64 v.tok.r, .int .i64 v.tok.f, .int .i64 v.tok.a, .int .i64 v.tok.t, .int .i64 v.tok.m] 47)).drew) (Below.heap_alloc w _ b h.map.lt)).store hv (kval ⟨F.s.at_, F.A, F.n, F.s.l⟩) hB
  obtain ⟨i0, hi, _, hi2, _⟩ := info_of info31
  have hcut0 := cut_max eT 54 59 Tryz.underlying54 hi h.row (Nat.le_refl _) h.cap
  have hln : F.n ≤ 1000000 := by have := h.lenN; have := h.row.1; omega
  unfold kval at hrun
  simp only [] at hrun
  have HM := Hd.mk hmap; have HF := Hd.mk hfr
  clear hmap hfr hi hi2
  have hs := h.str
  have HH := Hd.mk h
  have hbs := h.size
  have hpb := h.pb
  have hbb := h.bb
  have hcap := h.cap
  obtain ⟨A, hA⟩ : ∃ A, F.A = A := ⟨_, rfl⟩
  obtain ⟨n, hn⟩ : ∃ n, F.n = n := ⟨_, rfl⟩
  obtain ⟨c, hc⟩ : ∃ c, F.c = c := ⟨_, rfl⟩
  obtain ⟨sp, hsp⟩ : ∃ sp, F.s.at_ = sp := ⟨_, rfl⟩
  rw [hn, hc] at hcap
  rw [hA, hn, hc, hsp] at hs
  have HA := Hd.mk hA; have HN := Hd.mk hn; have HC := Hd.mk hc; have HSP := Hd.mk hsp
  have HS := Hd.mk hs
  have hsc0 := blk_cell hs 0 _ rfl; have hsf0 := blk_frozen hs 0; have hsc1 := blk_cell hs 1 _ rfl; have hsf1 := blk_frozen hs 1; have hsc2 := blk_cell hs 2 _ rfl; have hsf2 := blk_frozen hs 2; have hsc3 := blk_cell hs 3 _ rfl; have hsf3 := blk_frozen hs 3; have hsl := blk_lt hs
  clear h hA hn hc hsp hs
  rw [HA.out, HN.out, HSP.out] at hrun
  rw [HA.out, HN.out, HC.out] at hcut0
  rw [HN.out] at hln
  have hcut : ∀ W, (Instr.slice 54 (.slice A n c) none (some (.int .i64 n)) (some (.int .i64 n))).run Tryz.prog W = .ok (.slice A n n) W := fun W => hcut0 W .i64 .i64
  clear hcut0
  go_enter Tryz.func93, Tryz.ntmps93
  go_wp2
  refine wp_region_can (.q [0, 1, 2, 3, 4, 5, 6, 7, 8, 9, 10, 11, 12, 13, 14, 15, 16, 17, 18, 19, 20] (.e 21 false (.done))) (clsB _) (by kernel_rfl) (by kernel_rfl) (by intro _ _ d _ _ h; cases d <;> exact h) (clsB_drew _) ?_
  refine can_q (l := [⟨_,_,_,_,_,_⟩, ⟨_,_,_,_,_,_⟩, ⟨_,_,_,_,_,_⟩, ⟨_,_,_,_,_,_⟩, ⟨_,_,_,_,_,_⟩, ⟨_,_,_,_,_,_⟩, ⟨_,_,_,_,_,_⟩, ⟨_,_,_,_,_,_⟩, ⟨_,_,_,_,_,_⟩, ⟨_,_,_,_,_,_⟩, ⟨_,_,_,_,_,_⟩, ⟨_,_,_,_,_,_⟩, ⟨_,_,_,_,_,_⟩, ⟨_,_,_,_,_,_⟩, ⟨_,_,_,_,_,_⟩, ⟨_,_,_,_,_,_⟩, ⟨_,_,_,_,_,_⟩, ⟨_,_,_,_,_,_⟩, ⟨_,_,_,_,_,_⟩, ⟨_,_,_,_,_,_⟩, ⟨_,_,_,_,_,_⟩]) rfl ?_
  repeat (go_big_quiet_step (fail))
  refine wpQuiet_nil ?_
  refine can_e (o := ⟨_,_,_,_,_,_⟩) rfl (fun K hK => ?_)
  go_wp2_with fail
  refine onK_normal (hK _ _ ⟨fun _ => True, trivial, (fun h => by cases h), ?_⟩)
  clear hK K
  refine can_done ?_
  go_wp2
  go_end0
  refine ⟨rfl, _, (HH.out.below (w' := (w.alloc _).drew) (by repeat (first | (with_reducible assumption) | (with_reducible exact Below.refl _ _) | (with_reducible apply below_drewL) | (with_reducible apply below_alloc) | (with_reducible apply below_drew1) | (with_reducible apply below_drewN) | (refine below_set ?_ (by first | omega | (simp only [size_alloc, size_drew, size_set]; omega)) _ _)))).maps (fun y => if y = v.rn then some ⟨F.s.at_, F.A, F.n, F.s.l⟩ else F.K y) ?_ HF.out ?_, rfl, fun y => ?_, ?_⟩
  · obtain ⟨D, h1, h2⟩ := HM.out
    refine ⟨D, h1, fun x hx => ?_⟩
    have h3 := h2 x hx
    by_cases he : x = v.rn
    · simpa [he] using h3
    · simpa [he] using h3
  · intro x e hx
    by_cases he : x = v.rn
    · simp [he] at hx; exact .inr hx.symm
    · simp [he] at hx; exact .inl hx
  · show Option.map KE.st (if y = v.rn then some ⟨F.s.at_, F.A, F.n, F.s.l⟩ else F.K y) = _
    by_cases he : y = v.rn
    · simp [he, KE.st]
    · simp [he, kst]
  · exact ((Fr.refl (XF p b base) _).alloc _).drew.trans (HF.out.mono fun k hk => .inr (.inl hk))
theorem rewind_none {w : World} {p b base B : Nat} {F : FS} (h : Fold w p b base B F) (v : Ev) (hv : (Lit.int .i64 v.n).wf = true) (hK : kst F v.n = none) : Calls Tryz.prog 94 #[.pointer (some ⟨p, 0, none⟩), evV v] w fun e w' =>
    e = .returned (.tuple #[]) ∧ Turned w w' p b base B F.s (kst F) := by
  unfold evV
  obtain ⟨u, hlook, _, hu⟩ := h.map.look hv
  have hK' := kst_none hK
  have hu' := hu (by rw [hK']; rfl)
  subst hu'
  rw [hK'] at hlook
  have hbl := h.map.lt
  have hlk : ∀ X : AB (w.alloc (.cells #[.int .i64 v.kind, .int .i64 v.id, .int .i64 v.client, .int .i64 v.op, .int .i64 v.n, .string v.data, .int .i64 v.e, .int .i64 v.rn, .int .i64 v.tok.k, .int .i64 v.tok.r, .int .i64 v.tok.f, .int .i64 v.tok.a, .int .i64 v.tok.t, .int .i64 v.tok.m] 47)), (Instr.lookup 122 (.map (some b)) (.int .i64 v.n) true).run Tryz.prog X.x = .ok (.tuple #[.agg #[.int .i64 0, .int .i64 0, .slice none 0 0], .bool false]) X.x := fun X => hlook X.x ((X.ok b (by rw [size_alloc]; omega)).trans (Below.heap_alloc w _ b hbl))
  clear hlook hK hK' hu
  have hs := h.str
  have HH := Hd.mk h
  have hbs := h.size
  have hpb := h.pb
  have hbb := h.bb
  have hcap := h.cap
  obtain ⟨A, hA⟩ : ∃ A, F.A = A := ⟨_, rfl⟩
  obtain ⟨n, hn⟩ : ∃ n, F.n = n := ⟨_, rfl⟩
  obtain ⟨c, hc⟩ : ∃ c, F.c = c := ⟨_, rfl⟩
  obtain ⟨sp, hsp⟩ : ∃ sp, F.s.at_ = sp := ⟨_, rfl⟩
  rw [hn, hc] at hcap
  rw [hA, hn, hc, hsp] at hs
  have HA := Hd.mk hA; have HN := Hd.mk hn; have HC := Hd.mk hc; have HSP := Hd.mk hsp
  have HS := Hd.mk hs
  have hsc0 := blk_cell hs 0 _ rfl; have hsf0 := blk_frozen hs 0; have hsc1 := blk_cell hs 1 _ rfl; have hsf1 := blk_frozen hs 1; have hsc2 := blk_cell hs 2 _ rfl; have hsf2 := blk_frozen hs 2; have hsc3 := blk_cell hs 3 _ rfl; have hsf3 := blk_frozen hs 3; have hsl := blk_lt hs
  clear h hA hn hc hsp hs
  go_enter Tryz.func94, Tryz.ntmps94
  go_wp2
  refine wp_region_can (.q [0, 1, 2, 3, 4, 5, 6, 7, 8, 9, 10] (.e 11 true (.e 12 false (.q [13] (.done))))) (clsB _) (by kernel_rfl) (by kernel_rfl) (by intro _ _ d _ _ h; cases d <;> exact h) (clsB_drew _) ?_
  refine can_q (l := [⟨_,_,_,_,_,_⟩, ⟨_,_,_,_,_,_⟩, ⟨_,_,_,_,_,_⟩, ⟨_,_,_,_,_,_⟩, ⟨_,_,_,_,_,_⟩, ⟨_,_,_,_,_,_⟩, ⟨_,_,_,_,_,_⟩, ⟨_,_,_,_,_,_⟩, ⟨_,_,_,_,_,_⟩, ⟨_,_,_,_,_,_⟩, ⟨_,_,_,_,_,_⟩]) rfl ?_
  repeat (go_big_quiet_step (fail))
  refine wpQuiet_nil ?_
  refine can_e (o := ⟨_,_,_,_,_,_⟩) rfl (fun K hK => ?_)
  go_wp2_with fail
  refine onK_normal (hK _ _ ⟨clsB _, clsB_of (by first | exact ((by repeat (first | (with_reducible assumption) | (with_reducible exact Below.refl _ _) | (with_reducible apply below_drewL) | (with_reducible apply below_alloc) | (with_reducible apply below_drew1) | (with_reducible apply below_drewN) | (refine below_set ?_ (by first | omega | (simp only [size_alloc, size_drew, size_set]; omega)) _ _)))) | exact below_undrew ((by repeat (first | (with_reducible assumption) | (with_reducible exact Below.refl _ _) | (with_reducible apply below_drewL) | (with_reducible apply below_alloc) | (with_reducible apply below_drew1) | (with_reducible apply below_drewN) | (refine below_set ?_ (by first | omega | (simp only [size_alloc, size_drew, size_set]; omega)) _ _))))), fun _ _ h => h, ?_⟩)
  clear hK K
  refine can_e (o := ⟨_,_,_,_,_,_⟩) rfl (fun K hK => ?_)
  go_wp2_with fail
  refine onK_normal (hK _ _ ⟨fun _ => True, trivial, (fun h => by cases h), ?_⟩)
  clear hK K
  refine can_q (l := [⟨_,_,_,_,_,_⟩]) rfl ?_
  repeat (go_big_quiet_step (fail))
  refine wpQuiet_nil ?_
  refine can_done ?_
  go_wp2
  go_end0
  exact ⟨rfl, Turned.same HH.out (by repeat (first | (with_reducible assumption) | (with_reducible exact Below.refl _ _) | (with_reducible apply below_drewL) | (with_reducible apply below_alloc) | (with_reducible apply below_drew1) | (with_reducible apply below_drewN) | (refine below_set ?_ (by first | omega | (simp only [size_alloc, size_drew, size_set]; omega)) _ _)))⟩
theorem rewind_some {w : World} {p b base B : Nat} {F : FS} {e : KE} (h : Fold w p b base B F) (v : Ev) (hv : (Lit.int .i64 v.n).wf = true) (hK : F.K v.n = some e) : Calls Tryz.prog 94 #[.pointer (some ⟨p, 0, none⟩), evV v] w fun r w' =>
    r = .returned (.tuple #[]) ∧ Turned w w' p b base B e.st (kst F) := by
  unfold evV
  obtain ⟨u, hlook, hu, _⟩ := h.map.look hv
  have hu' := hu (kval e) (by rw [hK]; rfl)
  subst hu'
  rw [hK] at hlook
  unfold kval at hlook
  have hbl := h.map.lt
  have hlk : ∀ X : AB (w.alloc (.cells #[.int .i64 v.kind, .int .i64 v.id, .int .i64 v.client, .int .i64 v.op, .int .i64 v.n, .string v.data, .int .i64 v.e, .int .i64 v.rn, .int .i64 v.tok.k, .int .i64 v.tok.r, .int .i64 v.tok.f, .int .i64 v.tok.a, .int .i64 v.tok.t, .int .i64 v.tok.m] 47)), (Instr.lookup 122 (.map (some b)) (.int .i64 v.n) true).run Tryz.prog X.x = .ok (.tuple #[.agg #[.int .i64 e.at_.at_, .int .i64 e.at_.mode, .slice e.A e.n e.n], .bool true]) X.x := fun X => hlook X.x ((X.ok b (by rw [size_alloc]; omega)).trans (Below.heap_alloc w _ b hbl))
  have HKr := Hd.mk (h.keptRow hK)
  have HKl := Hd.mk (h.lenK _ _ hK)
  clear hlook hK hu
  have hs := h.str
  have HH := Hd.mk h
  have hbs := h.size
  have hpb := h.pb
  have hbb := h.bb
  have hcap := h.cap
  obtain ⟨A, hA⟩ : ∃ A, F.A = A := ⟨_, rfl⟩
  obtain ⟨n, hn⟩ : ∃ n, F.n = n := ⟨_, rfl⟩
  obtain ⟨c, hc⟩ : ∃ c, F.c = c := ⟨_, rfl⟩
  obtain ⟨sp, hsp⟩ : ∃ sp, F.s.at_ = sp := ⟨_, rfl⟩
  rw [hn, hc] at hcap
  rw [hA, hn, hc, hsp] at hs
  have HA := Hd.mk hA; have HN := Hd.mk hn; have HC := Hd.mk hc; have HSP := Hd.mk hsp
  have HS := Hd.mk hs
  have hsc0 := blk_cell hs 0 _ rfl; have hsf0 := blk_frozen hs 0; have hsc1 := blk_cell hs 1 _ rfl; have hsf1 := blk_frozen hs 1; have hsc2 := blk_cell hs 2 _ rfl; have hsf2 := blk_frozen hs 2; have hsc3 := blk_cell hs 3 _ rfl; have hsf3 := blk_frozen hs 3; have hsl := blk_lt hs
  clear h hA hn hc hsp hs
  go_enter Tryz.func94, Tryz.ntmps94
  go_wp2
  refine wp_region_can (.q [0, 1, 2, 3, 4, 5, 6, 7, 8, 9, 10] (.e 11 true (.e 12 false (.q [13] (.done))))) (clsB _) (by kernel_rfl) (by kernel_rfl) (by intro _ _ d _ _ h; cases d <;> exact h) (clsB_drew _) ?_
  refine can_q (l := [⟨_,_,_,_,_,_⟩, ⟨_,_,_,_,_,_⟩, ⟨_,_,_,_,_,_⟩, ⟨_,_,_,_,_,_⟩, ⟨_,_,_,_,_,_⟩, ⟨_,_,_,_,_,_⟩, ⟨_,_,_,_,_,_⟩, ⟨_,_,_,_,_,_⟩, ⟨_,_,_,_,_,_⟩, ⟨_,_,_,_,_,_⟩, ⟨_,_,_,_,_,_⟩]) rfl ?_
  repeat (go_big_quiet_step (fail))
  refine wpQuiet_nil ?_
  refine can_e (o := ⟨_,_,_,_,_,_⟩) rfl (fun K hK => ?_)
  go_wp2_with fail
  refine onK_normal (hK _ _ ⟨clsB _, clsB_of (by first | exact ((by repeat (first | (with_reducible assumption) | (with_reducible exact Below.refl _ _) | (with_reducible apply below_drewL) | (with_reducible apply below_alloc) | (with_reducible apply below_drew1) | (with_reducible apply below_drewN) | (refine below_set ?_ (by first | omega | (simp only [size_alloc, size_drew, size_set]; omega)) _ _)))) | exact below_undrew ((by repeat (first | (with_reducible assumption) | (with_reducible exact Below.refl _ _) | (with_reducible apply below_drewL) | (with_reducible apply below_alloc) | (with_reducible apply below_drew1) | (with_reducible apply below_drewN) | (refine below_set ?_ (by first | omega | (simp only [size_alloc, size_drew, size_set]; omega)) _ _))))), fun _ _ h => h, ?_⟩)
  clear hK K
  refine can_e (o := ⟨_,_,_,_,_,_⟩) rfl (fun K hK => ?_)
  go_wp2_with fail
  refine onK_normal (hK _ _ ⟨fun _ => True, trivial, (fun h => by cases h), ?_⟩)
  clear hK K
  refine can_q (l := [⟨_,_,_,_,_,_⟩]) rfl ?_
  repeat (go_big_quiet_step (fail))
  refine wpQuiet_nil ?_
  refine can_done ?_
  go_wp2
  go_end0
  have hcp := HH.out.capped (w' := ((w.setCell ⟨p, 0, none⟩ (.int .i64 e.at_.at_)).setCell ⟨p, 1, none⟩ (.int .i64 e.at_.mode)).setCell ⟨p, 2, none⟩ (.slice e.A e.n e.n)) e.at_ e.A e.n e.l (blk_set (blk_set (blk_set HS.out 0 _ _ rfl) 1 _ _ rfl) 2 _ _ rfl) (Fr.set (Fr.set (Fr.set (Fr.refl (fun k => k = p) _) (.inl rfl) _ _) (.inl rfl) _ _) (.inl rfl) _ _) HKr.out (fun hn => by
    rcases Nat.eq_zero_or_pos e.n with h0 | h0
    · exact h0
    · exact absurd hn (HKr.out.some_of h0)) HKl.out
  refine ⟨rfl, _, (hcp.below ?_).more (Nat.le_succ B), rfl, fun _ => rfl, ?_⟩
  · exact (by repeat (first | (with_reducible assumption) | (with_reducible exact Below.refl _ _) | (with_reducible apply below_drewL) | (with_reducible apply below_alloc) | (with_reducible apply below_drew1) | (with_reducible apply below_drewN) | (refine below_set ?_ (by first | omega | (simp only [size_alloc, size_drew, size_set]; omega)) _ _)))
  · exact (Fr.set (Fr.set (Fr.set (Fr.refl (XF p b base) _) (.inl (.inl rfl)) _ _) (.inl (.inl rfl)) _ _) (.inl (.inl rfl)) _ _).trans (Fr.of_below (by repeat (first | (with_reducible assumption) | (with_reducible exact Below.refl _ _) | (with_reducible apply below_drewL) | (with_reducible apply below_alloc) | (with_reducible apply below_drew1) | (with_reducible apply below_drewN) | (refine below_set ?_ (by first | omega | (simp only [size_alloc, size_drew, size_set]; omega)) _ _))))
theorem pushBack_nil {w : World} {p b base B : Nat} {F : FS} (h : Fold w p b base B F) (v : Ev) (hl : F.s.l = []) : Calls Tryz.prog 92 #[.pointer (some ⟨p, 0, none⟩), evV v] w fun e w' =>
    e = .returned (.tuple #[]) ∧ Turned w w' p b base B F.s (kst F) := by
  unfold evV
  have hn0 : F.n = 0 := by rw [← h.row.1, hl]; rfl
  have hs := h.str
  have HH := Hd.mk h
  have hbs := h.size
  have hpb := h.pb
  have hbb := h.bb
  have hcap := h.cap
  obtain ⟨A, hA⟩ : ∃ A, F.A = A := ⟨_, rfl⟩
  obtain ⟨n, hn⟩ : ∃ n, F.n = n := ⟨_, rfl⟩
  obtain ⟨c, hc⟩ : ∃ c, F.c = c := ⟨_, rfl⟩
  obtain ⟨sp, hsp⟩ : ∃ sp, F.s.at_ = sp := ⟨_, rfl⟩
  rw [hn, hc] at hcap
  rw [hA, hn, hc, hsp] at hs
  have HA := Hd.mk hA; have HN := Hd.mk hn; have HC := Hd.mk hc; have HSP := Hd.mk hsp
  have HS := Hd.mk hs
  have hsc0 := blk_cell hs 0 _ rfl; have hsf0 := blk_frozen hs 0; have hsc1 := blk_cell hs 1 _ rfl; have hsf1 := blk_frozen hs 1; have hsc2 := blk_cell hs 2 _ rfl; have hsf2 := blk_frozen hs 2; have hsc3 := blk_cell hs 3 _ rfl; have hsf3 := blk_frozen hs 3; have hsl := blk_lt hs
  clear h hA hn hc hsp hs
  obtain rfl : n = 0 := by rw [← HN.out, hn0]
  clear hn0 hl
  go_enter Tryz.func92, Tryz.ntmps92
  go_wp2
  go_end0
  exact ⟨rfl, Turned.same HH.out (by repeat (first | (with_reducible assumption) | (with_reducible exact Below.refl _ _) | (with_reducible apply below_drewL) | (with_reducible apply below_alloc) | (with_reducible apply below_drew1) | (with_reducible apply below_drewN) | (refine below_set ?_ (by first | omega | (simp only [size_alloc, size_drew, size_set]; omega)) _ _)))⟩
theorem pushBack_some {w : World} {p b base B : Nat} {F : FS} (h : Fold w p b base B F) (v : Ev) (l : List E) (x : E) (hl : F.s.l = l ++ [x]) (hB : B ≤ 1000000) : Calls Tryz.prog 92 #[.pointer (some ⟨p, 0, none⟩), evV v] w fun e w' =>
    e = .returned (.tuple #[]) ∧ Turned w w' p b base B ⟨x.at_, l⟩ (kst F) := by
  unfold evV
  obtain ⟨m, hm⟩ : ∃ m, l.length = m := ⟨_, rfl⟩
  have hn1 : F.n = m + 1 := by rw [← h.row.1, hl, List.length_append, hm]; rfl
  obtain ⟨i0, hi, _, hi2, _⟩ := info_of info31
  have hcut0 := cut_max (m := m) eT 54 59 Tryz.underlying54 hi h.row (by omega) h.cap
  have hln : F.n ≤ 1000000 := by have := h.lenN; have := h.row.1; omega
  obtain ⟨b0, off, y, hA0, hb0, hy, hc0, hc1, _⟩ := e_get h.row m (by omega)
  have hyx : y = x := by rw [hl, List.getElem?_append_right (by omega), hm, Nat.sub_self] at hy; simpa using hy.symm
  subst hyx
  have hrow : Row eT w (fun k => base ≤ k ∧ k < w.heap.size) F.A m l := by
    have := h.row.take m (by omega)
    rwa [hl, List.take_append_of_le_length (by omega), List.take_of_length_le (by omega)] at this
  have hlB : l.length ≤ B := by have := h.lenN; rw [hl, List.length_append] at this; omega
  have HRo := Hd.mk hrow; have HLB := Hd.mk hlB
  rw [hA0] at hcut0
  clear hl hy hi hi2 hrow hlB
  have hs := h.str
  have HH := Hd.mk h
  have hbs := h.size
  have hpb := h.pb
  have hbb := h.bb
  have hcap := h.cap
  obtain ⟨A, hA⟩ : ∃ A, F.A = A := ⟨_, rfl⟩
  obtain ⟨n, hn⟩ : ∃ n, F.n = n := ⟨_, rfl⟩
  obtain ⟨c, hc⟩ : ∃ c, F.c = c := ⟨_, rfl⟩
  obtain ⟨sp, hsp⟩ : ∃ sp, F.s.at_ = sp := ⟨_, rfl⟩
  rw [hn, hc] at hcap
  rw [hA, hn, hc, hsp] at hs
  have HA := Hd.mk hA; have HN := Hd.mk hn; have HC := Hd.mk hc; have HSP := Hd.mk hsp
  have HS := Hd.mk hs
  have hsc0 := blk_cell hs 0 _ rfl; have hsf0 := blk_frozen hs 0; have hsc1 := blk_cell hs 1 _ rfl; have hsf1 := blk_frozen hs 1; have hsc2 := blk_cell hs 2 _ rfl; have hsf2 := blk_frozen hs 2; have hsc3 := blk_cell hs 3 _ rfl; have hsf3 := blk_frozen hs 3; have hsl := blk_lt hs
  clear h hA hn hc hsp hs
  obtain rfl : A = some ⟨b0, off, none⟩ := by rw [← HA.out, hA0]
  rw [HN.out, HC.out] at hcut0
  rw [HN.out] at hn1 hln
  have hcut : ∀ W, (Instr.slice 54 (.slice (some ⟨b0, off, none⟩) n c) none (some (.int .i64 m)) (some (.int .i64 m))).run Tryz.prog W = .ok (.slice (some ⟨b0, off, none⟩) m m) W := fun W => hcut0 W .i64 .i64
  have hmI : (n : Int) - 1 = (m : Int) := by omega
  have hmn : m < n := by omega
  clear hcut0 hA0 hn1 hm
  go_enter Tryz.func92, Tryz.ntmps92
  go_wp2
  refine wp_region_can (.q [0, 1, 2, 3, 4, 5, 6, 7, 8, 9, 10, 11, 12, 13, 14, 15, 16, 17, 18, 19, 20] (.e 21 false (.done))) (clsB _) (by kernel_rfl) (by kernel_rfl) (by intro _ _ d _ _ h; cases d <;> exact h) (clsB_drew _) ?_
  refine can_q (l := [⟨_,_,_,_,_,_⟩, ⟨_,_,_,_,_,_⟩, ⟨_,_,_,_,_,_⟩, ⟨_,_,_,_,_,_⟩, ⟨_,_,_,_,_,_⟩, ⟨_,_,_,_,_,_⟩, ⟨_,_,_,_,_,_⟩, ⟨_,_,_,_,_,_⟩, ⟨_,_,_,_,_,_⟩, ⟨_,_,_,_,_,_⟩, ⟨_,_,_,_,_,_⟩, ⟨_,_,_,_,_,_⟩, ⟨_,_,_,_,_,_⟩, ⟨_,_,_,_,_,_⟩, ⟨_,_,_,_,_,_⟩, ⟨_,_,_,_,_,_⟩, ⟨_,_,_,_,_,_⟩, ⟨_,_,_,_,_,_⟩, ⟨_,_,_,_,_,_⟩, ⟨_,_,_,_,_,_⟩, ⟨_,_,_,_,_,_⟩]) rfl ?_
  repeat (go_big_quiet_step (fail))
  refine wpQuiet_nil ?_
  refine can_e (o := ⟨_,_,_,_,_,_⟩) rfl (fun K hK => ?_)
  go_wp2_with fail
  refine onK_normal (hK _ _ ⟨fun _ => True, trivial, (fun h => by cases h), ?_⟩)
  clear hK K
  refine can_done ?_
  go_wp2
  go_end0
  have hcp := HH.out.capped (w' := ((w.setCell ⟨p, 0, none⟩ (.int .i64 y.at_.at_)).setCell ⟨p, 1, none⟩ (.int .i64 y.at_.mode)).setCell ⟨p, 2, none⟩ (.slice (some ⟨b0, off, none⟩) m m)) y.at_ (some ⟨b0, off, none⟩) m l (blk_set (blk_set (blk_set HS.out 0 _ _ rfl) 1 _ _ rfl) 2 _ _ rfl) (Fr.set (Fr.set (Fr.set (Fr.refl (fun k => k = p) _) (.inl rfl) _ _) (.inl rfl) _ _) (.inl rfl) _ _) (by rw [← HA.out]; exact HRo.out) (fun hn => by cases hn) HLB.out
  refine ⟨rfl, _, (hcp.below ?_).more (Nat.le_succ B), rfl, fun _ => rfl, ?_⟩
  · exact (by repeat (first | (with_reducible assumption) | (with_reducible exact Below.refl _ _) | (with_reducible apply below_drewL) | (with_reducible apply below_alloc) | (with_reducible apply below_drew1) | (with_reducible apply below_drewN) | (refine below_set ?_ (by first | omega | (simp only [size_alloc, size_drew, size_set]; omega)) _ _)))
  · exact (Fr.set (Fr.set (Fr.set (Fr.refl (XF p b base) _) (.inl (.inl rfl)) _ _) (.inl (.inl rfl)) _ _) (.inl (.inl rfl)) _ _).trans (Fr.of_below (by repeat (first | (with_reducible assumption) | (with_reducible exact Below.refl _ _) | (with_reducible apply below_drewL) | (with_reducible apply below_alloc) | (with_reducible apply below_drew1) | (with_reducible apply below_drewN) | (refine below_set ?_ (by first | omega | (simp only [size_alloc, size_drew, size_set]; omega)) _ _))))
end Go.Proofs.YtoambcpjdcehhaaGreat.Fn
