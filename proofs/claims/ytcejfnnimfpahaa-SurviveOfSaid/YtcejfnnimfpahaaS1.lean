/- Spots, tokens, takes, events; when two are the same. -/
import Derived.Test.YtcejfnnimfpahaaProg
import Derived.Test.YtcejfnnimfpahaaFlat
import Derived.Test.YtcejfnnimfpahaaCut
import Derived.Test.YtcejfnnimfpahaaOpens
namespace Go.Proofs.Ytcejfnnimfpahaa.Fn
open Go Go.RowKit Go.Proofs.Ytcejfnnimfpahaa.Can Go.Proofs.Ytcejfnnimfpahaa.Base
attribute [local go_sem] clsB AB.cell

structure Spot where
  at_ : Int
  mode : Int
  deriving DecidableEq
structure Tok where
  k : Int
  r : Int
  f : Int
  a : Int
  t : Int
  m : Int
  deriving DecidableEq
def spotE (s : Spot) : List Value := [.int .i64 s.at_, .int .i64 s.mode]
def tokE (t : Tok) : List Value := [.int .i64 t.k, .int .i64 t.r, .int .i64 t.f, .int .i64 t.a, .int .i64 t.t, .int .i64 t.m]
def spotV (s : Spot) : Value := .agg #[.int .i64 s.at_, .int .i64 s.mode]
def tokV (t : Tok) : Value := .agg #[.int .i64 t.k, .int .i64 t.r, .int .i64 t.f, .int .i64 t.a, .int .i64 t.t, .int .i64 t.m]
def tok0 : Tok := ⟨0, 0, 0, 0, 0, 0⟩
/-- A take. -/
structure E where
  at_ : Spot
  tok : Tok
  deriving DecidableEq
def eE (e : E) : List Value := spotE e.at_ ++ tokE e.tok
def eV (e : E) : Value := .agg #[.int .i64 e.at_.at_, .int .i64 e.at_.mode, .int .i64 e.tok.k, .int .i64 e.tok.r, .int .i64 e.tok.f, .int .i64 e.tok.a, .int .i64 e.tok.t, .int .i64 e.tok.m]
theorem ints_one {l : List Value} (h : ∀ u ∈ l, ∃ n, u = .int .i64 n) : ∀ u ∈ l, u.oneCell' = true := fun u hu => by obtain ⟨n, rfl⟩ := h u hu; rfl
theorem e_len (e : E) : (eE e).length = 8 := rfl
theorem e_one (e : E) : ∀ u ∈ eE e, u.oneCell' = true := ints_one fun u hu => by simp [eE, spotE, tokE] at hu; rcases hu with h | h | h | h | h | h | h | h <;> exact ⟨_, h⟩
theorem spot_len (s : Spot) : (spotE s).length = 2 := rfl
theorem spot_one (s : Spot) : ∀ u ∈ spotE s, u.oneCell' = true := ints_one fun u hu => by simp [spotE] at hu; rcases hu with h | h <;> exact ⟨_, h⟩
theorem tok_len (s : Tok) : (tokE s).length = 6 := rfl
theorem tok_one (s : Tok) : ∀ u ∈ tokE s, u.oneCell' = true := ints_one fun u hu => by simp [tokE] at hu; rcases hu with h | h | h | h | h | h <;> exact ⟨_, h⟩
abbrev eT : Ty E := Ty.flat 8 eE e_len e_one
abbrev spotT : Ty Spot := Ty.flat 2 spotE spot_len spot_one
abbrev tokT : Ty Tok := Ty.flat 6 tokE tok_len tok_one
theorem e_flat : eT.Flat := Ty.flat_flat _ _ _ _
theorem spot_flat : spotT.Flat := Ty.flat_flat _ _ _ _
theorem tok_flat : tokT.Flat := Ty.flat_flat _ _ _ _
/-- An event. -/
structure Ev where
  kind : Int
  id : Int
  client : Int
  op : Int
  n : Int
  data : ByteArray
  e : Int
  rn : Int
  tok : Tok
def evE (v : Ev) : List Value := [.int .i64 v.kind, .int .i64 v.id, .int .i64 v.client, .int .i64 v.op, .int .i64 v.n, .string v.data, .int .i64 v.e, .int .i64 v.rn, .int .i64 v.tok.k, .int .i64 v.tok.r, .int .i64 v.tok.f, .int .i64 v.tok.a, .int .i64 v.tok.t, .int .i64 v.tok.m]
def evV (v : Ev) : Value := .agg #[.int .i64 v.kind, .int .i64 v.id, .int .i64 v.client, .int .i64 v.op, .int .i64 v.n, .string v.data, .int .i64 v.e, .int .i64 v.rn, .int .i64 v.tok.k, .int .i64 v.tok.r, .int .i64 v.tok.f, .int .i64 v.tok.a, .int .i64 v.tok.t, .int .i64 v.tok.m]
theorem ev_len (v : Ev) : (evE v).length = 14 := rfl
theorem ev_one (v : Ev) : ∀ u ∈ evE v, u.oneCell' = true := fun u hu => by simp [evE] at hu; rcases hu with h | h | h | h | h | h | h | h | h | h | h | h | h | h <;> subst h <;> rfl
abbrev evT : Ty Ev := Ty.flat 14 evE ev_len ev_one

/-- A plain element of a row. -/
theorem flat_at {α : Type} {k : Nat} {enc : α → List Value} {hk : ∀ x, (enc x).length = k} {h1 : ∀ x, ∀ u ∈ enc x, u.oneCell' = true} {w : World} {S : Nat → Prop} {A : Option Addr} {n : Nat} {l : List α} (h : Row (Ty.flat k enc hk h1) w S A n l) (i : Nat) (hi : i < n) :
    ∃ b off x, A = some ⟨b, off, none⟩ ∧ S b ∧ l[i]? = some x ∧ ∀ j u, (enc x)[j]? = some u → w.cell? ⟨b, off + i * k + j, none⟩ = some u := by
  obtain ⟨b, off, cs, he, hs, hr, hcell⟩ := h.get i hi
  have hr' : cs = enc _ := hr
  subst hr'
  exact ⟨b, off, _, he, hs, List.getElem?_eq_getElem _, hcell⟩
theorem e_get {w : World} {S : Nat → Prop} {A : Option Addr} {n : Nat} {l : List E} (h : Row eT w S A n l) (k : Nat) (hk : k < n) :
    ∃ b off e, A = some ⟨b, off, none⟩ ∧ b < w.heap.size ∧ l[k]? = some e ∧ w.cell? ⟨b, off + k * 8, none⟩ = some (.int .i64 e.at_.at_) ∧ w.cell? ⟨b, off + k * 8 + 1, none⟩ = some (.int .i64 e.at_.mode) ∧ w.cell? ⟨b, off + k * 8 + 2, none⟩ = some (.int .i64 e.tok.k) ∧ w.cell? ⟨b, off + k * 8 + 2 + 1, none⟩ = some (.int .i64 e.tok.r) ∧ w.cell? ⟨b, off + k * 8 + 2 + 2, none⟩ = some (.int .i64 e.tok.f) ∧ w.cell? ⟨b, off + k * 8 + 2 + 3, none⟩ = some (.int .i64 e.tok.a) ∧ w.cell? ⟨b, off + k * 8 + 2 + 4, none⟩ = some (.int .i64 e.tok.t) ∧ w.cell? ⟨b, off + k * 8 + 2 + 5, none⟩ = some (.int .i64 e.tok.m) := by
  obtain ⟨b, off, e, he, _, hx, hc⟩ := flat_at h k hk
  have h0 := hc 0 _ rfl
  exact ⟨b, off, e, he, World.block_lt_of_cell? w _ h0, hx, h0, hc 1 _ rfl, hc 2 _ rfl, hc 3 _ rfl, hc 4 _ rfl, hc 5 _ rfl, hc 6 _ rfl, hc 7 _ rfl⟩
theorem spot_get {w : World} {S : Nat → Prop} {A : Option Addr} {n : Nat} {l : List Spot} (h : Row spotT w S A n l) (k : Nat) (hk : k < n) :
    ∃ b off s, A = some ⟨b, off, none⟩ ∧ b < w.heap.size ∧ l[k]? = some s ∧ w.cell? ⟨b, off + k * 2, none⟩ = some (.int .i64 s.at_) ∧ w.cell? ⟨b, off + k * 2 + 1, none⟩ = some (.int .i64 s.mode) := by
  obtain ⟨b, off, e, he, _, hx, hc⟩ := flat_at h k hk
  have h0 := hc 0 _ rfl
  exact ⟨b, off, e, he, World.block_lt_of_cell? w _ h0, hx, h0, hc 1 _ rfl⟩
theorem tok_get {w : World} {S : Nat → Prop} {A : Option Addr} {n : Nat} {l : List Tok} (h : Row tokT w S A n l) (k : Nat) (hk : k < n) :
    ∃ b off t, A = some ⟨b, off, none⟩ ∧ b < w.heap.size ∧ l[k]? = some t ∧ w.cell? ⟨b, off + k * 6, none⟩ = some (.int .i64 t.k) ∧ w.cell? ⟨b, off + k * 6 + 1, none⟩ = some (.int .i64 t.r) ∧ w.cell? ⟨b, off + k * 6 + 2, none⟩ = some (.int .i64 t.f) ∧ w.cell? ⟨b, off + k * 6 + 3, none⟩ = some (.int .i64 t.a) ∧ w.cell? ⟨b, off + k * 6 + 4, none⟩ = some (.int .i64 t.t) ∧ w.cell? ⟨b, off + k * 6 + 5, none⟩ = some (.int .i64 t.m) := by
  obtain ⟨b, off, e, he, _, hx, hc⟩ := flat_at h k hk
  have h0 := hc 0 _ rfl
  exact ⟨b, off, e, he, World.block_lt_of_cell? w _ h0, hx, h0, hc 1 _ rfl, hc 2 _ rfl, hc 3 _ rfl, hc 4 _ rfl, hc 5 _ rfl⟩
theorem ev_get {w : World} {S : Nat → Prop} {A : Option Addr} {n : Nat} {l : List Ev} (h : Row evT w S A n l) (k : Nat) (hk : k < n) :
    ∃ b off v, A = some ⟨b, off, none⟩ ∧ b < w.heap.size ∧ l[k]? = some v ∧ w.cell? ⟨b, off + k * 14, none⟩ = some (.int .i64 v.kind) ∧ w.cell? ⟨b, off + k * 14 + 1, none⟩ = some (.int .i64 v.id) ∧ w.cell? ⟨b, off + k * 14 + 2, none⟩ = some (.int .i64 v.client) ∧ w.cell? ⟨b, off + k * 14 + 3, none⟩ = some (.int .i64 v.op) ∧ w.cell? ⟨b, off + k * 14 + 3 + 1, none⟩ = some (.int .i64 v.n) ∧ w.cell? ⟨b, off + k * 14 + 3 + 2, none⟩ = some (.string v.data) ∧ w.cell? ⟨b, off + k * 14 + 6, none⟩ = some (.int .i64 v.e) ∧ w.cell? ⟨b, off + k * 14 + 6 + 1, none⟩ = some (.int .i64 v.rn) ∧
      w.cell? ⟨b, off + k * 14 + 6 + 2, none⟩ = some (.int .i64 v.tok.k) ∧ w.cell? ⟨b, off + k * 14 + 6 + 2 + 1, none⟩ = some (.int .i64 v.tok.r) ∧ w.cell? ⟨b, off + k * 14 + 6 + 2 + 2, none⟩ = some (.int .i64 v.tok.f) ∧ w.cell? ⟨b, off + k * 14 + 6 + 2 + 3, none⟩ = some (.int .i64 v.tok.a) ∧ w.cell? ⟨b, off + k * 14 + 6 + 2 + 4, none⟩ = some (.int .i64 v.tok.t) ∧ w.cell? ⟨b, off + k * 14 + 6 + 2 + 5, none⟩ = some (.int .i64 v.tok.m) := by
  obtain ⟨b, off, e, he, _, hx, hc⟩ := flat_at h k hk
  have h0 := hc 0 _ rfl
  exact ⟨b, off, e, he, World.block_lt_of_cell? w _ h0, hx, h0, hc 1 _ rfl, hc 2 _ rfl, hc 3 _ rfl, hc 4 _ rfl, hc 5 _ rfl, hc 6 _ rfl, hc 7 _ rfl, hc 8 _ rfl, hc 9 _ rfl, hc 10 _ rfl, hc 11 _ rfl, hc 12 _ rfl, hc 13 _ rfl⟩
theorem eq27 (d : Nat) (w : World) (x0 x1 y0 y1 : Int) :
    (Op.equalIn (d + 2) 27 (.agg #[.int .i64 x0, .int .i64 x1]) (.agg #[.int .i64 y0, .int .i64 y1])).run Try.prog w = .ok (x0 == y0 && x1 == y1) w := by
  refine eq_struct Try.underlying27 (by kernel_rfl) ?_
  cases h0 : (x0 == y0) <;> cases h1 : (x1 == y1) <;> simp [Op.eqFields, go_sem, h0, h1]
theorem eq29_same (d : Nat) (w : World) (x0 x1 x2 x3 x4 x5 : Int) :
    (Op.equalIn (d + 2) 29 (.agg #[.int .i64 x0, .int .i64 x1, .int .i64 x2, .int .i64 x3, .int .i64 x4, .int .i64 x5]) (.agg #[.int .i64 x0, .int .i64 x1, .int .i64 x2, .int .i64 x3, .int .i64 x4, .int .i64 x5])).run Try.prog w = .ok true w := by
  refine eq_struct Try.underlying29 (by kernel_rfl) ?_
  simp [Op.eqFields, go_sem]
theorem eq31_same (d : Nat) (w : World) (x0 x1 x2 x3 x4 x5 x6 x7 : Int) :
    (Op.equalIn (d + 3) 31 (.agg #[.int .i64 x0, .int .i64 x1, .int .i64 x2, .int .i64 x3, .int .i64 x4, .int .i64 x5, .int .i64 x6, .int .i64 x7]) (.agg #[.int .i64 x0, .int .i64 x1, .int .i64 x2, .int .i64 x3, .int .i64 x4, .int .i64 x5, .int .i64 x6, .int .i64 x7])).run Try.prog w = .ok true w := by
  refine eq_struct Try.underlying31 (by kernel_rfl) ?_
  simp [Op.eqFields, go_sem, eq27, eq29_same]
end Go.Proofs.Ytcejfnnimfpahaa.Fn
