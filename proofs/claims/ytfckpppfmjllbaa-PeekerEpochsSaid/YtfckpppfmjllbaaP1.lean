/- Spots, tokens, frames; what is cached at a spot. -/
import Derived.Test.YtfckpppfmjllbaaProg
import Derived.Test.YtfckpppfmjllbaaFrame
import Derived.Test.YtfckpppfmjllbaaOpens
namespace Go.Proofs.Ytfckpppfmjllbaa.Fn
open Go Go.RowKit Go.Proofs.Ytfckpppfmjllbaa.Can Go.Proofs.Ytfckpppfmjllbaa.Base
attribute [local go_sem] clsB AB.cell

structure Spot where
  at_ : Int
  mode : Int
  deriving DecidableEq
structure Tok where
  k : Int
  r : Int
  f : Int
  a : Int
  t : Int
  m : Int
  deriving DecidableEq
def spotE (s : Spot) : List Value := [.int .i64 s.at_, .int .i64 s.mode]
def tokE (t : Tok) : List Value := [.int .i64 t.k, .int .i64 t.r, .int .i64 t.f, .int .i64 t.a, .int .i64 t.t, .int .i64 t.m]
def tokV (t : Tok) : Value := .agg #[.int .i64 t.k, .int .i64 t.r, .int .i64 t.f, .int .i64 t.a, .int .i64 t.t, .int .i64 t.m]
def tok0 : Tok := ⟨0, 0, 0, 0, 0, 0⟩
structure E where
  at_ : Spot
  tok : Tok
def eE (e : E) : List Value := spotE e.at_ ++ tokE e.tok
theorem ints_one {l : List Value} (h : ∀ u ∈ l, ∃ n, u = .int .i64 n) : ∀ u ∈ l, u.oneCell' = true := fun u hu => by obtain ⟨n, rfl⟩ := h u hu; rfl
def eT : Ty E := Ty.flat 8 eE (fun _ => rfl) (fun x => ints_one fun u hu => by simp [eE, spotE, tokE] at hu; rcases hu with h | h | h | h | h | h | h | h <;> exact ⟨_, h⟩)
def spotT : Ty Spot := Ty.flat 2 spotE (fun _ => rfl) (fun x => ints_one fun u hu => by simp [spotE] at hu; rcases hu with h | h <;> exact ⟨_, h⟩)
def tokT : Ty Tok := Ty.flat 6 tokE (fun _ => rfl) (fun x => ints_one fun u hu => by simp [tokE] at hu; rcases hu with h | h | h | h | h | h <;> exact ⟨_, h⟩)
structure Frame where
  epoch : Int
  spot : Spot
  l : List E
def frameT : Ty Frame := Ty.iso (Ty.pair (Ty.int .i64) (Ty.pair spotT (Ty.slice eT (by decide)))) (fun f => (f.epoch, f.spot, f.l))
theorem e_get {w : World} {S : Nat → Prop} {A : Option Addr} {n : Nat} {l : List E} (h : Row eT w S A n l) (k : Nat) (hk : k < n) :
    ∃ b off e, A = some ⟨b, off, none⟩ ∧ b < w.heap.size ∧ l[k]? = some e ∧ w.cell? ⟨b, off + k * 8, none⟩ = some (.int .i64 e.at_.at_) ∧ w.cell? ⟨b, off + k * 8 + 1, none⟩ = some (.int .i64 e.at_.mode) ∧ w.cell? ⟨b, off + k * 8 + 2, none⟩ = some (.int .i64 e.tok.k) ∧ w.cell? ⟨b, off + k * 8 + 2 + 1, none⟩ = some (.int .i64 e.tok.r) ∧ w.cell? ⟨b, off + k * 8 + 2 + 2, none⟩ = some (.int .i64 e.tok.f) ∧ w.cell? ⟨b, off + k * 8 + 2 + 3, none⟩ = some (.int .i64 e.tok.a) ∧ w.cell? ⟨b, off + k * 8 + 2 + 4, none⟩ = some (.int .i64 e.tok.t) ∧ w.cell? ⟨b, off + k * 8 + 2 + 5, none⟩ = some (.int .i64 e.tok.m) := by
  obtain ⟨b, off, cs, he, hs, hr, hcell⟩ := h.get k hk
  have hr' : cs = eE _ := hr
  subst hr'
  have h0 := hcell 0 _ rfl
  exact ⟨b, off, _, he, World.block_lt_of_cell? w _ h0, List.getElem?_eq_getElem _, h0, hcell 1 _ rfl, hcell 2 _ rfl, hcell 3 _ rfl, hcell 4 _ rfl, hcell 5 _ rfl, hcell 6 _ rfl, hcell 7 _ rfl⟩
theorem frame_get {w : World} {S : Nat → Prop} {A : Option Addr} {n : Nat} {l : List Frame} (h : Row frameT w S A n l) (k : Nat) (hk : k < n) :
    ∃ b off f A1 c1, A = some ⟨b, off, none⟩ ∧ b < w.heap.size ∧ l[k]? = some f ∧ w.cell? ⟨b, off + k * 4, none⟩ = some (.int .i64 f.epoch) ∧ w.cell? ⟨b, off + k * 4 + 1, none⟩ = some (.int .i64 f.spot.at_) ∧ w.cell? ⟨b, off + k * 4 + 2, none⟩ = some (.int .i64 f.spot.mode) ∧ w.cell? ⟨b, off + k * 4 + 3, none⟩ = some (.slice A1 f.l.length c1) ∧ Row eT w S A1 f.l.length f.l := by
  obtain ⟨b, off, cs, he, hs, hr, hcell⟩ := h.get k hk
  obtain ⟨c0, c1, rfl, h0, c2, c3, rfl, h1, A1, d1, rfl, _, _, hrow⟩ := hr
  have h0' : c0 = [.int .i64 _] := h0
  have h1' : c2 = spotE _ := h1
  subst h0' h1'
  have h0 := hcell 0 _ rfl
  exact ⟨b, off, _, A1, d1, he, World.block_lt_of_cell? w _ h0, List.getElem?_eq_getElem _, h0, hcell 1 _ rfl, hcell 2 _ rfl, hcell 3 _ rfl, hrow⟩
theorem opens28 : Opens Try.prog 28 spotT (fun _ => True) :=
  (opens_struct2 (a := Ty.int .i64) (b := Ty.int .i64) Try.underlying28 (opens_int Try.underlying3) (opens_int Try.underlying3) rfl rfl (by kernel_rfl) (by kernel_rfl) (by kernel_rfl)).map (fun x => ⟨x.1, x.2⟩) (fun _ _ => trivial) (by
    rintro w S x cs ⟨c0, c1, rfl, h0, h1⟩
    have h0' : c0 = [.int .i64 x.1] := h0
    have h1' : c1 = [.int .i64 x.2] := h1
    subst h0' h1'
    rfl)
theorem eq28 (d : Nat) (w : World) (x0 x1 y0 y1 : Int) :
    (Op.equalIn (d + 2) 28 (.agg #[.int .i64 x0, .int .i64 x1]) (.agg #[.int .i64 y0, .int .i64 y1])).run Try.prog w = .ok (x0 == y0 && x1 == y1) w := by
  refine eq_struct Try.underlying28 (by kernel_rfl) ?_
  cases h0 : (x0 == y0) <;> cases h1 : (x1 == y1) <;> simp [Op.eqFields, go_sem, h0, h1]
/-- What is cached at a spot. -/
def getE (L : List E) (at_ : Spot) : Option Tok := (L.find? fun e => decide (e.at_ = at_)).map (·.tok)
theorem find_upto {L : List E} {s : Spot} {k : Nat} {e : E} (hno : ∀ j, j < k → ∀ e, L[j]? = some e → e.at_ ≠ s) (hx : L[k]? = some e) (he : e.at_ = s) : getE L s = some e.tok := by
  induction L generalizing k with
  | nil => simp at hx
  | cons a L ih =>
    unfold getE
    cases k with
    | zero =>
      simp at hx; subst hx
      simp [he]
    | succ k =>
      have h0 := hno 0 (by omega) a rfl
      have := ih (k := k) (fun j hj e hje => hno (j + 1) (by omega) e (by simpa using hje)) (by simpa using hx)
      unfold getE at this
      simp [h0, this]
theorem find_none {L : List E} {s : Spot} (hno : ∀ j, j < L.length → ∀ e, L[j]? = some e → e.at_ ≠ s) : getE L s = none := by
  unfold getE
  rw [Option.map_eq_none_iff, List.find?_eq_none]
  intro e he
  obtain ⟨j, hj, rfl⟩ := List.mem_iff_getElem.1 he
  simpa using hno j hj _ (List.getElem?_eq_getElem hj)
theorem cell_tmp_row {P : Program} {fn : Func} {p u : Tmp} {ty : TypeId} (h : fn.results = #[.cell p ty, .tmp u]) (tmps : Array Value) (w : World) (g : Nat) (t : TypeId) (cs : Array Value) (fr : Nat × Nat) (d : TypeDesc)
    (hp : tmps.getD p undef = .pointer (some ⟨g, 0, none⟩)) (hg : w.heap[g]? = some (.cells cs t fr))
    (hu : P.underlying ty = some d) (hd : (match d with | .struct _ | .array _ _ => true | _ => false) = true) (hi : (P.info? ty).map (·.size) = some cs.size) :
    (results fn tmps).run P w = .ok (.tuple #[.agg cs, tmps.getD u undef]) w := by
  have hp' : tmps[p]?.getD undef = .pointer (some ⟨g, 0, none⟩) := by simpa using hp
  rw [results_cell_tmp h]
  simp [hp', asAddr, run_loadVar_row w g t ty cs fr d hg hu hd hi, Result.andThen]
end Go.Proofs.Ytfckpppfmjllbaa.Fn
