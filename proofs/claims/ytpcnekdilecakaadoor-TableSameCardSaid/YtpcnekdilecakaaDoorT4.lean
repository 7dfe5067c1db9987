/- A lexer in memory. -/
import Derived.Test.YtpcnekdilecakaaDoorT3
set_option linter.unusedVariables false
set_option linter.unusedSimpArgs false
namespace Go.Proofs.YtpcnekdilecakaaDoor.Tb
open Go Go.RowKit Go.Proofs.YtpcnekdilecakaaDoor.Base

abbrev I : Ty Int := Ty.int .i64
/-- An automaton's five cells. -/
def dT : Ty Df.Df := Ty.iso (Ty.pair (Ty.slice I (by decide)) (Ty.pair I (Ty.pair (Ty.slice Df.II (by decide)) (Ty.pair (Ty.slice I (by decide)) I)))) (fun d : Df.Df => (d.cls, d.wid, d.nxt, d.tag, d.st))
theorem d_get {w : World} {S : Nat → Prop} {A : Option Addr} {n : Nat} {l : List Df.Df} (hS : ∀ k, S k → k < w.heap.size) (h : Row dT w S A n l) (k : Nat) (hk : k < n) :
    ∃ b off d A1 A2 A3 c1 c2 c3, A = some ⟨b, off, none⟩ ∧ b < w.heap.size ∧ l[k]? = some d ∧ w.cell? ⟨b, off + k * 5, none⟩ = some (.slice A1 d.cls.length c1) ∧ w.cell? ⟨b, off + k * 5 + 1, none⟩ = some (.int .i64 d.wid) ∧ w.cell? ⟨b, off + k * 5 + 2, none⟩ = some (.slice A2 d.nxt.length c2) ∧ w.cell? ⟨b, off + k * 5 + 3, none⟩ = some (.slice A3 d.tag.length c3) ∧ w.cell? ⟨b, off + k * 5 + 4, none⟩ = some (.int .i64 d.st) ∧ Df.DF w S A1 A2 A3 d.cls.length d.nxt.length d.tag.length d := by
  obtain ⟨b, off, cs, he, hs, ⟨c0, r0, rfl, ⟨A1, c1, rfl, _, _, h0⟩, d1, r1, rfl, h1, c2, r2, rfl, ⟨A2, c2', rfl, _, _, h2⟩, c3, c4, rfl, ⟨A3, c3', rfl, _, _, h3⟩, h4⟩, hcell⟩ := h.get k hk
  have h1' : d1 = [.int .i64 _] := h1
  have h4' : c4 = [.int .i64 _] := h4
  subst h1' h4'
  have q0 := hcell 0 _ rfl
  exact ⟨b, off, _, A1, A2, A3, c1, c2', c3', he, World.block_lt_of_cell? w _ q0, List.getElem?_eq_getElem _, q0, hcell 1 _ rfl, hcell 2 _ rfl, hcell 3 _ rfl, hcell 4 _ rfl, h0, h2, h3, hS⟩
abbrev aT : Ty (ByteArray × Int) := Ty.pair Ty.str I
/-- A lexer in memory. -/
structure LX (w : World) (S : Nat → Prop) (A1 A2 A3 : Option Addr) (n1 n2 n3 : Nat) (l : Lx) : Prop where
  modes : Row Ty.str w S A1 n1 l.modes
  dfas : Row dT w S A2 n2 l.dfas
  acts : Row aT w S A3 n3 l.acts
  lt : ∀ k, S k → k < w.heap.size
  szm : ∀ s ∈ l.modes, s.size ≤ 9223372036854775807
  sza : ∀ x ∈ l.acts, x.1.size ≤ 9223372036854775807
theorem LX.below {w w' : World} {S : Nat → Prop} {A1 A2 A3 : Option Addr} {n1 n2 n3 : Nat} {l : Lx} (h : LX w S A1 A2 A3 n1 n2 n3 l) (hb : Below w.heap.size w w') : LX w' S A1 A2 A3 n1 n2 n3 l :=
  ⟨h.modes.below h.lt hb, h.dfas.below h.lt hb, h.acts.below h.lt hb, fun k hk => Nat.lt_of_lt_of_le (h.lt k hk) hb.size, h.szm, h.sza⟩
end Go.Proofs.YtpcnekdilecakaaDoor.Tb
