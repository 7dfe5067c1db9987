/- Rows of acts; a line of numbers one behind the other. -/
import Derived.Test.YtipehakaiiofiaaT7
import Derived.Test.YtipehakaiiofiaaOpens
namespace Go.Proofs.Ytipehakaiiofiaa.Fn
open Go Go.RowKit Go.Proofs.Ytipehakaiiofiaa.Can Go.Proofs.Ytipehakaiiofiaa.Base
attribute [local go_sem] clsB AB.cell

/-- A call at a desk. -/
structure Act where
  kind : Int
  n : Int
def actE (s : Act) : List Value := [.int .i64 s.kind, .int .i64 s.n]
def actT : Ty Act := Ty.flat 2 actE (fun _ => rfl) (fun _ u hu => by simp [actE] at hu; rcases hu with rfl | rfl <;> rfl)
theorem act_get {w : World} {S : Nat → Prop} {A : Option Addr} {n : Nat} {l : List Act} (h : Row actT w S A n l) (k : Nat) (hk : k < n) :
    ∃ b off s, A = some ⟨b, off, none⟩ ∧ b < w.heap.size ∧ l[k]? = some s ∧ w.cell? ⟨b, off + k * 2, none⟩ = some (.int .i64 s.kind) ∧ w.cell? ⟨b, off + k * 2 + 1, none⟩ = some (.int .i64 s.n) := by
  obtain ⟨b, off, cs, he, hs, hr, hcell⟩ := h.get k hk
  have hr' : cs = actE _ := hr
  subst hr'
  have h0 := hcell 0 _ rfl
  exact ⟨b, off, _, he, World.block_lt_of_cell? w _ h0, List.getElem?_eq_getElem _, h0, hcell 1 _ rfl⟩
theorem opens27 : Opens Try.prog 27 actT (fun _ => True) :=
  (opens_struct2 (a := Ty.int .i64) (b := Ty.int .i64) Try.underlying27 (opens_int Try.underlying3) (opens_int Try.underlying3) rfl rfl (by kernel_rfl) (by kernel_rfl) (by kernel_rfl)).map (fun x => ⟨x.1, x.2⟩) (fun _ _ => trivial) (by
    rintro w S x cs ⟨c0, c1, rfl, h0, h1⟩
    have h0' : c0 = [.int .i64 x.1] := h0
    have h1' : c1 = [.int .i64 x.2] := h1
    subst h0' h1'
    rfl)
theorem opens22 : Opens Try.prog 22 (Ty.slice actT (by decide)) (fun _ => True) :=
  (opens_slice Try.underlying22 (by kernel_rfl) (by decide) opens27).map id (fun _ _ => trivial) (fun _ _ _ _ h => h)
theorem Desk.below {α : Type} {enc : α → Value} {tD tE : TypeId} {w w' : World} {p r m held a : Nat} {L rs : List α} (h : Desk enc tD tE w p r m held L rs a) (hb : Below w.heap.size w w') : Desk enc tD tE w' p r m held L rs a :=
  h.fr (hb.block p (blk_lt h.str)) (hb.block r (blk_lt h.row))
def numsFrom (o c : Nat) : List Int := (List.range' o c).map (fun x : Nat => (x : Int))
theorem nums_len (o c : Nat) : (numsFrom o c).length = c := by simp [numsFrom]
theorem nums_snoc (o c : Nat) : numsFrom o c ++ [((o + c : Nat) : Int)] = numsFrom o (c + 1) := by simp [numsFrom, List.range'_1_concat]
theorem nums_cons (o c : Nat) : numsFrom o (c + 1) = (o : Int) :: numsFrom (o + 1) c := by simp [numsFrom, List.range'_succ]
end Go.Proofs.Ytipehakaiiofiaa.Fn
