/- An automaton that is written. -/
import Derived.Test.YtpcnekdilecakaaDoorP2
set_option linter.unusedVariables false
set_option linter.unusedSimpArgs false
namespace Go.Proofs.YtpcnekdilecakaaDoor.Tb
open Go Go.RowKit Go.Proofs.YtpcnekdilecakaaDoor.Can Go.Proofs.YtpcnekdilecakaaDoor.Base
attribute [local go_sem] clsB AB.cell

structure DB (m : Nat) (d : Df.Df) : Prop where
  cl : d.cls.length = 256
  nl : d.nxt.length ≤ 1024
  tl : d.tag.length = d.nxt.length
  st0 : -1 ≤ d.st
  st1 : d.st < 1024
  row : ∀ r ∈ d.nxt, r.length ≤ 256 ∧ ∀ x ∈ r, -1 ≤ x ∧ x < 1024
  tag : ∀ t ∈ d.tag, -1 ≤ t ∧ t < m
theorem DB.of {m : Nat} {d : Df.Df} (h : dfaB m d = true) : DB m d := by
  unfold dfaB at h
  simp only [Bool.and_eq_true, decide_eq_true_eq, List.all_eq_true] at h
  obtain ⟨⟨hok, _⟩, htg⟩ := h
  obtain ⟨hne, hl, hc, hw, hw0⟩ := cls_facts hok
  have hw1 : d.wid ≤ 256 := by
    rw [← hw]
    rcases (fold_max d.cls 0).2.2 with h | ⟨x, hx, h⟩
    · rw [h]; decide
    · have := hc x hx; omega
  obtain ⟨⟨a1, a2, a3, a4, a5, a6⟩, a7, a8⟩ := hok
  exact ⟨hl, by omega, by omega, a3, by omega, fun r hr => ⟨by have := (a7 r hr).1; omega, fun x hx => by have := (a7 r hr).2 x hx; omega⟩, fun t ht => ⟨a8 t ht, htg t ht⟩⟩
theorem df_fr {X : Nat → Prop} {w w' : World} {S : Nat → Prop} {A1 A2 A3 : Option Addr} {n1 n2 n3 : Nat} {d : Df.Df} (h : Df.DF w S A1 A2 A3 n1 n2 n3 d) (hf : Fr X w w') (hX : ∀ b, S b → ¬ X b) : Df.DF w' S A1 A2 A3 n1 n2 n3 d :=
  ⟨hf.row h.cls fun b hb => ⟨h.lt b hb, hX b hb⟩, hf.row h.nxt fun b hb => ⟨h.lt b hb, hX b hb⟩, hf.row h.tag fun b hb => ⟨h.lt b hb, hX b hb⟩, fun b hb => Nat.lt_of_lt_of_le (h.lt b hb) hf.size⟩
theorem wrow_len (r : List Int) : (wrow r).length = 2 * r.length := by
  unfold wrow
  induction r with
  | nil => rfl
  | cons x r ih => rw [List.flatMap_cons, List.length_append, ih, List.length_cons]; show 2 + _ = _; omega
theorem states_len {d : Df.Df} {m : Nat} (h : DB m d) (k : Nat) : ((((d.tag.zip d.nxt).take k).flatMap wstate).length) ≤ k * 513 := by
  have h1 := flat_le wstate 513 ((d.tag.zip d.nxt).take k) fun p hp => by
    have hp1 := List.of_mem_zip (List.mem_of_mem_take hp)
    have := (h.row p.2 hp1.2).1
    unfold wstate
    rw [List.length_append, wrow_len]
    show 1 + _ ≤ _
    omega
  have h2 : ((d.tag.zip d.nxt).take k).length ≤ k := by rw [List.length_take]; omega
  exact Nat.le_trans h1 (Nat.mul_le_mul_right _ h2)
theorem wrow_snoc {r : List Int} {k : Nat} {x : Int} (h : r[k]? = some x) : wrow (r.take (k + 1)) = wrow (r.take k) ++ w2 (x + 1) := by
  unfold wrow
  exact flat_snoc _ h
end Go.Proofs.YtpcnekdilecakaaDoor.Tb
