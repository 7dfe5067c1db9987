/- What a row's argument reads as. -/
import Derived.Test.YtoambcpjdcehhaaGreatBase
import Derived.Deep.Slices
import Derived.ChangeArms
import Derived.ChangeOld
set_option linter.unusedVariables false
set_option linter.unusedSimpArgs false
set_option linter.unusedVariables false
namespace Go.Proofs.YtoambcpjdcehhaaGreat.Base
open Go Go.RowKit

theorem addr_add2 (b o m i : Nat) : (Addr.add ⟨b, o, none⟩ m).add i = ⟨b, o + m + i, none⟩ := by
  unfold Addr.add
  split <;> split <;> simp_all
/-- A value of this type that the row's reading goes through tells a y of T. -/
structure Opens {α : Type} (P : Program) (t : TypeId) (T : Ty α) (wf : α → Prop) : Prop where
  out : ∀ {H : Type} {enc : TypeId × Value → H} {w : World} {fuel : Nat} {cs : List Value} {x : DataW H × List MemPlace}, DataW.trod enc P w 0 (fun _ => true) true fuel t cs = some x → ∃ y, wf y ∧ T.rel w (fun b => b < w.heap.size) y cs

section
variable {P : Program} {t e : TypeId} {α β γ : Type}
theorem opens_int {k : IntKind} (ht : P.underlying t = some (.int k)) : Opens P t (Ty.int k) (fun n => (Lit.int k n).wf = true) := by
  refine ⟨fun {H enc w fuel cs x} h => ?_⟩
  obtain ⟨n, rfl, _, hw⟩ := DataW.trod_int ht h
  exact ⟨n, hw, rfl⟩
theorem opens_bool (ht : P.underlying t = some .bool) : Opens P t Ty.bool (fun _ => True) := by
  refine ⟨fun {H enc w fuel cs x} h => ?_⟩
  obtain ⟨b, rfl, _⟩ := DataW.trod_bool ht h
  exact ⟨b, trivial, rfl⟩
theorem opens_str (ht : P.underlying t = some .string) : Opens P t Ty.str (fun s => s.size ≤ maxLen) := by
  refine ⟨fun {H enc w fuel cs x} h => ?_⟩
  obtain ⟨s, rfl, _, hs⟩ := DataW.trod_string ht h
  exact ⟨s, hs, rfl⟩
theorem Opens.map {T : Ty α} {T' : Ty β} {wf : α → Prop} {wf' : β → Prop} (h : Opens P t T wf) (f : α → β) (hw : ∀ x, wf x → wf' (f x)) (hr : ∀ w S x cs, T.rel w S x cs → T'.rel w S (f x) cs) : Opens P t T' wf' := by
  refine ⟨fun {H enc w fuel cs x} hd => ?_⟩
  obtain ⟨y, h1, h2⟩ := h.out hd
  exact ⟨f y, hw y h1, hr _ _ _ _ h2⟩
theorem opens_slice {T : Ty α} {wf : α → Prop} (ht : P.underlying t = some (.slice e)) (hc : P.cellsOf e = T.sz) (hz : 0 < T.sz) (h : Opens P e T wf) : Opens P t (Ty.slice T hz) (fun xs => ∀ x ∈ xs, wf x) := by
  refine ⟨fun {H enc w fuel cs x} hd => ?_⟩
  rcases Go.Deep.open_slice ht hd with ⟨rfl, _⟩ | ⟨a, len, cap, m, n, D, Pl, rfl, _, hl, hm, hmm, rfl, hx⟩
  · exact ⟨[], fun _ h => by simp at h, none, 0, rfl, Nat.le_refl _, fun _ => rfl, Row.nil _ _ _ _⟩
  · have hmc : m = cap := by simpa using hmm
    subst hmc
    rw [hc] at hx
    have key : ∀ k, k ≤ len → ∃ xs : List α, xs.length = k ∧ (∀ x ∈ xs, wf x) ∧ ∀ j p, xs[j]? = some p → ∃ c, T.rel w (fun b => b < w.heap.size) p c ∧ ∀ i u, c[i]? = some u → w.cell? ((a.add (j * T.sz)).add i) = some u := by
      intro k
      induction k with
      | zero => exact fun _ => ⟨[], rfl, fun _ h => by simp at h, fun j p hj => by simp at hj⟩
      | succ k ih =>
        intro hk
        obtain ⟨xs, h1, h2, h3⟩ := ih (by omega)
        obtain ⟨cs', h4, h5⟩ := hx k (by omega)
        obtain ⟨y, hw, hy⟩ := h.out h5
        obtain ⟨_, hlen, hcell⟩ := World.cells?_some h4
        refine ⟨xs ++ [y], by simp [h1], fun x hx => ?_, fun j p hj => ?_⟩
        · rcases List.mem_append.1 hx with hx | hx
          · exact h2 x hx
          · rw [List.mem_singleton.1 hx]; exact hw
        · rcases Nat.lt_or_ge j xs.length with hj' | hj'
          · rw [List.getElem?_append_left hj'] at hj
            exact h3 j p hj
          · rw [List.getElem?_append_right hj'] at hj
            obtain rfl : j = k := by
              rcases Nat.eq_zero_or_pos (j - xs.length) with h0 | h0
              · omega
              · rw [List.getElem?_eq_none (by simp; omega)] at hj; cases hj
            rw [h1, Nat.sub_self] at hj
            simp at hj
            subst hj
            refine ⟨cs', hy, fun i u hu => ?_⟩
            have hi : i < T.sz := by rw [← hlen]; exact (List.getElem?_eq_some_iff.1 hu).1
            rw [hcell i hi, hu]
    obtain ⟨xs, h1, h2, h3⟩ := key len (Nat.le_refl _)
    subst h1
    refine ⟨xs, h2, some a, m, rfl, hl, (fun h => by cases h), rfl, by simp only [maxLen] at hm; omega, fun h0 => ?_⟩
    obtain ⟨c, hr, hcc⟩ := h3 0 _ (List.getElem?_eq_getElem h0)
    have hcl := T.len hr
    have hc0 : 0 < c.length := by omega
    have h00 := hcc 0 _ (List.getElem?_eq_getElem hc0)
    have ha : (a.add (0 * T.sz)).add 0 = a := by simp [Addr.add]
    rw [ha] at h00
    obtain ⟨ab, ao, asp⟩ := a
    have hsp : asp = none := by
      cases asp with
      | none => rfl
      | some _ =>
        exfalso
        simp only [World.cell?] at h00
        split at h00 <;> simp at h00
    subst hsp
    refine ⟨ab, ao, rfl, World.block_lt_of_cell? w _ h00, fun j p hj => ?_⟩
    obtain ⟨c, hr, hcc⟩ := h3 j p hj
    refine ⟨c, hr, fun i u hu => ?_⟩
    rw [← addr_add2]
    exact hcc i u hu

theorem opens_struct1 {a : Ty α} {f0 : Field} {wa : α → Prop} (ht : P.underlying t = some (.struct #[f0])) (h0 : Opens P f0.type a wa) (o0 : f0.offset = 0) (c0 : P.cellsOf f0.type = a.sz) (hs : P.cellsOf t = a.sz) : Opens P t a wa := by
  refine ⟨fun {H enc w fuel cs x} hd => ?_⟩
  obtain ⟨xs, n, _, _, hl, hn, hf⟩ := DataW.trod_struct ht hd
  have e0 := hf 0 f0 rfl
  rw [List.getElem?_eq_getElem (by simp [hn]), o0, c0, List.drop_zero] at e0
  rw [List.take_of_length_le (by omega)] at e0
  exact h0.out e0
theorem opens_struct2 {a : Ty α} {b : Ty β} {f0 f1 : Field} {wa : α → Prop} {wb : β → Prop} (ht : P.underlying t = some (.struct #[f0, f1])) (h0 : Opens P f0.type a wa) (h1 : Opens P f1.type b wb)
    (o0 : f0.offset = 0) (o1 : f1.offset = a.sz) (c0 : P.cellsOf f0.type = a.sz) (c1 : P.cellsOf f1.type = b.sz) (hs : P.cellsOf t = a.sz + b.sz) : Opens P t (Ty.pair a b) (fun x => wa x.1 ∧ wb x.2) := by
  refine ⟨fun {H enc w fuel cs x} hd => ?_⟩
  obtain ⟨xs, n, _, _, hl, hn, hf⟩ := DataW.trod_struct ht hd
  have e0 := hf 0 f0 rfl
  have e1 := hf 1 f1 rfl
  rw [List.getElem?_eq_getElem (by simp [hn]), o0, c0, List.drop_zero] at e0
  rw [List.getElem?_eq_getElem (by simp [hn]), o1, c1] at e1
  obtain ⟨y0, w0, r0⟩ := h0.out e0
  obtain ⟨y1, w1, r1⟩ := h1.out e1
  rw [List.take_of_length_le (by rw [List.length_drop]; omega)] at r1
  exact ⟨(y0, y1), ⟨w0, w1⟩, cs.take a.sz, cs.drop a.sz, (List.take_append_drop _ _).symm, r0, r1⟩
theorem opens_struct3 {a : Ty α} {b : Ty β} {c : Ty γ} {f0 f1 f2 : Field} {wa : α → Prop} {wb : β → Prop} {wc : γ → Prop} (ht : P.underlying t = some (.struct #[f0, f1, f2])) (h0 : Opens P f0.type a wa) (h1 : Opens P f1.type b wb) (h2 : Opens P f2.type c wc)
    (o0 : f0.offset = 0) (o1 : f1.offset = a.sz) (o2 : f2.offset = a.sz + b.sz) (c0 : P.cellsOf f0.type = a.sz) (c1 : P.cellsOf f1.type = b.sz) (c2 : P.cellsOf f2.type = c.sz) (hs : P.cellsOf t = a.sz + (b.sz + c.sz)) : Opens P t (Ty.pair a (Ty.pair b c)) (fun x => wa x.1 ∧ wb x.2.1 ∧ wc x.2.2) := by
  refine ⟨fun {H enc w fuel cs x} hd => ?_⟩
  obtain ⟨xs, n, _, _, hl, hn, hf⟩ := DataW.trod_struct ht hd
  have e0 := hf 0 f0 rfl
  have e1 := hf 1 f1 rfl
  have e2 := hf 2 f2 rfl
  rw [List.getElem?_eq_getElem (by simp [hn]), o0, c0, List.drop_zero] at e0
  rw [List.getElem?_eq_getElem (by simp [hn]), o1, c1] at e1
  rw [List.getElem?_eq_getElem (by simp [hn]), o2, c2] at e2
  obtain ⟨y0, w0, r0⟩ := h0.out e0
  obtain ⟨y1, w1, r1⟩ := h1.out e1
  obtain ⟨y2, w2, r2⟩ := h2.out e2
  rw [List.take_of_length_le (by rw [List.length_drop]; omega)] at r2
  refine ⟨(y0, y1, y2), ⟨w0, w1, w2⟩, cs.take a.sz, cs.drop a.sz, (List.take_append_drop _ _).symm, r0, (cs.drop a.sz).take b.sz, (cs.drop a.sz).drop b.sz, (List.take_append_drop _ _).symm, r1, ?_⟩
  rw [List.drop_drop]
  exact r2
end
end Go.Proofs.YtoambcpjdcehhaaGreat.Base
