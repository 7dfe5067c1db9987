/- Rows of bytes, and strings. -/
import Derived.Test.YtoambcpjdcehhaaGreatFlat
import Derived.Lib.AppendStr
import Derived.Laws.IdiomStrings
set_option linter.unusedVariables false
set_option linter.unusedSimpArgs false
set_option linter.unusedVariables false
namespace Go.Proofs.YtoambcpjdcehhaaGreat.Base
open Go Go.RowKit
def uE (b : UInt8) : List Value := [.int .u8 (b.toNat : Int)]
theorem u_len (b : UInt8) : (uE b).length = 1 := rfl
theorem u_one (x : UInt8) : ∀ u ∈ uE x, u.oneCell' = true := fun u hu => by simp [uE] at hu; subst hu; rfl
abbrev bT : Ty UInt8 := Ty.flat 1 uE u_len u_one
theorem b_flat : bT.Flat := Ty.flat_flat _ _ _ _
def bl (s : ByteArray) : List UInt8 := s.data.toList
theorem bl_len (s : ByteArray) : (bl s).length = s.size := rfl
theorem bl_ext (s : ByteArray) (a b : Nat) : bl (s.extract a b) = ((bl s).drop a).take (b - a) := by
  simp [bl, List.extract_eq_take_drop]
theorem bl_app (a b : ByteArray) : bl (a ++ b) = bl a ++ bl b := by simp [bl]
theorem bl_inj {a b : ByteArray} (h : bl a = bl b) : a = b := by
  cases a; cases b
  simp only [bl] at h
  rw [Array.toList_inj.1 h]
theorem str_cells (s : ByteArray) : Lib.strCells s = flatC uE (bl s) := by
  unfold Lib.strCells flatC bl
  induction s.data.toList with
  | nil => rfl
  | cons x l ih => rw [List.map_cons, ih, List.flatMap_cons]; rfl
theorem flat_cells {α : Type} {k : Nat} {enc : α → List Value} (hk : ∀ x, (enc x).length = k) (h1 : ∀ x, ∀ u ∈ enc x, u.oneCell' = true) (w : World) (S : Nat → Prop) (xs : List α) : Cells (Ty.flat k enc hk h1) w S xs (flatC enc xs) := by
  refine ⟨flat_len hk xs, fun j p hj => ?_⟩
  show ((flatC enc xs).drop (j * k)).take k = enc p
  apply List.ext_getElem?
  intro i
  rw [List.getElem?_take]
  split
  · rename_i hi
    rw [List.getElem?_drop, List.getElem?_eq_getElem (l := enc p) (by rw [hk]; exact hi)]
    exact flat_get hk hj (List.getElem?_eq_getElem _)
  · rename_i hi
    rw [List.getElem?_eq_none (by rw [hk]; omega)]
section
variable {P : Program} {ops : Array Oper} {rest : List Oper} {o : Oper} {a : Act} {Q : Exit → Act → World → Prop}
/-- append(v, s...), s a string. -/
theorem append_str {U : World} (hgd : o.guard = none) (s x : Operand) (t u e : TypeId)
    (ho : o.op = .call { callee := .builtin .append, args := #[s, x], argTypes := #[t, u] })
    (ht : P.underlying t = some (.slice e)) (hu : P.underlying u = some .string) (hinfo : (P.info? e).map (fun i => (i.zero, i.size, i.bytes)) = some (some (.int .u8 0), 1, 1))
    (base : Nat) (v : Value) (xs : List UInt8) (y : ByteArray) (hs : a.eval s = v) (hx : a.eval x = .string y)
    (HO : Mine bT U base e v xs) (hbase : base ≤ U.heap.size) (hl : xs.length + y.size ≤ 140737488355328)
    (h : ∀ v1 w1, Mine bT w1 base e v1 (xs ++ bl y) → Below base U w1 → (v1 = .slice none 0 0 ↔ v = .slice none 0 0 ∧ y.size = 0) → wpList P ops Q rest (a.put o.dst v1) w1) :
    wpList P ops Q (o :: rest) a U := by
  obtain ⟨i0, hi, hzz⟩ := Option.map_eq_some_iff.1 hinfo
  simp only [Prod.mk.injEq] at hzz
  obtain ⟨hz0, hz1, hz2⟩ := hzz
  have HO' := HO
  obtain ⟨inner, hown, hc, _⟩ := HO
  refine Lib.wpList_append_own_string U hgd s x t u ho base e i0 ht hu hi hz0 hz1 hz2 v xs.length inner hs hown y hx (by simp only [maxLen]; omega) hl hbase ?_
  intro v1 w1 hown1 hg hnil
  have hi2 := cells_flat u_len hc
  refine h v1 w1 ⟨inner ++ Lib.strCells y, by rw [List.length_append, bl_len]; exact hown1, ?_, fun _ h => h.elim⟩ (below_by hg hbase fun k hk => (HO'.lt hk).2) hnil
  rw [hi2, str_cells, ← flat_app]
  exact flat_cells u_len u_one _ _ _
end
/-- string(v). -/
theorem conv_back {P : Program} (src dst e : TypeId) (hs : P.underlying src = some (.slice e)) (he : P.underlying e = some (.int .u8)) (hd : P.underlying dst = some .string) {w : World} {S : Nat → Prop} {A : Option Addr} {n c : Nat} {l : List UInt8} (h : Row bT w S A n l) (hl : l.length ≤ 140737488355328) :
    (convert src dst (.slice A n c)).run P w = .ok (.string ⟨l.toArray⟩) w := by
  rcases A with _ | ad
  · have hn : n = 0 := by
      rcases Nat.eq_zero_or_pos n with h0 | h0
      · exact h0
      · exact absurd rfl (h.some_of h0)
    subst hn
    obtain rfl : l = [] := List.eq_nil_of_length_eq_zero h.1
    rw [run_convert_bytes_string w src dst e none 0 c hs he hd]
    try simp [Conv.bytesToString, loadCells, Result.andThen, Sem.run_bind]
    rfl
  · have := run_convert_bytes_back (P := P) w src dst e ad c l hs he hd (fun x hx => by
      obtain ⟨b9, o9, cs, he9, _, hr9, hc9⟩ := h.get x (by rw [← h.1]; exact hx)
      have hr9' : cs = uE _ := hr9
      subst hr9'
      cases he9
      have h0 := hc9 0 _ rfl
      have ha : (⟨b9, o9, none⟩ : Addr).add x = ⟨b9, o9 + x, none⟩ := by unfold Addr.add; split <;> simp_all
      have h1 : o9 + x * bT.sz + 0 = o9 + x := by show o9 + x * 1 + 0 = o9 + x; omega
      rw [h1] at h0
      rw [ha]
      exact h0)
    rw [h.1] at this
    exact this
end Go.Proofs.YtoambcpjdcehhaaGreat.Base
