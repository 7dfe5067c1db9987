/- A lexer's bytes: as loops write and read them. -/
import Derived.Test.YtpcnekdilecakaaDoorT2
set_option linter.unusedVariables false
set_option linter.unusedSimpArgs false
namespace Go.Proofs.YtpcnekdilecakaaDoor.Tb
open Go Go.RowKit Go.Proofs.YtpcnekdilecakaaDoor.Base

theorem drop_cons {α : Type} {l : List α} {k : Nat} {x : α} (h : l[k]? = some x) : l.drop k = x :: l.drop (k + 1) := by
  obtain ⟨hk, rfl⟩ := List.getElem?_eq_some_iff.1 h
  exact List.drop_eq_getElem_cons hk
theorem wcl_same {l : List Int} {m : Nat} {x : Int} (k : Nat) (h : l[m]? = some x) (h2 : l[m + 1]? = some x) : wcl k (l.drop m) = wcl (k + 1) (l.drop (m + 1)) := by
  rw [drop_cons h, drop_cons h2]
  show (if x = x then _ else _) = _
  rw [if_pos rfl]
theorem wcl_turn {l : List Int} {m : Nat} {x y : Int} (k : Nat) (h : l[m]? = some x) (h2 : l[m + 1]? = some y) (hy : y ≠ x) : wcl k (l.drop m) = w1 k ++ w1 x ++ wcl 0 (l.drop (m + 1)) := by
  rw [drop_cons h, drop_cons h2]
  show (if y = x then _ else _) = _
  rw [if_neg hy]
theorem wcl_last {l : List Int} {m : Nat} {x : Int} (k : Nat) (h : l[m]? = some x) (hl : l.length = m + 1) : wcl k (l.drop m) = w1 k ++ w1 x ++ wcl 0 (l.drop (m + 1)) := by
  rw [drop_cons h, List.drop_eq_nil_of_le (by omega)]
  show w1 k ++ w1 x = _ ++ []
  rw [List.append_nil]
theorem wcl_end (l : List Int) : wcl 0 (l.drop l.length) = [] := by rw [List.drop_length]; rfl
theorem zip_get {α β : Type} {a : List α} {b : List β} {k : Nat} {x : α} {y : β} (hx : a[k]? = some x) (hy : b[k]? = some y) : (a.zip b)[k]? = some (x, y) := by
  rw [List.getElem?_zip_eq_some]
  exact ⟨hx, hy⟩
theorem flat_snoc {α : Type} {l : List α} {k : Nat} {x : α} (e : α → List UInt8) (h : l[k]? = some x) : (l.take (k + 1)).flatMap e = (l.take k).flatMap e ++ e x := by
  rw [Df.take_snoc h, List.flatMap_append]
  simp
/-- How long what is written is. -/
theorem wcl_len : ∀ (k : Nat) (l : List Int), (wcl k l).length ≤ 2 * l.length
  | _, [] => by simp [wcl]
  | k, [x] => by simp [wcl, w1]
  | k, x :: y :: l => by
    unfold wcl
    split
    · have := wcl_len (k + 1) (y :: l)
      simp only [List.length_cons] at this ⊢
      omega
    · have := wcl_len 0 (y :: l)
      simp only [List.length_cons, List.length_append, w1, List.length_nil] at this ⊢
      omega
theorem flat_le {α : Type} (e : α → List UInt8) (m : Nat) : ∀ l : List α, (∀ x ∈ l, (e x).length ≤ m) → (l.flatMap e).length ≤ l.length * m
  | [], _ => by simp
  | x :: l, h => by
    rw [List.flatMap_cons, List.length_append, List.length_cons, Nat.succ_mul]
    have h1 := h x (List.mem_cons_self ..)
    have h2 := flat_le e m l fun y hy => h y (List.mem_cons_of_mem _ hy)
    omega
/-- As loops read it: some are read, others are left. -/
theorem many_stop {α : Type} (f : Rd → α × Rd) (n : Nat) {r : Rd} (h : r.2 = true) : manyF f n r = ([], r) := by
  cases n with
  | zero => rfl
  | succ n => show (if r.2 = true then _ else _) = _; rw [if_pos h]
theorem many_go {α : Type} (f : Rd → α × Rd) (n : Nat) {r : Rd} (h : r.2 = false) : manyF f (n + 1) r = ((f r).1 :: (manyF f n (f r).2).1, (manyF f n (f r).2).2) := by
  show (if r.2 = true then _ else _) = _
  rw [if_neg (by rw [h]; decide)]
theorem many_len {α : Type} (f : Rd → α × Rd) : ∀ (n : Nat) (r : Rd), (manyF f n r).1.length ≤ n
  | 0, _ => Nat.le_refl _
  | n + 1, r => by
    cases h : r.2 with
    | true => rw [many_stop f _ h]; exact Nat.zero_le _
    | false =>
      rw [many_go f n h]
      have := many_len f n (f r).2
      simp only [List.length_cons]
      omega
theorem cls_stop {c : List Int} {w : Int} {r : Rd} (h : ¬ (c.length < 256 ∧ r.2 = false)) : clsF c w r = (c, w, r) := by rw [clsF, if_neg h]
theorem cls_go {c : List Int} {w : Int} {r : Rd} (h : c.length < 256 ∧ r.2 = false) : clsF c w r = clsF (c ++ List.replicate ((oneF r).1 + 1) ((oneF (oneF r).2).1 : Int)) (max w ((oneF (oneF r).2).1 + 1)) (oneF (oneF r).2).2 := by rw [clsF, if_pos h]
/-! ### What is left grows never -/
theorem take_le (n : Nat) (r : Rd) : (takeF n r).2.1.length ≤ r.1.length := by
  unfold takeF
  split
  · exact Nat.zero_le _
  · simp
theorem take_got (n : Nat) (r : Rd) (h : (takeF n r).2.2 = false) : (takeF n r).2.1.length + n = r.1.length ∧ r.2 = false := by
  unfold takeF at h ⊢
  split at h
  · cases h
  · rename_i hn
    rw [if_neg hn]
    refine ⟨?_, h⟩
    show (r.1.drop n).length + n = _
    rw [List.length_drop]
    omega
theorem take_short (n : Nat) (r : Rd) (h : r.2 = true) : (takeF n r).2.2 = true := by
  unfold takeF
  split
  · rfl
  · exact h
theorem one_lt (r : Rd) : (oneF r).1 < 256 := UInt8.toNat_lt _
theorem two_lt (r : Rd) : (twoF r).1 < 65536 := by
  have h1 := UInt8.toNat_lt ((takeF 2 r).1.getD 0 0)
  have h2 := UInt8.toNat_lt ((takeF 2 r).1.getD 1 0)
  show _ * 256 + _ < _
  omega
theorem take_len {n : Nat} (r : Rd) (hn : n ≤ 256) : (takeF n r).1.length = n := by
  unfold takeF
  split
  · rw [List.length_replicate]; omega
  · rw [List.length_take]; omega
end Go.Proofs.YtpcnekdilecakaaDoor.Tb
