/- Blocks of plain elements, k cells each, that are read and written in place. -/
import Derived.Test.YtoambcpjdcehhaaGreatGrow
set_option linter.unusedVariables false
set_option linter.unusedSimpArgs false
set_option linter.unusedVariables false
namespace Go.Proofs.YtoambcpjdcehhaaGreat.Base
open Go Go.RowKit

section
variable {α : Type} {enc : α → List Value} {k : Nat}
/-- The elements' cells, one behind the other. -/
def flatC (enc : α → List Value) (xs : List α) : List Value := xs.flatMap enc
theorem flat_nil : flatC enc ([] : List α) = [] := rfl
theorem flat_cons (x : α) (xs : List α) : flatC enc (x :: xs) = enc x ++ flatC enc xs := by simp [flatC]
theorem flat_app (xs ys : List α) : flatC enc (xs ++ ys) = flatC enc xs ++ flatC enc ys := by simp [flatC]
theorem flat_len (hk : ∀ x, (enc x).length = k) (xs : List α) : (flatC enc xs).length = xs.length * k := by
  induction xs with
  | nil => simp [flatC]
  | cons x xs ih => rw [flat_cons, List.length_append, hk, ih, List.length_cons, Nat.succ_mul, Nat.add_comm]
theorem flat_get (hk : ∀ x, (enc x).length = k) {xs : List α} {i j : Nat} {x : α} {v : Value} (hx : xs[i]? = some x) (hj : (enc x)[j]? = some v) : (flatC enc xs)[i * k + j]? = some v := by
  induction xs generalizing i with
  | nil => simp at hx
  | cons y ys ih =>
    have hjk : j < k := by rw [← hk x]; exact (List.getElem?_eq_some_iff.1 hj).1
    rw [flat_cons]
    cases i with
    | zero =>
      simp at hx; subst hx
      rw [Nat.zero_mul, Nat.zero_add, List.getElem?_append_left (by rw [hk]; exact hjk)]
      exact hj
    | succ i =>
      simp at hx
      rw [List.getElem?_append_right (by rw [hk, Nat.succ_mul]; omega), hk, show (i + 1) * k + j - k = i * k + j by rw [Nat.succ_mul]; omega]
      exact ih hx
theorem flat_set (hk : ∀ x, (enc x).length = k) {xs : List α} {i j : Nat} {x y : α} {v : Value} (hx : xs[i]? = some x) (hj : j < k) (he : (enc x).set j v = enc y) : (flatC enc xs).set (i * k + j) v = flatC enc (xs.set i y) := by
  induction xs generalizing i with
  | nil => simp at hx
  | cons z zs ih =>
    rw [flat_cons]
    cases i with
    | zero =>
      simp at hx; subst hx
      rw [Nat.zero_mul, Nat.zero_add, List.set_append_left _ _ (by rw [hk]; exact hj), he, List.set_cons_zero, flat_cons]
    | succ i =>
      simp at hx
      rw [List.set_append_right _ _ (by rw [hk, Nat.succ_mul]; omega), hk, show (i + 1) * k + j - k = i * k + j by rw [Nat.succ_mul]; omega, List.set_cons_succ, flat_cons, ih hx]
theorem cells_flat (hk : ∀ x, (enc x).length = k) {h1 : ∀ x, ∀ u ∈ enc x, u.oneCell' = true} {w : World} {S : Nat → Prop} {xs : List α} {cs : List Value} (h : Cells (Ty.flat k enc hk h1) w S xs cs) : cs = flatC enc xs := by
  obtain ⟨hl, hr⟩ := h
  have hl' : cs.length = xs.length * k := hl
  have hr' : ∀ j p, xs[j]? = some p → (cs.drop (j * k)).take k = enc p := hr
  clear hl hr
  induction xs generalizing cs with
  | nil => simp at hl'; rw [hl']; rfl
  | cons x xs ih =>
    have h0 := hr' 0 x rfl
    rw [Nat.zero_mul, List.drop_zero] at h0
    rw [flat_cons, ← h0, ← ih (cs := cs.drop k) (by rw [List.length_drop, hl', List.length_cons, Nat.succ_mul]; omega) (fun j p hj => by
      rw [List.drop_drop, show k + j * k = (j + 1) * k by rw [Nat.succ_mul]; omega]
      exact hr' (j + 1) p (by simpa using hj)), List.take_append_drop]

theorem made_flat (hk : ∀ x, (enc x).length = k) (hk0 : 0 < k) {x : α} {zc : Array Value} (hz : zc.toList = enc x) (n : Nat) : madeCells zc (n * k) = (flatC enc (List.replicate n x)).toArray := by
  have hs : zc.size = k := by rw [← hk x, ← hz]; simp
  apply Array.ext
  · simp [size_madeCells, flat_len hk]
  · intro i h1 h2
    rw [size_madeCells] at h1
    have hm : i % k < k := Nat.mod_lt _ hk0
    have hg := flat_get hk (xs := List.replicate n x) (i := i / k) (j := i % k) (x := x) (v := (enc x)[i % k]'(by rw [hk]; exact hm)) (by rw [List.getElem?_replicate, if_pos (Nat.div_lt_of_lt_mul (by rwa [Nat.mul_comm] at h1))]) (List.getElem?_eq_getElem _)
    rw [Nat.div_add_mod'] at hg
    have h3 := (List.getElem?_eq_some_iff.1 hg).2
    have h4 : (madeCells zc (n * k))[i]'(by rw [size_madeCells]; exact h1) = zc[i % k]'(by rw [hs]; exact hm) := by
      simp only [madeCells, Array.getElem_map, Array.getElem_range, hs]
      exact getElem!_pos zc _ _
    rw [h4]
    simp only [List.getElem_toArray, h3, ← hz, Array.getElem_toList]

/-- Block g holds the elements xs, and maybe more behind them. -/
def Blk (enc : α → List Value) (w : World) (e : TypeId) (g : Nat) (xs : List α) : Prop := ∃ rest : List Value, w.heap[g]? = some (.cells (flatC enc xs ++ rest).toArray e (0, 0))
variable {w w' : World} {e : TypeId} {g : Nat} {xs : List α}
theorem Blk.lt (h : Blk enc w e g xs) : g < w.heap.size := by obtain ⟨_, h⟩ := h; exact blk_lt h
theorem Blk.frozen (h : Blk enc w e g xs) (i : Nat) : w.frozen? ⟨g, i, none⟩ = false := by obtain ⟨_, h⟩ := h; exact blk_frozen h i
theorem Blk.move (h : Blk enc w e g xs) (hm : w'.heap[g]? = w.heap[g]?) : Blk enc w' e g xs := by obtain ⟨r, h⟩ := h; exact ⟨r, hm.trans h⟩
theorem Blk.below (h : Blk enc w e g xs) (hb : Below w.heap.size w w') : Blk enc w' e g xs := h.move (hb.block g h.lt)
theorem Blk.fr {X : Nat → Prop} (h : Blk enc w e g xs) (hf : Fr X w w') (hX : ¬ X g) : Blk enc w' e g xs := h.move (hf.same g h.lt hX)
theorem Blk.far (h : Blk enc w e g xs) {p : Addr} (hne : g ≠ p.block) (v : Value) : Blk enc (w.setCell p v) e g xs := h.move (Below.heap_setCell w p v g hne)
theorem Blk.cell (h : Blk enc w e g xs) (hk : ∀ x, (enc x).length = k) {i j : Nat} {x : α} {v : Value} (hx : xs[i]? = some x) (hj : (enc x)[j]? = some v) : w.cell? ⟨g, i * k + j, none⟩ = some v := by
  obtain ⟨r, h⟩ := h
  have hg := flat_get hk hx hj
  refine blk_cell h _ _ ?_
  rw [List.getElem?_toArray, List.getElem?_append_left (List.getElem?_eq_some_iff.1 hg).1]
  exact hg
theorem Blk.cell0 (h : Blk enc w e g xs) (hk : ∀ x, (enc x).length = k) {i : Nat} {x : α} {v : Value} (hx : xs[i]? = some x) (hj : (enc x)[0]? = some v) : w.cell? ⟨g, i * k, none⟩ = some v := h.cell hk hx hj
theorem Blk.set (h : Blk enc w e g xs) (hk : ∀ x, (enc x).length = k) {i j : Nat} {x y : α} {v : Value} (hx : xs[i]? = some x) (hj : j < k) (he : (enc x).set j v = enc y) : Blk enc (w.setCell ⟨g, i * k + j, none⟩ v) e g (xs.set i y) := by
  obtain ⟨r, h⟩ := h
  refine ⟨r, blk_set h _ _ _ ?_⟩
  have hlt : i * k + j < (flatC enc xs).length := by
    rw [flat_len hk]
    have := (List.getElem?_eq_some_iff.1 hx).1
    have : (i + 1) * k ≤ xs.length * k := Nat.mul_le_mul_right _ this
    rw [Nat.succ_mul] at this; omega
  rw [← flat_set hk hx hj he, List.setIfInBounds_toArray, List.set_append_left _ _ hlt]
theorem Blk.set0 (h : Blk enc w e g xs) (hk : ∀ x, (enc x).length = k) {i : Nat} {x y : α} {v : Value} (hx : xs[i]? = some x) (hj : 0 < k) (he : (enc x).set 0 v = enc y) : Blk enc (w.setCell ⟨g, i * k, none⟩ v) e g (xs.set i y) := h.set hk hx hj he
theorem Blk.row (h : Blk enc w e g xs) (hk : ∀ x, (enc x).length = k) (h1 : ∀ x, ∀ u ∈ enc x, u.oneCell' = true) {S : Nat → Prop} (hS : S g) (hn : xs.length ≤ 9223372036854775807) : Row (Ty.flat k enc hk h1) w S (some ⟨g, 0, none⟩) xs.length xs := by
  refine ⟨rfl, hn, fun _ => ⟨g, 0, rfl, hS, fun j p hj => ⟨_, rfl, fun i u hu => ?_⟩⟩⟩
  rw [Nat.zero_add]
  exact h.cell hk hj hu
/-- What has been made: n elements x. -/
theorem Blk.made (hk : ∀ x, (enc x).length = k) (hk0 : 0 < k) {x : α} {z : Value} (hz : z.cells.toList = enc x) {base n c : Nat} {e : TypeId} {g : Nat} {w : World} (h : w.ownsRow base e k (.slice (some ⟨g, 0, none⟩) n c) n (madeCells z.cells (n * k)).toList) : Blk enc w e g (List.replicate n x) := by
  rcases h.2 with ⟨h0, _⟩ | ⟨g', cap, cur, he, hg, hh, hcap, _, hcs, ht⟩
  · cases h0
  · simp only [Value.slice.injEq, Option.some.injEq, Addr.mk.injEq, and_true, true_and] at he
    obtain ⟨rfl, rfl⟩ := he
    refine ⟨cur.toList.drop (n * k), ?_⟩
    rw [hh, made_flat hk hk0 hz] at *
    have ht' : cur.toList.take (n * k) = flatC enc (List.replicate n x) := ht
    rw [← ht', List.take_append_drop]
theorem Mine.blk (hk : ∀ x, (enc x).length = k) {h1 : ∀ x, ∀ u ∈ enc x, u.oneCell' = true} {base : Nat} {v : Value} (h : Mine (Ty.flat k enc hk h1) w base e v xs) (h0 : 0 < xs.length) :
    ∃ g c, v = .slice (some ⟨g, 0, none⟩) xs.length c ∧ base ≤ g ∧ xs.length ≤ c ∧ Blk enc w e g xs := by
  obtain ⟨inner, ho, hc, _⟩ := h
  have hi := cells_flat hk hc
  rcases ho.2 with ⟨_, hz⟩ | ⟨g, cap, cur, rfl, hb, hh, hcap, _, _, ht⟩
  · omega
  · refine ⟨g, cap, rfl, hb, hcap, cur.toList.drop (xs.length * k), ?_⟩
    have ht' : cur.toList.take (xs.length * k) = inner := ht
    rw [← hi, ← ht', List.take_append_drop]
    simpa using hh
end
end Go.Proofs.YtoambcpjdcehhaaGreat.Base
