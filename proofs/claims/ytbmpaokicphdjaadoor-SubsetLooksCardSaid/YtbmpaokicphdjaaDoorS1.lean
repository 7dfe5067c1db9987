/- A table of places by hash, one behind the other where they are taken: the plain law. -/
import Derived.Test.YtbmpaokicphdjaaDoorB24
set_option linter.unusedVariables false
set_option linter.unusedSimpArgs false
namespace Go.Proofs.YtbmpaokicphdjaaDoor.Fn
open Go Go.RowKit Go.Proofs.YtbmpaokicphdjaaDoor.Can Go.Proofs.YtbmpaokicphdjaaDoor.Base

/-- What place number d from x's first holds. -/
def plc (h : List Int → Nat) (P : List Int) (x : List Int) (d : Nat) : Int := P.getD ((h x + d) % P.length) 0
/-- The first m of these sets have their places in P. -/
structure Pl (h : List Int → Nat) (L : List (List Int)) (m : Nat) (P : List Int) : Prop where
  pos : 0 < P.length
  le : m ≤ L.length
  at_ : ∀ k x, k < m → L[k]? = some x → ∃ d, (∀ e, e < d → plc h P x e ≠ -1) ∧ plc h P x d = (k : Int)
  val : ∀ (i : Nat) (v : Int), P[i]? = some v → v = -1 ∨ ∃ k : Nat, k < m ∧ v = (k : Int)
  count : P.countP (fun v => v != -1) = m
section
variable {h : List Int → Nat} {L : List (List Int)} {m : Nat} {P : List Int}
theorem Pl.start (n : Nat) (hn : 0 < n) : Pl h L 0 (List.replicate n (-1)) := by
  refine ⟨by rw [List.length_replicate]; exact hn, Nat.zero_le _, fun k x hk => absurd hk (Nat.not_lt_zero k), fun i v hv => ?_, ?_⟩
  · rw [List.getElem?_replicate] at hv
    split at hv
    · exact .inl (Option.some.inj hv).symm
    · cases hv
  · rw [List.countP_replicate]; rfl
theorem plc_get {x : List Int} (hp : 0 < P.length) (d : Nat) : P[(h x + d) % P.length]? = some (plc h P x d) := by
  have hl : (h x + d) % P.length < P.length := Nat.mod_lt _ hp
  unfold plc
  rw [List.getD_eq_getElem?_getD, List.getElem?_eq_getElem hl]; rfl
theorem Pl.look (hP : Pl h L m P) (x : List Int) (d : Nat) : plc h P x d = -1 ∨ ∃ k : Nat, k < m ∧ plc h P x d = (k : Int) := hP.val _ _ (plc_get hP.pos d)
/-- A free place comes. -/
theorem Pl.free (hP : Pl h L m P) (hm : m < P.length) (x : List Int) : ∃ d, d < P.length ∧ plc h P x d = -1 := by
  apply Classical.byContradiction
  intro hno
  have hall : ∀ v ∈ P, (fun v => v != -1) v = true := by
    intro v hv
    obtain ⟨i, hi, rfl⟩ := List.mem_iff_getElem.1 hv
    simp only [bne_iff_ne, ne_eq]
    intro he
    apply hno
    refine ⟨(i + (P.length - h x % P.length)) % P.length, Nat.mod_lt _ hP.pos, ?_⟩
    have e : (h x + (i + (P.length - h x % P.length)) % P.length) % P.length = i := by
      have h1 : h x % P.length < P.length := Nat.mod_lt _ hP.pos
      have h2 : h x = P.length * (h x / P.length) + h x % P.length := (Nat.div_add_mod _ _).symm
      rw [Nat.add_mod_mod]
      have h3 : h x + (i + (P.length - h x % P.length)) = i + P.length * (h x / P.length + 1) := by
        rw [Nat.mul_add, Nat.mul_one]; omega
      rw [h3, Nat.add_mul_mod_self_left, Nat.mod_eq_of_lt hi]
    unfold Fn.plc
    rw [e, List.getD_eq_getElem?_getD, List.getElem?_eq_getElem hi]
    exact he
  have := List.countP_eq_length.2 hall
  rw [hP.count] at this
  omega
/-- Behind places that are taken by others comes a free one: the set is not there. -/
theorem Pl.absent (hP : Pl h L m P) {x : List Int} {d : Nat} (hf : plc h P x d = -1) (ho : ∀ e, e < d → ∀ k : Nat, plc h P x e = (k : Int) → L[k]? ≠ some x) (k : Nat) (hk : k < m) : L[k]? ≠ some x := by
  intro hx
  obtain ⟨d', h1, h2⟩ := hP.at_ k x hk hx
  rcases Nat.lt_trichotomy d' d with hlt | rfl | hlt
  · exact ho d' hlt k h2 hx
  · rw [hf] at h2; omega
  · exact h1 d hlt hf
theorem getD_set_ne {P : List Int} {i j : Nat} {v : Int} (hij : i ≠ j) : (P.set i v).getD j 0 = P.getD j 0 := by
  rw [List.getD_eq_getElem?_getD, List.getD_eq_getElem?_getD, List.getElem?_set, if_neg hij]
theorem getD_set_eq {P : List Int} {i : Nat} {v : Int} (hi : i < P.length) : (P.set i v).getD i 0 = v := by
  rw [List.getD_eq_getElem?_getD, List.getElem?_set, if_pos rfl, if_pos hi]; rfl
theorem countP_set {P : List Int} {i : Nat} {v : Int} (hi : P[i]? = some (-1)) (hv : v ≠ -1) : (P.set i v).countP (fun v => v != -1) = P.countP (fun v => v != -1) + 1 := by
  induction P generalizing i with
  | nil => simp at hi
  | cons y P ih =>
    cases i with
    | zero =>
      simp at hi; subst hi
      rw [List.set_cons_zero, List.countP_cons, List.countP_cons]
      simp [hv]
    | succ i =>
      simp at hi
      rw [List.set_cons_succ, List.countP_cons, List.countP_cons, ih hi]
      omega
/-- Number m is put at the free place. -/
theorem Pl.put (hP : Pl h L m P) {x : List Int} {d : Nat} (hx : L[m]? = some x) (hf : Fn.plc h P x d = -1) (hn : ∀ e, e < d → Fn.plc h P x e ≠ -1) : Pl h L (m + 1) (P.set ((h x + d) % P.length) (m : Int)) := by
  have hi : (h x + d) % P.length < P.length := Nat.mod_lt _ hP.pos
  obtain ⟨i, hie⟩ : ∃ i, (h x + d) % P.length = i := ⟨_, rfl⟩
  rw [hie] at hi ⊢
  have hPi : P.getD i 0 = -1 := by rw [← hie]; exact hf
  have hmi : (m : Int) ≠ -1 := by omega
  have hkeep : ∀ j, P.getD j 0 ≠ -1 → (P.set i (m : Int)).getD j 0 = P.getD j 0 := fun j hj => getD_set_ne (fun e => hj (by rw [← e]; exact hPi))
  have hne : ∀ j, P.getD j 0 ≠ -1 → (P.set i (m : Int)).getD j 0 ≠ -1 := fun j hj => by rw [hkeep j hj]; exact hj
  refine ⟨by rw [List.length_set]; exact hP.pos, ?_, fun k y hk hy => ?_, fun j v hv => ?_, ?_⟩
  · have := (List.getElem?_eq_some_iff.1 hx).1; omega
  · by_cases hkm : k < m
    · obtain ⟨d', h1, h2⟩ := hP.at_ k y hkm hy
      refine ⟨d', fun e he => ?_, ?_⟩
      · unfold Fn.plc; rw [List.length_set]; exact hne _ (h1 e he)
      · unfold Fn.plc; rw [List.length_set, hkeep _ (show Fn.plc h P y d' ≠ -1 by rw [h2]; omega)]; exact h2
    · obtain rfl : k = m := by omega
      obtain rfl : x = y := by rw [hx] at hy; exact Option.some.inj hy
      refine ⟨d, fun e he => ?_, ?_⟩
      · unfold Fn.plc; rw [List.length_set]; exact hne _ (hn e he)
      · unfold Fn.plc; rw [List.length_set, hie, getD_set_eq hi]
  · rw [List.getElem?_set] at hv
    split at hv
    · refine .inr ⟨m, Nat.lt_succ_self _, ?_⟩
      first
        | exact (Option.some.inj hv).symm
        | (split at hv
           · exact (Option.some.inj hv).symm
           · cases hv)
    · rcases hP.val j v hv with h1 | ⟨k, h1, h2⟩
      · exact .inl h1
      · exact .inr ⟨k, by omega, h2⟩
  · rw [countP_set (by rw [List.getElem?_eq_getElem hi]; rw [List.getD_eq_getElem?_getD, List.getElem?_eq_getElem hi] at hPi; exact congrArg some hPi) hmi, hP.count]
theorem Pl.grow (hP : Pl h L m P) (L' : List (List Int)) : Pl h (L ++ L') m P := by
  refine ⟨hP.pos, by rw [List.length_append]; have := hP.le; omega, fun k x hk hx => hP.at_ k x hk ?_, hP.val, hP.count⟩
  rwa [List.getElem?_append_left (by have := hP.le; omega)] at hx
theorem Pl.lt (hP : Pl h L m P) : m ≤ P.length := by rw [← hP.count]; exact List.countP_le_length
end
end Go.Proofs.YtbmpaokicphdjaaDoor.Fn
