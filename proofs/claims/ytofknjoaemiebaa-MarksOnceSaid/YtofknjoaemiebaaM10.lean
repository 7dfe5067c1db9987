/- What stays true of the numbers that are told: plain laws. -/
import Derived.Test.YtofknjoaemiebaaM6
namespace Go.Proofs.Ytofknjoaemiebaa.Fn
open Go Go.RowKit Go.Proofs.Ytofknjoaemiebaa.Can Go.Proofs.Ytofknjoaemiebaa.Base

theorem full_or {α : Type} (L : List (Slot α)) : (∀ s ∈ L, s.taken = true) ∨ ∃ (i : Nat) (s : Slot α), (∀ j : Nat, j < i → ∀ s : Slot α, L[j]? = some s → s.taken = true) ∧ L[i]? = some s ∧ s.taken = false := by
  induction L with
  | nil => exact .inl (by simp)
  | cons a L ih =>
    cases ha : a.taken with
    | false => exact .inr ⟨0, a, fun j hj => absurd hj (Nat.not_lt_zero j), rfl, ha⟩
    | true =>
      rcases ih with h | ⟨i, s, h1, h2, h3⟩
      · exact .inl (fun s hs => by rcases List.mem_cons.1 hs with rfl | hs; exact ha; exact h s hs)
      · refine .inr ⟨i + 1, s, fun j hj s' hs => ?_, by simpa using h2, h3⟩
        cases j with
        | zero => simp at hs; subst hs; exact ha
        | succ j => exact h1 j (by omega) s' (by simpa using hs)
abbrev cnt (L : List (Slot Int)) : Nat := L.countP (·.taken)
theorem ids_cnt (L : List (Slot Int)) (k : Nat) : (idsUpto L k).length = (L.take k).countP (·.taken) := by
  induction k with
  | zero => simp [idsUpto]
  | succ k ih =>
    simp only [idsUpto, List.length_append, ih, List.take_add_one, List.countP_append]
    cases h : L[k]? with
    | none => simp
    | some s => cases ht : s.taken <;> simp [ht]
theorem ids_len {L : List (Slot Int)} {m : Nat} (hm : L.length = m) : (idsUpto L m).length = cnt L := by
  rw [ids_cnt, List.take_of_length_le (by omega)]
theorem split_at {L : List (Slot Int)} {i : Nat} {s : Slot Int} (hx : L[i]? = some s) : L = L.take i ++ s :: L.drop (i + 1) := by
  obtain ⟨h, rfl⟩ := List.getElem?_eq_some_iff.1 hx
  rw [List.getElem_cons_drop, List.take_append_drop]
theorem set_at {L : List (Slot Int)} {i : Nat} {s y : Slot Int} (hx : L[i]? = some s) : L.set i y = L.take i ++ y :: L.drop (i + 1) := by
  rw [List.set_eq_take_append_cons_drop, if_pos (List.getElem?_eq_some_iff.1 hx).1]
theorem cnt_took {L : List (Slot Int)} {i : Nat} {s : Slot Int} {v low : Int} (hx : L[i]? = some s) (ht : s.taken = false) : cnt (L.set i (took s v low)) = cnt L + 1 := by
  have h1 := congrArg cnt (split_at hx)
  rw [set_at hx, h1]
  simp only [cnt, List.countP_append, List.countP_cons, ht, took]
  simp; omega
theorem cnt_freed {L : List (Slot Int)} {i : Nat} {s : Slot Int} (hx : L[i]? = some s) (ht : s.taken = true) : cnt (L.set i (freed 0 s)) + 1 = cnt L := by
  have h1 := congrArg cnt (split_at hx)
  rw [set_at hx, h1]
  simp only [cnt, List.countP_append, List.countP_cons, ht, freed]
  simp; omega
theorem cnt_full {L : List (Slot Int)} (h : ∀ s ∈ L, s.taken = true) : cnt L = L.length := List.countP_eq_length.2 h
theorem cnt_free {L : List (Slot Int)} {i : Nat} {s : Slot Int} (hx : L[i]? = some s) (ht : s.taken = false) : cnt L < L.length := by
  rcases Nat.lt_or_ge (cnt L) L.length with h | h
  · exact h
  · have := List.countP_eq_length.1 (Nat.le_antisymm List.countP_le_length h) s (List.mem_of_getElem? hx)
    rw [ht] at this; cases this
theorem num_inj {m i j t u : Nat} (hi : i < m) (hj : j < m) (h : i + m * t = j + m * u) : i = j ∧ t = u := by
  have h1 := congrArg (· % m) h
  simp only [Nat.add_mul_mod_self_left, Nat.mod_eq_of_lt hi, Nat.mod_eq_of_lt hj] at h1
  subst h1
  exact ⟨rfl, Nat.eq_of_mul_eq_mul_left (show 0 < m by omega) (Nat.add_left_cancel h)⟩
theorem find_none {L : List (Slot Int)} {m i t : Nat} {s : Slot Int} {id : Int} (hm : L.length = m) (hx : L[i]? = some s) (ht : s.taken = false) (hn : ((i + m * t : Nat) : Int) = id) : findL L id = none := by
  cases h : findL L id with
  | none => rfl
  | some j =>
    obtain ⟨s2, h2, h3, h4⟩ := findL_slot h
    rw [hm, ← hn] at h4
    have hi : i < m := by rw [← hm]; exact (List.getElem?_eq_some_iff.1 hx).1
    have hj : j < m := by rw [← hm]; exact (List.getElem?_eq_some_iff.1 h2).1
    obtain ⟨rfl, _⟩ := num_inj hj hi (Int.ofNat_inj.1 h4)
    rw [hx] at h2; cases h2
    rw [ht] at h3; cases h3
theorem find_keep {L : List (Slot Int)} {m i j : Nat} {y : Slot Int} {id : Int} (hm : L.length = m) (h : findL L id = some j) (hj : j ≠ i) : findL (L.set i y) id = some j := by
  obtain ⟨s2, h2, h3, h4⟩ := findL_slot h
  rw [hm] at h4
  exact find_hit (by rw [List.length_set]; exact hm) (by rw [List.getElem?_set_ne (Ne.symm hj)]; exact h2) h3 h4

/-- Every number that was told. -/
def AllOk (m : Nat) (L : List (Slot Int)) (all : List Int) : Prop := ∀ x ∈ all, ∃ i s t, L[i]? = some s ∧ x = ((i + m * t : Nat) : Int) ∧ (t < s.times ∨ (t = s.times ∧ s.taken = true))
/-- The numbers that are held. -/
structure HeldOk (L : List (Slot Int)) (held : List Int) : Prop where
  fnd : ∀ x ∈ held, ∃ i, findL L x = some i
  nd : held.Nodup
  cn : held.length = cnt L
section
variable {L : List (Slot Int)} {m i : Nat} {s : Slot Int} {all held : List Int} {v low : Int}
theorem AllOk.fresh (h : AllOk m L all) (hm : L.length = m) (hx : L[i]? = some s) (ht : s.taken = false) : ((numb m i s : Nat) : Int) ∉ all := by
  intro hmem
  obtain ⟨j, s2, t, h2, h3, h4⟩ := h _ hmem
  have hi : i < m := by rw [← hm]; exact (List.getElem?_eq_some_iff.1 hx).1
  have hj : j < m := by rw [← hm]; exact (List.getElem?_eq_some_iff.1 h2).1
  obtain ⟨rfl, rfl⟩ := num_inj hi hj (Int.ofNat_inj.1 h3)
  rw [hx] at h2; cases h2
  rcases h4 with h4 | ⟨_, h4⟩
  · omega
  · rw [ht] at h4; cases h4
theorem AllOk.set (h : AllOk m L all) (hx : L[i]? = some s) (ht : s.taken = false) : AllOk m (L.set i (took s v low)) (all ++ [((numb m i s : Nat) : Int)]) := by
  have hi : i < L.length := (List.getElem?_eq_some_iff.1 hx).1
  intro x hmem
  rcases List.mem_append.1 hmem with hmem | hmem
  · obtain ⟨j, s2, t, h2, h3, h4⟩ := h _ hmem
    by_cases hj : j = i
    · subst hj
      rw [hx] at h2; cases h2
      refine ⟨j, _, t, List.getElem?_set_self hi, h3, ?_⟩
      rcases h4 with h4 | ⟨_, h4⟩
      · exact .inl h4
      · rw [ht] at h4; cases h4
    · exact ⟨j, s2, t, by rw [List.getElem?_set_ne (Ne.symm hj)]; exact h2, h3, h4⟩
  · rw [List.mem_singleton] at hmem
    exact ⟨i, _, s.times, List.getElem?_set_self hi, hmem, .inr ⟨rfl, rfl⟩⟩
theorem AllOk.free (h : AllOk m L all) (hx : L[i]? = some s) : AllOk m (L.set i (freed 0 s)) all := by
  have hi : i < L.length := (List.getElem?_eq_some_iff.1 hx).1
  intro x hmem
  obtain ⟨j, s2, t, h2, h3, h4⟩ := h _ hmem
  by_cases hj : j = i
  · subst hj
    rw [hx] at h2; cases h2
    exact ⟨j, _, t, List.getElem?_set_self hi, h3, .inl (by simp only [freed]; omega)⟩
  · exact ⟨j, s2, t, by rw [List.getElem?_set_ne (Ne.symm hj)]; exact h2, h3, h4⟩
theorem HeldOk.set (h : HeldOk L held) (hm : L.length = m) (hx : L[i]? = some s) (ht : s.taken = false) : HeldOk (L.set i (took s v low)) (held ++ [((numb m i s : Nat) : Int)]) := by
  have hi : i < L.length := (List.getElem?_eq_some_iff.1 hx).1
  have hno := find_none hm hx ht (t := s.times) rfl
  have hnew : findL (L.set i (took s v low)) ((numb m i s : Nat) : Int) = some i := find_hit (by rw [List.length_set]; exact hm) (List.getElem?_set_self hi) rfl rfl
  refine ⟨fun x hmem => ?_, ?_, by rw [List.length_append, h.cn, cnt_took hx ht]; rfl⟩
  · rcases List.mem_append.1 hmem with hmem | hmem
    · obtain ⟨j, hj⟩ := h.fnd x hmem
      refine ⟨j, find_keep hm hj fun he => ?_⟩
      subst he
      obtain ⟨s2, h2, h3, _⟩ := findL_slot hj
      rw [hx] at h2; cases h2; rw [ht] at h3; cases h3
    · rw [List.mem_singleton] at hmem; subst hmem; exact ⟨i, hnew⟩
  · rw [List.nodup_append]
    refine ⟨h.nd, by simp, fun a ha b hb he => ?_⟩
    rw [List.mem_singleton] at hb
    subst hb he
    obtain ⟨j, hj⟩ := h.fnd _ ha
    exact absurd hj (by show findL L ((i + m * s.times : Nat) : Int) ≠ _; rw [hno]; simp)
theorem HeldOk.free {k : Nat} {id : Int} (h : HeldOk L held) (hm : L.length = m) (hk : held[k]? = some id) (hf : findL L id = some i) (hx : L[i]? = some s) : HeldOk (L.set i (freed 0 s)) (held.take k ++ held.drop (k + 1)) := by
  obtain ⟨s2, h2, ht, hn⟩ := findL_slot hf
  rw [hx] at h2; cases h2
  obtain ⟨hkl, hke⟩ := List.getElem?_eq_some_iff.1 hk
  rw [← List.eraseIdx_eq_take_drop_succ]
  refine ⟨fun x hmem => ?_, h.nd.eraseIdx k, ?_⟩
  · obtain ⟨j, hj⟩ := h.fnd x (List.mem_of_mem_eraseIdx hmem)
    refine ⟨j, find_keep hm hj fun he => ?_⟩
    subst he
    obtain ⟨s3, h3, _, h5⟩ := findL_slot hj
    rw [hx] at h3; cases h3
    have hxid : x = id := by rw [← h5, hn]
    subst hxid
    obtain ⟨j2, hj2, hne, he⟩ := List.mem_eraseIdx_iff_getElem.1 hmem
    have hp := List.pairwise_iff_getElem.1 h.nd
    rcases Nat.lt_or_gt_of_ne hne with hlt | hlt
    · exact hp j2 k hj2 hkl hlt (by rw [he, hke])
    · exact hp k j2 hkl hj2 hlt (by rw [he, hke])
  · have := cnt_freed hx ht
    rw [List.length_eraseIdx, if_pos hkl, h.cn]
    omega
end
end Go.Proofs.Ytofknjoaemiebaa.Fn
