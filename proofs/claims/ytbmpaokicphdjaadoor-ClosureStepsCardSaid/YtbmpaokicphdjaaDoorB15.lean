/- The plain laws: rising lists and words. -/
import Derived.Test.YtbmpaokicphdjaaDoorB14
namespace Go.Proofs.YtbmpaokicphdjaaDoor.Fn
open Go Go.RowKit Go.Proofs.YtbmpaokicphdjaaDoor.Can Go.Proofs.YtbmpaokicphdjaaDoor.Base

def elemsI (ws : List Nat) : List Int := (elems ws).map fun x : Nat => (x : Int)
theorem sorted_ext : ∀ {L R : List Int}, L.Pairwise (· < ·) → R.Pairwise (· < ·) → (∀ x, x ∈ L ↔ x ∈ R) → L = R
  | [], [], _, _, _ => rfl
  | [], y :: R, _, _, h => by have := (h y).2 (by simp); simp at this
  | x :: L, [], _, _, h => by have := (h x).1 (by simp); simp at this
  | x :: L, y :: R, hl, hr, h => by
    have h1 := List.pairwise_cons.1 hl
    have h2 := List.pairwise_cons.1 hr
    have hxy : x = y := by
      have a := (h x).1 (by simp)
      have b := (h y).2 (by simp)
      rcases List.mem_cons.1 a with a | a
      · exact a
      · rcases List.mem_cons.1 b with b | b
        · exact b.symm
        · have c := h2.1 x a; have d := h1.1 y b; omega
    subst hxy
    congr 1
    refine sorted_ext h1.2 h2.2 fun z => ⟨fun hz => ?_, fun hz => ?_⟩
    · have := (h z).1 (List.mem_cons_of_mem _ hz)
      rcases List.mem_cons.1 this with e | e
      · have := h1.1 z hz; omega
      · exact e
    · have := (h z).2 (List.mem_cons_of_mem _ hz)
      rcases List.mem_cons.1 this with e | e
      · have := h2.1 z hz; omega
      · exact e
theorem elemsI_sorted (ws : List Nat) : (elemsI ws).Pairwise (· < ·) := by
  unfold elemsI
  rw [List.pairwise_map]
  exact (elems_sorted ws).imp fun h => by omega
theorem mem_elemsI {room : Nat} {ws : List Nat} (h : Wok room ws) (x : Int) : x ∈ elemsI ws ↔ (inR room x ∧ bitAt ws x.toNat = true) := by
  unfold elemsI
  rw [List.mem_map]
  constructor
  · rintro ⟨n, hn, rfl⟩
    have hb := (mem_elems h n).1 hn
    refine ⟨?_, by rwa [Int.toNat_natCast]⟩
    unfold inR
    rcases Nat.lt_or_ge n room with h1 | h1
    · omega
    · rw [h.top n h1] at hb; cases hb
  · rintro ⟨h1, h2⟩
    unfold inR at h1
    exact ⟨x.toNat, (mem_elems h _).2 h2, by omega⟩
theorem has_law {room : Nat} {ws : List Nat} (h : Wok room ws) (x : Int) : hasO room ws x = decide (x ∈ elemsI ws) := by
  unfold hasO
  by_cases h1 : inR room x
  · by_cases h2 : bitAt ws x.toNat = true
    · rw [decide_eq_true h1, h2, decide_eq_true ((mem_elemsI h x).2 ⟨h1, h2⟩)]; rfl
    · rw [decide_eq_true h1, Bool.eq_false_iff.2 h2, decide_eq_false (fun hm => h2 ((mem_elemsI h x).1 hm).2)]; rfl
  · rw [decide_eq_false h1, decide_eq_false (fun hm => h1 ((mem_elemsI h x).1 hm).1)]; rfl
theorem Ins.sorted {L R : List Int} {x : Int} (h : Ins L x R) (hs : L.Pairwise (· < ·)) (hx : x ∉ L) : R.Pairwise (· < ·) ∧ (∀ y, y ∈ R ↔ y ∈ L ∨ y = x) ∧ R.length = L.length + 1 := by
  obtain ⟨k, hk, h1, h2, rfl⟩ := h
  have hd : ∀ y ∈ L.drop k, x < y := fun y hy => by
    cases hL : L.drop k with
    | nil => rw [hL] at hy; simp at hy
    | cons z zs =>
      have hz : L[k]? = some z := by have := congrArg (·[0]?) hL; simpa using this
      have hxz := h2 z hz
      have hne : x ≠ z := fun e => hx (e ▸ List.mem_of_getElem? hz)
      have hp : (L.drop k).Pairwise (· < ·) := hs.drop
      rw [hL] at hp hy
      rcases List.mem_cons.1 hy with rfl | hy
      · omega
      · have := (List.pairwise_cons.1 hp).1 y hy; omega
  refine ⟨?_, fun y => ?_, ?_⟩
  · rw [List.pairwise_append]
    refine ⟨hs.take, List.pairwise_cons.2 ⟨hd, hs.drop⟩, fun a ha b hb => ?_⟩
    rcases List.mem_cons.1 hb with rfl | hb
    · exact h1 a ha
    · have := h1 a ha; have := hd b hb; omega
  · rw [List.mem_append, List.mem_cons]
    have := List.take_append_drop k L
    constructor
    · rintro (h | h | h)
      · exact .inl (List.mem_of_mem_take h)
      · exact .inr h
      · exact .inl (List.mem_of_mem_drop h)
    · rintro (h | h)
      · rw [← this, List.mem_append] at h
        rcases h with h | h
        · exact .inl h
        · exact .inr (.inr h)
      · exact .inr (.inl h)
  · rw [List.length_append, List.length_cons, List.length_take, List.length_drop]; omega
theorem ins_ex (L : List Int) (x : Int) : ∃ R, Ins L x R := by
  induction L with
  | nil => exact ⟨_, 0, Nat.le_refl _, by simp, by simp, rfl⟩
  | cons y L ih =>
    by_cases hy : y < x
    · obtain ⟨R, k, h1, h2, h3, rfl⟩ := ih
      refine ⟨_, k + 1, by simp; omega, fun z hz => ?_, fun z hz => h3 z (by simpa using hz), rfl⟩
      rw [List.take_succ_cons] at hz
      rcases List.mem_cons.1 hz with rfl | hz
      · exact hy
      · exact h2 z hz
    · exact ⟨_, 0, Nat.zero_le _, by simp, fun z hz => by simp at hz; omega, rfl⟩
theorem ins_law {room : Nat} {ws : List Nat} (h : Wok room ws) {x : Int} {R : List Int} (hx : inR room x) (hm : x ∉ elemsI ws) (hi : Ins (elemsI ws) x R) : R = elemsI (addW room ws x) := by
  obtain ⟨h1, h2, _⟩ := hi.sorted (elemsI_sorted ws) hm
  refine sorted_ext h1 (elemsI_sorted _) fun y => ?_
  rw [h2, mem_elemsI h, mem_elemsI (h.add x), bit_add h]
  unfold inR at *
  constructor
  · rintro (⟨a, b⟩ | rfl)
    · exact ⟨a, by rw [b]; rfl⟩
    · exact ⟨hx, by rw [decide_eq_true (⟨hx, by omega⟩), Bool.or_true]⟩
  · rintro ⟨a, b⟩
    rcases Bool.or_eq_true _ _ ▸ b with b | b
    · exact .inl ⟨a, b⟩
    · have := (of_decide_eq_true b).2
      exact .inr (by omega)
theorem same_law {room : Nat} {ws : List Nat} (h : Wok room ws) {x : Int} (hx : ¬ inR room x ∨ x ∈ elemsI ws) : addW room ws x = ws := by
  unfold addW
  split
  · rename_i h1
    exact putB_old ((mem_elemsI h x).1 (hx.resolve_left fun h => h h1)).2
  · rfl
theorem add_len {room : Nat} {ws : List Nat} (h : Wok room ws) (x : Int) : (addO room ws x = true ∧ (elemsI (addW room ws x)).length = (elemsI ws).length + 1) ∨ (addO room ws x = false ∧ addW room ws x = ws) := by
  by_cases h1 : inR room x ∧ bitAt ws x.toNat = false
  · refine .inl ⟨by unfold addO; rw [decide_eq_true h1.1, h1.2]; rfl, ?_⟩
    have hm : x ∉ elemsI ws := fun hm => by have := ((mem_elemsI h x).1 hm).2; rw [h1.2] at this; cases this
    have hs := elemsI_sorted ws
    obtain ⟨R, hi⟩ := ins_ex (elemsI ws) x
    rw [← ins_law h h1.1 hm hi]
    exact (hi.sorted hs hm).2.2
  · refine .inr ?_
    have : ¬ inR room x ∨ x ∈ elemsI ws := by
      by_cases h2 : inR room x
      · exact .inr ((mem_elemsI h x).2 ⟨h2, by cases hb : bitAt ws x.toNat; exact absurd ⟨h2, hb⟩ h1; rfl⟩)
      · exact .inl h2
    refine ⟨?_, same_law h this⟩
    unfold addO
    rcases this with h2 | h2
    · rw [decide_eq_false h2]; rfl
    · rw [((mem_elemsI h x).1 h2).2]; simp
end Go.Proofs.YtbmpaokicphdjaaDoor.Fn
