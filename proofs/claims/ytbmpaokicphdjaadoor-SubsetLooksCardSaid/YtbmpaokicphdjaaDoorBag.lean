/- Things that are made in any order, each with a block of its own. -/
import Derived.Test.YtbmpaokicphdjaaDoorTags
set_option linter.unusedVariables false
set_option linter.unusedSimpArgs false
set_option linter.unusedVariables false
namespace Go.Proofs.YtbmpaokicphdjaaDoor.Base
open Go Go.RowKit Go.Proofs.YtbmpaokicphdjaaDoor.Can

/-- What is known of number i, whose block is the tag, when it is made; it stays as long as its block does. -/
structure Fact where
  p : World → Option Nat → Value → Prop
  move : ∀ {w w' : World} {o : Option Nat} {v : Value}, (∀ k, o = some k → w'.heap[k]? = w.heap[k]?) → p w o v → p w' o v
def putV (V : Nat → Value) (c : Nat) (v : Value) : Nat → Value := fun j => if j = c then v else V j
structure Bag (w : World) (F : Nat → Fact) (D : Nat → Bool) (U : World) (V : Nat → Value) (O : Nat → Option Nat) : Prop where
  below : Below w.heap.size w U
  tags : Tags w.heap.size U O
  no : ∀ i, D i = false → O i = none
  yes : ∀ i, D i = true → (F i).p U (O i) (V i)
section
variable {w U U' : World} {F : Nat → Fact} {D : Nat → Bool} {V : Nat → Value} {O : Nat → Option Nat}
theorem Bag.start (h : Below w.heap.size w U) (F : Nat → Fact) (V : Nat → Value) : Bag w F (fun _ => false) U V (fun _ => none) := ⟨h, Tags.nil _ _, fun _ _ => rfl, fun _ h => (by cases h)⟩
theorem Bag.step (h : Bag w F D U V O) {i : Nat} {v : Value} {o : Option Nat} (hd : D i = false) (hb : Below U.heap.size U U') (ho : ∀ k, o = some k → U.heap.size ≤ k ∧ k < U'.heap.size) (hf : (F i).p U' o v) : Bag w F (fun j => j == i || D j) U' (putV V i v) (putO O i o) := by
  have hz := hb.size
  have hw := h.below.size
  refine ⟨below_seq h.below hb, ⟨fun a b k hab ha hb' => ?_, fun a k ha => ?_⟩, fun a ha => ?_, fun a ha => ?_⟩
  · by_cases h1 : a = i
    · subst h1
      rw [putO_same] at ha
      rw [putO_ne (Ne.symm hab)] at hb'
      have := (ho k ha).1
      have := (h.tags.lt b k hb').2
      omega
    · rw [putO_ne h1] at ha
      by_cases h2 : b = i
      · subst h2
        rw [putO_same] at hb'
        have := (ho k hb').1
        have := (h.tags.lt a k ha).2
        omega
      · rw [putO_ne h2] at hb'
        exact h.tags.dist a b k hab ha hb'
  · by_cases h1 : a = i
    · subst h1
      rw [putO_same] at ha
      have := ho k ha
      omega
    · rw [putO_ne h1] at ha
      have := h.tags.lt a k ha
      omega
  · by_cases h1 : a = i
    · subst h1; simp at ha
    · rw [putO_ne h1]
      refine h.no a ?_
      simpa [h1] using ha
  · by_cases h1 : a = i
    · subst h1
      rw [putO_same, show putV V a v a = v by simp [putV]]
      exact hf
    · rw [putO_ne h1, show putV V i v a = V a by simp [putV, h1]]
      have hda : D a = true := by simpa [h1] using ha
      exact (F a).move (fun k hk => hb.block k (h.tags.lt a k hk).2) (h.yes a hda)
/-- A fresh block of cells. -/
def boxF (cs : Array Value) (e : TypeId) : Fact where
  p := fun w o v => ∃ g, o = some g ∧ v = .pointer (some ⟨g, 0, none⟩) ∧ w.heap[g]? = some (.cells cs e (0, 0))
  move := by rintro w w' o v hm ⟨g, rfl, h1, h2⟩; exact ⟨g, rfl, h1, (hm g rfl).trans h2⟩
/-- Nothing is known. -/
def noF : Fact where
  p := fun _ o _ => o = none
  move := fun _ h => h
theorem boxF_new {U : World} {cs : Array Value} {e : TypeId} : (boxF cs e).p (U.alloc (.cells cs e (0, 0))) (some U.heap.size) (.pointer (some ⟨U.heap.size, 0, none⟩)) := ⟨_, rfl, rfl, blk_new _ _ _ rfl⟩
theorem Bag.alloc (h : Bag w F D U V O) {i : Nat} {cs : Array Value} {e : TypeId} (hd : D i = false) (hf : F i = boxF cs e) : Bag w F (fun j => j == i || D j) (U.alloc (.cells cs e (0, 0))) (putV V i (.pointer (some ⟨U.heap.size, 0, none⟩))) (putO O i (some U.heap.size)) :=
  h.step hd (below_alloc (Below.refl _ _) _) (fun k hk => by cases hk; rw [size_alloc]; omega) (by rw [hf]; exact boxF_new)
end
/-! ### The walk of such a region -/
def putL (a : Act) (V : Nat → Value) : List (Nat × Nat) → Act
  | [] => a
  | (i, s) :: l => (putL a V l).put (some s) (V i)
theorem put_put (a : Act) {s s' : Nat} (h : s ≠ s') (v v' : Value) : (a.put (some s) v).put (some s') v' = (a.put (some s') v').put (some s) v := by
  simp only [Act.put]
  rw [Array.setIfInBounds_comm _ _ h]
theorem put_same (a : Act) (s : Nat) (v v' : Value) : (a.put (some s) v).put (some s) v' = a.put (some s) v' := by
  simp only [Act.put]
  rw [Array.setIfInBounds_setIfInBounds]
theorem putL_put (a : Act) (V : Nat → Value) {i s : Nat} (v : Value) : ∀ (l : List (Nat × Nat)), (l.map (·.1)).Nodup → (l.map (·.2)).Nodup → (i, s) ∈ l → (putL a V l).put (some s) v = putL a (putV V i v) l := by
  have other : ∀ (l : List (Nat × Nat)), i ∉ l.map (·.1) → putL a (putV V i v) l = putL a V l := by
    intro l
    induction l with
    | nil => intro _; rfl
    | cons x l ih =>
      intro h
      simp only [List.map_cons, List.mem_cons, not_or] at h
      simp only [putL]
      rw [ih h.2, show putV V i v x.1 = V x.1 by simp [putV, Ne.symm h.1]]
  intro l
  induction l with
  | nil => intro _ _ h; cases h
  | cons x l ih =>
    intro h1 h2 hm
    obtain ⟨j, s'⟩ := x
    simp only [List.map_cons, List.nodup_cons] at h1 h2
    simp only [putL]
    rcases List.mem_cons.1 hm with e | hm
    · cases e
      rw [put_same, other l h1.1, show putV V i v i = v by simp [putV]]
    · have hij : ¬ j = i := fun e => h1.1 (e ▸ List.mem_map.2 ⟨_, hm, rfl⟩)
      have hss : s' ≠ s := fun e => h2.1 (e ▸ List.mem_map.2 ⟨_, hm, rfl⟩)
      rw [put_put _ hss, ih h1.2 h2.2 hm, show putV V i v j = V j by simp [putV, hij]]
section
variable {P : Program} {ops : Array Oper} {Q : Exit → Act → World → Prop}
/-- What an operation of the bag leaves. -/
def made (F : Nat → Fact) (a : Act) (U : World) (i s : Nat) (a' : Act) (w' : World) : Prop := ∃ v o, a' = a.put (some s) v ∧ Below U.heap.size U w' ∧ (∀ k, o = some k → U.heap.size ≤ k ∧ k < w'.heap.size) ∧ (F i).p w' o v
theorem can_bag {acts : List Nat} {t : Go.Proofs.YtbmpaokicphdjaaDoor.Can.Can} {C : World → Prop} {a : Act} {w : World} (z : World) (F : Nat → Fact) (ps : List (Nat × Nat)) (V0 : Nat → Value) (h0 : putL a V0 ps = a) (hacts : acts = ps.map (·.1)) (hn1 : (ps.map (·.1)).Nodup) (hn2 : (ps.map (·.2)).Nodup)
    (hb : Below z.heap.size z w) (hC : ∀ U, Below z.heap.size z U → C U)
    (hstep : ∀ x ∈ ps, ∀ D V O U, Bag z F D U V O → D x.1 = false → (∀ j ∈ predsB ops x.1, j ∈ acts → D j = true) → wpOp P ops Q x.1 (made F (putL a V ps) U x.1 x.2) (putL a V ps) U)
    (hend : ∀ D V O U, Bag z F D U V O → (∀ i ∈ acts, D i = true) → wpCan P ops Q t C (putL a V ps) U) : wpCan P ops Q (.inv acts t) C a w := by
  refine can_inv (fun D a' U => ∃ V O, a' = putL a V ps ∧ Bag z F D U V O) ⟨V0, _, h0.symm, Bag.start hb F V0⟩ ?_ ?_ ?_
  · rintro D a' U ⟨_, _, _, h⟩
    exact hC U h.below
  · rintro i hi D a' U ⟨V, O, rfl, hB⟩ hd hp
    rw [hacts] at hi
    obtain ⟨⟨i', s⟩, hm, rfl⟩ := List.mem_map.1 hi
    refine wpOp_mono (fun a' w' h => ?_) (hstep _ hm D V O U hB hd hp)
    obtain ⟨v, o, rfl, h1, h2, h3⟩ := h
    exact ⟨putV V i' v, putO O i' o, putL_put a V v ps hn1 hn2 hm, hB.step hd h1 h2 h3⟩
  · rintro D a' U ⟨V, O, rfl, hB⟩ hall
    exact hend D V O U hB hall
theorem made_alloc {F : Nat → Fact} {a : Act} {U : World} {i s : Nat} {cs : Array Value} {e : TypeId} (hf : F i = boxF cs e) : made F a U i s (a.put (some s) (.pointer (some ⟨U.heap.size, 0, none⟩))) (U.alloc (.cells cs e (0, 0))) :=
  ⟨_, some U.heap.size, rfl, below_alloc (Below.refl _ _) _, fun k hk => by cases hk; rw [size_alloc]; omega, by rw [hf]; exact boxF_new⟩
end
end Go.Proofs.YtbmpaokicphdjaaDoor.Base
