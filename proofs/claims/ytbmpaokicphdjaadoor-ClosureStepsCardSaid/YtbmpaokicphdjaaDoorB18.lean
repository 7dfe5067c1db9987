/- The law of Join. -/
import Derived.Test.YtbmpaokicphdjaaDoorB17
namespace Go.Proofs.YtbmpaokicphdjaaDoor.Fn
open Go Go.RowKit Go.Proofs.YtbmpaokicphdjaaDoor.Can Go.Proofs.YtbmpaokicphdjaaDoor.Base

theorem fold_inv {α β : Type} (P : β → Prop) (f : β → α → β) (hf : ∀ s x, P s → P (f s x)) : ∀ (l : List α) (s : β), P s → P (l.foldl f s)
  | [], _, h => h
  | x :: l, s, h => fold_inv P f hf l (f s x) (hf s x h)
theorem join_flag {room : Nat} {ws : List Nat} (h : Wok room ws) (l : List Nat) : ((joinB room ws l).2 = false ∧ (joinB room ws l).1 = ws) ∨ ((joinB room ws l).2 = true ∧ (elemsI ws).length < (elemsI (joinB room ws l).1).length) := by
  have := fold_inv (fun s : List Nat × Bool => Wok room s.1 ∧ ((s.2 = false ∧ s.1 = ws) ∨ (s.2 = true ∧ (elemsI ws).length < (elemsI s.1).length)))
    (fun (s : List Nat × Bool) (n : Nat) => (addW room s.1 (n : Int), s.2 || addO room s.1 (n : Int)))
    (fun s x ⟨hk, hs⟩ => by
      refine ⟨hk.add _, ?_⟩
      dsimp only
      rcases add_len hk (x : Int) with ⟨a, b⟩ | ⟨a, b⟩
      · refine .inr ⟨by rw [a, Bool.or_true], ?_⟩
        rcases hs with ⟨_, h2⟩ | ⟨_, h2⟩
        · rw [b, h2]; omega
        · omega
      · rw [a, b, Bool.or_false]
        exact hs) l (ws, false) ⟨h, .inl ⟨rfl, rfl⟩⟩
  exact this.2
theorem join_bit {room : Nat} (l : List Nat) : ∀ {s : List Nat × Bool}, Wok room s.1 → ∀ k, bitAt (l.foldl (fun (s : List Nat × Bool) (n : Nat) => (addW room s.1 (n : Int), s.2 || addO room s.1 (n : Int))) s).1 k = (bitAt s.1 k || decide (k ∈ l ∧ k < room)) := by
  induction l with
  | nil => intro s h k; simp
  | cons x l ih =>
    intro s h k
    rw [List.foldl_cons, ih (h.add _)]
    dsimp only
    rw [bit_add h, Bool.or_assoc]
    congr 1
    rw [← Bool.decide_or]
    apply decide_eq_decide.2
    unfold inR
    constructor
    · rintro (⟨a, b⟩ | ⟨a, b⟩)
      · obtain rfl : k = x := by omega
        exact ⟨List.mem_cons_self .., by omega⟩
      · exact ⟨List.mem_cons_of_mem _ a, b⟩
    · rintro ⟨a, b⟩
      rcases List.mem_cons.1 a with a | a
      · exact .inl ⟨⟨by omega, by omega⟩, by omega⟩
      · exact .inr ⟨a, b⟩
theorem of_bit {room : Nat} (l : List Int) : ∀ {ws : List Nat}, Wok room ws → ∀ k, bitAt (l.foldl (addW room) ws) k = (bitAt ws k || decide ((k : Int) ∈ l ∧ k < room)) := by
  induction l with
  | nil => intro ws h k; simp
  | cons x l ih =>
    intro ws h k
    rw [List.foldl_cons, ih (h.add _), bit_add h, Bool.or_assoc]
    congr 1
    rw [← Bool.decide_or]
    apply decide_eq_decide.2
    unfold inR
    constructor
    · rintro (⟨a, b⟩ | ⟨a, b⟩)
      · exact ⟨by rw [b]; exact List.mem_cons_self .., by omega⟩
      · exact ⟨List.mem_cons_of_mem _ a, b⟩
    · rintro ⟨a, b⟩
      rcases List.mem_cons.1 a with a | a
      · exact .inl ⟨⟨by omega, by omega⟩, a⟩
      · exact .inr ⟨a, b⟩
theorem made_bit (room k : Nat) (h : room ≤ 65536) : bitAt (List.replicate ((room + 63) / 64) 0) k = false := by
  unfold bitAt
  rw [List.getD_eq_getElem?_getD, List.getElem?_replicate]
  split <;> simp
theorem join_law {room : Nat} {ws : List Nat} (h : Wok room ws) (l : List Int) : elemsI (joinB room ws (elems (ofW 1000 l))).1 = elemsI (foldR room ws l) := by
  have h1 := (joinB_ok h (elems (ofW 1000 l))).1
  have h2 := foldR_ok l h
  refine sorted_ext (elemsI_sorted _) (elemsI_sorted _) fun y => ?_
  rw [mem_elemsI h1, mem_elemsI h2]
  refine and_congr_right fun hy => ?_
  have e1 : bitAt (joinB room ws (elems (ofW 1000 l))).1 y.toNat = _ := join_bit (elems (ofW 1000 l)) (s := (ws, false)) h y.toNat
  rw [e1, foldR_bit l h]
  dsimp only
  have e2 : (y.toNat ∈ elems (ofW 1000 l) ∧ y.toNat < room) ↔ ((y.toNat : Int) ∈ l ∧ (y.toNat : Int) < 1000 ∧ y.toNat < room) := by
    rw [mem_elems (ofW_ok (by decide) l)]
    unfold ofW
    rw [of_bit l (Wok.made (by decide)), made_bit _ _ (by decide), Bool.false_or]
    simp only [decide_eq_true_eq]
    constructor
    · rintro ⟨⟨a, b⟩, c⟩; exact ⟨a, by omega, c⟩
    · rintro ⟨a, b, c⟩; exact ⟨⟨a, by omega⟩, c⟩
  rw [decide_eq_decide.2 e2]
theorem join_ok {room : Nat} {ws : List Nat} (h : Wok room ws) (l : List Int) : (joinB room ws (elems (ofW 1000 l))).2 = !decide ((elemsI (foldR room ws l)).length = (elemsI ws).length) := by
  rw [← join_law h]
  rcases join_flag h (elems (ofW 1000 l)) with ⟨a, b⟩ | ⟨a, b⟩
  · rw [a, b, decide_eq_true rfl]; rfl
  · rw [a, decide_eq_false (by omega)]; rfl
theorem words_ext {room : Nat} {ws ws' : List Nat} (h : Wok room ws) (h' : Wok room ws') (he : elemsI ws = elemsI ws') : ∀ k, bitAt ws k = bitAt ws' k := by
  intro k
  have := (mem_elemsI h (k : Int)).symm.trans ((by rw [he] : ((k : Int) ∈ elemsI ws ↔ (k : Int) ∈ elemsI ws')).trans (mem_elemsI h' (k : Int)))
  rw [Int.toNat_natCast] at this
  by_cases hk : k < room
  · have hin : inR room (k : Int) := ⟨by omega, by omega⟩
    have h2 : bitAt ws k = true ↔ bitAt ws' k = true := by simpa [hin] using this
    cases ha : bitAt ws k <;> cases hb : bitAt ws' k <;> simp_all
  · rw [h.top k (by omega), h'.top k (by omega)]
end Go.Proofs.YtbmpaokicphdjaaDoor.Fn
