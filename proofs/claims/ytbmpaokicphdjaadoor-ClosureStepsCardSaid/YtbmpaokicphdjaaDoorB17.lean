/- The reference's Add and Drop, in terms of the words; the law of Join. -/
import Derived.Test.YtbmpaokicphdjaaDoorB16
namespace Go.Proofs.YtbmpaokicphdjaaDoor.Fn
open Go Go.RowKit Go.Proofs.YtbmpaokicphdjaaDoor.Can Go.Proofs.YtbmpaokicphdjaaDoor.Base

/-- A row of a set's numbers, told by a slice. -/
structure Lst (w : World) (S : Nat → Prop) (A : Option Addr) (n c : Nat) (L : List Int) : Prop where
  row : Row I w S A n L
  cap : n ≤ c
  nil : A = none → c = 0
theorem Lst.below {w w' : World} {S : Nat → Prop} {A : Option Addr} {n c : Nat} {L : List Int} (h : Lst w S A n c L) (hS : ∀ k, S k → k < w.heap.size) (hb : Below w.heap.size w w') : Lst w' S A n c L := ⟨h.row.below hS hb, h.cap, h.nil⟩
theorem Lst.mono {w : World} {S S' : Nat → Prop} {A : Option Addr} {n c : Nat} {L : List Int} (h : Lst w S A n c L) (hS : ∀ k, S k → S' k) : Lst w S' A n c L := ⟨h.row.mono hS, h.cap, h.nil⟩
theorem Lst.fr {X : Nat → Prop} {w w' : World} {S : Nat → Prop} {A : Option Addr} {n c : Nat} {L : List Int} (h : Lst w S A n c L) (hf : Fr X w w') (hS : ∀ k, S k → k < w.heap.size ∧ ¬ X k) : Lst w' S A n c L := ⟨hf.row h.row hS, h.cap, h.nil⟩
theorem elemsI_len {room : Nat} {ws : List Nat} (h : Wok room ws) : (elemsI ws).length ≤ 70400 := by
  unfold elemsI elems
  rw [List.length_map]
  have := elemsK_len ws ws.length
  have := h.len
  have := h.small
  omega
theorem radd_calls (A : Option Addr) (n c room : Nat) (ws : List Nat) (x : Int) (S : Nat → Prop) (w : World) (hS : ∀ k, S k → k < w.heap.size) (hC : Lst w S A n c (elemsI ws)) (hK : Wok room ws) :
    Calls Tryd.prog 16 #[.slice A n c, .int .i64 x, .int .i64 room] w fun e w' => ∃ A' n' c', e = .returned (.slice A' n' c') ∧ Lst w' (fun q => S q ∨ (w.heap.size ≤ q ∧ q < w'.heap.size)) A' n' c' (elemsI (addW room ws x)) ∧ Below w.heap.size w w' := by
  by_cases hx : ¬ inR room x ∨ x ∈ elemsI ws
  · refine Calls.mono (radd_same A n c room (elemsI ws) x S w hS hC.row hx) ?_
    rintro e w' ⟨rfl, hb⟩
    exact ⟨A, n, c, rfl, by rw [same_law hK hx]; exact (hC.below hS hb).mono fun q hq => .inl hq, hb⟩
  · have h1 : inR room x := Classical.byContradiction fun h => hx (.inl h)
    have h2 : x ∉ elemsI ws := fun h => hx (.inr h)
    refine Calls.mono (radd_new A n c room (elemsI ws) x S w hS hC.row hC.cap hC.nil (by have := elemsI_len hK; have := hC.row.1; omega) h1 h2) ?_
    rintro e w' ⟨R, v, rfl, hi, hM, hb⟩
    obtain ⟨A', n', c', rfl, hn', hc', hA', hr'⟩ := hM.formN
    have hR := ins_law hK h1 h2 hi
    subst hR
    exact ⟨A', n', c', rfl, ⟨hr'.mono fun q hq => .inr hq, hc', hA'⟩, hb⟩
theorem drop_law {room : Nat} {ws : List Nat} (h : Wok room ws) (x : Int) : dropR x (elemsI ws) = elemsI (dropW room ws x) := by
  refine sorted_ext ((elemsI_sorted ws).filter _) (elemsI_sorted _) fun y => ?_
  unfold dropR
  rw [List.mem_filter, mem_elemsI h, mem_elemsI (h.less x), bit_less h]
  constructor
  · rintro ⟨⟨a, b⟩, c⟩
    refine ⟨a, ?_⟩
    have hne : ¬ y = x := by simpa using c
    unfold inR at a
    rw [b, decide_eq_false (by omega)]; rfl
  · rintro ⟨a, b⟩
    rw [Bool.and_eq_true] at b
    refine ⟨⟨a, b.1⟩, ?_⟩
    have : ¬ ((y.toNat : Nat) : Int) = x := by simpa using b.2
    unfold inR at a
    simp
    omega
theorem drop_len {room : Nat} {ws : List Nat} (h : Wok room ws) (x : Int) : (dropO room ws x = true ∧ ¬ (elemsI (dropW room ws x)).length = (elemsI ws).length) ∨ (dropO room ws x = false ∧ elemsI (dropW room ws x) = elemsI ws) := by
  rw [← drop_law h]
  have hO : dropO room ws x = decide (x ∈ elemsI ws) := has_law h x
  rw [hO]
  by_cases hm : x ∈ elemsI ws
  · refine .inl ⟨decide_eq_true hm, fun he => ?_⟩
    have := (List.length_filter_eq_length_iff).1 he x hm
    simp at this
  · refine .inr ⟨decide_eq_false hm, List.filter_eq_self.2 fun y hy => ?_⟩
    have : y ≠ x := fun e => hm (e ▸ hy)
    simpa using this
/-- What the reference adds of a list. -/
def foldR (room : Nat) (ws : List Nat) (l : List Int) : List Nat := l.foldl (fun s n => if n < 1000 then addW room s n else s) ws
theorem foldR_snoc (room : Nat) (ws : List Nat) (l : List Int) (n : Int) : foldR room ws (l ++ [n]) = if n < 1000 then addW room (foldR room ws l) n else foldR room ws l := by simp [foldR]
theorem foldR_ok {room : Nat} (l : List Int) : ∀ {ws : List Nat}, Wok room ws → Wok room (foldR room ws l) := by
  induction l with
  | nil => exact fun h => h
  | cons x l ih =>
    intro ws h
    show Wok room (foldR room (if x < 1000 then addW room ws x else ws) l)
    split
    · exact ih (h.add x)
    · exact ih h
theorem foldR_bit {room : Nat} (l : List Int) : ∀ {ws : List Nat}, Wok room ws → ∀ k, bitAt (foldR room ws l) k = (bitAt ws k || decide ((k : Int) ∈ l ∧ (k : Int) < 1000 ∧ k < room)) := by
  induction l with
  | nil => intro ws h k; simp [foldR]
  | cons x l ih =>
    intro ws h k
    show bitAt (foldR room (if x < 1000 then addW room ws x else ws) l) k = _
    by_cases hx : x < 1000
    · rw [if_pos hx, ih (h.add x), bit_add h, Bool.or_assoc]
      congr 1
      rw [← Bool.decide_or]
      apply decide_eq_decide.2
      unfold inR
      constructor
      · rintro (⟨a, b⟩ | ⟨a, b, c⟩)
        · exact ⟨by rw [b]; exact List.mem_cons_self .., by omega, by omega⟩
        · exact ⟨List.mem_cons_of_mem _ a, b, c⟩
      · rintro ⟨a, b, c⟩
        rcases List.mem_cons.1 a with a | a
        · exact .inl ⟨⟨by omega, by omega⟩, a⟩
        · exact .inr ⟨a, b, c⟩
    · rw [if_neg hx, ih h]
      congr 1
      apply decide_eq_decide.2
      constructor
      · rintro ⟨a, b, c⟩; exact ⟨List.mem_cons_of_mem _ a, b, c⟩
      · rintro ⟨a, b, c⟩
        rcases List.mem_cons.1 a with a | a
        · omega
        · exact ⟨a, b, c⟩
end Go.Proofs.YtbmpaokicphdjaaDoor.Fn
