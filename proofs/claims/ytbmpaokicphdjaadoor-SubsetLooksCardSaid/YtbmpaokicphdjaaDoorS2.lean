/- A set among others, in words of its own; a table of sets in memory; its hash. -/
import Derived.Test.YtbmpaokicphdjaaDoorS1
set_option linter.unusedVariables false
set_option linter.unusedSimpArgs false
namespace Go.Proofs.YtbmpaokicphdjaaDoor.Fn
open Go Go.RowKit Go.Proofs.YtbmpaokicphdjaaDoor.Can Go.Proofs.YtbmpaokicphdjaaDoor.Base
attribute [local go_sem] clsB AB.cell

theorem wd_move {w w' : World} {A : Option Addr} {g : Nat} {ws : List Nat} (h : Wd w A g ws) (hm : ws ≠ [] → w'.heap[g]? = w.heap[g]?) : Wd w' A g ws := by
  rcases h with h | ⟨h1, h2⟩
  · exact .inl h
  · by_cases h0 : ws = []
    · exact .inl h0
    · exact .inr ⟨h1, h2.move (hm h0)⟩
theorem Wd.lt {w : World} {A : Option Addr} {g : Nat} {ws : List Nat} (h : Wd w A g ws) (h0 : ws ≠ []) : g < w.heap.size := by
  rcases h with h | ⟨_, h2⟩
  · exact absurd h h0
  · exact h2.lt
/-- A set: the room, and the words. -/
def setT : Ty (Nat × List Nat) where
  sz := 2
  rel := fun w S x cs => ∃ A c g, cs = [.slice A x.2.length c, .int .i64 (x.1 : Nat)] ∧ Wok x.1 x.2 ∧ Wd w A g x.2 ∧ (x.2 ≠ [] → S g)
  len := by rintro w S x cs ⟨A, c, g, rfl, _⟩; rfl
  one := by
    rintro w S x cs ⟨A, c, g, rfl, _⟩ u hu
    simp only [List.mem_cons, List.not_mem_nil, or_false] at hu
    rcases hu with rfl | rfl <;> rfl
  move := by rintro w w' S x cs hm ⟨A, c, g, e, hk, hw, hs⟩; exact ⟨A, c, g, e, hk, wd_move hw fun h0 => hm g (hs h0), hs⟩
  mono := by rintro w S S' x cs hm ⟨A, c, g, e, hk, hw, hs⟩; exact ⟨A, c, g, e, hk, hw, fun h0 => hm g (hs h0)⟩
  bound := by rintro w S x cs ⟨A, c, g, e, hk, hw, hs⟩; exact ⟨A, c, g, e, hk, hw, fun h0 => ⟨hs h0, hw.lt h0⟩⟩
theorem set_get {w : World} {S : Nat → Prop} {A : Option Addr} {n : Nat} {xs : List (Nat × List Nat)} (h : Row setT w S A n xs) (k : Nat) (hk : k < n) :
    ∃ b off x A' c' g', A = some ⟨b, off, none⟩ ∧ S b ∧ b < w.heap.size ∧ xs[k]? = some x ∧ w.cell? ⟨b, off + k * 2, none⟩ = some (.slice A' x.2.length c') ∧ w.cell? ⟨b, off + k * 2 + 1, none⟩ = some (.int .i64 (x.1 : Nat)) ∧ Wok x.1 x.2 ∧ Wd w A' g' x.2 ∧ (x.2 ≠ [] → S g') := by
  obtain ⟨b, off, cs, he, hs, ⟨A', c', g', rfl, hok, hw, hS⟩, hcell⟩ := h.get k hk
  have q0 := hcell 0 _ rfl
  exact ⟨b, off, _, A', c', g', he, hs, World.block_lt_of_cell? w _ q0, List.getElem?_eq_getElem _, q0, hcell 1 _ rfl, hok, hw, hS⟩
def iE (x : Int) : List Value := [.int .i64 x]
theorem i_len (x : Int) : (iE x).length = 1 := rfl
theorem i_one (x : Int) : ∀ u ∈ iE x, u.oneCell' = true := fun u hu => by rw [List.mem_singleton.1 hu]; rfl
theorem Blk.icell {w : World} {g : Nat} {P : List Int} (h : Blk iE w 3 g P) {i : Nat} {x : Int} (hx : P[i]? = some x) : w.cell? ⟨g, i, none⟩ = some (.int .i64 x) := by
  have := h.cell0 i_len hx (v := .int .i64 x) rfl
  rwa [Nat.mul_one] at this
theorem Blk.iset {w : World} {g : Nat} {P : List Int} (h : Blk iE w 3 g P) {i : Nat} {x y : Int} (hx : P[i]? = some x) : Blk iE (w.setCell ⟨g, i, none⟩ (.int .i64 y)) 3 g (P.set i y) := by
  have := h.set0 i_len hx (by decide) (v := .int .i64 y) (y := y) rfl
  rwa [Nat.mul_one] at this
/-! ### The hash of a set -/
def hstep2 (h x : Nat) : Nat := let z := ((h ^^^ x) * 11400714819323198485) % 18446744073709551616; z ^^^ z / 4294967296
def hashS (l : List Int) : Nat := l.foldl (fun h x => hstep2 h x.toNat) 1
theorem hstep2_lt (h x : Nat) : hstep2 h x < 18446744073709551616 := by
  have e : hstep2 h x = ((h ^^^ x) * 11400714819323198485 % 18446744073709551616) ^^^ ((h ^^^ x) * 11400714819323198485 % 18446744073709551616) / 4294967296 := rfl
  rw [e]
  generalize (h ^^^ x) * 11400714819323198485 = y
  have h1 : y % 18446744073709551616 < 2 ^ 64 := Nat.mod_lt _ (by decide)
  generalize y % 18446744073709551616 = z at h1
  have h2 : z / 4294967296 < 2 ^ 64 := Nat.lt_of_le_of_lt (Nat.div_le_self _ _) h1
  have h3 := Nat.xor_lt_two_pow h1 h2
  simpa using h3
theorem hashS_nil : hashS [] = 1 := by unfold hashS; rw [List.foldl_nil]
theorem hashS_snoc (l : List Int) (x : Int) : hashS (l ++ [x]) = hstep2 (hashS l) x.toNat := by
  unfold hashS
  rw [List.foldl_append, List.foldl_cons, List.foldl_nil]
theorem hashS_lt (l : List Int) : hashS l < 18446744073709551616 := by
  rcases List.eq_nil_or_concat l with rfl | ⟨l, x, rfl⟩
  · rw [hashS_nil]; omega
  · rw [List.concat_eq_append, hashS_snoc]; exact hstep2_lt _ _
theorem elems_small {room : Nat} {ws : List Nat} (h : Wok room ws) {x : Int} (hx : x ∈ elemsI ws) : 0 ≤ x ∧ x < 65536 := by
  have := ((mem_elemsI h x).1 hx).1
  have := h.small
  unfold inR at *
  omega
theorem hash2_calls (A : Option Addr) (c g r : Nat) (ws : List Nat) (w : World) (hK : Wok r ws) (h1 : Wd w A g ws) (hg : ws ≠ [] → g < w.heap.size) (hT : TabAt 0 Lib.deBruijn64tab w) (h0 : 0 < w.heap.size) :
    Calls Tryd.prog 74 #[.agg #[.slice A ws.length c, .int .i64 r]] w fun e w' => e = .returned (.int .u64 (hashS (elemsI ws) : Nat)) ∧ Below w.heap.size w w' := by
  obtain ⟨g1, hg1, hW1⟩ : ∃ g1, g1 < w.heap.size ∧ Wd w A g1 ws := by
    by_cases hn : ws = []
    · exact ⟨0, h0, .inl hn⟩
    · exact ⟨g, hg hn, h1⟩
  have HALL := Hd.mk (fun (W : World) (hb : Below w.heap.size w W) => all_calls A c g1 r ws W hK (hW1.below hb) (Nat.lt_of_lt_of_le hg1 hb.size) (fun j hj => (hb.cell (p := ⟨0, j, none⟩) h0).trans (hT j hj)) (Nat.lt_of_lt_of_le h0 hb.size))
  have HK := Hd.mk hK
  generalize ws.length = n at *
  clear h1 hg hT hW1 hg1 hK
  go_enter Tryd.func74, Tryd.ntmps74
  go_wp2_with (go_at_call 23; go_must (refine Calls.mono (HALL.out _ (below_alloc (Below.refl _ _) _)) ?_; rintro e w1 ⟨A1, m, c1, rfl, hr1, hb1⟩; have HR1 : Hd (Row I w1 (fun q => w.heap.size ≤ q ∧ q < w1.heap.size) A1 m (elemsI ws)) := ⟨hr1.mono fun q hq => ⟨by have := hq.1; rw [size_alloc] at this; omega, hq.2⟩⟩; have HB1 := Hd.mk (below_seq (below_alloc (Below.refl _ _) _) hb1); clear hr1 hb1))
  have hm := HR1.out.le
  go_loopw [3, 9] (fun s i wr => ∃ k q : Nat, k ≤ m ∧ i = .int .i64 k ∧ s = .int .u64 q ∧ Hd (q = hashS ((elemsI ws).take k)) ∧ Hd (Below w1.heap.size w1 wr)) (fun _ i _ => m - (intOf i).toNat)
  case atStart => exact ⟨0, 1, Nat.zero_le _, rfl, rfl, ⟨by rw [List.take_zero, hashS_nil]⟩, ⟨Below.refl _ _⟩⟩
  case round =>
    obtain ⟨k, q, hk, rfl, rfl, HQ, HB⟩ := hrel
    by_cases hlt : k < m
    · obtain ⟨b, off, x, rfl, _, hb, hx, hcell⟩ := (HR1.out.below (fun q hq => hq.2) HB.out).get_int k hlt
      have hsm := elems_small HK.out (List.mem_of_getElem? hx)
      obtain ⟨y, rfl⟩ : ∃ y : Nat, x = y := ⟨x.toNat, by omega⟩
      have hy : y < 65536 := by omega
      have hq64 : q < 18446744073709551616 := by rw [HQ.out]; exact hashS_lt _
      have HT : Hd ((elemsI ws).take (k + 1) = (elemsI ws).take k ++ [(y : Int)]) := ⟨by rw [List.take_add_one, hx]; rfl⟩
      have e1 := bits_xor_u64_nat q y hq64 (by omega)
      obtain ⟨y1, hy1⟩ : ∃ z, q ^^^ y = z := ⟨_, rfl⟩
      rw [hy1] at e1
      obtain ⟨z, hz⟩ : ∃ z, y1 * 11400714819323198485 % 18446744073709551616 = z := ⟨_, rfl⟩
      have e2 : IntKind.u64.wrap ((y1 : Int) * 11400714819323198485) = (z : Int) := by rw [IntKind.wrap_u64]; omega
      have hz64 : z < 18446744073709551616 := by rw [← hz]; exact Nat.mod_lt _ (by decide)
      have e3 : bits .xor .u64 (z : Int) ((z : Int) / 4294967296) = ((z ^^^ z / 4294967296 : Nat) : Int) := xorShift_u64 z 4294967296 hz64
      obtain ⟨v, hv⟩ : ∃ v, z ^^^ z / 4294967296 = v := ⟨_, rfl⟩
      rw [hv] at e3
      have HS : Hd (v = hashS ((elemsI ws).take (k + 1))) := ⟨by rw [HT.out, hashS_snoc, ← HQ.out, Int.toNat_natCast]; unfold hstep2; rw [hy1, hz]; exact hv.symm⟩
      clear hx hsm hy1 hz hv HT hz64
      go_wp2
      go_roundw
      case rel => exact ⟨k + 1, v, by omega, by go_num, rfl, HS, HB⟩
      case measure => simp [intOf]; omega
    · obtain rfl : k = m := by omega
      go_wp2
      go_ret
      rw [HQ.out, ← HR1.out.1, List.take_length]
      exact ⟨rfl, below_seq HB1.out HB.out⟩
end Go.Proofs.YtbmpaokicphdjaaDoor.Fn
