/- What is kept, by the reference; Without. -/
import Derived.Test.YtcejfnnimfpahaaS15
namespace Go.Proofs.Ytcejfnnimfpahaa.Fn
open Go Go.RowKit Go.Proofs.Ytcejfnnimfpahaa.Can Go.Proofs.Ytcejfnnimfpahaa.Base
attribute [local go_sem] clsB AB.cell

theorem Rd.bound {w : World} {S : Nat → Prop} {r : RS} {s : St} (h : Rd w S r s) : Rd w (fun b => S b ∧ b < w.heap.size) r s := ⟨h.at_, h.F.bound (by decide), h.T.bound (by decide), h.capF, h.capT, h.nilF, h.nilT⟩
/-- A number, and a state. -/
def kT : Ty (Int × St) where
  sz := 5
  rel := fun w S x cs => ∃ r : RS, cs = .int .i64 x.1 :: r.cells ∧ Rd w S r x.2
  len := by rintro w S x cs ⟨r, rfl, _⟩; rfl
  one := by
    rintro w S x cs ⟨r, rfl, _⟩ u hu
    simp only [RS.cells, List.mem_cons, List.not_mem_nil, or_false] at hu
    rcases hu with rfl | rfl | rfl | rfl | rfl <;> rfl
  move := by rintro w w' S x cs hm ⟨r, e, h⟩; exact ⟨r, e, h.move hm⟩
  mono := by rintro w S S' x cs hs ⟨r, e, h⟩; exact ⟨r, e, h.mono hs⟩
  bound := by rintro w S x cs ⟨r, e, h⟩; exact ⟨r, e, h.bound⟩
theorem k_get {w : World} {S : Nat → Prop} {A : Option Addr} {n : Nat} {l : List (Int × St)} (h : Row kT w S A n l) (k : Nat) (hk : k < n) :
    ∃ b off x r, A = some ⟨b, off, none⟩ ∧ b < w.heap.size ∧ l[k]? = some x ∧ Rd w S r x.2 ∧ w.cell? ⟨b, off + k * 5, none⟩ = some (.int .i64 x.1) ∧ w.cell? ⟨b, off + k * 5 + 1, none⟩ = some (.int .i64 r.at_.at_) ∧ w.cell? ⟨b, off + k * 5 + 1 + 1, none⟩ = some (.int .i64 r.at_.mode) ∧ w.cell? ⟨b, off + k * 5 + 1 + 2, none⟩ = some (.slice r.AF r.nF r.cF) ∧ w.cell? ⟨b, off + k * 5 + 1 + 3, none⟩ = some (.slice r.AT r.nT r.cT) := by
  obtain ⟨b, off, cs, he, hs, ⟨r, rfl, hr⟩, hcell⟩ := h.get k hk
  have h0 := hcell 0 _ rfl
  exact ⟨b, off, _, r, he, World.block_lt_of_cell? w _ h0, List.getElem?_eq_getElem _, hr, h0, hcell 1 _ rfl, hcell 2 _ rfl, hcell 3 _ rfl, hcell 4 _ rfl⟩
theorem info69 : (Try.prog.info? 69).map (fun i => (i.zero, i.size, i.bytes)) = some (some (.agg #[.int .i64 0, .int .i64 0, .int .i64 0, .slice none 0 0, .slice none 0 0]), 5, 72) := by kernel_rfl
def without (l : List (Int × St)) (n : Int) : List (Int × St) := l.filter fun x => !(x.1 == n)
theorem without_snoc (l : List (Int × St)) (x : Int × St) (n : Int) : without (l ++ [x]) n = if x.1 = n then without l n else without l n ++ [x] := by
  unfold without
  rw [List.filter_append]
  by_cases h : x.1 = n
  · rw [if_pos h]; simp [h]
  · rw [if_neg h]; simp [h]
theorem without_len (l : List (Int × St)) (n : Int) : (without l n).length ≤ l.length := List.length_filter_le _ _
set_option maxHeartbeats 2000000 in
theorem without_calls (q : Int) (A : Option Addr) (n c : Nat) (L : List (Int × St)) (S : Nat → Prop) (w : World) (hS : ∀ k, S k → k < w.heap.size) (hC : Row kT w S A n L) (hn : n ≤ 1000000) :
    Calls Try.prog 26 #[.slice A n c, .int .i64 q] w fun e w' => ∃ v S2, e = .returned v ∧ Own kT w' w.heap.size 69 S2 v (without L q) ∧ (∀ k, S2 k → S k ∨ w.heap.size ≤ k) ∧ Below w.heap.size w w' := by
  have HL := Hd.mk hC.1
  have HC := Hd.mk hC; have HS := Hd.mk hS; clear hC hS
  go_enter Try.func26, Try.ntmps26
  go_wp2
  go_loopw [5, 6] (fun v i wr => ∃ (k : Nat) (S2 : Nat → Prop), k ≤ n ∧ i = .int .i64 k ∧ Hd (Own kT wr w.heap.size 69 S2 v (without (L.take k) q)) ∧ Hd (∀ k, S2 k → S k ∨ w.heap.size ≤ k) ∧ Hd (Below w.heap.size w wr)) (fun _ i _ => n - (intOf i).toNat)
  case atStart => exact ⟨0, fun _ => False, Nat.zero_le _, rfl, ⟨Own.nil _ _ _ _⟩, ⟨fun _ h => h.elim⟩, ⟨Below.refl _ _⟩⟩
  case round =>
    obtain ⟨k, S2, hk, rfl, HM, HS2, HB⟩ := hrel
    obtain ⟨A2, c2, hv, hc2, hA2, hR2⟩ := HM.out.form
    obtain ⟨z, hz⟩ : ∃ z, (without (L.take k) q).length = z := ⟨_, rfl⟩
    rw [hz] at hv
    subst hv
    have hzk : z ≤ k := by rw [← hz]; have := without_len (L.take k) q; rw [List.length_take] at this; omega
    have HZ := Hd.mk hz; clear hz hR2 hA2 hc2
    by_cases hlt : k < n
    · obtain ⟨b, off, x, r, rfl, hb1, hx, hr, d0, d1, d2, d3, d4⟩ := k_get (HC.out.below HS.out HB.out) k hlt
      have HRd := Hd.mk hr
      by_cases hxq : x.1 = q
      · have hJ : (x.1 == q) = true := by simpa using hxq
        have hN : (x.1 != q) = false := by simpa using hxq
        have HT : Hd (without (L.take (k + 1)) q = without (L.take k) q) := ⟨by rw [List.take_add_one, hx]; show without (L.take k ++ [x]) q = _; rw [without_snoc, if_pos hxq]⟩
        clear hx hr hxq
        go_wp2
        go_roundw
        case rel => exact ⟨k + 1, S2, by omega, by go_num, ⟨by rw [HT.out]; exact HM.out⟩, HS2, HB⟩
        case measure => simp [intOf]; omega
      · have hJ : (x.1 == q) = false := by simpa using hxq
        have hN : (x.1 != q) = true := by simpa using hxq
        have HT : Hd (without (L.take (k + 1)) q = without (L.take k) q ++ [x]) := ⟨by rw [List.take_add_one, hx]; show without (L.take k ++ [x]) q = _; rw [without_snoc, if_neg hxq]⟩
        clear hx hr hxq
        go_wp2_with (at_builtin; go_must (refine append_one kT (S' := S) rfl (.tmp 20) (.tmp 25) 64 69 _ 72 rfl Try.underlying64 info69 rfl (by decide) (by decide) w.heap.size (.slice A2 z c2) (without (L.take k) q) x (.int .i64 x.1 :: r.cells) wr.heap.size rfl rfl (blk_new _ _ _ rfl) ⟨r, rfl, HRd.out.below (fun k hk => Nat.lt_of_lt_of_le (HS.out k hk) HB.out.size) (by repeat (first | (with_reducible assumption) | (with_reducible exact Below.refl _ _) | (with_reducible apply below_drewL) | (with_reducible apply below_alloc) | (with_reducible apply below_drew1) | (with_reducible apply below_drewN) | (refine below_set ?_ (by first | omega | (simp only [size_alloc, size_drew, size_set]; omega)) _ _)))⟩ (HM.out.below (by repeat (first | (with_reducible assumption) | (with_reducible exact Below.refl _ _) | (with_reducible apply below_drewL) | (with_reducible apply below_alloc) | (with_reducible apply below_drew1) | (with_reducible apply below_drewN) | (refine below_set ?_ (by first | omega | (simp only [size_alloc, size_drew, size_set]; omega)) _ _)))) (fun k hk => ⟨by simp only [size_alloc]; have := HS.out k hk; have := HB.out.size; omega, fun he => by have := (HM.out.lt he).2; have := HS.out k hk; omega⟩) (fun he => by have := (HM.out.lt he).1; omega) (by simp only [size_alloc]; have := HB.out.size; omega) (by rw [HZ.out]; omega) ?_; intro v2 w2 hM2 hg2 hat2; have HM2 := Hd.mk hM2; have HB2 : Hd (Below w.heap.size w w2) := ⟨Below.trans (HB.out.alloc HB.out.size _) (below_by hg2 (by simp only [size_alloc]; have := HB.out.size; omega) (fun k hk => (HM.out.lt hk).2))⟩; clear hM2 hg2 hat2))
        go_roundw
        case rel => exact ⟨k + 1, _, by omega, by go_num, ⟨by rw [HT.out]; exact HM2.out⟩, ⟨fun k hk => by rcases hk with h | h | rfl; exact HS2.out k h; exact .inl h; exact .inr HB.out.size⟩, HB2⟩
        case measure => simp [intOf]; omega
    · obtain rfl : k = n := by omega
      have hL : L.take k = L := by rw [← HL.out, List.take_length]
      go_wp2
      go_ret
      exact ⟨_, S2, rfl, by have := HM.out; rwa [hL] at this, HS2.out, HB.out⟩

/-! ### The same, as a table -/
def lookK (l : List (Int × St)) (y : Int) : Option St := (l.find? fun x => x.1 == y).map (·.2)
structure KL (l : List (Int × St)) (κ : Int → Option St) : Prop where
  nodup : (l.map (·.1)).Nodup
  look : ∀ y, lookK l y = κ y
theorem KL.nil : KL [] (fun _ => none) := ⟨List.nodup_nil, fun _ => rfl⟩
theorem look_without (l : List (Int × St)) (n y : Int) : lookK (without l n) y = if y = n then none else lookK l y := by
  induction l with
  | nil => simp [lookK, without]
  | cons x l ih =>
    have hc : without (x :: l) n = if x.1 = n then without l n else x :: without l n := by
      unfold without
      rw [List.filter_cons]
      by_cases h : x.1 = n <;> simp [h]
    have hl : ∀ m, lookK (x :: m) y = if x.1 = y then some x.2 else lookK m y := fun m => by
      unfold lookK
      rw [List.find?_cons]
      by_cases h : x.1 = y
      · simp [h]
      · have hb : (x.1 == y) = false := by simpa using h
        rw [hb, if_neg h]
    rw [hc, hl]
    by_cases h : x.1 = n
    · rw [if_pos h, ih]
      by_cases hy : y = n
      · rw [if_pos hy, if_pos hy]
      · rw [if_neg hy, if_neg hy, if_neg (by omega)]
    · rw [if_neg h, hl, ih]
      by_cases hy : y = n
      · rw [if_pos hy, if_pos hy, if_neg (by omega)]
      · rw [if_neg hy, if_neg hy]
theorem KL.without {l : List (Int × St)} {κ : Int → Option St} (h : KL l κ) (n : Int) : KL (without l n) (fun y => if y = n then none else κ y) :=
  ⟨(List.filter_sublist.map _).nodup h.nodup, fun y => by rw [look_without]; split; rfl; exact h.look y⟩
theorem KL.add {l : List (Int × St)} {κ : Int → Option St} (h : KL l κ) (n : Int) (s : St) : KL (Fn.without l n ++ [(n, s)]) (fun y => if y = n then some s else κ y) := by
  refine ⟨?_, fun y => ?_⟩
  · rw [List.map_append, List.nodup_append]
    refine ⟨(h.without n).nodup, by simp, fun a ha b hb => ?_⟩
    simp at hb
    subst hb
    rintro rfl
    obtain ⟨x, hx, rfl⟩ := List.mem_map.1 ha
    have := (List.mem_filter.1 hx).2
    simp at this
  · unfold lookK
    rw [List.find?_append]
    have h2 := look_without l n y
    unfold lookK at h2
    by_cases hy : y = n
    · subst hy
      rw [if_pos rfl] at h2 ⊢
      rw [Option.map_eq_none_iff] at h2
      rw [h2]; simp
    · rw [if_neg hy] at h2 ⊢
      have h3 := h.look y
      unfold lookK at h3
      rw [← h3, ← h2]
      cases (Fn.without l n).find? (fun x => x.1 == y) with
      | some z => rfl
      | none =>
        have : ¬ n = y := fun h => hy h.symm
        simp [this]
/-- The last one of that number. -/
def selK (n : Int) (s : St) (l : List (Int × St)) : St := l.foldl (fun s x => if x.1 = n then x.2 else s) s
theorem selK_snoc (n : Int) (s : St) (l : List (Int × St)) (x : Int × St) : selK n s (l ++ [x]) = if x.1 = n then x.2 else selK n s l := by simp [selK]
theorem selK_none {n : Int} {s : St} {l : List (Int × St)} (h : n ∉ l.map (·.1)) : selK n s l = s := by
  induction l generalizing s with
  | nil => rfl
  | cons x l ih =>
    rw [List.map_cons, List.mem_cons, not_or] at h
    unfold selK
    rw [List.foldl_cons, if_neg (fun e => h.1 e.symm)]
    exact ih h.2
theorem KL.sel {l : List (Int × St)} {κ : Int → Option St} (h : KL l κ) (n : Int) (s : St) : selK n s l = (κ n).getD s := by
  rw [← h.look n]
  have hn := h.nodup
  clear h
  induction l generalizing s with
  | nil => rfl
  | cons x l ih =>
    rw [List.map_cons, List.nodup_cons] at hn
    unfold selK lookK
    rw [List.foldl_cons, List.find?_cons]
    by_cases hx : x.1 = n
    · rw [if_pos hx]
      have : (x.1 == n) = true := by simpa using hx
      rw [this]
      exact selK_none (by rw [← hx]; exact hn.1)
    · rw [if_neg hx]
      have : (x.1 == n) = false := by simpa using hx
      rw [this]
      exact ih s hn.2
end Go.Proofs.Ytcejfnnimfpahaa.Fn
