/- The first bytes of classes, and the bytes of one. -/
import Derived.Test.YtpcjidbhkffncaaA6
namespace Go.Proofs.Ytpcjidbhkffncaa.Fn
open Go Go.RowKit Go.Proofs.Ytpcjidbhkffncaa.Can Go.Proofs.Ytpcjidbhkffncaa.Base
attribute [local go_sem] clsB AB.cell

/-- The first bytes of the classes, ahead of c. -/
def fstU {K : Type} [BEq K] [LawfulBEq K] (f : Nat → K) (c : Nat) : List Nat := (List.range c).filter fun j => cls f j == (met f j).length
theorem fstU_succ {K : Type} [BEq K] [LawfulBEq K] (f : Nat → K) (c : Nat) : fstU f (c + 1) = if cls f c = (met f c).length then fstU f c ++ [c] else fstU f c := by
  unfold fstU
  rw [List.range_succ, List.filter_append]
  by_cases h : cls f c = (met f c).length
  · rw [if_pos h]; simp [h]
  · rw [if_neg h]; simp [h]
theorem fm_congr {α β : Type} {f g : α → Option β} {l : List α} (h : ∀ x ∈ l, f x = g x) : l.filterMap f = l.filterMap g := by
  induction l with
  | nil => rfl
  | cons a l ih => rw [List.filterMap_cons, List.filterMap_cons, h a (by simp), ih (fun x hx => h x (List.mem_cons_of_mem _ hx))]
theorem fstU_len {K : Type} [BEq K] [LawfulBEq K] (f : Nat → K) (c : Nat) : (fstU f c).length = (met f c).length := by
  induction c with
  | zero => rfl
  | succ c ih =>
    rw [fstU_succ, met_len_succ]
    split
    · rw [List.length_append, ih]; rfl
    · exact ih
theorem fstU_ge {K : Type} [BEq K] [LawfulBEq K] {f : Nat → K} {k c : Nat} (h : k ≤ c) : (met f k).length ≤ (met f c).length := by
  induction c with
  | zero => obtain rfl : k = 0 := by omega
            exact Nat.le_refl _
  | succ c ih =>
    rcases Nat.lt_or_ge k (c + 1) with h1 | h1
    · rw [met_len_succ]
      have := ih (by omega)
      split <;> omega
    · obtain rfl : k = c + 1 := by omega
      exact Nat.le_refl _
/-- The numbers, as Go has them. -/
def asI (l : List Nat) : List Int := l.map fun (j : Nat) => (j : Int)
/-- The bytes of a class. -/
def bytesU (L : List Int) (k : Int) (c : Nat) : List Nat := (List.range c).filter fun j => L[j]? == some k
theorem bytesU_succ (L : List Int) (k : Int) (c : Nat) : bytesU L k (c + 1) = if L[c]? = some k then bytesU L k c ++ [c] else bytesU L k c := by
  unfold bytesU
  rw [List.range_succ, List.filter_append]
  by_cases h : L[c]? = some k
  · rw [if_pos h]; simp [h]
  · rw [if_neg h]; simp [h]
def fstOf {K : Type} [BEq K] [LawfulBEq K] (f : Nat → K) (c v : Nat) : Option Nat := (List.range c).find? fun j => cls f j == v
theorem fstOf_succ {K : Type} [BEq K] [LawfulBEq K] (f : Nat → K) (c v : Nat) : fstOf f (c + 1) v = (fstOf f c v).or (if cls f c = v then some c else none) := by
  unfold fstOf
  rw [List.range_succ, List.find?_append]
  congr 1
  by_cases h : cls f c = v
  · rw [if_pos h]; simp [h]
  · rw [if_neg h]; simp [h]
theorem fstOf_none {K : Type} [BEq K] [LawfulBEq K] {f : Nat → K} {c v : Nat} (h : (met f c).length ≤ v) : fstOf f c v = none := by
  unfold fstOf
  rw [List.find?_eq_none]
  intro j hj
  have := cls_lt (f := f) (List.mem_range.1 hj)
  simp; omega
theorem fstOf_some {K : Type} [BEq K] [LawfulBEq K] {f : Nat → K} {c v : Nat} (h : v < (met f c).length) : (fstOf f c v).isSome = true := by
  obtain ⟨j, hj, he⟩ := cls_onto h
  unfold fstOf
  rw [List.find?_isSome]
  exact ⟨j, List.mem_range.2 hj, by simp [he]⟩
theorem fsts_len {K : Type} [BEq K] [LawfulBEq K] {f : Nat → K} {c N : Nat} (h : (met f c).length ≤ N) : (List.range N).filterMap (fstOf f c) = (List.range (met f c).length).filterMap (fstOf f c) := by
  induction N with
  | zero => rw [show (met f c).length = 0 by omega]
  | succ N ih =>
    rcases Nat.lt_or_ge N (met f c).length with h1 | h1
    · rw [show (met f c).length = N + 1 by omega]
    · rw [List.range_succ, List.filterMap_append, ih h1]
      simp [fstOf_none h1]
theorem fsts_eq {K : Type} [BEq K] [LawfulBEq K] (f : Nat → K) (c : Nat) : (List.range (met f c).length).filterMap (fstOf f c) = fstU f c := by
  induction c with
  | zero => rfl
  | succ c ih =>
    rw [fstU_succ, met_len_succ]
    have hsame : (List.range (met f c).length).filterMap (fstOf f (c + 1)) = (List.range (met f c).length).filterMap (fstOf f c) := by
      apply fm_congr
      intro v hv
      have h1 := fstOf_some (f := f) (List.mem_range.1 hv)
      rw [fstOf_succ]
      cases h : fstOf f c v with
      | none => rw [h] at h1; cases h1
      | some j => rfl
    split
    · rename_i h
      rw [List.range_succ, List.filterMap_append, hsame, ih]
      congr 1
      simp [fstOf_succ, fstOf_none (Nat.le_refl _), h]
    · rw [hsame, ih]
theorem head_bytes {L : List Int} {c v : Nat} (h : ∀ j, j < c → L[j]? = some (cls (oneF L) j : Int)) : (bytesU L v c).head? = fstOf (oneF L) c v := by
  unfold bytesU fstOf
  rw [List.head?_filter]
  have key : ∀ l : List Nat, (∀ j ∈ l, j < c) → l.find? (fun j => L[j]? == some (v : Int)) = l.find? (fun j => cls (oneF L) j == v) := by
    intro l hl
    induction l with
    | nil => rfl
    | cons a l ih =>
      have h2 : (L[a]? == some (v : Int)) = (cls (oneF L) a == v) := by
        rw [h a (hl a (by simp)), Bool.eq_iff_iff]
        simp
        omega
      rw [List.find?_cons, List.find?_cons, h2, ih (fun j hj => hl j (List.mem_cons_of_mem _ hj))]
  exact key _ (fun j hj => List.mem_range.1 hj)
/-- The classes' first bytes, class for class. -/
def fstV (L : List Int) (N : Nat) : List Nat := (List.range N).filterMap fun (v : Nat) => (bytesU L v 256).head?
theorem fstV_succ (L : List Int) (N : Nat) : fstV L (N + 1) = match (bytesU L N 256).head? with | some j => fstV L N ++ [j] | none => fstV L N := by
  unfold fstV
  rw [List.range_succ, List.filterMap_append]
  cases h : (bytesU L N 256).head? <;> simp [h]
theorem fstV_eq {L : List Int} (h : L = clsL (oneF L) 256) : fstV L 256 = fstU (oneF L) 256 := by
  have h1 : ∀ j, j < 256 → L[j]? = some (cls (oneF L) j : Int) := fun j hj => by
    have := clsL_get (f := oneF L) hj
    rwa [← h] at this
  have h2 : fstV L 256 = (List.range 256).filterMap (fstOf (oneF L) 256) := fm_congr fun v _ => head_bytes h1
  rw [h2, fsts_len (met_len _ _), fsts_eq]
def firstL (L : List Int) : List Int := if rightB L then asI (fstU (oneF L) 256) else []
theorem asI_snoc (l : List Nat) (j : Nat) : asI (l ++ [j]) = asI l ++ [(j : Int)] := by simp [asI]
theorem asI_len (l : List Nat) : (asI l).length = l.length := by simp [asI]
theorem filt_len (p : Nat → Bool) (c : Nat) : ((List.range c).filter p).length ≤ c := Nat.le_trans (List.length_filter_le _ _) (by simp)

/-- min(len, 256) -/
def mn (n : Nat) : Nat := if n < 256 then n else 256
set_option maxRecDepth 20000 in
theorem bytes_calls (A : Option Addr) (n c : Nat) (L : List Int) (q : Int) (S : Nat → Prop) (w : World) (hS : ∀ k, S k → k < w.heap.size) (hC : Row I w S A n L) (hcap : n ≤ c) :
    Calls Try.prog 17 #[.slice A n c, .int .i64 q] w fun e w' => ∃ A' n' c', e = .returned (.slice A' n' c') ∧ Row I w' (fun k => w.heap.size ≤ k ∧ k < w'.heap.size) A' n' (asI (bytesU L q (mn n))) ∧ Below w.heap.size w w' := by
  have hn := hC.le
  have HL := Hd.mk hC.1
  obtain ⟨m, hm⟩ : ∃ m, mn n = m := ⟨_, rfl⟩
  have hmn : m ≤ n ∧ m ≤ 256 := by rw [← hm]; unfold mn; split <;> omega
  have hmI : (if (256 : Int) < (n : Int) then (256 : Int) else (n : Int)) = m := by rw [← hm]; unfold mn; split <;> split <;> omega
  rw [hm]
  have HMI := Hd.mk hmI; clear hmI hm
  obtain ⟨i0, hi, _, hi2, _⟩ := info_of info3
  obtain ⟨A1, hcut, hrow1, hnone⟩ := cut_to I 24 3 Try.underlying24 hi hi2 A n c m hmn.1 hcap
  have HR1 := Hd.mk (hrow1 w S L hC)
  have hcut1 : ∀ W, (Instr.slice 24 (.slice A n c) none (some (.int .i64 m)) none).run Try.prog W = .ok (.slice A1 m c) W := fun W => hcut W .i64
  have HS := Hd.mk hS
  clear hS hC hcut hrow1 hnone hi hi2
  go_enter Try.func17, Try.ntmps17
  go_wp2_with (refine min_int rfl (.tmp 10) (.const (.int .i64 256)) _ rfl .i64 n 256 m rfl rfl HMI.out ?_)
  go_loopw [5, 14] (fun v i wr => ∃ (k : Nat), k ≤ m ∧ i = .int .i64 k ∧ Hd (Mine I wr w.heap.size 3 v (asI (bytesU L q k))) ∧ Hd (Below w.heap.size w wr)) (fun _ i _ => m - (intOf i).toNat)
  case atStart => exact ⟨0, Nat.zero_le _, rfl, ⟨Mine.nil _ _ _ _⟩, ⟨Below.refl _ _⟩⟩
  case round =>
    obtain ⟨k, hk, rfl, HM, HB⟩ := hrel
    obtain ⟨A2, z, c2, rfl, hz, hc2, hA2, hR2⟩ := HM.out.formN
    have hlen : z ≤ k := by rw [hz, asI_len]; exact filt_len _ _
    have HZ := Hd.mk hz; have HR2 := Hd.mk hR2; clear hz hR2 hA2
    by_cases hlt : k < m
    · obtain ⟨b, off, x, rfl, _, hb1, hx, hcell⟩ := (HR1.out.below HS.out HB.out).get_int k hlt
      have hLx : L[k]? = some x := by rw [List.getElem?_take, if_pos hlt] at hx; exact hx
      have HX := Hd.mk hLx; clear hx hLx
      by_cases hxq : x = q
      · have hJ : (x == q) = true := by simpa using hxq
        have HT : Hd (asI (bytesU L q (k + 1)) = asI (bytesU L q k) ++ [(k : Int)]) := ⟨by rw [bytesU_succ, if_pos (by rw [HX.out, hxq]), asI_snoc]⟩
        go_wp2_with (at_builtin; go_must (refine append_snoc I (Ty.int_flat _) rfl (.tmp 22) (.tmp 24) 24 3 _ 8 rfl Try.underlying24 info3 rfl (by decide) (by decide) w.heap.size (.slice A2 z c2) (asI (bytesU L q k)) (k : Int) [.int .i64 (k : Int)] wr.heap.size rfl rfl (blk_new _ _ _ rfl) rfl (HM.out.below (by repeat (first | (with_reducible assumption) | (with_reducible exact Below.refl _ _) | (with_reducible apply below_drewL) | (with_reducible apply below_alloc) | (with_reducible apply below_drew1) | (with_reducible apply below_drewN) | (refine below_set ?_ (by first | omega | (simp only [size_alloc, size_drew, size_set]; omega)) _ _)))) (HM.out.ne_new (Nat.le_refl _)) (by simp only [size_alloc, size_drew]; have := HB.out.size; omega) (by rw [← HZ.out]; omega) ?_; intro v2 w2 hM2 hb2 hk2 hat2; replace hb2 := Hd.mk (Below.trans (HB.out.alloc HB.out.size _) hb2); have HM2 := Hd.mk hM2; clear hM2 hk2 hat2))
        go_roundw
        case rel => exact ⟨k + 1, by omega, by go_num, ⟨by rw [HT.out]; exact HM2.out⟩, hb2⟩
        case measure => simp [intOf]; omega
      · have hJ : (x == q) = false := by simpa using hxq
        have HT : Hd (asI (bytesU L q (k + 1)) = asI (bytesU L q k)) := ⟨by rw [bytesU_succ, if_neg (by rw [HX.out]; intro h; exact hxq (Option.some.inj h))]⟩
        go_wp2
        go_roundw
        case rel => exact ⟨k + 1, by omega, by go_num, ⟨by rw [HT.out]; exact HM.out⟩, HB⟩
        case measure => simp [intOf]; omega
    · obtain rfl : k = m := by omega
      go_wp2
      go_ret
      exact ⟨A2, z, c2, rfl, HR2.out, HB.out⟩
end Go.Proofs.Ytpcjidbhkffncaa.Fn
