/- Whether numbers are classes; the same numbers. -/
import Derived.Test.YtpcjidbhkffncaaA5
namespace Go.Proofs.Ytpcjidbhkffncaa.Fn
open Go Go.RowKit Go.Proofs.Ytpcjidbhkffncaa.Can Go.Proofs.Ytpcjidbhkffncaa.Base
attribute [local go_sem] clsB AB.cell

theorem same_calls (A1 A2 : Option Addr) (c1 c2 n : Nat) (L : List Int) (S1 S2 : Nat → Prop) (w : World) (hS1 : ∀ k, S1 k → k < w.heap.size) (hS2 : ∀ k, S2 k → k < w.heap.size) (h1 : Row I w S1 A1 n L) (h2 : Row I w S2 A2 n L) :
    Calls Try.prog 9 #[.slice A1 n c1, .slice A2 n c2] w fun e w' => e = .returned (.bool true) ∧ Below w.heap.size w w' := by
  have hm1 := h1.le
  have H1 := Hd.mk h1; have H2 := Hd.mk h2; clear h1 h2
  have HS1 := Hd.mk hS1; have HS2 := Hd.mk hS2; clear hS1 hS2
  go_enter Try.func9, Try.ntmps9
  go_wp2
  go_loopw [5] (fun i wr => ∃ k : Nat, k ≤ n ∧ i = .int .i64 k ∧ Hd (Below w.heap.size w wr)) (fun i _ => n - (intOf i).toNat)
  case atStart => exact ⟨0, Nat.zero_le _, rfl, ⟨Below.refl _ _⟩⟩
  case round =>
    obtain ⟨k, hk, rfl, hb⟩ := hrel
    by_cases hlt : k < n
    · obtain ⟨b1, o1, x, rfl, _, hb1, hx1, hy1⟩ := (H1.out.below HS1.out hb.out).get_int k hlt
      obtain ⟨b2, o2, y, rfl, _, hb2, hx2, hy2⟩ := (H2.out.below HS2.out hb.out).get_int k hlt
      obtain rfl : x = y := by rw [hx1] at hx2; exact Option.some.inj hx2
      clear hx1 hx2
      go_wp2
      refine wp_region_can (.q [0, 1, 2, 3, 4, 5, 6, 7, 8] (.done)) (clsB _) (by kernel_rfl) (by kernel_rfl) (by intro _ _ d _ _ h; cases d <;> exact h) (clsB_drew _) ?_
      refine can_q (l := [⟨_,_,_,_,_,_⟩, ⟨_,_,_,_,_,_⟩, ⟨_,_,_,_,_,_⟩, ⟨_,_,_,_,_,_⟩, ⟨_,_,_,_,_,_⟩, ⟨_,_,_,_,_,_⟩, ⟨_,_,_,_,_,_⟩, ⟨_,_,_,_,_,_⟩, ⟨_,_,_,_,_,_⟩]) rfl ?_
      repeat (go_big_quiet_step (fail))
      refine wpQuiet_nil ?_
      refine can_done ?_
      go_wp2
      go_roundw
      case rel => exact ⟨k + 1, by omega, by go_num, ⟨by have := hb.out; exact (by repeat (first | (with_reducible assumption) | (with_reducible exact Below.refl _ _) | (with_reducible apply below_drewL) | (with_reducible apply below_alloc) | (with_reducible apply below_drew1) | (with_reducible apply below_drewN) | (refine below_set ?_ (by first | omega | (simp only [size_alloc, size_drew, size_set]; omega)) _ _)))⟩⟩
      case measure => simp [intOf]; omega
    · obtain rfl : k = n := by omega
      go_wp2
      go_ret
      exact ⟨rfl, hb.out⟩

theorem cls_onto {K : Type} [BEq K] [LawfulBEq K] {f : Nat → K} {k v : Nat} (h : v < (met f k).length) : ∃ j, j < k ∧ cls f j = v := by
  induction k with
  | zero => exact absurd h (Nat.not_lt_zero v)
  | succ k ih =>
    rw [met_len_succ] at h
    by_cases hc : cls f k = (met f k).length
    · rw [if_pos hc] at h
      rcases Nat.lt_or_ge v (met f k).length with h1 | h1
      · obtain ⟨j, hj, he⟩ := ih h1; exact ⟨j, by omega, he⟩
      · exact ⟨k, by omega, by omega⟩
    · rw [if_neg hc] at h
      obtain ⟨j, hj, he⟩ := ih h; exact ⟨j, by omega, he⟩
theorem cls_lt {K : Type} [BEq K] [LawfulBEq K] {f : Nat → K} {j k : Nat} (h : j < k) : cls f j < (met f k).length := by
  rw [cls_at h]; exact List.idxOf_lt_length_of_mem (mem_upto h)
/-- What the classes of a row alone hang on. -/
def oneF (L : List Int) : Nat → Int × Int := pairF L []
theorem oneF_eq {L : List Int} {a b : Nat} : oneF L a = oneF L b ↔ atN L a = atN L b := by
  simp [oneF, pairF, atN]
theorem atN_some {L : List Int} {k : Nat} {x : Int} (h : L[k]? = some x) : atN L k = x := by
  unfold atN; rw [List.getD_eq_getElem?_getD, h]; rfl
theorem right_step {L : List Int} {k : Nat} {x : Int} (h : ∀ j, j < k → L[j]? = some (cls (oneF L) j : Int)) (hx : L[k]? = some x) : (0 ≤ x ∧ x ≤ (met (oneF L) k).length) ↔ x = cls (oneF L) k := by
  constructor
  · rintro ⟨h0, h1⟩
    obtain ⟨v, rfl⟩ : ∃ v : Nat, x = v := ⟨x.toNat, by omega⟩
    rcases Nat.lt_or_ge v (met (oneF L) k).length with h2 | h2
    · obtain ⟨j, hj, he⟩ := cls_onto h2
      have h3 := h j hj
      rw [he] at h3
      rw [← he]
      exact congrArg Int.ofNat (cls_same.2 (oneF_eq.2 (by rw [atN_some h3, atN_some hx])))
    · have hv : v = (met (oneF L) k).length := by omega
      rw [hv]
      refine congrArg Int.ofNat (cls_new.2 fun hm => ?_).symm
      obtain ⟨d, hd, he⟩ := of_mem hm
      have h3 := oneF_eq.1 he
      rw [atN_some (h d hd), atN_some hx] at h3
      have := cls_lt (f := oneF L) hd
      omega
  · rintro rfl
    have := cls_le (oneF L) k
    omega
/-- They are classes. -/
def rightB (L : List Int) : Bool := decide (L = clsL (oneF L) 256)
theorem right_yes {L : List Int} (hl : L.length = 256) (h : ∀ j, j < 256 → L[j]? = some (cls (oneF L) j : Int)) : rightB L = true := by
  unfold rightB
  rw [decide_eq_true_eq]
  apply List.ext_getElem?
  intro j
  by_cases hj : j < 256
  · rw [h j hj, clsL_get hj]
  · rw [List.getElem?_eq_none (by omega), List.getElem?_eq_none (by rw [clsL_len]; omega)]
theorem right_no {L : List Int} {k : Nat} {x : Int} (hk : k < 256) (hx : L[k]? = some x) (h : ¬ x = cls (oneF L) k) : rightB L = false := by
  unfold rightB
  rw [decide_eq_false_iff_not]
  intro he
  have h1 := clsL_get (f := oneF L) hk
  rw [← he, hx] at h1
  exact h (Option.some.inj h1)
theorem right_len {L : List Int} (h : ¬ L.length = 256) : rightB L = false := by
  unfold rightB
  rw [decide_eq_false_iff_not]
  intro he
  exact h (by rw [he, clsL_len])
set_option maxRecDepth 20000 in
theorem right_calls (A : Option Addr) (n c : Nat) (L : List Int) (S : Nat → Prop) (w : World) (hC : Row I w S A n L) :
    Calls Try.prog 10 #[.slice A n c] w fun e w' => e = .returned (.bool (rightB L)) ∧ w' = w := by
  have hn := hC.le
  have HL := Hd.mk hC.1
  obtain ⟨bb, hbb⟩ : ∃ bb, rightB L = bb := ⟨_, rfl⟩
  rw [hbb]
  have HB := Hd.mk hbb; clear hbb
  have HC := Hd.mk hC; clear hC
  by_cases hlen : n = 256
  · subst hlen
    go_enter Try.func10, Try.ntmps10
    go_wp2
    go_loopw [3, 11] (fun nx i wr => ∃ k m : Nat, k ≤ 256 ∧ m ≤ k ∧ i = .int .i64 k ∧ nx = .int .i64 m ∧ Hd (m = (met (oneF L) k).length) ∧ Hd (∀ j, j < k → L[j]? = some (cls (oneF L) j : Int)) ∧ wr = w) (fun _ i _ => 256 - (intOf i).toNat)
    case atStart => exact ⟨0, 0, Nat.zero_le _, Nat.le_refl _, rfl, rfl, ⟨rfl⟩, ⟨fun j hj => absurd hj (Nat.not_lt_zero j)⟩, rfl⟩
    case round =>
      obtain ⟨k, m, hk, hm, rfl, rfl, HM, HR, rfl⟩ := hrel
      by_cases hlt : k < 256
      · obtain ⟨b, off, x, rfl, _, hb1, hx, hcell⟩ := HC.out.get_int k hlt
        have HX := Hd.mk hx; clear hx
        have HST := Hd.mk (right_step HR.out HX.out)
        rw [← HM.out] at HST
        by_cases h0 : x < 0
        · obtain rfl : bb = false := by rw [← HB.out]; exact right_no hlt HX.out (fun he => by have := HST.out.2 he; omega)
          go_wp2
          go_ret
          exact ⟨rfl, rfl⟩
        by_cases h1 : x > m
        · obtain rfl : bb = false := by rw [← HB.out]; exact right_no hlt HX.out (fun he => by have := HST.out.2 he; omega)
          go_wp2
          go_ret
          exact ⟨rfl, rfl⟩
        · have HE := Hd.mk (HST.out.1 ⟨by omega, by omega⟩)
          have HR2 : Hd (∀ j, j < k + 1 → L[j]? = some (cls (oneF L) j : Int)) := ⟨fun j hj => by
            rcases Nat.lt_or_ge j k with h | h
            · exact HR.out j h
            · obtain rfl : j = k := by omega
              rw [HX.out, HE.out]⟩
          by_cases h2 : x = m
          · have HM2 : Hd (m + 1 = (met (oneF L) (k + 1)).length) := ⟨by rw [met_len_succ, ← HM.out, if_pos (by have := HE.out; omega)]⟩
            have h2J : (x == (m : Int)) = true := by simpa using h2
            go_wp2
            go_roundw
            case rel => exact ⟨k + 1, m + 1, by omega, by omega, by go_num, by go_num, HM2, HR2, trivial⟩
            case measure => simp [intOf]; omega
          · have HM2 : Hd (m = (met (oneF L) (k + 1)).length) := ⟨by rw [met_len_succ, ← HM.out, if_neg (by have := HE.out; omega)]⟩
            have h2J : (x == (m : Int)) = false := by simpa using h2
            go_wp2
            go_roundw
            case rel => exact ⟨k + 1, m, by omega, by omega, by go_num, rfl, HM2, HR2, trivial⟩
            case measure => simp [intOf]; omega
      · obtain rfl : k = 256 := by omega
        obtain rfl : bb = true := by rw [← HB.out]; exact right_yes HL.out HR.out
        go_wp2
        go_ret
        exact ⟨rfl, rfl⟩
  · obtain rfl : bb = false := by rw [← HB.out]; exact right_len (by rw [HL.out]; exact hlen)
    have hI : ¬ (n : Int) = 256 := by omega
    go_enter Try.func10, Try.ntmps10
    go_wp2
    go_ret
    exact ⟨rfl, rfl⟩
end Go.Proofs.Ytpcjidbhkffncaa.Fn
