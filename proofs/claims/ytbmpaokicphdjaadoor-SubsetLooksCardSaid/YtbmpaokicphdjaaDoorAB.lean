/- Texts: A5, A6, A7, A8. -/
import Derived.Test.YtbmpaokicphdjaaDoorAA
import Derived.Test.YtbmpaokicphdjaaDoorOpens
set_option linter.unusedVariables false
set_option linter.unusedSimpArgs false
/- What Of computes. -/
namespace Go.Proofs.YtbmpaokicphdjaaDoor.Al
open Go Go.RowKit Go.Proofs.YtbmpaokicphdjaaDoor.Can Go.Proofs.YtbmpaokicphdjaaDoor.Base
attribute [local go_sem] clsB AB.cell

def rE (r : Rg) : List Value := [.int .i64 r.lo, .int .i64 r.hi]
theorem r_len (r : Rg) : (rE r).length = 2 := rfl
def rT : Ty Rg := Ty.flat 2 rE r_len (fun _ u hu => by simp [rE] at hu; rcases hu with rfl | rfl <;> rfl)
theorem rg_get {w : World} {S : Nat → Prop} {A : Option Addr} {n : Nat} {l : List Rg} (h : Row rT w S A n l) (k : Nat) (hk : k < n) :
    ∃ b off r, A = some ⟨b, off, none⟩ ∧ b < w.heap.size ∧ l[k]? = some r ∧ w.cell? ⟨b, off + k * 2, none⟩ = some (.int .i64 r.lo) ∧ w.cell? ⟨b, off + k * 2 + 1, none⟩ = some (.int .i64 r.hi) := by
  obtain ⟨b, off, cs, he, hs, hr, hcell⟩ := h.get k hk
  have hr' : cs = rE _ := hr
  subst hr'
  have h0 := hcell 0 _ rfl
  exact ⟨b, off, _, he, World.block_lt_of_cell? w _ h0, List.getElem?_eq_getElem _, h0, hcell 1 _ rfl⟩
theorem wf_small {x : Int} (h : 0 ≤ x ∧ x ≤ 1000) : (Lit.int .i64 x).wf = true := WalkArith.wf_i64 (by omega)
theorem clsL_wf {K : Type} [BEq K] [LawfulBEq K] (f : Nat → K) : ∀ x ∈ clsL f 256, (Lit.int .i64 x).wf = true := by
  intro x hx
  simp only [clsL, List.mem_map, List.mem_range] at hx
  obtain ⟨c, hc, rfl⟩ := hx
  have h1 := cls_le f c
  have h2 := met_len f c
  exact wf_small (by omega)
theorem inL_wf (r : Rg) : ∀ x ∈ inL r, (Lit.int .i64 x).wf = true := by
  intro x hx
  simp only [inL, List.mem_map] at hx
  obtain ⟨c, hc, rfl⟩ := hx
  split <;> rfl
def inU (r : Rg) (c : Nat) : List Int := ((List.range c).map fun (c : Nat) => if inR r (c : Int) then 1 else 0) ++ List.replicate (256 - c) 0
theorem inU_get (r : Rg) {c : Nat} (h : c < 256) : (inU r c)[c]? = some 0 := by
  unfold inU
  rw [List.getElem?_append_right (by simp), List.length_map, List.length_range, Nat.sub_self, List.getElem?_replicate, if_pos (by omega)]
theorem inU_yes (r : Rg) {c : Nat} (h : c < 256) (hr : inR r (c : Int) = true) : (inU r c).set c 1 = inU r (c + 1) := by
  unfold inU
  rw [List.set_append_right _ _ (by simp), List.length_map, List.length_range, Nat.sub_self, show 256 - c = (256 - (c + 1)) + 1 by omega, List.replicate_succ, List.set_cons_zero, List.range_succ, List.map_append, List.append_assoc]
  simp [hr]
theorem inU_no (r : Rg) {c : Nat} (h : c < 256) (hr : inR r (c : Int) = false) : inU r c = inU r (c + 1) := by
  unfold inU
  rw [show 256 - c = (256 - (c + 1)) + 1 by omega, List.replicate_succ, List.range_succ, List.map_append, List.append_assoc]
  simp [hr]
theorem inU_full (r : Rg) : inU r 256 = inL r := by unfold inU inL; simp
set_option maxHeartbeats 2000000 in
set_option maxRecDepth 20000 in
theorem aof_calls (A : Option Addr) (n c : Nat) (L : List Rg) (S : Nat → Prop) (w : World) (hS : ∀ k, S k → k < w.heap.size) (hC : Row rT w S A n L) :
    Calls Tryd.prog 86 #[.slice A n c] w fun e w' => ∃ g, e = .returned (.tuple #[.slice (some ⟨g, 0, none⟩) 256 256, .int .i64 ((met (keyF L) 256).length : Nat)]) ∧ w.heap.size ≤ g ∧ Blk iE w' 3 g (clsL (keyF L) 256) ∧ Below w.heap.size w w' := by
  obtain ⟨i0, hi, hz, hs, hbb⟩ := info_of info3
  have hn := hC.le
  have hl := hC.1
  have HS := Hd.mk hS; have HC := Hd.mk hC; have HI := Hd.mk (And.intro hi (And.intro hz (And.intro hs hbb))); have HL := Hd.mk hl
  clear hS hC hi hz hs hbb hl
  go_enter Tryd.func86, Tryd.ntmps86
  go_wp2_with (at_make; go_must (refine wpList_make_full _ rfl (.const (.int .i64 256)) (.const (.int .i64 256)) 24 rfl w.heap.size 3 i0 (.int .i64 0) 1 Tryd.underlying24 HI.out.1 HI.out.2.1 HI.out.2.2.1 .i64 .i64 256 256 256 rfl rfl rfl rfl (by rw [HI.out.2.2.2]; omega) (by simp only [maxLen]; omega) (Nat.le_refl _) ?_; intro w1 ho1 hg1))
  have hz1 := hg1.size
  have hg0 := Blk.made (enc := iE) (x := 0) i_len (by decide) rfl ho1
  have hlt1 := hg0.lt
  rw [← keys_nil.1] at hg0
  have HN : Hd ((1 : Int) = ((met (keyF (L.take 0)) 256).length : Nat)) := ⟨by rw [List.take_zero, keys_nil.2]; rfl⟩
  have HG := Hd.mk hg0
  have HB1 : Hd (Below w.heap.size w w1) := ⟨(Below.refl _ _).grown hg1 (Nat.le_refl _) (fun k hk => by cases hk)⟩
  clear ho1 hg1 hz1 hg0 hlt1
  go_loopw [4, 5, 13] (fun v m i wr => ∃ k g : Nat, k ≤ n ∧ i = .int .i64 k ∧ m = .int .i64 ((met (keyF (L.take k)) 256).length : Nat) ∧ v = .slice (some ⟨g, 0, none⟩) 256 256 ∧ w.heap.size ≤ g ∧ Hd (Blk iE wr 3 g (clsL (keyF (L.take k)) 256)) ∧ Hd (Below w.heap.size w wr)) (fun _ _ i _ => n - (intOf i).toNat)
  case atStart => exact ⟨0, w.heap.size, Nat.zero_le _, rfl, by rw [← HN.out], rfl, Nat.le_refl _, HG, HB1⟩
  case round =>
    clear HG HN HB1
    obtain ⟨k, g, hk, rfl, rfl, rfl, hg, HG, HB⟩ := hrel
    by_cases hlt : k < n
    · obtain ⟨b, off, r, rfl, hb1, hx, hc0, hc1⟩ := rg_get (HC.out.below HS.out HB.out) k hlt
      have HX := Hd.mk hx; clear hx
      go_wp2_with (at_make; go_must (refine wpList_make_full _ rfl (.const (.int .i64 256)) (.const (.int .i64 256)) 24 rfl wr.heap.size 3 i0 (.int .i64 0) 1 Tryd.underlying24 HI.out.1 HI.out.2.1 HI.out.2.2.1 .i64 .i64 256 256 256 rfl rfl rfl rfl (by rw [HI.out.2.2.2]; omega) (by simp only [maxLen]; omega) (by simp only [size_alloc]; omega) ?_; intro w3 ho3 hg3))
      have hz3 := hg3.size
      simp only [size_alloc] at hz3
      have hg0 := Blk.made (enc := iE) (x := 0) i_len (by decide) rfl ho3
      simp only [size_alloc] at hg0
      have hb3 : Below (wr.heap.size + 1) (wr.alloc (.cells #[.int .i64 r.lo, .int .i64 r.hi] 124)) w3 := (Below.refl _ _).grown hg3 (by simp only [size_alloc]; omega) (fun k hk => by cases hk)
      have HR3 := Hd.mk ((hb3.block _ (by omega)).trans (blk_new _ _ _ rfl))
      have HG3 : Hd (Blk iE w3 3 (wr.heap.size + 1) (inU r 0)) := ⟨hg0⟩
      have hb4 : Below wr.heap.size wr w3 := Below.trans (below_alloc (Below.refl _ _) _) (hb3.mono (by omega))
      have HB3 : Hd (Below w.heap.size w w3) := ⟨below_seq HB.out hb4⟩
      have HG5 : Hd (Blk iE w3 3 g (clsL (keyF (L.take k)) 256)) := ⟨HG.out.below hb4⟩
      have hgN := HG.out.lt
      have hwN := HB.out.size
      clear ho3 hg3 hg0 hb3 hz3 hb4 HG HB hb1 hc0 hc1
      generalize wr.heap.size = N at *
      go_loopw [18] (fun j wx => ∃ q : Nat, q ≤ 256 ∧ j = .int .i64 q ∧ Hd (Blk iE wx 3 (N + 1) (inU r q)) ∧ Hd (wx.heap[N]? = some (.cells #[.int .i64 r.lo, .int .i64 r.hi] 124 (0, 0))) ∧ Hd (Blk iE wx 3 g (clsL (keyF (L.take k)) 256)) ∧ Hd (Below w.heap.size w wx)) (fun j _ => 256 - (intOf j).toNat)
      case atStart => exact ⟨0, Nat.zero_le _, rfl, HG3, HR3, HG5, HB3⟩
      case round =>
        clear HG3 HR3 HB3 HG5
        obtain ⟨q, hq, rfl, HG3, HR3, HG5, HB3⟩ := hrel
        have hr3 := HR3.out
        have hr3c0 := blk_cell hr3 0 _ rfl; have hr3f0 := blk_frozen hr3 0; have hr3c1 := blk_cell hr3 1 _ rfl; have hr3f1 := blk_frozen hr3 1; have hr3l := blk_lt hr3
        have hc3 := HG3.out.lt
        clear hr3
        by_cases hqlt : q < 256
        · by_cases hlo : r.lo ≤ q
          · by_cases hhi : (q : Int) ≤ r.hi
            · have HY : Hd (inR r (q : Int) = true) := ⟨by unfold inR; simp [hlo, hhi]⟩
              have hcc := HG3.out.cell0 i_len (inU_get r hqlt) rfl
              have hcf := HG3.out.frozen q
              rw [Nat.mul_one] at hcc
              go_wp2
              go_roundw
              case rel => exact ⟨q + 1, by omega, by go_num, ⟨by have := HG3.out.set0 i_len (y := 1) (inU_get r hqlt) (by decide) rfl; rw [Nat.mul_one, inU_yes r hqlt HY.out] at this; exact this⟩, ⟨blk_far HR3.out (by show ¬ N = N + 1; omega) _⟩, ⟨HG5.out.far (p := ⟨N + 1, q, none⟩) (by show ¬ g = N + 1; omega) _⟩, ⟨below_set HB3.out (by omega) _ _⟩⟩
              case measure => simp [intOf]; omega
            · have HY : Hd (inR r (q : Int) = false) := ⟨by unfold inR; simp [hhi]⟩
              go_wp2
              go_roundw
              case rel => exact ⟨q + 1, by omega, by go_num, ⟨by rw [← inU_no r hqlt HY.out]; exact HG3.out⟩, HR3, HG5, HB3⟩
              case measure => simp [intOf]; omega
          · have HY : Hd (inR r (q : Int) = false) := ⟨by unfold inR; simp [hlo]⟩
            go_wp2
            go_roundw
            case rel => exact ⟨q + 1, by omega, by go_num, ⟨by rw [← inU_no r hqlt HY.out]; exact HG3.out⟩, HR3, HG5, HB3⟩
            case measure => simp [intOf]; omega
        · obtain rfl : q = 256 := by omega
          have HG4 : Hd (Blk iE wr 3 (N + 1) (inL r)) := ⟨by rw [← inU_full r]; exact HG3.out⟩
          have HST := Hd.mk (keys_step (L.take k) r)
          have HTK : Hd (L.take (k + 1) = L.take k ++ [r]) := ⟨by rw [List.take_add_one, HX.out]; rfl⟩
          go_wp2_with (go_at_call 108; go_must (refine Calls.mono (join_calls (some ⟨g, 0, none⟩) (some ⟨N + 1, 0, none⟩) 256 256 256 256 _ _ (fun b => b = g) (fun b => b = N + 1) wr (by rintro _ rfl; exact HG5.out.lt) (by rintro _ rfl; exact HG4.out.lt) (by have := blk_rowI HG5.out (S := fun b => b = g) rfl (by rw [clsL_len]; omega); rwa [clsL_len] at this) (by have := blk_rowI HG4.out (S := fun b => b = N + 1) rfl (by simp [inL]); simpa [inL] using this) (clsL_wf _) (inL_wf r)) ?_; rintro e w5 ⟨g5, rfl, hg5, hG5, hb5⟩; rw [HST.out.1] at hG5; rw [HST.out.2]; have HG6 := Hd.mk hG5; have HB6 := Hd.mk (below_seq HB3.out hb5); clear hG5 hb5))
          go_roundw
          case rel => exact ⟨k + 1, g5, by omega, by go_num, by rw [HTK.out], rfl, by omega, by rw [HTK.out]; exact HG6, HB6⟩
          case measure => simp [intOf]; omega
    · obtain rfl : k = n := by omega
      have HT : Hd (L.take k = L) := ⟨by rw [← HL.out, List.take_length]⟩
      go_wp2
      go_ret2
      have HGG := HG.out
      rw [HT.out] at HGG ⊢
      exact ⟨g, rfl, hg, HGG, HB.out⟩
end Go.Proofs.YtbmpaokicphdjaaDoor.Al

/- Whether numbers are classes; the same numbers. -/
namespace Go.Proofs.YtbmpaokicphdjaaDoor.Al
open Go Go.RowKit Go.Proofs.YtbmpaokicphdjaaDoor.Can Go.Proofs.YtbmpaokicphdjaaDoor.Base
attribute [local go_sem] clsB AB.cell

theorem same_calls (A1 A2 : Option Addr) (c1 c2 n : Nat) (L : List Int) (S1 S2 : Nat → Prop) (w : World) (hS1 : ∀ k, S1 k → k < w.heap.size) (hS2 : ∀ k, S2 k → k < w.heap.size) (h1 : Row I w S1 A1 n L) (h2 : Row I w S2 A2 n L) :
    Calls Tryd.prog 17 #[.slice A1 n c1, .slice A2 n c2] w fun e w' => e = .returned (.bool true) ∧ Below w.heap.size w w' := by
  have hm1 := h1.le
  have H1 := Hd.mk h1; have H2 := Hd.mk h2; clear h1 h2
  have HS1 := Hd.mk hS1; have HS2 := Hd.mk hS2; clear hS1 hS2
  go_enter Tryd.func17, Tryd.ntmps17
  go_wp2
  go_loopw [5] (fun i wr => ∃ k : Nat, k ≤ n ∧ i = .int .i64 k ∧ Hd (Below w.heap.size w wr)) (fun i _ => n - (intOf i).toNat)
  case atStart => exact ⟨0, Nat.zero_le _, rfl, ⟨Below.refl _ _⟩⟩
  case round =>
    obtain ⟨k, hk, rfl, hb⟩ := hrel
    by_cases hlt : k < n
    · obtain ⟨b1, o1, x, rfl, _, hb1, hx1, hy1⟩ := (H1.out.below HS1.out hb.out).get_int k hlt
      obtain ⟨b2, o2, y, rfl, _, hb2, hx2, hy2⟩ := (H2.out.below HS2.out hb.out).get_int k hlt
      obtain rfl : x = y := by rw [hx1] at hx2; exact Option.some.inj hx2
      clear hx1 hx2
      go_wp2
      refine wp_region_can (.q [0, 1, 2, 3, 4, 5, 6, 7, 8] (.done)) (clsB _) (by kernel_rfl) (by kernel_rfl) (by intro _ _ d _ _ h; cases d <;> exact h) (clsB_drew _) ?_
      refine can_q (l := [⟨_,_,_,_,_,_⟩, ⟨_,_,_,_,_,_⟩, ⟨_,_,_,_,_,_⟩, ⟨_,_,_,_,_,_⟩, ⟨_,_,_,_,_,_⟩, ⟨_,_,_,_,_,_⟩, ⟨_,_,_,_,_,_⟩, ⟨_,_,_,_,_,_⟩, ⟨_,_,_,_,_,_⟩]) rfl ?_
      repeat (go_big_quiet_step (fail))
      refine wpQuiet_nil ?_
      refine can_done ?_
      go_wp2
      go_roundw
      case rel => exact ⟨k + 1, by omega, by go_num, ⟨by have := hb.out; exact (by repeat (first | (with_reducible assumption) | (with_reducible exact Below.refl _ _) | (with_reducible apply below_drewL) | (with_reducible apply below_alloc) | (with_reducible apply below_drew1) | (with_reducible apply below_drewN) | (refine below_set ?_ (by first | omega | (simp only [size_alloc, size_drew, size_set]; omega)) _ _)))⟩⟩
      case measure => simp [intOf]; omega
    · obtain rfl : k = n := by omega
      go_wp2
      go_ret
      exact ⟨rfl, hb.out⟩

theorem cls_onto {K : Type} [BEq K] [LawfulBEq K] {f : Nat → K} {k v : Nat} (h : v < (met f k).length) : ∃ j, j < k ∧ cls f j = v := by
  induction k with
  | zero => exact absurd h (Nat.not_lt_zero v)
  | succ k ih =>
    rw [met_len_succ] at h
    by_cases hc : cls f k = (met f k).length
    · rw [if_pos hc] at h
      rcases Nat.lt_or_ge v (met f k).length with h1 | h1
      · obtain ⟨j, hj, he⟩ := ih h1; exact ⟨j, by omega, he⟩
      · exact ⟨k, by omega, by omega⟩
    · rw [if_neg hc] at h
      obtain ⟨j, hj, he⟩ := ih h; exact ⟨j, by omega, he⟩
theorem cls_lt {K : Type} [BEq K] [LawfulBEq K] {f : Nat → K} {j k : Nat} (h : j < k) : cls f j < (met f k).length := by
  rw [cls_at h]; exact List.idxOf_lt_length_of_mem (mem_upto h)
/-- What the classes of a row alone hang on. -/
def oneF (L : List Int) : Nat → Int × Int := pairF L []
theorem oneF_eq {L : List Int} {a b : Nat} : oneF L a = oneF L b ↔ atN L a = atN L b := by
  simp [oneF, pairF, atN]
theorem atN_some {L : List Int} {k : Nat} {x : Int} (h : L[k]? = some x) : atN L k = x := by
  unfold atN; rw [List.getD_eq_getElem?_getD, h]; rfl
theorem right_step {L : List Int} {k : Nat} {x : Int} (h : ∀ j, j < k → L[j]? = some (cls (oneF L) j : Int)) (hx : L[k]? = some x) : (0 ≤ x ∧ x ≤ (met (oneF L) k).length) ↔ x = cls (oneF L) k := by
  constructor
  · rintro ⟨h0, h1⟩
    obtain ⟨v, rfl⟩ : ∃ v : Nat, x = v := ⟨x.toNat, by omega⟩
    rcases Nat.lt_or_ge v (met (oneF L) k).length with h2 | h2
    · obtain ⟨j, hj, he⟩ := cls_onto h2
      have h3 := h j hj
      rw [he] at h3
      rw [← he]
      exact congrArg Int.ofNat (cls_same.2 (oneF_eq.2 (by rw [atN_some h3, atN_some hx])))
    · have hv : v = (met (oneF L) k).length := by omega
      rw [hv]
      refine congrArg Int.ofNat (cls_new.2 fun hm => ?_).symm
      obtain ⟨d, hd, he⟩ := of_mem hm
      have h3 := oneF_eq.1 he
      rw [atN_some (h d hd), atN_some hx] at h3
      have := cls_lt (f := oneF L) hd
      omega
  · rintro rfl
    have := cls_le (oneF L) k
    omega
/-- They are classes. -/
def rightB (L : List Int) : Bool := decide (L = clsL (oneF L) 256)
theorem right_yes {L : List Int} (hl : L.length = 256) (h : ∀ j, j < 256 → L[j]? = some (cls (oneF L) j : Int)) : rightB L = true := by
  unfold rightB
  rw [decide_eq_true_eq]
  apply List.ext_getElem?
  intro j
  by_cases hj : j < 256
  · rw [h j hj, clsL_get hj]
  · rw [List.getElem?_eq_none (by omega), List.getElem?_eq_none (by rw [clsL_len]; omega)]
theorem right_no {L : List Int} {k : Nat} {x : Int} (hk : k < 256) (hx : L[k]? = some x) (h : ¬ x = cls (oneF L) k) : rightB L = false := by
  unfold rightB
  rw [decide_eq_false_iff_not]
  intro he
  have h1 := clsL_get (f := oneF L) hk
  rw [← he, hx] at h1
  exact h (Option.some.inj h1)
theorem right_len {L : List Int} (h : ¬ L.length = 256) : rightB L = false := by
  unfold rightB
  rw [decide_eq_false_iff_not]
  intro he
  exact h (by rw [he, clsL_len])
set_option maxRecDepth 20000 in
theorem right_calls (A : Option Addr) (n c : Nat) (L : List Int) (S : Nat → Prop) (w : World) (hC : Row I w S A n L) :
    Calls Tryd.prog 97 #[.slice A n c] w fun e w' => e = .returned (.bool (rightB L)) ∧ w' = w := by
  have hn := hC.le
  have HL := Hd.mk hC.1
  obtain ⟨bb, hbb⟩ : ∃ bb, rightB L = bb := ⟨_, rfl⟩
  rw [hbb]
  have HB := Hd.mk hbb; clear hbb
  have HC := Hd.mk hC; clear hC
  by_cases hlen : n = 256
  · subst hlen
    go_enter Tryd.func97, Tryd.ntmps97
    go_wp2
    go_loopw [3, 11] (fun nx i wr => ∃ k m : Nat, k ≤ 256 ∧ m ≤ k ∧ i = .int .i64 k ∧ nx = .int .i64 m ∧ Hd (m = (met (oneF L) k).length) ∧ Hd (∀ j, j < k → L[j]? = some (cls (oneF L) j : Int)) ∧ wr = w) (fun _ i _ => 256 - (intOf i).toNat)
    case atStart => exact ⟨0, 0, Nat.zero_le _, Nat.le_refl _, rfl, rfl, ⟨rfl⟩, ⟨fun j hj => absurd hj (Nat.not_lt_zero j)⟩, rfl⟩
    case round =>
      obtain ⟨k, m, hk, hm, rfl, rfl, HM, HR, rfl⟩ := hrel
      by_cases hlt : k < 256
      · obtain ⟨b, off, x, rfl, _, hb1, hx, hcell⟩ := HC.out.get_int k hlt
        have HX := Hd.mk hx; clear hx
        have HST := Hd.mk (right_step HR.out HX.out)
        rw [← HM.out] at HST
        by_cases h0 : x < 0
        · obtain rfl : bb = false := by rw [← HB.out]; exact right_no hlt HX.out (fun he => by have := HST.out.2 he; omega)
          go_wp2
          go_ret
          exact ⟨rfl, rfl⟩
        by_cases h1 : x > m
        · obtain rfl : bb = false := by rw [← HB.out]; exact right_no hlt HX.out (fun he => by have := HST.out.2 he; omega)
          go_wp2
          go_ret
          exact ⟨rfl, rfl⟩
        · have HE := Hd.mk (HST.out.1 ⟨by omega, by omega⟩)
          have HR2 : Hd (∀ j, j < k + 1 → L[j]? = some (cls (oneF L) j : Int)) := ⟨fun j hj => by
            rcases Nat.lt_or_ge j k with h | h
            · exact HR.out j h
            · obtain rfl : j = k := by omega
              rw [HX.out, HE.out]⟩
          by_cases h2 : x = m
          · have HM2 : Hd (m + 1 = (met (oneF L) (k + 1)).length) := ⟨by rw [met_len_succ, ← HM.out, if_pos (by have := HE.out; omega)]⟩
            have h2J : (x == (m : Int)) = true := by simpa using h2
            go_wp2
            go_roundw
            case rel => exact ⟨k + 1, m + 1, by omega, by omega, by go_num, by go_num, HM2, HR2, trivial⟩
            case measure => simp [intOf]; omega
          · have HM2 : Hd (m = (met (oneF L) (k + 1)).length) := ⟨by rw [met_len_succ, ← HM.out, if_neg (by have := HE.out; omega)]⟩
            have h2J : (x == (m : Int)) = false := by simpa using h2
            go_wp2
            go_roundw
            case rel => exact ⟨k + 1, m, by omega, by omega, by go_num, rfl, HM2, HR2, trivial⟩
            case measure => simp [intOf]; omega
      · obtain rfl : k = 256 := by omega
        obtain rfl : bb = true := by rw [← HB.out]; exact right_yes HL.out HR.out
        go_wp2
        go_ret
        exact ⟨rfl, rfl⟩
  · obtain rfl : bb = false := by rw [← HB.out]; exact right_len (by rw [HL.out]; exact hlen)
    have hI : ¬ (n : Int) = 256 := by omega
    go_enter Tryd.func97, Tryd.ntmps97
    go_wp2
    go_ret
    exact ⟨rfl, rfl⟩
end Go.Proofs.YtbmpaokicphdjaaDoor.Al

/- The first bytes of classes, and the bytes of one. -/
namespace Go.Proofs.YtbmpaokicphdjaaDoor.Al
open Go Go.RowKit Go.Proofs.YtbmpaokicphdjaaDoor.Can Go.Proofs.YtbmpaokicphdjaaDoor.Base
attribute [local go_sem] clsB AB.cell

/-- The first bytes of the classes, ahead of c. -/
def fstU {K : Type} [BEq K] [LawfulBEq K] (f : Nat → K) (c : Nat) : List Nat := (List.range c).filter fun j => cls f j == (met f j).length
theorem fstU_succ {K : Type} [BEq K] [LawfulBEq K] (f : Nat → K) (c : Nat) : fstU f (c + 1) = if cls f c = (met f c).length then fstU f c ++ [c] else fstU f c := by
  unfold fstU
  rw [List.range_succ, List.filter_append]
  by_cases h : cls f c = (met f c).length
  · rw [if_pos h]; simp [h]
  · rw [if_neg h]; simp [h]
theorem fm_congr {α β : Type} {f g : α → Option β} {l : List α} (h : ∀ x ∈ l, f x = g x) : l.filterMap f = l.filterMap g := by
  induction l with
  | nil => rfl
  | cons a l ih => rw [List.filterMap_cons, List.filterMap_cons, h a (by simp), ih (fun x hx => h x (List.mem_cons_of_mem _ hx))]
theorem fstU_len {K : Type} [BEq K] [LawfulBEq K] (f : Nat → K) (c : Nat) : (fstU f c).length = (met f c).length := by
  induction c with
  | zero => rfl
  | succ c ih =>
    rw [fstU_succ, met_len_succ]
    split
    · rw [List.length_append, ih]; rfl
    · exact ih
theorem fstU_ge {K : Type} [BEq K] [LawfulBEq K] {f : Nat → K} {k c : Nat} (h : k ≤ c) : (met f k).length ≤ (met f c).length := by
  induction c with
  | zero => obtain rfl : k = 0 := by omega
            exact Nat.le_refl _
  | succ c ih =>
    rcases Nat.lt_or_ge k (c + 1) with h1 | h1
    · rw [met_len_succ]
      have := ih (by omega)
      split <;> omega
    · obtain rfl : k = c + 1 := by omega
      exact Nat.le_refl _
/-- The numbers, as Go has them. -/
def asI (l : List Nat) : List Int := l.map fun (j : Nat) => (j : Int)
/-- The bytes of a class. -/
def bytesU (L : List Int) (k : Int) (c : Nat) : List Nat := (List.range c).filter fun j => L[j]? == some k
theorem bytesU_succ (L : List Int) (k : Int) (c : Nat) : bytesU L k (c + 1) = if L[c]? = some k then bytesU L k c ++ [c] else bytesU L k c := by
  unfold bytesU
  rw [List.range_succ, List.filter_append]
  by_cases h : L[c]? = some k
  · rw [if_pos h]; simp [h]
  · rw [if_neg h]; simp [h]
def fstOf {K : Type} [BEq K] [LawfulBEq K] (f : Nat → K) (c v : Nat) : Option Nat := (List.range c).find? fun j => cls f j == v
theorem fstOf_succ {K : Type} [BEq K] [LawfulBEq K] (f : Nat → K) (c v : Nat) : fstOf f (c + 1) v = (fstOf f c v).or (if cls f c = v then some c else none) := by
  unfold fstOf
  rw [List.range_succ, List.find?_append]
  congr 1
  by_cases h : cls f c = v
  · rw [if_pos h]; simp [h]
  · rw [if_neg h]; simp [h]
theorem fstOf_none {K : Type} [BEq K] [LawfulBEq K] {f : Nat → K} {c v : Nat} (h : (met f c).length ≤ v) : fstOf f c v = none := by
  unfold fstOf
  rw [List.find?_eq_none]
  intro j hj
  have := cls_lt (f := f) (List.mem_range.1 hj)
  simp; omega
theorem fstOf_some {K : Type} [BEq K] [LawfulBEq K] {f : Nat → K} {c v : Nat} (h : v < (met f c).length) : (fstOf f c v).isSome = true := by
  obtain ⟨j, hj, he⟩ := cls_onto h
  unfold fstOf
  rw [List.find?_isSome]
  exact ⟨j, List.mem_range.2 hj, by simp [he]⟩
theorem fsts_len {K : Type} [BEq K] [LawfulBEq K] {f : Nat → K} {c N : Nat} (h : (met f c).length ≤ N) : (List.range N).filterMap (fstOf f c) = (List.range (met f c).length).filterMap (fstOf f c) := by
  induction N with
  | zero => rw [show (met f c).length = 0 by omega]
  | succ N ih =>
    rcases Nat.lt_or_ge N (met f c).length with h1 | h1
    · rw [show (met f c).length = N + 1 by omega]
    · rw [List.range_succ, List.filterMap_append, ih h1]
      simp [fstOf_none h1]
theorem fsts_eq {K : Type} [BEq K] [LawfulBEq K] (f : Nat → K) (c : Nat) : (List.range (met f c).length).filterMap (fstOf f c) = fstU f c := by
  induction c with
  | zero => rfl
  | succ c ih =>
    rw [fstU_succ, met_len_succ]
    have hsame : (List.range (met f c).length).filterMap (fstOf f (c + 1)) = (List.range (met f c).length).filterMap (fstOf f c) := by
      apply fm_congr
      intro v hv
      have h1 := fstOf_some (f := f) (List.mem_range.1 hv)
      rw [fstOf_succ]
      cases h : fstOf f c v with
      | none => rw [h] at h1; cases h1
      | some j => rfl
    split
    · rename_i h
      rw [List.range_succ, List.filterMap_append, hsame, ih]
      congr 1
      simp [fstOf_succ, fstOf_none (Nat.le_refl _), h]
    · rw [hsame, ih]
theorem head_bytes {L : List Int} {c v : Nat} (h : ∀ j, j < c → L[j]? = some (cls (oneF L) j : Int)) : (bytesU L v c).head? = fstOf (oneF L) c v := by
  unfold bytesU fstOf
  rw [List.head?_filter]
  have key : ∀ l : List Nat, (∀ j ∈ l, j < c) → l.find? (fun j => L[j]? == some (v : Int)) = l.find? (fun j => cls (oneF L) j == v) := by
    intro l hl
    induction l with
    | nil => rfl
    | cons a l ih =>
      have h2 : (L[a]? == some (v : Int)) = (cls (oneF L) a == v) := by
        rw [h a (hl a (by simp)), Bool.eq_iff_iff]
        simp
        omega
      rw [List.find?_cons, List.find?_cons, h2, ih (fun j hj => hl j (List.mem_cons_of_mem _ hj))]
  exact key _ (fun j hj => List.mem_range.1 hj)
/-- The classes' first bytes, class for class. -/
def fstV (L : List Int) (N : Nat) : List Nat := (List.range N).filterMap fun (v : Nat) => (bytesU L v 256).head?
theorem fstV_succ (L : List Int) (N : Nat) : fstV L (N + 1) = match (bytesU L N 256).head? with | some j => fstV L N ++ [j] | none => fstV L N := by
  unfold fstV
  rw [List.range_succ, List.filterMap_append]
  cases h : (bytesU L N 256).head? <;> simp [h]
theorem fstV_eq {L : List Int} (h : L = clsL (oneF L) 256) : fstV L 256 = fstU (oneF L) 256 := by
  have h1 : ∀ j, j < 256 → L[j]? = some (cls (oneF L) j : Int) := fun j hj => by
    have := clsL_get (f := oneF L) hj
    rwa [← h] at this
  have h2 : fstV L 256 = (List.range 256).filterMap (fstOf (oneF L) 256) := fm_congr fun v _ => head_bytes h1
  rw [h2, fsts_len (met_len _ _), fsts_eq]
def firstL (L : List Int) : List Int := if rightB L then asI (fstU (oneF L) 256) else []
theorem asI_snoc (l : List Nat) (j : Nat) : asI (l ++ [j]) = asI l ++ [(j : Int)] := by simp [asI]
theorem asI_len (l : List Nat) : (asI l).length = l.length := by simp [asI]
theorem filt_len (p : Nat → Bool) (c : Nat) : ((List.range c).filter p).length ≤ c := Nat.le_trans (List.length_filter_le _ _) (by simp)

/-- min(len, 256) -/
def mn (n : Nat) : Nat := if n < 256 then n else 256
end Go.Proofs.YtbmpaokicphdjaaDoor.Al

/- What First computes. -/
namespace Go.Proofs.YtbmpaokicphdjaaDoor.Al
open Go Go.RowKit Go.Proofs.YtbmpaokicphdjaaDoor.Can Go.Proofs.YtbmpaokicphdjaaDoor.Base
attribute [local go_sem] clsB AB.cell

theorem rightB_iff {L : List Int} : rightB L = true ↔ L = clsL (oneF L) 256 := by unfold rightB; rw [decide_eq_true_eq]
set_option maxRecDepth 20000 in
theorem first_calls (A : Option Addr) (n c : Nat) (L : List Int) (S : Nat → Prop) (w : World) (hS : ∀ k, S k → k < w.heap.size) (hC : Row I w S A n L) :
    Calls Tryd.prog 87 #[.slice A n c] w fun e w' => ∃ A' n' c', e = .returned (.slice A' n' c') ∧ Row I w' (fun k => w.heap.size ≤ k ∧ k < w'.heap.size) A' n' (firstL L) ∧ Below w.heap.size w w' := by
  have hn := hC.le
  have HL := Hd.mk hC.1
  have HC := Hd.mk hC; have HS := Hd.mk hS; clear hC hS
  cases hb : rightB L with
  | false =>
    have HF : Hd (firstL L = []) := ⟨by unfold firstL; rw [hb]; rfl⟩
    have HB := Hd.mk hb; clear hb
    go_enter Tryd.func87, Tryd.ntmps87
    go_wp2_with (go_at_call 97; go_must (refine Calls.mono (right_calls A n c L S w HC.out) ?_; rintro e w1 ⟨he, rfl⟩; rw [HB.out] at he; subst he))
    go_ret
    exact ⟨none, 0, 0, rfl, by rw [HF.out]; exact Row.nil _ _ _ _, Below.refl _ _⟩
  | true =>
    have HF : Hd (firstL L = asI (fstU (oneF L) 256)) := ⟨by unfold firstL; rw [hb]; rfl⟩
    have HE : Hd (L = clsL (oneF L) 256) := ⟨rightB_iff.1 hb⟩
    have hn2 : n = 256 := by rw [← HL.out, HE.out, clsL_len]
    subst hn2
    have HB := Hd.mk hb; clear hb
    go_enter Tryd.func87, Tryd.ntmps87
    go_wp2_with (go_at_call 97; go_must (refine Calls.mono (right_calls A 256 c L S w HC.out) ?_; rintro e w1 ⟨he, rfl⟩; rw [HB.out] at he; subst he))
    go_loopw [3, 12] (fun v i wr => ∃ (k : Nat), k ≤ 256 ∧ i = .int .i64 k ∧ Hd (Mine I wr w1.heap.size 3 v (asI (fstU (oneF L) k))) ∧ Hd (Below w1.heap.size w1 wr)) (fun _ i _ => 256 - (intOf i).toNat)
    case atStart => exact ⟨0, Nat.zero_le _, rfl, ⟨Mine.nil _ _ _ _⟩, ⟨Below.refl _ _⟩⟩
    case round =>
      obtain ⟨k, hk, rfl, HM, HB1⟩ := hrel
      obtain ⟨A2, z, c2, rfl, hz, hc2, hA2, hR2⟩ := HM.out.formN
      rw [asI_len, fstU_len] at hz
      have hlen : z ≤ k := by rw [hz]; exact met_len _ _
      have HZ := Hd.mk hz; have HR2 := Hd.mk hR2; clear hz hR2 hA2
      by_cases hlt : k < 256
      · obtain ⟨b, off, x, rfl, _, hb1, hx, hcell⟩ := (HC.out.below HS.out HB1.out).get_int k hlt
        have hx2 : x = (cls (oneF L) k : Int) := by
          have := clsL_get (f := oneF L) hlt
          rw [← HE.out, hx] at this; exact Option.some.inj this
        have HX := Hd.mk hx2; clear hx hx2
        by_cases hxq : x = z
        · have hJ : (x == (z : Int)) = true := by simpa using hxq
          have HT : Hd (asI (fstU (oneF L) (k + 1)) = asI (fstU (oneF L) k) ++ [(k : Int)]) := ⟨by rw [fstU_succ, if_pos (by have := HX.out; have := HZ.out; omega), asI_snoc]⟩
          go_wp2_with (at_builtin; go_must (refine append_snoc I (Ty.int_flat _) rfl (.tmp 21) (.tmp 23) 24 3 _ 8 rfl Tryd.underlying24 info3 rfl (by decide) (by decide) w1.heap.size (.slice A2 z c2) (asI (fstU (oneF L) k)) (k : Int) [.int .i64 (k : Int)] wr.heap.size rfl rfl (blk_new _ _ _ rfl) rfl (HM.out.below (by repeat (first | (with_reducible assumption) | (with_reducible exact Below.refl _ _) | (with_reducible apply below_drewL) | (with_reducible apply below_alloc) | (with_reducible apply below_drew1) | (with_reducible apply below_drewN) | (refine below_set ?_ (by first | omega | (simp only [size_alloc, size_drew, size_set]; omega)) _ _)))) (HM.out.ne_new (Nat.le_refl _)) (by simp only [size_alloc, size_drew]; have := HB1.out.size; omega) (by rw [asI_len, fstU_len, ← HZ.out]; omega) ?_; intro v2 w2 hM2 hb2 hk2 hat2; replace hb2 := Hd.mk (Below.trans (HB1.out.alloc HB1.out.size _) hb2); have HM2 := Hd.mk hM2; clear hM2 hk2 hat2))
          go_roundw
          case rel => exact ⟨k + 1, by omega, by go_num, ⟨by rw [HT.out]; exact HM2.out⟩, hb2⟩
          case measure => simp [intOf]; omega
        · have hJ : (x == (z : Int)) = false := by simpa using hxq
          have HT : Hd (asI (fstU (oneF L) (k + 1)) = asI (fstU (oneF L) k)) := ⟨by rw [fstU_succ, if_neg (by have := HX.out; have := HZ.out; omega)]⟩
          go_wp2
          go_roundw
          case rel => exact ⟨k + 1, by omega, by go_num, ⟨by rw [HT.out]; exact HM.out⟩, HB1⟩
          case measure => simp [intOf]; omega
      · obtain rfl : k = 256 := by omega
        go_wp2
        go_ret
        exact ⟨A2, z, c2, rfl, by rw [HF.out]; exact HR2.out, HB1.out⟩
end Go.Proofs.YtbmpaokicphdjaaDoor.Al
