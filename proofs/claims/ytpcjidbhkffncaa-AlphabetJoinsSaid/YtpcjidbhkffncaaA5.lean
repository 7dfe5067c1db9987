/- What Of computes. -/
import Derived.Test.YtpcjidbhkffncaaA4
import Derived.Test.YtpcjidbhkffncaaOpens
namespace Go.Proofs.Ytpcjidbhkffncaa.Fn
open Go Go.RowKit Go.Proofs.Ytpcjidbhkffncaa.Can Go.Proofs.Ytpcjidbhkffncaa.Base
attribute [local go_sem] clsB AB.cell

def rE (r : Rg) : List Value := [.int .i64 r.lo, .int .i64 r.hi]
theorem r_len (r : Rg) : (rE r).length = 2 := rfl
def rT : Ty Rg := Ty.flat 2 rE r_len (fun _ u hu => by simp [rE] at hu; rcases hu with rfl | rfl <;> rfl)
theorem rg_get {w : World} {S : Nat → Prop} {A : Option Addr} {n : Nat} {l : List Rg} (h : Row rT w S A n l) (k : Nat) (hk : k < n) :
    ∃ b off r, A = some ⟨b, off, none⟩ ∧ b < w.heap.size ∧ l[k]? = some r ∧ w.cell? ⟨b, off + k * 2, none⟩ = some (.int .i64 r.lo) ∧ w.cell? ⟨b, off + k * 2 + 1, none⟩ = some (.int .i64 r.hi) := by
  obtain ⟨b, off, cs, he, hs, hr, hcell⟩ := h.get k hk
  have hr' : cs = rE _ := hr
  subst hr'
  have h0 := hcell 0 _ rfl
  exact ⟨b, off, _, he, World.block_lt_of_cell? w _ h0, List.getElem?_eq_getElem _, h0, hcell 1 _ rfl⟩
theorem wf_small {x : Int} (h : 0 ≤ x ∧ x ≤ 1000) : (Lit.int .i64 x).wf = true := WalkArith.wf_i64 (by omega)
theorem clsL_wf {K : Type} [BEq K] [LawfulBEq K] (f : Nat → K) : ∀ x ∈ clsL f 256, (Lit.int .i64 x).wf = true := by
  intro x hx
  simp only [clsL, List.mem_map, List.mem_range] at hx
  obtain ⟨c, hc, rfl⟩ := hx
  have h1 := cls_le f c
  have h2 := met_len f c
  exact wf_small (by omega)
theorem inL_wf (r : Rg) : ∀ x ∈ inL r, (Lit.int .i64 x).wf = true := by
  intro x hx
  simp only [inL, List.mem_map] at hx
  obtain ⟨c, hc, rfl⟩ := hx
  split <;> rfl
def inU (r : Rg) (c : Nat) : List Int := ((List.range c).map fun (c : Nat) => if inR r (c : Int) then 1 else 0) ++ List.replicate (256 - c) 0
theorem inU_get (r : Rg) {c : Nat} (h : c < 256) : (inU r c)[c]? = some 0 := by
  unfold inU
  rw [List.getElem?_append_right (by simp), List.length_map, List.length_range, Nat.sub_self, List.getElem?_replicate, if_pos (by omega)]
theorem inU_yes (r : Rg) {c : Nat} (h : c < 256) (hr : inR r (c : Int) = true) : (inU r c).set c 1 = inU r (c + 1) := by
  unfold inU
  rw [List.set_append_right _ _ (by simp), List.length_map, List.length_range, Nat.sub_self, show 256 - c = (256 - (c + 1)) + 1 by omega, List.replicate_succ, List.set_cons_zero, List.range_succ, List.map_append, List.append_assoc]
  simp [hr]
theorem inU_no (r : Rg) {c : Nat} (h : c < 256) (hr : inR r (c : Int) = false) : inU r c = inU r (c + 1) := by
  unfold inU
  rw [show 256 - c = (256 - (c + 1)) + 1 by omega, List.replicate_succ, List.range_succ, List.map_append, List.append_assoc]
  simp [hr]
theorem inU_full (r : Rg) : inU r 256 = inL r := by unfold inU inL; simp
set_option maxHeartbeats 2000000 in
set_option maxRecDepth 20000 in
theorem aof_calls (A : Option Addr) (n c : Nat) (L : List Rg) (S : Nat → Prop) (w : World) (hS : ∀ k, S k → k < w.heap.size) (hC : Row rT w S A n L) :
    Calls Try.prog 7 #[.slice A n c] w fun e w' => ∃ g, e = .returned (.tuple #[.slice (some ⟨g, 0, none⟩) 256 256, .int .i64 ((met (keyF L) 256).length : Nat)]) ∧ w.heap.size ≤ g ∧ Blk iE w' 3 g (clsL (keyF L) 256) ∧ Below w.heap.size w w' := by
  obtain ⟨i0, hi, hz, hs, hbb⟩ := info_of info3
  have hn := hC.le
  have hl := hC.1
  have HS := Hd.mk hS; have HC := Hd.mk hC; have HI := Hd.mk (And.intro hi (And.intro hz (And.intro hs hbb))); have HL := Hd.mk hl
  clear hS hC hi hz hs hbb hl
  go_enter Try.func7, Try.ntmps7
  go_wp2_with (at_make; go_must (refine wpList_make_full _ rfl (.const (.int .i64 256)) (.const (.int .i64 256)) 24 rfl w.heap.size 3 i0 (.int .i64 0) 1 Try.underlying24 HI.out.1 HI.out.2.1 HI.out.2.2.1 .i64 .i64 256 256 256 rfl rfl rfl rfl (by rw [HI.out.2.2.2]; omega) (by simp only [maxLen]; omega) (Nat.le_refl _) ?_; intro w1 ho1 hg1))
  have hz1 := hg1.size
  have hg0 := Blk.made (enc := iE) (x := 0) i_len (by decide) rfl ho1
  have hlt1 := hg0.lt
  rw [← keys_nil.1] at hg0
  have HN : Hd ((1 : Int) = ((met (keyF (L.take 0)) 256).length : Nat)) := ⟨by rw [List.take_zero, keys_nil.2]; rfl⟩
  have HG := Hd.mk hg0
  have HB1 : Hd (Below w.heap.size w w1) := ⟨(Below.refl _ _).grown hg1 (Nat.le_refl _) (fun k hk => by cases hk)⟩
  clear ho1 hg1 hz1 hg0 hlt1
  go_loopw [4, 5, 13] (fun v m i wr => ∃ k g : Nat, k ≤ n ∧ i = .int .i64 k ∧ m = .int .i64 ((met (keyF (L.take k)) 256).length : Nat) ∧ v = .slice (some ⟨g, 0, none⟩) 256 256 ∧ w.heap.size ≤ g ∧ Hd (Blk iE wr 3 g (clsL (keyF (L.take k)) 256)) ∧ Hd (Below w.heap.size w wr)) (fun _ _ i _ => n - (intOf i).toNat)
  case atStart => exact ⟨0, w.heap.size, Nat.zero_le _, rfl, by rw [← HN.out], rfl, Nat.le_refl _, HG, HB1⟩
  case round =>
    clear HG HN HB1
    obtain ⟨k, g, hk, rfl, rfl, rfl, hg, HG, HB⟩ := hrel
    by_cases hlt : k < n
    · obtain ⟨b, off, r, rfl, hb1, hx, hc0, hc1⟩ := rg_get (HC.out.below HS.out HB.out) k hlt
      have HX := Hd.mk hx; clear hx
      go_wp2_with (at_make; go_must (refine wpList_make_full _ rfl (.const (.int .i64 256)) (.const (.int .i64 256)) 24 rfl wr.heap.size 3 i0 (.int .i64 0) 1 Try.underlying24 HI.out.1 HI.out.2.1 HI.out.2.2.1 .i64 .i64 256 256 256 rfl rfl rfl rfl (by rw [HI.out.2.2.2]; omega) (by simp only [maxLen]; omega) (by simp only [size_alloc]; omega) ?_; intro w3 ho3 hg3))
      have hz3 := hg3.size
      simp only [size_alloc] at hz3
      have hg0 := Blk.made (enc := iE) (x := 0) i_len (by decide) rfl ho3
      simp only [size_alloc] at hg0
      have hb3 : Below (wr.heap.size + 1) (wr.alloc (.cells #[.int .i64 r.lo, .int .i64 r.hi] 39)) w3 := (Below.refl _ _).grown hg3 (by simp only [size_alloc]; omega) (fun k hk => by cases hk)
      have HR3 := Hd.mk ((hb3.block _ (by omega)).trans (blk_new _ _ _ rfl))
      have HG3 : Hd (Blk iE w3 3 (wr.heap.size + 1) (inU r 0)) := ⟨hg0⟩
      have hb4 : Below wr.heap.size wr w3 := Below.trans (below_alloc (Below.refl _ _) _) (hb3.mono (by omega))
      have HB3 : Hd (Below w.heap.size w w3) := ⟨below_seq HB.out hb4⟩
      have HG5 : Hd (Blk iE w3 3 g (clsL (keyF (L.take k)) 256)) := ⟨HG.out.below hb4⟩
      have hgN := HG.out.lt
      have hwN := HB.out.size
      clear ho3 hg3 hg0 hb3 hz3 hb4 HG HB hb1 hc0 hc1
      generalize wr.heap.size = N at *
      go_loopw [18] (fun j wx => ∃ q : Nat, q ≤ 256 ∧ j = .int .i64 q ∧ Hd (Blk iE wx 3 (N + 1) (inU r q)) ∧ Hd (wx.heap[N]? = some (.cells #[.int .i64 r.lo, .int .i64 r.hi] 39 (0, 0))) ∧ Hd (Blk iE wx 3 g (clsL (keyF (L.take k)) 256)) ∧ Hd (Below w.heap.size w wx)) (fun j _ => 256 - (intOf j).toNat)
      case atStart => exact ⟨0, Nat.zero_le _, rfl, HG3, HR3, HG5, HB3⟩
      case round =>
        clear HG3 HR3 HB3 HG5
        obtain ⟨q, hq, rfl, HG3, HR3, HG5, HB3⟩ := hrel
        have hr3 := HR3.out
        have hr3c0 := blk_cell hr3 0 _ rfl; have hr3f0 := blk_frozen hr3 0; have hr3c1 := blk_cell hr3 1 _ rfl; have hr3f1 := blk_frozen hr3 1; have hr3l := blk_lt hr3
        have hc3 := HG3.out.lt
        clear hr3
        by_cases hqlt : q < 256
        · by_cases hlo : r.lo ≤ q
          · by_cases hhi : (q : Int) ≤ r.hi
            · have HY : Hd (inR r (q : Int) = true) := ⟨by unfold inR; simp [hlo, hhi]⟩
              have hcc := HG3.out.cell0 i_len (inU_get r hqlt) rfl
              have hcf := HG3.out.frozen q
              rw [Nat.mul_one] at hcc
              go_wp2
              go_roundw
              case rel => exact ⟨q + 1, by omega, by go_num, ⟨by have := HG3.out.set0 i_len (y := 1) (inU_get r hqlt) (by decide) rfl; rw [Nat.mul_one, inU_yes r hqlt HY.out] at this; exact this⟩, ⟨blk_far HR3.out (by show ¬ N = N + 1; omega) _⟩, ⟨HG5.out.far (p := ⟨N + 1, q, none⟩) (by show ¬ g = N + 1; omega) _⟩, ⟨below_set HB3.out (by omega) _ _⟩⟩
              case measure => simp [intOf]; omega
            · have HY : Hd (inR r (q : Int) = false) := ⟨by unfold inR; simp [hhi]⟩
              go_wp2
              go_roundw
              case rel => exact ⟨q + 1, by omega, by go_num, ⟨by rw [← inU_no r hqlt HY.out]; exact HG3.out⟩, HR3, HG5, HB3⟩
              case measure => simp [intOf]; omega
          · have HY : Hd (inR r (q : Int) = false) := ⟨by unfold inR; simp [hlo]⟩
            go_wp2
            go_roundw
            case rel => exact ⟨q + 1, by omega, by go_num, ⟨by rw [← inU_no r hqlt HY.out]; exact HG3.out⟩, HR3, HG5, HB3⟩
            case measure => simp [intOf]; omega
        · obtain rfl : q = 256 := by omega
          have HG4 : Hd (Blk iE wr 3 (N + 1) (inL r)) := ⟨by rw [← inU_full r]; exact HG3.out⟩
          have HST := Hd.mk (keys_step (L.take k) r)
          have HTK : Hd (L.take (k + 1) = L.take k ++ [r]) := ⟨by rw [List.take_add_one, HX.out]; rfl⟩
          go_wp2_with (go_at_call 12; go_must (refine Calls.mono (join_calls (some ⟨g, 0, none⟩) (some ⟨N + 1, 0, none⟩) 256 256 256 256 _ _ (fun b => b = g) (fun b => b = N + 1) wr (by rintro _ rfl; exact HG5.out.lt) (by rintro _ rfl; exact HG4.out.lt) (by have := blk_rowI HG5.out (S := fun b => b = g) rfl (by rw [clsL_len]; omega); rwa [clsL_len] at this) (by have := blk_rowI HG4.out (S := fun b => b = N + 1) rfl (by simp [inL]); simpa [inL] using this) (clsL_wf _) (inL_wf r)) ?_; rintro e w5 ⟨g5, rfl, hg5, hG5, hb5⟩; rw [HST.out.1] at hG5; rw [HST.out.2]; have HG6 := Hd.mk hG5; have HB6 := Hd.mk (below_seq HB3.out hb5); clear hG5 hb5))
          go_roundw
          case rel => exact ⟨k + 1, g5, by omega, by go_num, by rw [HTK.out], rfl, by omega, by rw [HTK.out]; exact HG6, HB6⟩
          case measure => simp [intOf]; omega
    · obtain rfl : k = n := by omega
      have HT : Hd (L.take k = L) := ⟨by rw [← HL.out, List.take_length]⟩
      go_wp2
      go_ret2
      have HGG := HG.out
      rw [HT.out] at HGG ⊢
      exact ⟨g, rfl, hg, HGG, HB.out⟩
end Go.Proofs.Ytpcjidbhkffncaa.Fn
