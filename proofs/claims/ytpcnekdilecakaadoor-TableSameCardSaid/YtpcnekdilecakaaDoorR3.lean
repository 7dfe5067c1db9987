/- Bytes that are read: an act, a number that is less by one; many of them. -/
import Derived.Test.YtpcnekdilecakaaDoorR2
set_option linter.unusedVariables false
set_option linter.unusedSimpArgs false
namespace Go.Proofs.YtpcnekdilecakaaDoor.Tb
open Go Go.RowKit Go.Proofs.YtpcnekdilecakaaDoor.Can Go.Proofs.YtpcnekdilecakaaDoor.Base
attribute [local go_sem] clsB AB.cell

set_option maxRecDepth 20000 in
theorem rdact_calls (w : World) (S : Nat → Prop) (p : Nat) (r : Rd) (hR : Rs w S p r) :
    Calls Tryd.prog 37 #[.pointer (some ⟨p, 0, none⟩)] w fun e w' => e = .returned (.agg #[.string (actF r).1.1, .int .i64 (actF r).1.2]) ∧ Rs w' S p (actF r).2 ∧ Fp p w w' := by
  have hpl := hR.lt
  have HR := Hd.mk hR
  generalize ht : textF r = t
  have HT := Hd.mk ht
  generalize ho : oneF t.2 = o
  have HO := Hd.mk ho
  have hol : o.1 < 256 := by rw [← ho]; exact one_lt _
  clear hR ht ho
  go_enter Tryd.func37, Tryd.ntmps37
  go_upto_region 1 with fail
  generalize hU : World.alloc w _ = U
  have hq : U.heap[w.heap.size]? = some (.cells #[.string ⟨#[]⟩, .int .i64 0] 42 (0, 0)) := by rw [← hU]; exact blk_new _ _ _ rfl
  have hBU : Below w.heap.size w U := by rw [← hU]; exact below_alloc (Below.refl _ _) _
  have HRU := Hd.mk (HR.out.below hBU)
  have HFU : Hd (Fp p w U) := ⟨Fr.of_below hBU⟩
  have HNE : Hd (w.heap.size ≠ p) := ⟨by omega⟩
  clear hU hBU
  go_wp2_with (first
    | (go_at_call 35; go_must (refine Calls.mono (rdtext_calls U S p r HRU.out) ?_; rintro e w1 ⟨rfl, hR1, hf⟩; have HR1 : Hd (Rs w1 S p t.2) := ⟨by rw [← HT.out]; exact hR1⟩; have HF1 := Hd.mk hf; have hq1 := hf.blk hq HNE.out; clear hR1 hf))
    | (go_at_call 34; go_must (refine Calls.mono (rdone_calls w1 S p t.2 HR1.out) ?_; rintro e w2 ⟨rfl, hR2, hf⟩; have HR2 : Hd (Rs w2 S p o.2) := ⟨by rw [← HO.out]; exact hR2⟩; have HF2 := Hd.mk (HF1.out.trans hf); have hq2 := hf.blk hq1 HNE.out; have hq2c0 := blk_cell hq2 0 _ rfl; have hq2f0 := blk_frozen hq2 0; have hq2c1 := blk_cell hq2 1 _ rfl; have hq2f1 := blk_frozen hq2 1; have hq2l := blk_lt hq2; rw [HO.out]; clear hR2 hf)))
  refine bodyPost_ret (results_cell_row rfl _ _ w.heap.size 42 #[.string t.1, .int .i64 ((o.1 : Int) - 1)] (0, 0) _ rfl (blk_set (blk_set hq2 0 _ _ rfl) 1 _ _ (by rw [← HT.out]; rfl)) Tryd.underlying42 rfl (by kernel_rfl)) rfl ?_
  refine ⟨?_, ?_, ?_⟩
  · unfold actF
    rw [HT.out, HO.out]
  · unfold actF
    rw [HT.out, HO.out]
    exact HR2.out.fr (((Fr.refl (fun b => b = w.heap.size) _).set (.inl rfl) 0 _).set (.inl rfl) 1 _) (fun b hb e => by rcases hb with rfl | hb; exact HNE.out e.symm; have := (HR.out.ne b hb).2; omega)
  · exact ((HFU.out.trans HF2.out).set (.inr (Nat.le_refl _)) 0 _).set (.inr (Nat.le_refl _)) 1 _
set_option maxRecDepth 20000 in
theorem rdless_calls (w : World) (S : Nat → Prop) (p g : Nat) (r : Rd) (hR : Rs w S p r) (hg : w.heap[g]? = some (.cells #[.pointer (some ⟨p, 0, none⟩)] 62 (0, 0))) :
    Calls Tryd.prog 64 #[.pointer (some ⟨g, 0, none⟩)] w fun e w' => e = .returned (.int .i64 (lessF r).1) ∧ Rs w' S p (lessF r).2 ∧ Fp p w w' := by
  have HJ := Hd.mk (rdtwo_calls w S p r hR)
  have htl := two_lt r
  generalize ht : twoF r = t at HJ htl
  have HT := Hd.mk ht
  clear hR ht
  have hgc0 := blk_cell hg 0 _ rfl; have hgf0 := blk_frozen hg 0; have hgl := blk_lt hg
  go_enter Tryd.func64, Tryd.ntmps64
  go_wp2_with (go_at_call 63; go_must (refine Calls.mono HJ.out ?_; rintro e w1 ⟨rfl, hR1, hf⟩; have HR1 := Hd.mk hR1; have HF := Hd.mk hf; clear hR1 hf))
  go_ret
  exact ⟨by unfold lessF; rw [HT.out]; rfl, by unfold lessF; rw [HT.out]; exact HR1.out, HF.out⟩
/-- As a loop reads them. -/
theorem many_step {α : Type} {f : Rd → α × Rd} {n : Nat} {r r' : Rd} {ys : List α} {k : Nat} (h : (ys ++ (manyF f (n - k) r').1, (manyF f (n - k) r').2) = manyF f n r) (hk : k < n) (hs : r'.2 = false) :
    ((ys ++ [(f r').1]) ++ (manyF f (n - (k + 1)) (f r').2).1, (manyF f (n - (k + 1)) (f r').2).2) = manyF f n r := by
  rw [show n - k = (n - (k + 1)) + 1 by omega, many_go f _ hs] at h
  rw [← h]
  simp
theorem many_end {α : Type} {f : Rd → α × Rd} {n : Nat} {r r' : Rd} {ys : List α} {k : Nat} (h : (ys ++ (manyF f (n - k) r').1, (manyF f (n - k) r').2) = manyF f n r) (hs : k = n ∨ r'.2 = true) :
    manyF f n r = (ys, r') := by
  rcases hs with rfl | hs
  · rw [Nat.sub_self] at h
    rw [← h]
    show (ys ++ [], r') = _
    rw [List.append_nil]
  · rw [many_stop f _ hs] at h
    rw [← h, List.append_nil]
theorem fr_base {X : Nat → Prop} {w w1 w2 : World} (h : Fr X w w1) (hb : Below w.heap.size w1 w2) : Fr X w w2 :=
  ⟨h.zero.trans (hb.mono (Nat.zero_le _)), fun b hl hx => (hb.block b hl).trans (h.same b hl hx)⟩
theorem fp_base {p : Nat} {w w1 U w2 : World} (h : Fp p w w1) (hU : Below w1.heap.size w1 U) (hb : Below w.heap.size U w2) : Fp p w w2 :=
  fr_base (h.trans (Fr.of_below hU)) hb
theorem Rs.base {w w' : World} {S : Nat → Prop} {p n : Nat} {r : Rd} (h : Rs w S p r) (hp : p < n) (hS : ∀ k, S k → k < n) (hb : Below n w w') : Rs w' S p r :=
  h.fr (X := fun b => n ≤ b) ⟨hb.mono (Nat.zero_le _), fun b _ hx => hb.block b (by omega)⟩ (fun b e => by rcases e with rfl | e; omega; have := hS b e; omega)
end Go.Proofs.YtpcnekdilecakaaDoor.Tb
