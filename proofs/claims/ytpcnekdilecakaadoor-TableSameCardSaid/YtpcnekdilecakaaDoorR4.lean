/- Many that are read: numbers, names, acts. -/
import Derived.Test.YtpcnekdilecakaaDoorR3
set_option linter.unusedVariables false
set_option linter.unusedSimpArgs false
namespace Go.Proofs.YtpcnekdilecakaaDoor.Tb
open Go Go.RowKit Go.Proofs.YtpcnekdilecakaaDoor.Can Go.Proofs.YtpcnekdilecakaaDoor.Base
attribute [local go_sem] clsB AB.cell

theorem aT_flat : aT.Flat := fun w w' S S' x cs h => by
  obtain ⟨c0, c1, e, h0, h1⟩ := h
  exact ⟨c0, c1, e, h0, h1⟩
theorem infoI : (Tryd.prog.info? 3).map (fun i => (i.zero, i.size, i.bytes)) = some (some (.int .i64 0), 1, 8) := by kernel_rfl
theorem infoS : (Tryd.prog.info? 9).map (fun i => (i.zero, i.size, i.bytes)) = some (some (.string ⟨#[]⟩), 1, 16) := by kernel_rfl
theorem infoA : (Tryd.prog.info? 42).map (fun i => (i.zero, i.size, i.bytes)) = some (some (.agg #[.string ⟨#[]⟩, .int .i64 0]), 2, 24) := by kernel_rfl
set_option maxRecDepth 20000 in
set_option maxHeartbeats 4000000 in
theorem manyI_calls (w : World) (S : Nat → Prop) (p g n : Nat) (r : Rd) (hR : Rs w S p r) (hn : n ≤ 65535) (hg : w.heap[g]? = some (.cells #[.pointer (some ⟨p, 0, none⟩)] 62 (0, 0)) ∧ g ≠ p) :
    Calls Tryd.prog 65 #[.pointer (some ⟨p, 0, none⟩), .int .i64 n, .func (.func 64) #[] #[.pointer (some ⟨g, 0, none⟩)]] w fun e w' => ∃ v, e = .returned v ∧ Mine I w' w.heap.size 3 v (manyF lessF n r).1 ∧ Rs w' S p (manyF lessF n r).2 ∧ Fp p w w' := by
  have hpl := hR.lt
  have HR := Hd.mk hR
  have HGG := Hd.mk hg
  clear hR hg
  have HML : Hd (∀ k r', (manyF lessF k r').1.length ≤ k) := ⟨fun k r' => many_len _ k r'⟩
  go_enter Tryd.func65, Tryd.ntmps65
  go_wp2
  go_loopw [7, 8] (fun v i wr => ∃ (k : Nat) (r' : Rd) (ys : List _), k ≤ n ∧ i = .int .i64 k ∧ Hd (ys.length = k) ∧ Hd (Mine I wr w.heap.size 3 v ys) ∧ Hd (Rs wr S p r') ∧ Hd ((ys ++ (manyF lessF (n - k) r').1, (manyF lessF (n - k) r').2) = manyF lessF n r) ∧ Hd (Fp p w wr)) (fun v i _ => n - (intOf i).toNat)
  case atStart => exact ⟨0, r, [], Nat.zero_le _, rfl, ⟨rfl⟩, ⟨Mine.nil _ _ _ _⟩, HR, ⟨rfl⟩, ⟨Fr.refl _ _⟩⟩
  case round =>
    obtain ⟨k, r', ys, hk, rfl, HYL, HM, HRR, HE, HF⟩ := hrel
    obtain ⟨Ap, np, cp, hx, -, -⟩ := HRR.out.obj
    have hzr := HF.out.size
    by_cases hlt : k < n
    · cases hs : r'.2 with
      | true =>
        rw [hs] at hx
        have HEND := Hd.mk (many_end HE.out (.inr hs))
        clear hs
        have hxc0 := blk_cell hx 0 _ rfl; have hxf0 := blk_frozen hx 0; have hxc1 := blk_cell hx 1 _ rfl; have hxf1 := blk_frozen hx 1; have hxl := blk_lt hx
        go_wp2
        go_ret
        exact ⟨_, rfl, by rw [HEND.out]; exact HM.out, by rw [HEND.out]; exact HRR.out, HF.out⟩
      | false =>
        rw [hs] at hx
        have HST := Hd.mk (many_step HE.out hlt hs)
        have HJ := Hd.mk (rdless_calls wr S p g r' HRR.out (HF.out.blk HGG.out.1 HGG.out.2))
        obtain ⟨x, hxx⟩ : ∃ x, lessF r' = x := ⟨_, rfl⟩
        rw [hxx] at HST HJ
        clear hs hxx
        have hxc0 := blk_cell hx 0 _ rfl; have hxf0 := blk_frozen hx 0; have hxc1 := blk_cell hx 1 _ rfl; have hxf1 := blk_frozen hx 1; have hxl := blk_lt hx
        go_wp2_with (first
          | (go_at_call 64; go_must (refine Calls.mono HJ.out ?_; rintro e w1 ⟨rfl, hR1, hf⟩; have HR1 := Hd.mk hR1; have HF1 := Hd.mk (HF.out.trans hf); have HM1 : Hd (Mine I w1 w.heap.size 3 _ ys) := ⟨HM.out.mv (fun q hq => hf.same q (HM.out.lt hq).1 (by have := (HM.out.lt hq).2; omega)) hf.size⟩; have hz1 := hf.size; clear hR1 hf; clear hxc0 hxf0 hxc1 hxf1 hxl))
          | (have hq_ := HM1; clear hq_; at_builtin; go_must (refine append_snoc I (Ty.int_flat _) rfl (.tmp 21) (.tmp 24) 44 3 (.int .i64 0) 8 rfl (by exact Tryd.underlying44) infoI rfl (by decide) (by decide) w.heap.size _ ys x.1 [.int .i64 x.1] w1.heap.size rfl rfl (blk_new _ _ _ rfl) (rfl) (HM1.out.below (below_alloc (Below.refl _ _) _)) (HM1.out.ne_new (Nat.le_refl _)) (by rw [size_alloc]; omega) (by rw [HYL.out]; omega) ?_; intro v2 w2 hM hb hk2 hat; have HM2 := Hd.mk hM; have HR2 : Hd (Rs w2 S p x.2) := ⟨Rs.base (HR1.out.below (below_alloc (Below.refl _ _) _)) hpl (fun q hq => (HR.out.ne q hq).2) hb⟩; have HF2 : Hd (Fp p w w2) := ⟨fp_base HF1.out (below_alloc (Below.refl _ _) _) hb⟩; clear hM hb hk2 hat)))
        go_roundw
        case rel => exact ⟨k + 1, x.2, ys ++ [x.1], by omega, by go_num, ⟨by rw [List.length_append, HYL.out]; rfl⟩, HM2, HR2, HST, HF2⟩
        case measure => simp [intOf]; omega
    · obtain rfl : k = n := by omega
      have HEND := Hd.mk (many_end HE.out (.inl rfl))
      go_wp2
      go_ret
      exact ⟨_, rfl, by rw [HEND.out]; exact HM.out, by rw [HEND.out]; exact HRR.out, HF.out⟩
set_option maxRecDepth 20000 in
set_option maxHeartbeats 4000000 in
theorem manyS_calls (w : World) (S : Nat → Prop) (p g n : Nat) (r : Rd) (hR : Rs w S p r) (hn : n ≤ 65535) (hg : g = g) :
    Calls Tryd.prog 33 #[.pointer (some ⟨p, 0, none⟩), .int .i64 n, .func (.func 35) #[.pointer (some ⟨p, 0, none⟩)] #[]] w fun e w' => ∃ v, e = .returned v ∧ Mine Ty.str w' w.heap.size 9 v (manyF textF n r).1 ∧ Rs w' S p (manyF textF n r).2 ∧ Fp p w w' := by
  have hpl := hR.lt
  have HR := Hd.mk hR
  have HGG := Hd.mk hg
  clear hR hg
  have HML : Hd (∀ k r', (manyF textF k r').1.length ≤ k) := ⟨fun k r' => many_len _ k r'⟩
  go_enter Tryd.func33, Tryd.ntmps33
  go_wp2
  go_loopw [7, 8] (fun v i wr => ∃ (k : Nat) (r' : Rd) (ys : List _), k ≤ n ∧ i = .int .i64 k ∧ Hd (ys.length = k) ∧ Hd (Mine Ty.str wr w.heap.size 9 v ys) ∧ Hd (Rs wr S p r') ∧ Hd ((ys ++ (manyF textF (n - k) r').1, (manyF textF (n - k) r').2) = manyF textF n r) ∧ Hd (Fp p w wr)) (fun v i _ => n - (intOf i).toNat)
  case atStart => exact ⟨0, r, [], Nat.zero_le _, rfl, ⟨rfl⟩, ⟨Mine.nil _ _ _ _⟩, HR, ⟨rfl⟩, ⟨Fr.refl _ _⟩⟩
  case round =>
    obtain ⟨k, r', ys, hk, rfl, HYL, HM, HRR, HE, HF⟩ := hrel
    obtain ⟨Ap, np, cp, hx, -, -⟩ := HRR.out.obj
    have hzr := HF.out.size
    by_cases hlt : k < n
    · cases hs : r'.2 with
      | true =>
        rw [hs] at hx
        have HEND := Hd.mk (many_end HE.out (.inr hs))
        clear hs
        have hxc0 := blk_cell hx 0 _ rfl; have hxf0 := blk_frozen hx 0; have hxc1 := blk_cell hx 1 _ rfl; have hxf1 := blk_frozen hx 1; have hxl := blk_lt hx
        go_wp2
        go_ret
        exact ⟨_, rfl, by rw [HEND.out]; exact HM.out, by rw [HEND.out]; exact HRR.out, HF.out⟩
      | false =>
        rw [hs] at hx
        have HST := Hd.mk (many_step HE.out hlt hs)
        have HJ := Hd.mk (rdtext_calls wr S p r' HRR.out)
        obtain ⟨x, hxx⟩ : ∃ x, textF r' = x := ⟨_, rfl⟩
        rw [hxx] at HST HJ
        clear hs hxx
        have hxc0 := blk_cell hx 0 _ rfl; have hxf0 := blk_frozen hx 0; have hxc1 := blk_cell hx 1 _ rfl; have hxf1 := blk_frozen hx 1; have hxl := blk_lt hx
        go_wp2_with (first
          | (go_at_call 35; go_must (refine Calls.mono HJ.out ?_; rintro e w1 ⟨rfl, hR1, hf⟩; have HR1 := Hd.mk hR1; have HF1 := Hd.mk (HF.out.trans hf); have HM1 : Hd (Mine Ty.str w1 w.heap.size 9 _ ys) := ⟨HM.out.mv (fun q hq => hf.same q (HM.out.lt hq).1 (by have := (HM.out.lt hq).2; omega)) hf.size⟩; have hz1 := hf.size; clear hR1 hf; clear hxc0 hxf0 hxc1 hxf1 hxl))
          | (have hq_ := HM1; clear hq_; at_builtin; go_must (refine append_snoc Ty.str Ty.str_flat rfl (.tmp 21) (.tmp 24) 22 9 (.string ⟨#[]⟩) 16 rfl (by exact Tryd.underlying22) infoS rfl (by decide) (by decide) w.heap.size _ ys x.1 [.string x.1] w1.heap.size rfl rfl (blk_new _ _ _ rfl) (rfl) (HM1.out.below (below_alloc (Below.refl _ _) _)) (HM1.out.ne_new (Nat.le_refl _)) (by rw [size_alloc]; omega) (by rw [HYL.out]; omega) ?_; intro v2 w2 hM hb hk2 hat; have HM2 := Hd.mk hM; have HR2 : Hd (Rs w2 S p x.2) := ⟨Rs.base (HR1.out.below (below_alloc (Below.refl _ _) _)) hpl (fun q hq => (HR.out.ne q hq).2) hb⟩; have HF2 : Hd (Fp p w w2) := ⟨fp_base HF1.out (below_alloc (Below.refl _ _) _) hb⟩; clear hM hb hk2 hat)))
        go_roundw
        case rel => exact ⟨k + 1, x.2, ys ++ [x.1], by omega, by go_num, ⟨by rw [List.length_append, HYL.out]; rfl⟩, HM2, HR2, HST, HF2⟩
        case measure => simp [intOf]; omega
    · obtain rfl : k = n := by omega
      have HEND := Hd.mk (many_end HE.out (.inl rfl))
      go_wp2
      go_ret
      exact ⟨_, rfl, by rw [HEND.out]; exact HM.out, by rw [HEND.out]; exact HRR.out, HF.out⟩
set_option maxRecDepth 20000 in
set_option maxHeartbeats 4000000 in
theorem manyA_calls (w : World) (S : Nat → Prop) (p g n : Nat) (r : Rd) (hR : Rs w S p r) (hn : n ≤ 65535) (hg : g = g) :
    Calls Tryd.prog 36 #[.pointer (some ⟨p, 0, none⟩), .int .i64 n, .func (.func 37) #[.pointer (some ⟨p, 0, none⟩)] #[]] w fun e w' => ∃ v, e = .returned v ∧ Mine aT w' w.heap.size 42 v (manyF actF n r).1 ∧ Rs w' S p (manyF actF n r).2 ∧ Fp p w w' := by
  have hpl := hR.lt
  have HR := Hd.mk hR
  have HGG := Hd.mk hg
  clear hR hg
  have HML : Hd (∀ k r', (manyF actF k r').1.length ≤ k) := ⟨fun k r' => many_len _ k r'⟩
  go_enter Tryd.func36, Tryd.ntmps36
  go_wp2
  go_loopw [7, 8] (fun v i wr => ∃ (k : Nat) (r' : Rd) (ys : List _), k ≤ n ∧ i = .int .i64 k ∧ Hd (ys.length = k) ∧ Hd (Mine aT wr w.heap.size 42 v ys) ∧ Hd (Rs wr S p r') ∧ Hd ((ys ++ (manyF actF (n - k) r').1, (manyF actF (n - k) r').2) = manyF actF n r) ∧ Hd (Fp p w wr)) (fun v i _ => n - (intOf i).toNat)
  case atStart => exact ⟨0, r, [], Nat.zero_le _, rfl, ⟨rfl⟩, ⟨Mine.nil _ _ _ _⟩, HR, ⟨rfl⟩, ⟨Fr.refl _ _⟩⟩
  case round =>
    obtain ⟨k, r', ys, hk, rfl, HYL, HM, HRR, HE, HF⟩ := hrel
    obtain ⟨Ap, np, cp, hx, -, -⟩ := HRR.out.obj
    have hzr := HF.out.size
    by_cases hlt : k < n
    · cases hs : r'.2 with
      | true =>
        rw [hs] at hx
        have HEND := Hd.mk (many_end HE.out (.inr hs))
        clear hs
        have hxc0 := blk_cell hx 0 _ rfl; have hxf0 := blk_frozen hx 0; have hxc1 := blk_cell hx 1 _ rfl; have hxf1 := blk_frozen hx 1; have hxl := blk_lt hx
        go_wp2
        go_ret
        exact ⟨_, rfl, by rw [HEND.out]; exact HM.out, by rw [HEND.out]; exact HRR.out, HF.out⟩
      | false =>
        rw [hs] at hx
        have HST := Hd.mk (many_step HE.out hlt hs)
        have HJ := Hd.mk (rdact_calls wr S p r' HRR.out)
        obtain ⟨x, hxx⟩ : ∃ x, actF r' = x := ⟨_, rfl⟩
        rw [hxx] at HST HJ
        clear hs hxx
        have hxc0 := blk_cell hx 0 _ rfl; have hxf0 := blk_frozen hx 0; have hxc1 := blk_cell hx 1 _ rfl; have hxf1 := blk_frozen hx 1; have hxl := blk_lt hx
        go_wp2_with (first
          | (go_at_call 37; go_must (refine Calls.mono HJ.out ?_; rintro e w1 ⟨rfl, hR1, hf⟩; have HR1 := Hd.mk hR1; have HF1 := Hd.mk (HF.out.trans hf); have HM1 : Hd (Mine aT w1 w.heap.size 42 _ ys) := ⟨HM.out.mv (fun q hq => hf.same q (HM.out.lt hq).1 (by have := (HM.out.lt hq).2; omega)) hf.size⟩; have hz1 := hf.size; clear hR1 hf; clear hxc0 hxf0 hxc1 hxf1 hxl))
          | (have hq_ := HM1; clear hq_; at_builtin; go_must (refine append_snoc aT aT_flat rfl (.tmp 21) (.tmp 24) 24 42 (.agg #[.string ⟨#[]⟩, .int .i64 0]) 24 rfl (by exact Tryd.underlying24) infoA rfl (by decide) (by decide) w.heap.size _ ys x.1 [.string x.1.1, .int .i64 x.1.2] w1.heap.size rfl rfl (blk_new _ _ _ rfl) (⟨[.string x.1.1], [.int .i64 x.1.2], rfl, rfl, rfl⟩) (HM1.out.below (below_alloc (Below.refl _ _) _)) (HM1.out.ne_new (Nat.le_refl _)) (by rw [size_alloc]; omega) (by rw [HYL.out]; omega) ?_; intro v2 w2 hM hb hk2 hat; have HM2 := Hd.mk hM; have HR2 : Hd (Rs w2 S p x.2) := ⟨Rs.base (HR1.out.below (below_alloc (Below.refl _ _) _)) hpl (fun q hq => (HR.out.ne q hq).2) hb⟩; have HF2 : Hd (Fp p w w2) := ⟨fp_base HF1.out (below_alloc (Below.refl _ _) _) hb⟩; clear hM hb hk2 hat)))
        go_roundw
        case rel => exact ⟨k + 1, x.2, ys ++ [x.1], by omega, by go_num, ⟨by rw [List.length_append, HYL.out]; rfl⟩, HM2, HR2, HST, HF2⟩
        case measure => simp [intOf]; omega
    · obtain rfl : k = n := by omega
      have HEND := Hd.mk (many_end HE.out (.inl rfl))
      go_wp2
      go_ret
      exact ⟨_, rfl, by rw [HEND.out]; exact HM.out, by rw [HEND.out]; exact HRR.out, HF.out⟩
end Go.Proofs.YtpcnekdilecakaaDoor.Tb
