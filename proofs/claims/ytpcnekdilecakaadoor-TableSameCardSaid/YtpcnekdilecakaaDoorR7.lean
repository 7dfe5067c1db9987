/- Many automata that are read. -/
import Derived.Test.YtpcnekdilecakaaDoorR6
set_option linter.unusedVariables false
set_option linter.unusedSimpArgs false
namespace Go.Proofs.YtpcnekdilecakaaDoor.Tb
open Go Go.RowKit Go.Proofs.YtpcnekdilecakaaDoor.Can Go.Proofs.YtpcnekdilecakaaDoor.Base
attribute [local go_sem] clsB AB.cell

theorem infoD : (Tryd.prog.info? 47).map (fun i => (i.zero, i.size, i.bytes)) = some (some (.agg #[.slice none 0 0, .int .i64 0, .slice none 0 0, .slice none 0 0, .int .i64 0]), 5, 88) := by kernel_rfl
theorem d_form {w : World} {S : Nat → Prop} {d : Df.Df} {cs : List Value} (h : dT.rel w S d cs) : ∃ A1 n1 c1 wid A2 n2 c2 A3 n3 c3 st, cs = [.slice A1 n1 c1, .int .i64 wid, .slice A2 n2 c2, .slice A3 n3 c3, .int .i64 st] := by
  obtain ⟨c0, r0, rfl, ⟨A1, c1, rfl, _, _, h0⟩, d1, r1, rfl, h1, c2, r2, rfl, ⟨A2, c2', rfl, _, _, h2⟩, c3, c4, rfl, ⟨A3, c3', rfl, _, _, h3⟩, h4⟩ := h
  have h1' : d1 = [.int .i64 _] := h1
  have h4' : c4 = [.int .i64 _] := h4
  subst h1' h4'
  exact ⟨A1, _, c1, _, A2, _, c2', A3, _, c3', _, rfl⟩
set_option maxRecDepth 20000 in
set_option maxHeartbeats 4000000 in
theorem manyD_calls (w : World) (S : Nat → Prop) (p n : Nat) (r : Rd) (hR : Rs w S p r) (hn : n ≤ 65535) :
    Calls Tryd.prog 38 #[.pointer (some ⟨p, 0, none⟩), .int .i64 n, .func (.func 39) #[.pointer (some ⟨p, 0, none⟩)] #[]] w fun e w' => (∃ A m c, e = .returned (.slice A m c) ∧ m ≤ c ∧ Row dT w' (fun k => w.heap.size ≤ k ∧ k < w'.heap.size) A m (manyF dfaF n r).1) ∧ Rs w' S p (manyF dfaF n r).2 ∧ Fp p w w' := by
  have hpl := hR.lt
  have HR := Hd.mk hR
  clear hR
  go_enter Tryd.func38, Tryd.ntmps38
  go_wp2
  go_loopw [7, 8] (fun v i wr => ∃ (k : Nat) (r' : Rd) (ys : List Df.Df) (S2 : Nat → Prop), k ≤ n ∧ i = .int .i64 k ∧ Hd (ys.length = k) ∧ Hd (Base.Own dT wr w.heap.size 47 S2 v ys) ∧ Hd (∀ q, S2 q → w.heap.size ≤ q ∧ q < wr.heap.size) ∧ Hd (Rs wr S p r') ∧ Hd ((ys ++ (manyF dfaF (n - k) r').1, (manyF dfaF (n - k) r').2) = manyF dfaF n r) ∧ Hd (Fp p w wr)) (fun v i _ => n - (intOf i).toNat)
  case atStart => exact ⟨0, r, [], fun _ => False, Nat.zero_le _, rfl, ⟨rfl⟩, ⟨Own.nil _ _ _ _⟩, ⟨fun q h => h.elim⟩, HR, ⟨rfl⟩, ⟨Fr.refl _ _⟩⟩
  case round =>
    obtain ⟨k, r', ys, S2, hk, rfl, HYL, HO, HS2, HRR, HE, HF⟩ := hrel
    obtain ⟨Ap, np, cp, hx, -, -⟩ := HRR.out.obj
    have hzr := HF.out.size
    by_cases hlt : k < n
    · cases hs : r'.2 with
      | true =>
        rw [hs] at hx
        have HEND := Hd.mk (many_end HE.out (.inr hs))
        clear hs
        have hxc0 := blk_cell hx 0 _ rfl; have hxf0 := blk_frozen hx 0; have hxc1 := blk_cell hx 1 _ rfl; have hxf1 := blk_frozen hx 1; have hxl := blk_lt hx
        go_wp2
        go_ret
        obtain ⟨A, c, e, h1, h2, h3⟩ := HO.out.form
        refine ⟨⟨A, _, c, by rw [e]; rfl, h1, ?_⟩, by rw [HEND.out]; exact HRR.out, HF.out⟩
        rw [HEND.out]
        exact h3.mono fun q hq => by rcases hq with hq | hq; exact HS2.out q hq; exact ⟨(HO.out.lt hq).2, (HO.out.lt hq).1⟩
      | false =>
        rw [hs] at hx
        have HST := Hd.mk (many_step HE.out hlt hs)
        have HJ := Hd.mk (rddfa_calls wr S p r' HRR.out)
        obtain ⟨x, hxx⟩ : ∃ x, dfaF r' = x := ⟨_, rfl⟩
        rw [hxx] at HST HJ
        clear hs hxx
        have hol : ∀ q, (S2 q ∨ u7.ownBlock = some q) → w.heap.size ≤ q ∧ q < wr.heap.size := fun q hq => by rcases hq with hq | hq; exact HS2.out q hq; exact ⟨(HO.out.lt hq).2, (HO.out.lt hq).1⟩
        have HOL := Hd.mk hol
        clear hol
        have hxc0 := blk_cell hx 0 _ rfl; have hxf0 := blk_frozen hx 0; have hxc1 := blk_cell hx 1 _ rfl; have hxf1 := blk_frozen hx 1; have hxl := blk_lt hx
        go_wp2_with (first
          | (go_at_call 39; go_must (refine Calls.mono HJ.out ?_; rintro e w1 ⟨⟨cs, rfl, hrel⟩, hR1, hf⟩; have HR1 := Hd.mk hR1; have HF1 := Hd.mk hf; obtain ⟨B1, b1, d1, wid, B2, b2, d2, B3, b3, d3, st, rfl⟩ := d_form hrel; have HREL := Hd.mk hrel; have HO1 : Hd (Base.Own dT w1 w.heap.size 47 S2 u7 ys) := ⟨HO.out.move (fun q hq => hf.same q (HOL.out q hq).2 (by have := (HOL.out q hq).1; omega)) hf.size⟩; have hz1 := hf.size; clear hR1 hf hrel; clear hxc0 hxf0 hxc1 hxf1 hxl))
          | (have hq_ := HO1; clear hq_; at_builtin; go_must (refine append_one dT (S' := fun q => wr.heap.size ≤ q ∧ q < w1.heap.size) rfl (.tmp 21) (.tmp 24) 23 47 (.agg #[.slice none 0 0, .int .i64 0, .slice none 0 0, .slice none 0 0, .int .i64 0]) 88 rfl Tryd.underlying23 infoD rfl (by decide) (by decide) w.heap.size u7 ys x.1 [.slice B1 b1 d1, .int .i64 wid, .slice B2 b2 d2, .slice B3 b3 d3, .int .i64 st] w1.heap.size rfl rfl (blk_new _ _ _ rfl) (dT.move (fun q hq => Below.heap_alloc _ _ _ hq.2) HREL.out) (HO1.out.below (below_alloc (Below.refl _ _) _)) (fun q hq => ⟨by rw [size_alloc]; omega, fun e => by have := (HOL.out q (.inr e)).2; omega⟩) (fun e => by have := (HOL.out _ (.inr e)).2; omega) (by rw [size_alloc]; omega) (by rw [HYL.out]; omega) ?_; intro v2 w2 hown hgr hat; have HOW := Hd.mk hown; have HGR := Hd.mk hgr; have HAT := Hd.mk hat; clear hown hgr hat)))
        go_roundw
        case rel =>
          have hz2 := HGR.out.size
          rw [size_alloc] at hz2
          have f2 : Fr (fun b => u7.ownBlock = some b) (w1.alloc (.cells #[.slice B1 b1 d1, .int .i64 wid, .slice B2 b2 d2, .slice B3 b3 d3, .int .i64 st] 47)) w2 := ⟨⟨HGR.out.os, HGR.out.tape, HGR.out.output, HGR.out.size, fun k hk => absurd hk (Nat.not_lt_zero k)⟩, fun b hb hx => HGR.out.block b hb fun h => hx h.symm⟩
          have b2 : Below w.heap.size (w1.alloc (.cells #[.slice B1 b1 d1, .int .i64 wid, .slice B2 b2 d2, .slice B3 b3 d3, .int .i64 st] 47)) w2 := f2.below (by rw [size_alloc]; omega) (fun b hb e => by have := (HOL.out b (.inr e)).1; omega)
          refine ⟨k + 1, x.2, ys ++ [x.1], _, by omega, by go_num, ⟨by rw [List.length_append, HYL.out]; rfl⟩, HOW, ⟨fun q hq => ?_⟩, ⟨?_⟩, HST, ⟨?_⟩⟩
          · rcases hq with hq | hq | hq
            · have := HS2.out q hq; exact ⟨by omega, by omega⟩
            · exact ⟨by omega, by omega⟩
            · rw [hq]; exact ⟨by omega, by omega⟩
          · exact Rs.base (HR1.out.below (below_alloc (Below.refl _ _) _)) hpl (fun q hq => (HR.out.ne q hq).2) b2
          · exact fp_base (HF.out.trans HF1.out) (below_alloc (Below.refl _ _) _) b2
        case measure => simp [intOf]; omega
    · obtain rfl : k = n := by omega
      have HEND := Hd.mk (many_end HE.out (.inl rfl))
      go_wp2
      go_ret
      obtain ⟨A, c, e, h1, h2, h3⟩ := HO.out.form
      refine ⟨⟨A, _, c, by rw [e]; rfl, h1, ?_⟩, by rw [HEND.out]; exact HRR.out, HF.out⟩
      rw [HEND.out]
      exact h3.mono fun q hq => by rcases hq with hq | hq; exact HS2.out q hq; exact ⟨(HO.out.lt hq).2, (HO.out.lt hq).1⟩
end Go.Proofs.YtpcnekdilecakaaDoor.Tb
