/- What Of and Spot compute. -/
import Derived.Test.YtcejfnnimfpahaaS7
namespace Go.Proofs.Ytcejfnnimfpahaa.Fn
open Go Go.RowKit Go.Proofs.Ytcejfnnimfpahaa.Can Go.Proofs.Ytcejfnnimfpahaa.Base
attribute [local go_sem] clsB AB.cell

theorem stepM_len {m : Mdl} {B : Nat} (h : m.s.l.length ≤ B ∧ ∀ x s, m.κ x = some s → s.l.length ≤ B) (v : Ev) : (stepM m v).s.l.length ≤ B + 1 ∧ ∀ x s, (stepM m v).κ x = some s → s.l.length ≤ B + 1 := by
  have h0 : m.s.l.length ≤ B + 1 ∧ ∀ x s, m.κ x = some s → s.l.length ≤ B + 1 := ⟨by omega, fun x s hx => by have := h.2 x s hx; omega⟩
  unfold stepM
  split
  · unfold turnM
    split
    · split
      · exact h0
      · exact ⟨by show (m.s.l ++ [_]).length ≤ B + 1; rw [List.length_append]; simp; omega, h0.2⟩
    split
    · refine ⟨?_, h0.2⟩
      show (pop m.s).l.length ≤ B + 1
      unfold pop
      split
      · exact h0.1
      · show m.s.l.dropLast.length ≤ B + 1
        rw [List.length_dropLast]; omega
    split
    · refine ⟨h0.1, fun x s hx => ?_⟩
      simp only [] at hx
      split at hx
      · cases hx; exact h0.1
      · exact h0.2 x s hx
    split
    · refine ⟨?_, h0.2⟩
      show ((m.κ v.n).getD m.s).l.length ≤ B + 1
      cases hk : m.κ v.n with
      | none => exact h0.1
      | some s => exact h0.2 _ s hk
    split
    · refine ⟨h0.1, fun x s hx => ?_⟩
      simp only [] at hx
      split at hx
      · cases hx
      · exact h0.2 x s hx
    split
    · exact h0
    · exact h0
  · exact h0
theorem runM_len2 (mode : Int) (h : List Ev) : ∀ m B, (m.s.l.length ≤ B ∧ ∀ x s, m.κ x = some s → s.l.length ≤ B) → (h.foldl stepM m).s.l.length ≤ B + h.length := by
  induction h with
  | nil => intro m B hm; exact hm.1
  | cons v h ih =>
    intro m B hm
    have := ih (stepM m v) (B + 1) (stepM_len hm v)
    simp only [List.foldl_cons, List.length_cons]
    omega
theorem runM_len (mode : Int) (h : List Ev) : (runM mode h).s.l.length ≤ h.length := by
  have := runM_len2 mode h (initM mode) 0 ⟨Nat.le_refl _, fun x s hx => by cases hx⟩
  unfold runM
  omega
theorem ownBlock_gt {n k o a b : Nat} (h : n < k) : (Value.slice (some ⟨n, o, none⟩) a b).ownBlock ≠ some k := fun he => by
  simp [Value.ownBlock] at he; omega
def EvWf (h : List Ev) : Prop := ∀ v ∈ h, (Lit.int .i64 v.n).wf = true ∧ (Lit.int .i64 v.rn).wf = true
set_option maxRecDepth 20000 in
set_option maxHeartbeats 4000000 in
theorem over_calls (mode : Int) (A : Option Addr) (c : Nat) (xs : List Ev) (S : Nat → Prop) (w : World) (hS : ∀ k, S k → k < w.heap.size) (hC : Row evT w S A xs.length xs) (hw : EvWf xs) (hl : xs.length ≤ 1000000) :
    Calls Try.prog 23 #[.int .i64 mode, .slice A xs.length c] w fun e w' => ∃ A' n' c', e = .returned (.agg #[.int .i64 (runM mode xs).s.at_.at_, .int .i64 (runM mode xs).s.at_.mode, .slice A' n' c']) ∧ n' ≤ c' ∧ (A' = none → c' = 0) ∧ Row eT w' (fun k => w.heap.size ≤ k ∧ k < w'.heap.size) A' n' (runM mode xs).s.l ∧ Below w.heap.size w w' := by
  obtain ⟨n, hn⟩ : ∃ n, xs.length = n := ⟨_, rfl⟩
  rw [hn] at hC hl ⊢
  have HN := Hd.mk hn; have HS := Hd.mk hS; have HC := Hd.mk hC; have HW := Hd.mk hw
  clear hn hS hC hw
  go_enter Try.func23, Try.ntmps23
  have hmk : ∀ w : World, (Instr.makeMap 72 none).run Try.prog w = .ok (.map (some w.heap.size)) (w.alloc (.map #[] 0)) := fun w => run_makeMap 72 w
  go_wp2
  generalize hV : World.alloc _ _ = V
  have HBV : Below w.heap.size w V := below_of hV (by repeat (first | (with_reducible assumption) | (with_reducible exact Below.refl _ _) | (with_reducible apply below_drewL) | (with_reducible apply below_alloc) | (with_reducible apply below_drew1) | (with_reducible apply below_drewN) | (refine below_set ?_ (by first | omega | (simp only [size_alloc, size_drew, size_set]; omega)) _ _)))
  have zV : Hd (V.heap.size = w.heap.size + 1 + 1 + 1) := ⟨by rw [← hV]; simp only [size_alloc]⟩
  have V0 := at_of hV (blk_alloc (blk_alloc (blk_new _ _ _ rfl) _) _)
  have V0l := blk_lt V0
  have V1 := at_of hV (blk_alloc (blk_new _ _ _ rfl) _)
  simp only [size_alloc] at V1
  have V1l := blk_lt V1
  have V2 := at_of hV (blk_new _ _ _ rfl)
  simp only [size_alloc] at V2
  have V2l := blk_lt V2
  clear hV
  have HV0 := Hd.mk V0
  have HF0 : Hd (Fold V (w.heap.size + 1 + 1) (w.heap.size + 1) (w.heap.size + 1 + 1 + 1) 0 ⟨⟨⟨0, mode⟩, []⟩, fun _ => none, none, none, 0, 0⟩) := ⟨⟨V2, VMap.empty V1, by omega, by omega, by omega, by have := zV.out; omega, Row.nil _ _ _ _, Nat.le_refl _, fun _ => rfl, .inl ⟨rfl, rfl⟩, fun x e hx => (by cases hx), Nat.zero_le _, fun x e hx => (by cases hx)⟩⟩
  have HVB := Hd.mk HBV
  have HM0 : Hd ((⟨⟨⟨0, mode⟩, []⟩, fun _ => none⟩ : Mdl) = runM mode (xs.take 0)) := ⟨rfl⟩
  clear V0 V1 V2 V0l V1l V2l zV HBV hmk
  generalize hp : w.heap.size + 1 + 1 = p at *
  generalize hb : w.heap.size + 1 = b at *
  generalize hg : w.heap.size = g at *
  obtain ⟨base, hbase⟩ : ∃ base, p + 1 = base := ⟨_, rfl⟩
  rw [hbase] at HF0
  have HP := Hd.mk hp; have HBb := Hd.mk hb; have HG := Hd.mk hg; have HBs := Hd.mk hbase
  have HNE : Hd (g < base ∧ g ≠ p ∧ g ≠ b ∧ g = w.heap.size) := ⟨by omega⟩
  have HSW : Hd (∀ k, S k → k < w.heap.size) := ⟨fun k hk => by have := HS.out k hk; omega⟩
  clear hp hb hg hbase
  go_loopw [17] (fun i wr => ∃ (k : Nat) (F : FS), k ≤ n ∧ i = .int .i64 k ∧ Hd (Fold wr p b base k F) ∧ Hd ((⟨F.s, kst F⟩ : Mdl) = runM mode (xs.take k)) ∧ Hd (wr.heap[g]? = some (.cells #[.int .i64 0, .int .i64 0, .slice none 0 0] 62 (0, 0))) ∧ Hd (Below g w wr)) (fun i _ => n - (intOf i).toNat)
  case atStart => exact ⟨0, _, Nat.zero_le _, rfl, HF0, HM0, HV0, HVB⟩
  case round =>
    clear HF0 HM0 HV0 HVB
    obtain ⟨k, F, hk, rfl, HF, HM, HV, HB⟩ := hrel
    have HBw : Hd (Below w.heap.size w wr) := ⟨by have := HB.out; rw [HNE.out.2.2.2] at this; exact this⟩
    have hgl := blk_lt HV.out
    by_cases hlt : k < n
    · obtain ⟨a, off, v, rfl, ha, hx, c0, c1, c2, c3, c4, c5, c6, c7, c8, c9, c10, c11, c12, c13⟩ := ev_get (HC.out.below HSW.out HBw.out) k hlt
      have HX := Hd.mk hx
      have HWV := Hd.mk (HW.out v (List.mem_of_getElem? hx))
      have HTK : Hd (xs.take (k + 1) = xs.take k ++ [v]) := ⟨by rw [List.take_add_one, hx]; rfl⟩
      clear hx
      cases hg : goodB v with
      | false =>
        have HG := Hd.mk hg; clear hg
        have HM2 : Hd ((⟨F.s, kst F⟩ : Mdl) = runM mode (xs.take (k + 1))) := ⟨by rw [HTK.out, runM_snoc, ← HM.out]; unfold stepM; rw [HG.out]; rfl⟩
        go_wp2_with (go_at_call 27; go_must (refine Calls.mono (good_calls v _) ?_; rintro e w2 ⟨he, hb2⟩; rw [HG.out] at he; subst he))
        go_roundw
        case rel => exact ⟨k + 1, F, by omega, by go_num, ⟨((HF.out.below (below_alloc (Below.refl _ _) _)).below hb2).more (Nat.le_succ k)⟩, HM2, ⟨blk_below (blk_alloc HV.out _) hb2⟩, ⟨HB.out.trans (below_seq (below_alloc (Below.refl _ _) _) hb2 |>.mono (by omega))⟩⟩
        case measure => simp [intOf]; omega
      | true =>
        have HG := Hd.mk hg; clear hg
        have HST : Hd (runM mode (xs.take (k + 1)) = turnM ⟨F.s, kst F⟩ v) := ⟨by rw [HTK.out, runM_snoc, ← HM.out]; unfold stepM; rw [HG.out]; rfl⟩
        rcases turn_some v.op with hT | hT | hT | hT | hT | hT | hT
        all_goals
          have HT := Hd.mk hT; clear hT
          go_wp2_with (first
            | (go_at_call 27; go_must (refine Calls.mono (good_calls v _) ?_; rintro e w2 ⟨he, hb2⟩; rw [HG.out] at he; subst he; have hv2 := blk_below (blk_new _ _ _ rfl) hb2; have hv2c0 := blk_cell hv2 0 _ rfl; have hv2f0 := blk_frozen hv2 0; have hv2c1 := blk_cell hv2 1 _ rfl; have hv2f1 := blk_frozen hv2 1; have hv2c2 := blk_cell hv2 2 _ rfl; have hv2f2 := blk_frozen hv2 2; have hv2c3 := blk_cell hv2 3 _ rfl; have hv2f3 := blk_frozen hv2 3; have hv2c4 := blk_cell hv2 4 _ rfl; have hv2f4 := blk_frozen hv2 4; have hv2c5 := blk_cell hv2 5 _ rfl; have hv2f5 := blk_frozen hv2 5; have hv2c6 := blk_cell hv2 6 _ rfl; have hv2f6 := blk_frozen hv2 6; have hv2c7 := blk_cell hv2 7 _ rfl; have hv2f7 := blk_frozen hv2 7; have hv2c8 := blk_cell hv2 8 _ rfl; have hv2f8 := blk_frozen hv2 8; have hv2c9 := blk_cell hv2 9 _ rfl; have hv2f9 := blk_frozen hv2 9; have hv2c10 := blk_cell hv2 10 _ rfl; have hv2f10 := blk_frozen hv2 10; have hv2c11 := blk_cell hv2 11 _ rfl; have hv2f11 := blk_frozen hv2 11; have hv2c12 := blk_cell hv2 12 _ rfl; have hv2f12 := blk_frozen hv2 12; have hv2c13 := blk_cell hv2 13 _ rfl; have hv2f13 := blk_frozen hv2 13; have hv2l := blk_lt hv2; have HF2 := Hd.mk ((HF.out.below (below_alloc (Below.refl _ _) _)).below hb2); have HV2 := Hd.mk (blk_below (blk_alloc HV.out _) hb2); have HB2 : Hd (Below g w w2) := ⟨HB.out.trans ((below_seq (below_alloc (Below.refl _ _) _) hb2).mono (by omega))⟩; clear hb2 hv2))
            | (go_at_call 29; go_must (refine Calls.mono (turns_calls v.op _) ?_; rintro e w2 ⟨he, rfl⟩; rw [HT.out] at he; subst he))
            | (go_at_call 30; go_must (have hc9 := turn_calls HF2.out v HWV.out (by omega); rw [HT.out] at hc9; refine Calls.mono hc9 ?_; rintro e w3 ⟨rfl, F', h9, hs9, hk9, f9⟩; have HF3 := Hd.mk h9; have F3 := Hd.mk f9; have HMM : Hd ((⟨F'.s, kst F'⟩ : Mdl) = turnM ⟨F.s, kst F⟩ v) := ⟨by rw [hs9, show kst F' = _ from funext hk9]⟩; clear hc9 h9 hs9 hk9 f9))
            | (go_at_call 31; go_must (have hc9 := turn_calls HF2.out v HWV.out (by omega); rw [HT.out] at hc9; refine Calls.mono hc9 ?_; rintro e w3 ⟨rfl, F', h9, hs9, hk9, f9⟩; have HF3 := Hd.mk h9; have F3 := Hd.mk f9; have HMM : Hd ((⟨F'.s, kst F'⟩ : Mdl) = turnM ⟨F.s, kst F⟩ v) := ⟨by rw [hs9, show kst F' = _ from funext hk9]⟩; clear hc9 h9 hs9 hk9 f9))
            | (go_at_call 32; go_must (have hc9 := turn_calls HF2.out v HWV.out (by omega); rw [HT.out] at hc9; refine Calls.mono hc9 ?_; rintro e w3 ⟨rfl, F', h9, hs9, hk9, f9⟩; have HF3 := Hd.mk h9; have F3 := Hd.mk f9; have HMM : Hd ((⟨F'.s, kst F'⟩ : Mdl) = turnM ⟨F.s, kst F⟩ v) := ⟨by rw [hs9, show kst F' = _ from funext hk9]⟩; clear hc9 h9 hs9 hk9 f9))
            | (go_at_call 33; go_must (have hc9 := turn_calls HF2.out v HWV.out (by omega); rw [HT.out] at hc9; refine Calls.mono hc9 ?_; rintro e w3 ⟨rfl, F', h9, hs9, hk9, f9⟩; have HF3 := Hd.mk h9; have F3 := Hd.mk f9; have HMM : Hd ((⟨F'.s, kst F'⟩ : Mdl) = turnM ⟨F.s, kst F⟩ v) := ⟨by rw [hs9, show kst F' = _ from funext hk9]⟩; clear hc9 h9 hs9 hk9 f9))
            | (go_at_call 34; go_must (have hc9 := turn_calls HF2.out v HWV.out (by omega); rw [HT.out] at hc9; refine Calls.mono hc9 ?_; rintro e w3 ⟨rfl, F', h9, hs9, hk9, f9⟩; have HF3 := Hd.mk h9; have F3 := Hd.mk f9; have HMM : Hd ((⟨F'.s, kst F'⟩ : Mdl) = turnM ⟨F.s, kst F⟩ v) := ⟨by rw [hs9, show kst F' = _ from funext hk9]⟩; clear hc9 h9 hs9 hk9 f9))
            | (go_at_call 35; go_must (have hc9 := turn_calls HF2.out v HWV.out (by omega); rw [HT.out] at hc9; refine Calls.mono hc9 ?_; rintro e w3 ⟨rfl, F', h9, hs9, hk9, f9⟩; have HF3 := Hd.mk h9; have F3 := Hd.mk f9; have HMM : Hd ((⟨F'.s, kst F'⟩ : Mdl) = turnM ⟨F.s, kst F⟩ v) := ⟨by rw [hs9, show kst F' = _ from funext hk9]⟩; clear hc9 h9 hs9 hk9 f9))
            | (go_at_call 36); go_must (have hc9 := turn_calls HF2.out v HWV.out (by omega); rw [HT.out] at hc9; refine Calls.mono hc9 ?_; rintro e w3 ⟨rfl, F', h9, hs9, hk9, f9⟩; have HF3 := Hd.mk h9; have F3 := Hd.mk f9; have HMM : Hd ((⟨F'.s, kst F'⟩ : Mdl) = turnM ⟨F.s, kst F⟩ v) := ⟨by rw [hs9, show kst F' = _ from funext hk9]⟩; clear hc9 h9 hs9 hk9 f9))
          go_roundw
          case rel => exact ⟨k + 1, F', by omega, by go_num, HF3, ⟨by rw [HST.out]; exact HMM.out⟩, ⟨F3.out.blk HV2.out (by have := HNE.out; unfold XF; omega)⟩, ⟨Fr.seq HB2.out F3.out (by have := HB2.out.size; have := HNE.out; omega) (fun b hb hx => by have := HNE.out; have := HP.out; have := HBb.out; unfold XF at hx; omega)⟩⟩
          case measure => simp [intOf]; omega
    · obtain rfl : k = n := by omega
      have HTN : Hd (xs.take k = xs) := ⟨by rw [← HN.out, List.take_length]⟩
      have hstr := HF.out.str
      obtain ⟨A', hA'⟩ : ∃ A', F.A = A' := ⟨_, rfl⟩
      obtain ⟨n', hn'⟩ : ∃ n', F.n = n' := ⟨_, rfl⟩
      obtain ⟨c', hc'⟩ : ∃ c', F.c = c' := ⟨_, rfl⟩
      obtain ⟨sp, hsp⟩ : ∃ sp, F.s.at_ = sp := ⟨_, rfl⟩
      rw [hA', hn', hc', hsp] at hstr
      have HA' := Hd.mk hA'; have HN' := Hd.mk hn'; have HC' := Hd.mk hc'; have HSP := Hd.mk hsp
      have hv := HV.out
      have hstrc0 := blk_cell hstr 0 _ rfl; have hstrf0 := blk_frozen hstr 0; have hstrc1 := blk_cell hstr 1 _ rfl; have hstrf1 := blk_frozen hstr 1; have hstrc2 := blk_cell hstr 2 _ rfl; have hstrf2 := blk_frozen hstr 2; have hstrc3 := blk_cell hstr 3 _ rfl; have hstrf3 := blk_frozen hstr 3; have hstrl := blk_lt hstr
      have hvc0 := blk_cell hv 0 _ rfl; have hvf0 := blk_frozen hv 0; have hvc1 := blk_cell hv 1 _ rfl; have hvf1 := blk_frozen hv 1; have hvc2 := blk_cell hv 2 _ rfl; have hvf2 := blk_frozen hv 2; have hvl := blk_lt hv
      clear hA' hn' hc' hsp hstr
      go_wp2
      refine bodyPost_ret (results_cell_row rfl _ _ g 62 #[.int .i64 sp.at_, .int .i64 sp.mode, .slice A' n' c'] (0, 0) _ rfl (blk_set (blk_set (blk_set hv 0 _ _ rfl) 1 _ _ rfl) 2 _ _ rfl) Try.underlying62 rfl (by kernel_rfl)) rfl ?_
      have hMM := HM.out
      rw [HTN.out] at hMM
      rw [← hMM]
      refine ⟨A', n', c', by rw [← HSP.out], by rw [← HN'.out, ← HC'.out]; exact HF.out.cap, by rw [← HA'.out, ← HC'.out]; exact HF.out.nil, ?_, ?_⟩
      · have hfr := Fr.set (Fr.set (Fr.set (Fr.refl (fun k => k = g) wr) (.inl rfl) 0 (.int .i64 sp.at_)) (.inl rfl) 1 (.int .i64 sp.mode)) (.inl rfl) 2 (.slice A' n' c')
        have hrow := hfr.row HF.out.row (fun q hq => ⟨hq.2, by have := HNE.out; have := hq.1; show ¬ q = g; omega⟩)
        rw [HA'.out, HN'.out] at hrow
        exact hrow.mono fun q hq => ⟨by have := HNE.out; have := hq.1; omega, by simp only [size_set]; exact hq.2⟩
      · have := HB.out
        exact below_set (below_set (below_set HBw.out (by have := HNE.out; omega) _ _) (by have := HNE.out; omega) _ _) (by have := HNE.out; omega) _ _
end Go.Proofs.Ytcejfnnimfpahaa.Fn
