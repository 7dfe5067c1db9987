/- Texts: C20, C21. -/
import Derived.Test.YtbmpaokicphdjaaDoorCF
set_option linter.unusedVariables false
set_option linter.unusedSimpArgs false
/- The reference's Start, Step. -/
namespace Go.Proofs.YtbmpaokicphdjaaDoor.Fn
open Go Go.RowKit Go.Proofs.YtbmpaokicphdjaaDoor.Can Go.Proofs.YtbmpaokicphdjaaDoor.Base
attribute [local go_sem] clsB AB.cell

theorem start_marks (n st : Nat) (h : st < n) : (List.replicate n false).set st true = marksP n (fun k => (k : Int) = (st : Int)) :=
  marks_ext (by rw [List.length_set, List.length_replicate, marksP_len]) fun k => by
    rw [isIn_set _ _ _ (by rw [List.length_replicate]; exact h), marksP_in]
    exact ⟨fun h1 => by rcases h1 with h1 | h1; exact absurd h1 (made_in n k); exact ⟨by omega, by omega⟩, fun h1 => .inr (by omega)⟩
def rstepI (q : List St) (c : Nat) (a : List Bool) (m : List Bool) (i : Nat) : List Bool := match q[i]? with | some x => if a.getD i false = true ∧ 0 ≤ x.lo ∧ x.lo ≤ (c : Int) ∧ (c : Int) ≤ x.hi then m.set x.dst.toNat true else m | none => m
def rstepK (q : List St) (c : Nat) (a : List Bool) (k : Nat) : List Bool := (List.range k).foldl (rstepI q c a) (List.replicate q.length false)
theorem rstepK_succ (q : List St) (c : Nat) (a : List Bool) (k : Nat) : rstepK q c a (k + 1) = rstepI q c a (rstepK q c a k) k := by unfold rstepK; rw [List.range_succ, List.foldl_append]; rfl
theorem rstepK_ok {st : Int} {q : List St} (hok : okN st q) (c : Nat) (a : List Bool) : ∀ k, (rstepK q c a k).length = q.length ∧ ∀ j, isIn (rstepK q c a k) j ↔ ∃ i, i < k ∧ isIn a i ∧ byteE q c i j := by
  intro k
  induction k with
  | zero => exact ⟨List.length_replicate, fun j => ⟨fun h => absurd h (made_in _ j), fun ⟨i, h, _⟩ => by omega⟩⟩
  | succ k ih =>
    obtain ⟨h1, h2⟩ := ih
    rw [rstepK_succ]
    unfold rstepI
    split
    · rename_i x hx
      split
      · rename_i hc
        have hd := dst_ok hok hx hc.2.1
        have hl : x.dst.toNat < (rstepK q c a k).length := by rw [h1]; omega
        refine ⟨by rw [List.length_set]; exact h1, fun j => ?_⟩
        rw [isIn_set _ _ _ hl, h2]
        constructor
        · rintro (⟨i, hi, h3, h4⟩ | h3)
          · exact ⟨i, by omega, h3, h4⟩
          · exact ⟨k, by omega, hc.1, x, hx, hc.2.1, hc.2.2.1, hc.2.2.2, by omega⟩
        · rintro ⟨i, hi, h3, h4⟩
          rcases Nat.lt_or_ge i k with h5 | h5
          · exact .inl ⟨i, h5, h3, h4⟩
          · obtain rfl : i = k := by omega
            obtain ⟨x2, hx2, _, _, _, h6⟩ := h4
            rw [hx] at hx2; cases hx2
            exact .inr (by omega)
      · rename_i hc
        refine ⟨h1, fun j => ?_⟩
        rw [h2]
        constructor
        · rintro ⟨i, hi, h3, h4⟩; exact ⟨i, by omega, h3, h4⟩
        · rintro ⟨i, hi, h3, h4⟩
          rcases Nat.lt_or_ge i k with h5 | h5
          · exact ⟨i, h5, h3, h4⟩
          · obtain rfl : i = k := by omega
            obtain ⟨x2, hx2, h6, h7, h8, _⟩ := h4
            rw [hx] at hx2; cases hx2
            exact absurd ⟨h3, h6, h7, h8⟩ hc
    · rename_i hx
      refine ⟨h1, fun j => ?_⟩
      rw [h2]
      constructor
      · rintro ⟨i, hi, h3, h4⟩; exact ⟨i, by omega, h3, h4⟩
      · rintro ⟨i, hi, h3, h4⟩
        rcases Nat.lt_or_ge i k with h5 | h5
        · exact ⟨i, h5, h3, h4⟩
        · obtain rfl : i = k := by omega
          obtain ⟨x2, hx2, _⟩ := h4
          rw [hx] at hx2; cases hx2
theorem rstep_marks {st : Int} {q : List St} (hok : okN st q) (c : Nat) (a : List Bool) (ha : a.length = q.length) : closeM epsE q (rstepK q c a q.length) = stepM q c a := by
  unfold stepM
  congr 1
  obtain ⟨h1, h2⟩ := rstepK_ok hok c a q.length
  refine marks_ext (by rw [h1, marksP_len]) fun k => ?_
  rw [h2, marksP_in]
  constructor
  · rintro ⟨i, hi, h3, h4⟩
    refine ⟨?_, i, h3, h4⟩
    obtain ⟨x, hx, h5, _, _, h6⟩ := h4
    have := dst_ok hok hx h5
    omega
  · rintro ⟨_, i, h3, h4⟩
    exact ⟨i, by have := isIn_lt h3; omega, h3, h4⟩
set_option maxRecDepth 20000 in
set_option maxHeartbeats 2000000 in
theorem rstart_calls (st : Int) (A : Option Addr) (n c : Nat) (q : List St) (S : Nat → Prop) (w : World) (hn9 : q.length = n) (hn : n ≤ 65536) (hN : NF w S A q) (hok : okN st q) :
    Calls Tryd.prog 56 #[.agg #[.int .i64 st, .slice A n c]] w fun e w' => ∃ A' c', e = .returned (.slice A' n c') ∧ Mk w' w.heap.size A' n c' (startM st q) ∧ Below w.heap.size w w' := by
  obtain ⟨i0, hi, hz, hs, hbb⟩ := info_of infoB
  have HI := Hd.mk (And.intro hi (And.intro hz (And.intro hs hbb)))
  have HOK := Hd.mk hok; have HNF := Hd.mk hN; have HN := Hd.mk hn9
  have hst := hok.1
  rw [hn9] at hst
  obtain ⟨sn, rfl⟩ : ∃ s : Nat, st = s := ⟨st.toNat, by omega⟩
  have hsn : sn < n := by omega
  have HSM : Hd (closeM epsE q ((List.replicate n false).set sn true) = startM sn q) := ⟨by unfold startM; rw [start_marks n sn hsn, hn9]⟩
  obtain ⟨st, hst2⟩ : ∃ s : Int, (sn : Int) = s := ⟨_, rfl⟩
  clear hi hz hs hbb hok hN hn9 hst hst2 st
  go_enter Tryd.func56, Tryd.ntmps56
  go_upto_region 2 with
    (at_make; go_must (refine wpList_make_full _ rfl (.tmp 6) (.tmp 6) 74 rfl (w.heap.size + 1) 4 i0 (.bool false) 1 Tryd.underlying74 HI.out.1 HI.out.2.1 HI.out.2.2.1 .i64 .i64 n n n rfl rfl rfl rfl (by rw [HI.out.2.2.2]; omega) (by simp only [maxLen]; omega) (by simp only [size_alloc]; omega) ?_; intro w1 ho1 hg1; have hb1 : Below (w.heap.size + 1) (w.alloc (.cells #[.int .i64 sn, .slice A n c] 58)) w1 := ((Below.refl _ _).grown hg1 (by simp only [size_alloc]; omega) (fun k hk => by cases hk)); have hp1 : w1.heap[w.heap.size]? = some (.cells #[.int .i64 sn, .slice A n c] 58 (0, 0)) := ((hb1.block _ (by omega)).trans (blk_new _ _ _ rfl)); have hp1c0 := blk_cell hp1 0 _ rfl; have hp1f0 := blk_frozen hp1 0; have hp1c1 := blk_cell hp1 1 _ rfl; have hp1f1 := blk_frozen hp1 1; have hp1l := blk_lt hp1))
  have HMK : Hd (Mk w1 w.heap.size (some ⟨w.heap.size + 1, 0, none⟩) n n (List.replicate n false)) := ⟨Mk.made (Nat.le_succ _) (by
    have h := Blk.made (enc := bE) (x := false) bE_len (by decide) rfl ho1
    rw [size_alloc] at h
    exact h)⟩
  have HB1 : Hd (Below w.heap.size w w1) := ⟨(below_alloc (Below.refl _ _) _).trans (hb1.mono (by omega))⟩
  have hzw := (HB1.out).size
  have hz1 : w.heap.size + 1 < w1.heap.size := by
    have h := (Blk.made (enc := bE) (x := false) bE_len (by decide) rfl ho1).lt
    rw [size_alloc] at h
    exact h
  obtain ⟨g, he, hg, hgl, hc, hf, hm⟩ := HMK.out.place hsn
  cases he
  have HM2 := Hd.mk hm
  clear hm
  go_upto_region 3 with fail
  have hb2 := below_set HB1.out hg sn (.bool true)
  have hp2 := blk_far (p := ⟨w.heap.size + 1, sn, none⟩) hp1 (by show ¬ w.heap.size = w.heap.size + 1; omega) (.bool true)
  generalize hX : World.setCell w1 _ _ = X
  rw [hX] at hb2 hp2
  have HMX : Hd (Mk X w.heap.size (some ⟨w.heap.size + 1, 0, none⟩) n n ((List.replicate n false).set sn true)) := ⟨by rw [← hX]; exact HM2.out⟩
  have HBX := Hd.mk hb2
  clear hp1c0 hp1f0 hp1c1 hp1f1 hp1l
  have hp2c0 := blk_cell hp2 0 _ rfl; have hp2f0 := blk_frozen hp2 0; have hp2c1 := blk_cell hp2 1 _ rfl; have hp2f1 := blk_frozen hp2 1; have hp2l := blk_lt hp2
  clear hX hp1 hc hf hb2
  have h9 := rclose_calls sn A n c q S (some ⟨w.heap.size + 1, 0, none⟩) n _ (fun k => w.heap.size ≤ k ∧ k < X.heap.size) X HN.out hn (HNF.out.below HBX.out) HOK.out (fun k hk => hk.2) (HMX.out.row hn) (fun h => by cases h)
  rw [HSM.out] at h9
  have HRC := Hd.mk h9
  clear h9
  go_wp2_with (go_at_call 55; go_must (refine Calls.mono HRC.out ?_; rintro e w3 ⟨A3, c3, rfl, hm3, hb3⟩; have HM3 := Hd.mk hm3; have HB3 := Hd.mk hb3; clear hm3 hb3))
  go_ret
  exact ⟨A3, c3, rfl, HM3.out.mono HBX.out.size, below_seq HBX.out HB3.out⟩
set_option maxRecDepth 20000 in
set_option maxHeartbeats 2000000 in
theorem rstep_calls (st : Int) (A : Option Addr) (n c : Nat) (q : List St) (S : Nat → Prop) (Am : Option Addr) (cm : Nat) (m : List Bool) (Sm : Nat → Prop) (ch : Nat) (hch : ch < 256) (w : World) (hn9 : q.length = n) (hn : n ≤ 65536) (hN : NF w S A q) (hok : okN st q) (hSm : ∀ k, Sm k → k < w.heap.size) (hM : Row bTy w Sm Am n m) :
    Calls Tryd.prog 51 #[.agg #[.int .i64 st, .slice A n c], .slice Am n cm, .int .u8 ch] w fun e w' => ∃ A' c', e = .returned (.slice A' n c') ∧ Mk w' w.heap.size A' n c' (stepM q ch m) ∧ Below w.heap.size w w' := by
  obtain ⟨i0, hi, hz, hs, hbb⟩ := info_of infoB
  have HI := Hd.mk (And.intro hi (And.intro hz (And.intro hs hbb)))
  have hrow := hN.row
  rw [hn9] at hrow
  have HROW := Hd.mk hrow; have HLT := Hd.mk hN.lt
  have HOK := Hd.mk hok; have HNF := Hd.mk hN; have HN := Hd.mk hn9; have HM := Hd.mk hM; have HSM := Hd.mk hSm
  have HRS : Hd (closeM epsE q (rstepK q ch m n) = stepM q ch m) := ⟨by have := rstep_marks hok ch m (by rw [hM.1, hn9]); rwa [hn9] at this⟩
  clear hi hz hs hbb hok hN hn9 hM hSm hrow
  go_enter Tryd.func51, Tryd.ntmps51
  go_wp2_with
    (at_make; go_must (refine wpList_make_full _ rfl (.tmp 12) (.tmp 12) 74 rfl (w.heap.size + 1) 4 i0 (.bool false) 1 Tryd.underlying74 HI.out.1 HI.out.2.1 HI.out.2.2.1 .i64 .i64 n n n rfl rfl rfl rfl (by rw [HI.out.2.2.2]; omega) (by simp only [maxLen]; omega) (by simp only [size_alloc]; omega) ?_; intro w1 ho1 hg1; have hb1 : Below (w.heap.size + 1) (w.alloc (.cells #[.int .i64 st, .slice A n c] 58)) w1 := ((Below.refl _ _).grown hg1 (by simp only [size_alloc]; omega) (fun k hk => by cases hk)); have hp1 : w1.heap[w.heap.size]? = some (.cells #[.int .i64 st, .slice A n c] 58 (0, 0)) := ((hb1.block _ (by omega)).trans (blk_new _ _ _ rfl)); have hp1c0 := blk_cell hp1 0 _ rfl; have hp1f0 := blk_frozen hp1 0; have hp1c1 := blk_cell hp1 1 _ rfl; have hp1f1 := blk_frozen hp1 1; have hp1l := blk_lt hp1))
  have HMK : Hd (Mk w1 w.heap.size (some ⟨w.heap.size + 1, 0, none⟩) n n (List.replicate n false)) := ⟨Mk.made (Nat.le_succ _) (by
    have h := Blk.made (enc := bE) (x := false) bE_len (by decide) rfl ho1
    rw [size_alloc] at h
    exact h)⟩
  have HB1 : Hd (Below w.heap.size w w1) := ⟨(below_alloc (Below.refl _ _) _).trans (hb1.mono (by omega))⟩
  have hzw := (HB1.out).size
  have hz1 : w.heap.size + 1 < w1.heap.size := by
    have h := (Blk.made (enc := bE) (x := false) bE_len (by decide) rfl ho1).lt
    rw [size_alloc] at h
    exact h
  have HP1 := Hd.mk hp1
  clear hp1c0 hp1f0 hp1c1 hp1f1 hp1l
  clear hp1
  have hn8 : n ≤ 9223372036854775807 := by omega
  have HN6 := Hd.mk hn
  clear hn
  go_loopw [8] (fun i wr => ∃ (k : Nat), k ≤ n ∧ i = .int .i64 k ∧ Hd (Mk wr w.heap.size (some ⟨w.heap.size + 1, 0, none⟩) n n (rstepK q ch m k)) ∧ Hd (wr.heap[w.heap.size]? = some (.cells #[.int .i64 st, .slice A n c] 58 (0, 0))) ∧ Hd (Below w.heap.size w wr)) (fun i _ => n - (intOf i).toNat)
  case atStart => exact ⟨0, Nat.zero_le _, rfl, ⟨by have h := HMK.out; rw [← HN.out] at h ⊢; exact h⟩, HP1, HB1⟩
  case round =>
    clear HMK HP1 HB1
    obtain ⟨k, hk, rfl, HMK, HP, HB⟩ := hrel
    have hp := HP.out
    have hpc0 := blk_cell hp 0 _ rfl; have hpf0 := blk_frozen hp 0; have hpc1 := blk_cell hp 1 _ rfl; have hpf1 := blk_frozen hp 1; have hpl := blk_lt hp
    have hzr := HB.out.size
    by_cases hlt : k < n
    · obtain ⟨b, off, x, A', c', rfl, hb, hx, h0x, h1x, h2x, h3x, h4x, hrow⟩ := st_get (HROW.out.below HLT.out HB.out) k hlt
      obtain ⟨b5, off5, rfl, hb5, hc5⟩ := get_mark (HM.out.below HSM.out HB.out) k hlt
      obtain ⟨mk, hmk⟩ : ∃ b, m.getD k false = b := ⟨_, rfl⟩
      rw [hmk] at hc5
      have HG : Hd (rstepK q ch m (k + 1) = if mk = true ∧ 0 ≤ x.lo ∧ x.lo ≤ (ch : Int) ∧ (ch : Int) ≤ x.hi then (rstepK q ch m k).set x.dst.toNat true else rstepK q ch m k) := ⟨by rw [rstepK_succ, ← hmk]; unfold rstepI; rw [hx]⟩
      have HD : Hd (0 ≤ x.lo → 0 ≤ x.dst ∧ x.dst < (n : Int)) := ⟨fun h => by have := dst_ok HOK.out hx h; rwa [HN.out] at this⟩
      obtain ⟨ne, hne⟩ : ∃ m, x.eps.length = m := ⟨_, rfl⟩
      rw [hne] at h3x
      clear hrow hx hmk hne
      have HBA := Hd.mk (below_seq HB.out (below_alloc (Below.refl wr.heap.size wr) (.cells #[.int .i64 x.lo, .int .i64 x.hi, .int .i64 x.dst, .slice A' ne c', .int .i64 x.tag] 71)))
      have HMA := Hd.mk (HMK.out.below (below_alloc (Below.refl wr.heap.size wr) (.cells #[.int .i64 x.lo, .int .i64 x.hi, .int .i64 x.dst, .slice A' ne c', .int .i64 x.tag] 71)))
      cases mk with
      | false =>
        go_wp2
        go_roundw
        case rel => exact ⟨k + 1, by omega, by go_num, ⟨by rw [HG.out, if_neg (by rintro ⟨a, b, c, d⟩; first | omega | cases a)]; exact HMA.out⟩, ⟨blk_alloc hp _⟩, ⟨HBA.out⟩⟩
        case measure => simp [intOf]; omega
      | true =>
        by_cases h1 : 0 ≤ x.lo
        · by_cases h2 : x.lo ≤ (ch : Int)
          · by_cases h3 : (ch : Int) ≤ x.hi
            · have hd := HD.out h1
              obtain ⟨lo, hi, dst, eps, tag⟩ := x
              dsimp only at *
              obtain ⟨d, rfl⟩ : ∃ d : Nat, dst = d := ⟨dst.toNat, by omega⟩
              obtain ⟨g, he, hg, hgl, hc, hf, hm⟩ := HMA.out.place (k := d) (by omega)
              cases he
              have HM2 := Hd.mk hm
              clear hm
              go_wp2
              go_roundw
              case rel => exact ⟨k + 1, by omega, by go_num, ⟨by rw [HG.out, if_pos ⟨rfl, h1, h2, h3⟩, Int.toNat_natCast]; exact HM2.out⟩, ⟨blk_far (blk_alloc hp _) (by show ¬ w.heap.size = w.heap.size + 1; omega) _⟩, ⟨below_set HBA.out hg _ _⟩⟩
              case measure => simp [intOf]; omega
            · skip
              go_wp2
              go_roundw
              case rel => exact ⟨k + 1, by omega, by go_num, ⟨by rw [HG.out, if_neg (by rintro ⟨a, b, c, d⟩; first | omega | cases a)]; exact HMA.out⟩, ⟨blk_alloc hp _⟩, ⟨HBA.out⟩⟩
              case measure => simp [intOf]; omega
          · skip
            go_wp2
            go_roundw
            case rel => exact ⟨k + 1, by omega, by go_num, ⟨by rw [HG.out, if_neg (by rintro ⟨a, b, c, d⟩; first | omega | cases a)]; exact HMA.out⟩, ⟨blk_alloc hp _⟩, ⟨HBA.out⟩⟩
            case measure => simp [intOf]; omega
        · skip
          go_wp2
          go_roundw
          case rel => exact ⟨k + 1, by omega, by go_num, ⟨by rw [HG.out, if_neg (by rintro ⟨a, b, c, d⟩; first | omega | cases a)]; exact HMA.out⟩, ⟨blk_alloc hp _⟩, ⟨HBA.out⟩⟩
          case measure => simp [intOf]; omega
    · obtain rfl : k = n := by omega
      have h9 := rclose_calls st A k c q S (some ⟨w.heap.size + 1, 0, none⟩) k _ (fun j => w.heap.size ≤ j ∧ j < wr.heap.size) wr HN.out HN6.out (HNF.out.below HB.out) HOK.out (fun j hj => hj.2) (HMK.out.row HN6.out) (fun h => by cases h)
      rw [HRS.out] at h9
      have HRC := Hd.mk h9
      clear h9
      go_wp2_with (go_at_call 55; go_must (refine Calls.mono HRC.out ?_; rintro e w3 ⟨A3, c3, rfl, hm3, hb3⟩; have HM3 := Hd.mk hm3; have HB3 := Hd.mk hb3; clear hm3 hb3))
      go_ret
      exact ⟨A3, c3, rfl, HM3.out.mono HB.out.size, below_seq HB.out HB3.out⟩
end Go.Proofs.YtbmpaokicphdjaaDoor.Fn

/- The reference's Run, Alive. -/
namespace Go.Proofs.YtbmpaokicphdjaaDoor.Fn
open Go Go.RowKit Go.Proofs.YtbmpaokicphdjaaDoor.Can Go.Proofs.YtbmpaokicphdjaaDoor.Base
attribute [local go_sem] clsB AB.cell

set_option maxRecDepth 20000 in
set_option maxHeartbeats 2000000 in
theorem rrun_calls (st : Int) (A : Option Addr) (n c : Nat) (q : List St) (S : Nat → Prop) (t : ByteArray) (w : World) (hn9 : q.length = n) (hn : n ≤ 65536) (hN : NF w S A q) (hok : okN st q) (ht : t.size ≤ 1000) :
    Calls Tryd.prog 46 #[.agg #[.int .i64 st, .slice A n c], .string t] w fun e w' => e = .returned (.int .i64 (bestM q (runM st q (bl t)))) ∧ Below w.heap.size w w' := by
  have h8 := rstart_calls st A n c q S (w.alloc (.cells #[.int .i64 st, .slice A n c] 58)) hn9 hn (hN.below (below_alloc (Below.refl _ _) _)) hok
  obtain ⟨tn, htn⟩ : ∃ m, t.size = m := ⟨_, rfl⟩
  rw [htn] at ht
  have HST := Hd.mk h8; have HTN := Hd.mk htn
  have HOK := Hd.mk hok; have HNF := Hd.mk hN; have HN := Hd.mk hn9; have HN6 := Hd.mk hn
  clear h8 hok hN hn9 hn
  go_enter Tryd.func46, Tryd.ntmps46
  go_wp2_with (go_at_call 56; go_must (refine Calls.mono HST.out ?_; rintro e w1 ⟨A1, c1, rfl, hm1, hb1⟩; rw [size_alloc] at hm1; have HM1 := Hd.mk hm1; have hbx := blk_below (blk_new w (.cells #[.int .i64 st, .slice A n c] 58) _ rfl) hb1; have HBX := Hd.mk hbx; have HB1 := Hd.mk (below_seq (below_alloc (Below.refl _ _) _) hb1); clear hm1 hb1 hbx))
  go_loopw [5, 6] (fun v i wr => ∃ (k c9 : Nat) (A9 : Option Addr), k ≤ tn ∧ i = .int .i64 k ∧ v = .slice A9 n c9 ∧ Hd (Mk wr w.heap.size A9 n c9 (runM st q ((bl t).take k))) ∧ Hd (wr.heap[w.heap.size]? = some (.cells #[.int .i64 st, .slice A n c] 58 (0, 0))) ∧ Hd (Below w.heap.size w wr)) (fun _ i _ => tn - (intOf i).toNat)
  case atStart => exact ⟨0, c1, A1, Nat.zero_le _, rfl, rfl, ⟨by rw [List.take_zero]; exact HM1.out.mono (Nat.le_succ _)⟩, HBX, HB1⟩
  case round =>
    clear HM1 HBX HB1
    obtain ⟨k, c9, A9, hk, rfl, rfl, HMK, HBX, HB⟩ := hrel
    have hbx := HBX.out
    have hbxc0 := blk_cell hbx 0 _ rfl; have hbxf0 := blk_frozen hbx 0; have hbxc1 := blk_cell hbx 1 _ rfl; have hbxf1 := blk_frozen hbx 1; have hbxl := blk_lt hbx
    have hzr := HB.out.size
    by_cases hlt : k < tn
    · obtain ⟨b9, hb9⟩ : ∃ b, (bl t)[k]? = some b := ⟨_, List.getElem?_eq_getElem (by rw [bl_len, HTN.out]; exact hlt)⟩
      have HT : Hd ((bl t).take (k + 1) = (bl t).take k ++ [b9]) := ⟨by rw [List.take_add_one, hb9]; rfl⟩
      have hix : ∀ W, (Instr.index 9 (.string t) (.int .i64 k)).run Tryd.prog W = .ok (.int .u8 (b9.toNat : Int)) W := index_at t k b9 hb9
      have HJ := Hd.mk (rstep_calls st A n c q S A9 c9 _ (fun j => w.heap.size ≤ j ∧ j < wr.heap.size) b9.toNat b9.toNat_lt wr.drew HN.out HN6.out (HNF.out.below (below_seq HB.out (below_drew1 (Below.refl _ _)))) HOK.out (fun j hj => hj.2) ((HMK.out.row HN6.out).move (fun _ _ => rfl)))
      clear hb9
      go_wp2
      refine wp_region_can (.q [0, 1, 2, 3, 4] (.e 5 false (.q [6] (.done)))) (clsB _) (by kernel_rfl) (by kernel_rfl) (by intro _ _ d _ _ h; cases d <;> exact h) (clsB_drew _) ?_
      refine can_q (l := [⟨_,_,_,_,_,_⟩, ⟨_,_,_,_,_,_⟩, ⟨_,_,_,_,_,_⟩, ⟨_,_,_,_,_,_⟩, ⟨_,_,_,_,_,_⟩]) rfl ?_
      repeat (go_big_quiet_step (fail))
      refine wpQuiet_nil ?_
      refine can_e (o := ⟨_,_,_,_,_,_⟩) rfl (fun K hK => ?_)
      go_wp2_with (go_at_call 51; go_must (refine Calls.mono HJ.out ?_; rintro e w3 ⟨A3, c3, rfl, hm3, hb3⟩; rw [size_drew] at hm3; have HM3 := Hd.mk hm3; have HB3 := Hd.mk (below_undrew hb3); have hbx3 := blk_below hbx HB3.out; clear hm3 hb3))
      refine onK_normal (hK _ _ ⟨fun _ => True, trivial, (fun h => by cases h), ?_⟩)
      clear hK K
      refine can_q (l := [⟨_,_,_,_,_,_⟩]) rfl ?_
      repeat (go_big_quiet_step (fail))
      refine wpQuiet_nil ?_
      refine can_done ?_
      go_wp2
      go_roundw
      case rel => exact ⟨k + 1, c3, A3, by omega, by go_num, rfl, ⟨by rw [HT.out, runM_snoc]; exact HM3.out.mono hzr⟩, ⟨hbx3⟩, ⟨below_seq HB.out HB3.out⟩⟩
      case measure => simp [intOf]; omega
    · obtain rfl : k = tn := by omega
      have h8 := rbest_calls st A n c q S A9 c9 _ (fun j => w.heap.size ≤ j ∧ j < wr.heap.size) wr HN.out (HNF.out.below HB.out) (fun j hj => hj.2) (HMK.out.row HN6.out)
      rw [List.take_of_length_le (by rw [bl_len, HTN.out]; exact Nat.le_refl _)] at h8
      have HJ := Hd.mk h8
      clear h8
      go_wp2_with (go_at_call 53; go_must (refine Calls.mono HJ.out ?_; rintro e w6 ⟨rfl, hb6⟩; have HB6 := Hd.mk hb6; clear hb6))
      go_ret
      exact ⟨rfl, below_seq HB.out HB6.out⟩
set_option maxRecDepth 20000 in
set_option maxHeartbeats 4000000 in
theorem ralive_calls (st : Int) (A : Option Addr) (n c : Nat) (q : List St) (S : Nat → Prop) (Am : Option Addr) (cm : Nat) (m : List Bool) (Sm : Nat → Prop) (w : World) (hn : q.length = n) (hn6 : n ≤ 65536) (hN : NF w S A q) (hok : okN st q) (hSm : ∀ k, Sm k → k < w.heap.size) (hM : Row bTy w Sm Am n m) (hAm : Am = none → cm = 0) :
    Calls Tryd.prog 57 #[.agg #[.int .i64 st, .slice A n c], .slice Am n cm] w fun e w' => e = .returned (.bool (aliveM q m)) ∧ Below w.heap.size w w' := by
  have hrow := hN.row
  rw [hn] at hrow
  have HML : Hd (m.length = n) := ⟨hM.1⟩
  have HROW := Hd.mk hrow; have HLT := Hd.mk hN.lt; have HM := Hd.mk hM; have HSM := Hd.mk hSm; have HAM := Hd.mk hAm; have HN := Hd.mk hn; have HOK := Hd.mk hok; have HNF := Hd.mk hN; have HN6 := Hd.mk hn6
  have HDN : Hd (closeM epsE q (aRounds q n m) = closeM anyE q m) := ⟨by rw [← hn]; exact aRounds_done hok (by rw [hM.1, hn])⟩
  obtain ⟨r, hr⟩ : ∃ r, aliveM q m = r := ⟨_, rfl⟩
  rw [hr]
  have HR : Hd (decide (0 ≤ bestM q (closeM anyE q m)) = r) := ⟨hr⟩
  clear hn hN hrow hM hSm hAm hok hr
  go_enter Tryd.func57, Tryd.ntmps57
  go_wp2_with (at_builtin; go_must (refine append_row bTy bTy_flat rfl (.tmp 9) (.tmp 10) 74 4 _ 1 rfl Tryd.underlying74 infoB rfl (by decide) (by decide) w.heap.size (.slice (some ⟨w.heap.size + 1, 0, none⟩) 0 0) [] m Am n cm rfl rfl HAM.out (Mine.empty bTy (w.alloc (.cells #[.int .i64 st, .slice A n c] 58)) (by rw [size_alloc]) (by omega)) (HM.out.below HSM.out (below_alloc (below_alloc (Below.refl _ _) _) _)) (fun k hk => ⟨by simp only [size_alloc]; have := HSM.out k hk; omega, ownBlock_ne (by have := HSM.out k hk; omega)⟩) (by simp only [size_alloc]; omega) (by simp only [List.length_nil]; omega) ?_; intro v1 w1 hM1 hb1 hk1 hat1; rw [List.nil_append] at hM1; obtain ⟨A1, n1, c1, rfl, hn1, -, hA1, -⟩ := hM1.formN; rw [HML.out] at hn1; subst hn1; have HMK : Hd (Mk w1 w.heap.size A1 n1 c1 m) := ⟨Mk.mine hM1 HML.out hA1⟩; have HB1 : Hd (Below w.heap.size w w1) := ⟨(below_alloc (below_alloc (Below.refl _ _) _) _).trans hb1⟩; have hbx : w1.heap[w.heap.size]? = some (.cells #[.int .i64 st, .slice A n1 c] 58 (0, 0)) := (hk1 w.heap.size (by simp only [size_alloc]; omega) (fun h => by have := ownBlock_eq h; omega)).trans (blk_alloc (blk_new w _ _ rfl) _); have HBX := Hd.mk hbx; clear hM1 hb1 hk1 hat1 hA1 hbx))
  have hN9 : n1 ≤ 9223372036854775807 := by omega
  clear hn6
  go_wp2
  go_loopw [5, 6] (fun v kk wr => ∃ (k c5 : Nat) (A5 : Option Addr), k ≤ n1 ∧ kk = .int .i64 k ∧ v = .slice A5 n1 c5 ∧ Hd (Mk wr w.heap.size A5 n1 c5 (aRounds q k m)) ∧ Hd (wr.heap[w.heap.size]? = some (.cells #[.int .i64 st, .slice A n1 c] 58 (0, 0))) ∧ Hd (Below w.heap.size w wr)) (fun _ kk _ => n1 - (intOf kk).toNat)
  case atStart => exact ⟨0, c1, A1, Nat.zero_le _, rfl, rfl, HMK, HBX, HB1⟩
  case round =>
    clear HMK HBX HB1
    obtain ⟨k, c5, A5, hk, rfl, rfl, HMK, HBX, HB⟩ := hrel
    have hbx := HBX.out
    have hbxc0 := blk_cell hbx 0 _ rfl; have hbxf0 := blk_frozen hbx 0; have hbxc1 := blk_cell hbx 1 _ rfl; have hbxf1 := blk_frozen hbx 1; have hbxl := blk_lt hbx
    by_cases hlt : k < n1
    · obtain ⟨mm, hmm⟩ : ∃ a, aRounds q k m = a := ⟨_, rfl⟩
      rw [hmm] at HMK
      have HMM := Hd.mk hmm
      clear hmm
      go_wp2
      clear hbxc0 hbxf0 hbxc1 hbxf1 hbxl
      clear hbx
      go_loopw [7] (fun ii wr2 => ∃ (i : Nat), i ≤ n1 ∧ ii = .int .i64 i ∧ Hd (Mk wr2 w.heap.size A5 n1 c5 (goK q i mm)) ∧ Hd (wr2.heap[w.heap.size]? = some (.cells #[.int .i64 st, .slice A n1 c] 58 (0, 0))) ∧ Hd (Below w.heap.size w wr2)) (fun ii _ => n1 - (intOf ii).toNat)
      case atStart => exact ⟨0, Nat.zero_le _, rfl, HMK, HBX, HB⟩
      case round =>
        clear HMK HBX HB
        obtain ⟨i, hi, rfl, HMK, HBX, HB⟩ := hrel
        have hbx := HBX.out
        have hbxc0 := blk_cell hbx 0 _ rfl; have hbxf0 := blk_frozen hbx 0; have hbxc1 := blk_cell hbx 1 _ rfl; have hbxf1 := blk_frozen hbx 1; have hbxl := blk_lt hbx
        have hzr := HB.out.size
        by_cases hlt2 : i < n1
        · obtain ⟨b, off, x, A', c', rfl, hb, hx, h0x, h1x, h2x, h3x, h4x, hrow⟩ := st_get (HROW.out.below HLT.out HB.out) i hlt2
          obtain ⟨ne, hne⟩ : ∃ m, x.eps.length = m := ⟨_, rfl⟩
          rw [hne] at h3x
          have HBA := Hd.mk (below_seq HB.out (below_alloc (Below.refl wr.heap.size wr) (.cells #[.int .i64 x.lo, .int .i64 x.hi, .int .i64 x.dst, .slice A' ne c', .int .i64 x.tag] 71)))
          have HMA := Hd.mk (HMK.out.below (below_alloc (Below.refl wr.heap.size wr) (.cells #[.int .i64 x.lo, .int .i64 x.hi, .int .i64 x.dst, .slice A' ne c', .int .i64 x.tag] 71)))
          obtain ⟨g, rfl, hg, hgl, hcm, hfm, -⟩ := HMA.out.place hlt2
          obtain ⟨bi, hbi⟩ : ∃ b, (goK q i mm).getD i false = b := ⟨_, rfl⟩
          rw [hbi] at hcm
          have HG : Hd (goK q (i + 1) mm = if bi = true ∧ 0 ≤ x.lo then (goK q i mm).set x.dst.toNat true else goK q i mm) := ⟨by rw [goK_succ, ← hbi]; unfold goI; rw [hx]⟩
          have HD : Hd (0 ≤ x.lo → 0 ≤ x.dst ∧ x.dst < (n1 : Int)) := ⟨fun h => by have := dst_ok HOK.out hx h; rwa [HN.out] at this⟩
          have hgw : ¬ w.heap.size = g := fun h => by
            have h1 := HBX.out
            rcases HMK.out.at_ with h2 | ⟨g3, e3, _, rest, h2⟩
            · omega
            · cases e3
              rw [← h, h1] at h2
              simp only [Option.some.injEq, Obj.cells.injEq] at h2
              exact absurd h2.2.1 (by decide)
          clear hx hne hbi hrow
          cases bi with
          | false =>
            go_wp2
            go_roundw
            case rel => exact ⟨i + 1, by omega, by go_num, ⟨by rw [HG.out, if_neg (by rintro ⟨a, b⟩; first | omega | cases a)]; exact HMA.out⟩, ⟨blk_alloc hbx _⟩, ⟨HBA.out⟩⟩
            case measure => simp [intOf]; omega
          | true =>
            by_cases h1 : 0 ≤ x.lo
            · have hd := HD.out h1
              obtain ⟨lo, hi2, dst, eps, tag⟩ := x
              dsimp only at *
              obtain ⟨d, rfl⟩ : ∃ d : Nat, dst = d := ⟨dst.toNat, by omega⟩
              obtain ⟨g2, he, -, -, hc, hf, hm⟩ := HMA.out.place (k := d) (by omega)
              cases he
              have HM2 := Hd.mk hm
              clear hm
              go_wp2
              go_roundw
              case rel => exact ⟨i + 1, by omega, by go_num, ⟨by rw [HG.out, if_pos ⟨rfl, h1⟩, Int.toNat_natCast]; exact HM2.out⟩, ⟨blk_far (blk_alloc hbx _) hgw _⟩, ⟨below_set HBA.out hg _ _⟩⟩
              case measure => simp [intOf]; omega
            · skip
              go_wp2
              go_roundw
              case rel => exact ⟨i + 1, by omega, by go_num, ⟨by rw [HG.out, if_neg (by rintro ⟨a, b⟩; first | omega | cases a)]; exact HMA.out⟩, ⟨blk_alloc hbx _⟩, ⟨HBA.out⟩⟩
              case measure => simp [intOf]; omega
        · obtain rfl : i = n1 := by omega
          have h9 := rclose_calls st A i c q S A5 c5 _ (fun j => w.heap.size ≤ j ∧ j < wr.heap.size) wr HN.out HN6.out (HNF.out.below HB.out) HOK.out (fun j hj => hj.2) (HMK.out.row HN6.out) HMK.out.nn
          have HRC := Hd.mk h9
          clear h9
          go_wp2_with (go_at_call 55; go_must (refine Calls.mono HRC.out ?_; rintro e w3 ⟨A3, c3, rfl, hm3, hb3⟩; have HM3 := Hd.mk hm3; have HB3 := Hd.mk hb3; have hbx3 := blk_below hbx hb3; clear hm3 hb3))
          go_roundw
          case rel => exact ⟨k + 1, c3, A3, by omega, by go_num, rfl, ⟨by
            have h := HM3.out.mono hzr
            have e : aRounds q (k + 1) m = closeM epsE q (goK q i mm) := by
              show aRound q (aRounds q k m) = _
              unfold aRound
              rw [HMM.out, HN.out]
            rw [e]
            exact h⟩, ⟨hbx3⟩, ⟨below_seq HB.out HB3.out⟩⟩
          case measure => simp [intOf]; omega
    · obtain rfl : k = n1 := by omega
      have hzr := HB.out.size
      have h9 := rclose_calls st A k c q S A5 c5 _ (fun j => w.heap.size ≤ j ∧ j < wr.heap.size) wr.drew HN.out HN6.out (HNF.out.below (below_drew1 HB.out |> fun h => below_seq HB.out (below_drew1 (Below.refl _ _)))) HOK.out (fun j hj => hj.2) ((HMK.out.row HN6.out).move (fun _ _ => rfl)) HMK.out.nn
      rw [HDN.out] at h9
      have HRC := Hd.mk h9
      clear h9
      go_wp2
      refine wp_region_can (.q [0, 1, 2] (.e 3 true (.e 4 false (.q [5, 6] (.done))))) (clsB _) (by kernel_rfl) (by kernel_rfl) (by intro _ _ d _ _ h; cases d <;> exact h) (clsB_drew _) ?_
      refine can_q (l := [⟨_,_,_,_,_,_⟩, ⟨_,_,_,_,_,_⟩, ⟨_,_,_,_,_,_⟩]) rfl ?_
      repeat (go_big_quiet_step (fail))
      refine wpQuiet_nil ?_
      refine can_e (o := ⟨_,_,_,_,_,_⟩) rfl (fun K hK => ?_)
      go_wp2_with (go_at_call 55; go_must (refine Calls.mono HRC.out ?_; rintro e w3 ⟨A3, c3, rfl, hm3, hb3⟩; rw [size_drew] at hm3; have HM3 := Hd.mk hm3; have HB3 := Hd.mk (below_undrew hb3); clear hm3 hb3))
      refine onK_normal (hK _ _ ⟨clsB _, clsB_of (by first | exact (HB3.out) | exact below_undrew (HB3.out)), fun _ _ h => h, ?_⟩)
      clear hK K
      obtain ⟨bb, hbb⟩ : ∃ b, bestM q (closeM anyE q m) = b := ⟨_, rfl⟩
      rw [hbb] at HR
      have h8 := rbest_calls st A k c q S A3 c3 _ (fun j => wr.heap.size ≤ j ∧ j < w3.heap.size) w3 HN.out (HNF.out.below (below_seq HB.out HB3.out)) (fun j hj => hj.2) (HM3.out.row HN6.out)
      rw [hbb] at h8
      have HJ := Hd.mk h8
      clear h8 hbb
      refine can_e (o := ⟨_,_,_,_,_,_⟩) rfl (fun K hK => ?_)
      go_wp2_with (go_at_call 53; go_must (refine Calls.mono HJ.out ?_; rintro e w6 ⟨rfl, hb6⟩; have HB6 := Hd.mk hb6; clear hb6))
      refine onK_normal (hK _ _ ⟨fun _ => True, trivial, (fun h => by cases h), ?_⟩)
      clear hK K
      refine can_q (l := [⟨_,_,_,_,_,_⟩, ⟨_,_,_,_,_,_⟩]) rfl ?_
      repeat (go_big_quiet_step (fail))
      refine wpQuiet_nil ?_
      refine can_done ?_
      go_wp2
      go_ret
      exact ⟨by rw [← HR.out]; rfl, below_seq (below_seq HB.out HB3.out) HB6.out⟩
end Go.Proofs.YtbmpaokicphdjaaDoor.Fn
