/- What Put computes: the walk. -/
import Derived.Test.YtbdnhdecclndfaaR3
namespace Go.Proofs.Ytbdnhdecclndfaa.Fn
open Go Go.RowKit Go.Proofs.Ytbdnhdecclndfaa.Can Go.Proofs.Ytbdnhdecclndfaa.Base
attribute [local go_sem] clsB AB.cell

def bl (s : ByteArray) : List UInt8 := s.data.toList
theorem bl_len (s : ByteArray) : (bl s).length = s.size := rfl
theorem bl_ext (s : ByteArray) (a b : Nat) : bl (s.extract a b) = ((bl s).drop a).take (b - a) := by
  simp [bl, List.extract_eq_take_drop]
theorem size1 : ∀ w, (Go.sizeOf 5).run Try.prog w = .ok 1 w := by
  obtain ⟨i, hi, _, hs, _⟩ := info_of (P := Try.prog) (e := 5) (z := some (.int .u8 0)) (s := 1) (b := 1) (by kernel_rfl)
  intro w
  simp [Go.sizeOf, typeInfo, hi, hs]
set_option maxHeartbeats 1000000 in
theorem put_calls (s : ByteArray) {p r m fl : Nat} {all rs : List UInt8} {w : World} (h : Rg w p r m fl all rs) (hE : all.length + s.size ≤ 1000000000) : Calls Try.prog 8 #[.pointer (some ⟨p, 0, none⟩), .string s] w fun e w' =>
    e = .returned (.int .i64 ((min s.size (fl + m - all.length) : Nat) : Int)) ∧ (∃ rs', Rg w' p r m fl (all ++ (bl s).take (min s.size (fl + m - all.length))) rs') ∧ Fr (fun b => b = p ∨ b = r) w w' := by
  have h1 := h.max
  have h2 := h.pos
  have h3 := h.fle
  have h4 := h.room
  obtain ⟨lf, hlf⟩ : ∃ lf, fl + m - all.length = lf := ⟨_, rfl⟩
  obtain ⟨n, hn⟩ : ∃ n, min s.size lf = n := ⟨_, rfl⟩
  have hns : n ≤ s.size := by rw [← hn]; exact Nat.min_le_left _ _
  have hnl : n ≤ lf := by rw [← hn]; exact Nat.min_le_right _ _
  have hmin : (if (lf : Int) < (s.size : Int) then (lf : Int) else (s.size : Int)) = n := by
    rw [← hn]; split <;> omega
  rw [hlf, hn]
  have hlm : lf ≤ m := by omega
  have hs1 : s.size ≤ 1000000000 := by omega
  have HLF := Hd.mk hlf; have HMI := Hd.mk hmin; have HE := Hd.mk hE; clear hlf hmin hE hn h4 h3
  have hne : ¬ r = p := Ne.symm h.ne
  have hne2 : ¬ p = r := h.ne
  have HRm := Hd.mk h.room
  have H := Hd.mk h; clear h
  by_cases hn0 : n = 0
  · subst hn0
    go_enter Try.func8, Try.ntmps8
    go_wp2_with (first | (refine min_int rfl (.tmp 8) (.tmp 10) _ rfl .i64 s.size lf 0 rfl rfl HMI.out ?_) | (go_at_call 15; go_must (refine Calls.mono (left_calls H.out (by have := HE.out; omega)) ?_; rintro e w1 ⟨he, hb1⟩; rw [HLF.out] at he; subst he)))
    go_ret
    exact ⟨rfl, ⟨rs, by rw [List.take_zero, List.append_nil]; exact H.out.below hb1⟩, Fr.of_below hb1⟩
  · have hn1 : ¬ (n : Int) = 0 := by omega
    have hn1b : ((n : Int) == 0) = false := by simpa using hn1
    have HR : Hd (bl (s.extract 0 n) = (bl s).take n) := ⟨by rw [bl_ext]; simp⟩
    go_enter Try.func8, Try.ntmps8
    go_wp2_with (first | (refine min_int rfl (.tmp 8) (.tmp 10) _ rfl .i64 s.size lf n rfl rfl HMI.out ?_) | (go_at_call 15; go_must (refine Calls.mono (left_calls H.out (by have := HE.out; omega)) ?_; rintro e w1 ⟨he, hb1⟩; rw [HLF.out] at he; subst he; have H1 := Hd.mk (H.out.below hb1); have HF1 : Hd (Fr (fun b => b = p ∨ b = r) w w1) := ⟨Fr.of_below hb1⟩; clear hb1)))
    go_loopw [1, 17] (fun sv i wr => ∃ (q : Nat) (rb : ByteArray) (al rs2 : List UInt8), q ≤ 2 ∧ i = .int .i64 q ∧ sv = .string rb ∧ rb.size ≤ n ∧ Hd (Rg wr p r m fl al rs2) ∧ Hd (al ++ bl rb = all ++ (bl s).take n) ∧ Hd (q = 1 → rb.size = 0 ∨ al.length % m = 0) ∧ Hd (q = 2 → rb.size = 0) ∧ Hd (Fr (fun b => b = p ∨ b = r) w wr)) (fun _ i _ => 2 - (intOf i).toNat)
    case atStart => exact ⟨0, s.extract 0 n, all, rs, by omega, rfl, rfl, by simp; omega, H1, ⟨by rw [HR.out]⟩, ⟨fun h => by cases h⟩, ⟨fun h => by cases h⟩, HF1⟩
    case round =>
      clear H H1 HF1
      obtain ⟨q, rb, al, rs2, hq, rfl, rfl, hrb, HG, HA, H12, H22, HF⟩ := hrel
      by_cases hq2 : q < 2
      · obtain ⟨e, he⟩ : ∃ e, al.length = e := ⟨_, rfl⟩
        have hA := congrArg List.length HA.out
        rw [List.length_append, List.length_append, List.length_take, bl_len, bl_len, Nat.min_eq_left hns, he] at hA
        have hE := HE.out
        have hroom := HG.out.room
        have hfle := HG.out.fle
        have hlf := HLF.out
        rw [he] at hroom hfle
        have hroom2 : e + rb.size ≤ fl + m := by have := HRm.out; omega
        obtain ⟨j, hj⟩ : ∃ j, e % m = j := ⟨_, rfl⟩
        have hjm : j < m := by rw [← hj]; exact Nat.mod_lt _ h2
        obtain ⟨k, hk⟩ : ∃ k, Nat.min rb.size (m - j) = k := ⟨_, rfl⟩
        have hk1 : k ≤ rb.size := by rw [← hk]; exact Nat.min_le_left _ _
        have hk2 : k ≤ m - j := by rw [← hk]; exact Nat.min_le_right _ _
        have hvl : ((bl rb).take k).length = k := by rw [List.length_take, bl_len]; omega
        have hQ : q + 1 = 1 → rb.size - k = 0 ∨ (e + k) % m = 0 := fun _ => by
          rcases Nat.le_total rb.size (m - j) with h | h
          · left; rw [← hk, show Nat.min rb.size (m - j) = rb.size from Nat.min_eq_left h]; exact Nat.sub_self _
          · right
            rw [← hk, show Nat.min rb.size (m - j) = m - j from Nat.min_eq_right h]
            have h5 := Nat.div_add_mod e m
            rw [hj] at h5
            rw [show e + (m - j) = m * (e / m + 1) by rw [Nat.mul_add]; omega, Nat.mul_mod_right]
        have hQ2 : q + 1 = 2 → rb.size - k = 0 := fun h => by
          rcases H12.out (by omega) with h5 | h5
          · omega
          · rw [he, hj] at h5
            subst h5
            rw [← hk, show Nat.min rb.size (m - 0) = rb.size from Nat.min_eq_left (by omega)]; exact Nat.sub_self _
        have HB' : Hd (bl (rb.extract k rb.size) = (bl rb).drop k) := ⟨by rw [bl_ext, List.take_of_length_le (by rw [List.length_drop, bl_len]; exact Nat.le_refl _)]⟩
        have hsz : (rb.extract k rb.size).size = rb.size - k := by rw [← bl_len, HB'.out, List.length_drop, bl_len]
        have hcopy : (Builtin.copy_ #[41, 9] 3 #[.slice (some ⟨r, j, none⟩) (m - j) (m - j), .string rb]).run Try.prog wr.drew = .ok (.int .i64 k) (wr.drew.setCells r j (((bl rb).take k).map fun x => Value.int .u8 (x.toNat : Int))) := by
          refine run_copy_min wr.drew 41 9 3 5 r j (m - j) (m - j) k rb Try.underlying41 size1 hk (fun x hx => ?_) (fun x _ => HG.out.row.frozen _)
          have hx2 : j + x < rs2.length := by rw [HG.out.len]; omega
          have := HG.out.row.cell (j := 0) u_len (List.getElem?_eq_getElem hx2) rfl
          rw [Nat.mul_one, Nat.add_zero] at this
          show (wr.cell? ⟨r, j + x, none⟩).isSome = true
          rw [this]; rfl
        have hb3 : (wr.drew.setCells r j (((bl rb).take k).map fun x => Value.int .u8 (x.toNat : Int))).heap[p]? = some (.cells #[.slice (some ⟨r, 0, none⟩) m m, .int .i64 fl, .int .i64 e] 45 (0, 0)) := (far_puts hne2 _ _).trans (by have := HG.out.str; rw [he] at this; exact this)
        have hw3 : Blk uE (wr.drew.setCells r j (((bl rb).take k).map fun x => Value.int .u8 (x.toNat : Int))) 5 r (putL rs2 j ((bl rb).take k)) := Blk.puts (w := wr.drew) (HG.out.row.move rfl) j _ (by rw [hvl, HG.out.len]; omega)
        have hf3 : Fr (fun b => b = p ∨ b = r) w (wr.drew.setCells r j (((bl rb).take k).map fun x => Value.int .u8 (x.toNat : Int))) := fr_puts HF.out.drew (.inl (.inr rfl)) _ _
        have hok := ring_put (l := (bl rb).take k) HG.out.ok h2 HG.out.len (by rw [hvl, he]; omega) (by rw [hvl, he, hj]; omega)
        rw [he, hj] at hok
        have hs := HG.out.str
        rw [he] at hs
        have hsc0 := blk_cell hs 0 _ rfl; have hsf0 := blk_frozen hs 0; have hsc1 := blk_cell hs 1 _ rfl; have hsf1 := blk_frozen hs 1; have hsc2 := blk_cell hs 2 _ rfl; have hsf2 := blk_frozen hs 2; have hsl := blk_lt hs
        have hE9 : e + k ≤ 1000000000 := by omega
        have hrbs : rb.size ≤ 1000000000 := by omega
        have hqI : (q : Int) < 2 := by omega
        have hnjm : ¬ m = j := by omega
        have hHG := HG.out.row.lt
        have HP : Hd (e % m = j) := ⟨hj⟩
        have HHE := Hd.mk he; have HQ := Hd.mk hQ; have HQ2 := Hd.mk hQ2; have HOK := Hd.mk hok; have HW3 := Hd.mk hw3; have HF3 := Hd.mk hf3; have HB3 := Hd.mk hb3; have HVL := Hd.mk hvl; have HSZ := Hd.mk hsz; have HRo := Hd.mk hroom2; have HA1 := Hd.mk hA; have Hfle := Hd.mk hfle
        clear he hQ hQ2 hok hw3 hf3 hb3 hvl hsz hj hk hroom hroom2 hA hlf hE hfle
        go_wp2
        refine wp_region_can (.q [0, 1, 2, 3, 4, 5, 6, 7, 8, 11] (.e 9 true (.q [10] (.e 12 false (.q [13] (.done)))))) (clsB _) (by kernel_rfl) (by kernel_rfl) (by intro _ _ d _ _ h; cases d <;> exact h) (clsB_drew _) ?_
        refine can_q (l := [⟨_,_,_,_,_,_⟩, ⟨_,_,_,_,_,_⟩, ⟨_,_,_,_,_,_⟩, ⟨_,_,_,_,_,_⟩, ⟨_,_,_,_,_,_⟩, ⟨_,_,_,_,_,_⟩, ⟨_,_,_,_,_,_⟩, ⟨_,_,_,_,_,_⟩, ⟨_,_,_,_,_,_⟩, ⟨_,_,_,_,_,_⟩]) rfl ?_
        repeat (go_big_quiet_step (fail))
        refine wpQuiet_nil ?_
        refine can_e (o := ⟨_,_,_,_,_,_⟩) rfl (fun K hK => ?_)
        go_wp2_with (go_at_call 19; go_must (refine Calls.mono (place_calls e (HG.out.below (by repeat (first | (with_reducible assumption) | (with_reducible exact Below.refl _ _) | (with_reducible apply below_drewL) | (with_reducible apply below_alloc) | (with_reducible apply below_drew1) | (with_reducible apply below_drewN) | (refine below_set ?_ (by first | omega | (simp only [size_alloc, size_drew, size_set]; omega)) _ _))))) ?_; rintro e9 w2 ⟨hh, rfl⟩; rw [HP.out] at hh; subst hh))
        refine onK_normal (hK _ _ ⟨clsB _, (by first | exact clsB_drew _ | exact clsB_self _), fun _ => clsB_next (by first | exact ((by repeat (first | (with_reducible assumption) | (with_reducible exact Below.refl _ _) | (with_reducible apply below_drewL) | (with_reducible apply below_alloc) | (with_reducible apply below_drew1) | (with_reducible apply below_drewN) | (refine below_set ?_ (by first | omega | (simp only [size_alloc, size_drew, size_set]; omega)) _ _)))) | exact below_undrew ((by repeat (first | (with_reducible assumption) | (with_reducible exact Below.refl _ _) | (with_reducible apply below_drewL) | (with_reducible apply below_alloc) | (with_reducible apply below_drew1) | (with_reducible apply below_drewN) | (refine below_set ?_ (by first | omega | (simp only [size_alloc, size_drew, size_set]; omega)) _ _))))), ?_⟩)
        clear hK K
        refine can_q (l := [⟨_,_,_,_,_,_⟩]) rfl ?_
        repeat (go_big_quiet_step (fail))
        refine wpQuiet_nil ?_
        refine can_e (o := ⟨_,_,_,_,_,_⟩) rfl (fun K hK => ?_)
        go_wp2_with fail
        refine onK_normal (hK _ _ ⟨fun _ => True, trivial, (fun h => by cases h), ?_⟩)
        clear hK K
        refine can_q (l := [⟨_,_,_,_,_,_⟩]) rfl ?_
        repeat (go_big_quiet_step (fail))
        refine wpQuiet_nil ?_
        refine can_done ?_
        rw [← List.map_take]
        have hb4 := HB3.out; have hw4 := HW3.out; have hf4 := HF3.out
        clear hsc0 hsf0 hsc1 hsf1 hsc2 hsf2 hsl
        clear hcopy HB3 HW3 HF3 hs hHG
        generalize World.setCells wr.drew r j _ = W3 at *
        have hb4c0 := blk_cell hb4 0 _ rfl; have hb4f0 := blk_frozen hb4 0; have hb4c1 := blk_cell hb4 1 _ rfl; have hb4f1 := blk_frozen hb4 1; have hb4c2 := blk_cell hb4 2 _ rfl; have hb4f2 := blk_frozen hb4 2; have hb4l := blk_lt hb4
        have HW4 := Hd.mk hw4; have HF4 := Hd.mk hf4
        clear hw4 hf4
        go_wp2
        go_roundw
        case rel =>
          have hlen9 : (al ++ (bl rb).take k).length = e + k := by rw [List.length_append, HHE.out, HVL.out]
          refine ⟨q + 1, rb.extract k rb.size, al ++ (bl rb).take k, putL rs2 j ((bl rb).take k), by omega, by go_num, by first | rfl | simp, by rw [HSZ.out]; omega, ⟨⟨?_, HW4.out.far (p := ⟨p, 2, none⟩) hne _, hne2, by rw [putL_len]; exact HG.out.len, h2, h1, by rw [hlen9]; have := Hfle.out; omega, by rw [hlen9]; have := HRo.out; omega, HOK.out⟩⟩, ⟨?_⟩, ⟨?_⟩, ⟨?_⟩, ⟨Fr.set HF4.out (.inl (.inl rfl)) _ _⟩⟩
          · exact blk_set hb4 2 _ _ (by rw [hlen9]; rfl)
          · rw [HB'.out, List.append_assoc, List.take_append_drop]; exact HA.out
          · rw [HSZ.out, hlen9]; exact HQ.out
          · rw [HSZ.out]; exact HQ2.out
        case measure => simp [intOf]; omega
      · obtain rfl : q = 2 := by omega
        have h0 := H22.out rfl
        have HS0 := Hd.mk h0; clear h0
        go_wp2
        go_ret
        have h0 := HS0.out
        have hb0 : bl rb = [] := List.eq_nil_of_length_eq_zero (by rw [bl_len]; exact h0)
        have hA := HA.out
        rw [hb0, List.append_nil] at hA
        exact ⟨rfl, ⟨rs2, by rw [← hA]; exact HG.out⟩, HF.out⟩
end Go.Proofs.Ytbdnhdecclndfaa.Fn
