/- Whether takes are what they ought to be. -/
import Derived.Test.YtoambcpjdcehhaaGreatJA
import Derived.Deep.DeepCutAuto
import Derived.Deep.CutBlock
set_option linter.unusedVariables false
set_option linter.unusedSimpArgs false
namespace Go.Proofs.YtoambcpjdcehhaaGreat.Id
open Go Go.RowKit Go.Shelf Go.Proofs.YtoambcpjdcehhaaGreat.Can Go.Proofs.YtoambcpjdcehhaaGreat.Base Go.Proofs.YtoambcpjdcehhaaGreat.Tb
open Go.Proofs.YtoambcpjdcehhaaGreat.Fn hiding get_calls
attribute [local go_sem] clsB AB.cell
attribute [local go_sem high] eq27 eq29_same

theorem row_len {α : Type} {T : Ty α} {w : World} {S : Nat → Prop} {A : Option Addr} {n : Nat} {xs : List α} (h : Row T w S A n xs) : xs.length = n := h.1
/-- A row in blocks that are there, later. -/
theorem row_on {α : Type} {T : Ty α} {w w' : World} {A : Option Addr} {n : Nat} {xs : List α} (h : Row T w (fun k => k < w.heap.size) A n xs) (hb : Below w.heap.size w w') : Row T w' (fun k => k < w'.heap.size) A n xs := (h.below (fun k hk => hk) hb).mono (fun k hk => Nat.lt_of_lt_of_le hk hb.size)
theorem eq_bl (d : ByteArray) : d = ⟨(bl d).toArray⟩ := by unfold bl; simp
section
variable {w : World} {C : Cf} {B : Nat} {s : Cu} {v : Value} {F : Nat → Prop} {l : Lx}
set_option maxRecDepth 100000 in
set_option maxHeartbeats 8000000 in
theorem fine_calls (e1 e2 e3 : Nat) {S SE : Nat → Prop} {AE : Option Addr} {cE : Nat} {H : List Ev} {mode : Int} (h : CW w C B s v F) (hK : Ok C l s) (hr : rightB l = true) (hL : LXC w S C l) (hm0 : 0 ≤ mode) (hm1 : mode < l.modes.length) (hSE : ∀ k, SE k → k < w.heap.size) (hE : Row evT w SE AE H.length H) (hwf : EvWf H) (hHl : H.length ≤ 1000000)
    (hf : Fit l s.text s.cl mode (pureL H) s.now.at_ s.tr (runM mode H).s) :
    Calls Tryz.prog 11 #[.pointer (some ⟨C.p, 0, none⟩), .agg #[.slice C.A1 C.n1 e1, .slice C.A2 C.n2 e2, .slice C.A3 C.n3 e3, .int .i64 mode, .int .i64 C.P.bytes, .int .i64 C.P.trail, .int .i64 C.P.marks, .int .i64 C.P.ahead, .int .i64 C.P.tickets, .int .i64 C.P.retries, .int .i64 C.P.step], .slice AE H.length cE] w fun e w' => e = .returned (.bool true) ∧ Below w.heap.size w w' := by
  have hsz := hK.size
  have hpin := hK.pin
  have hdp := newD_pos C.P.trail
  have HSP := Hd.mk (fun W (hW : Below w.heap.size w W) => ispot_calls (h.below hW))
  have HTX := Hd.mk (fun W (hW : Below w.heap.size w W) => itext_calls (h.below hW) (by omega))
  have HCL := Hd.mk (fun W (hW : Below w.heap.size w W) => iclosed_calls (h.below hW))
  have HTR := Hd.mk (fun W (hW : Below w.heap.size w W) => itrail_calls (h.below hW) (by show newD C.P.trail ≤ 5000; omega))
  have HOF := Hd.mk (fun W (hW : Below w.heap.size w W) => Fn.of_calls2 mode AE cE H SE W (fun k hk => Nat.lt_of_lt_of_le (hSE k hk) hW.size) (hE.below hSE hW) hwf hHl)
  have HVS := Hd.mk (fun W (hW : Below w.heap.size w W) => Fn.spot_calls mode AE cE H SE W (fun k hk => Nat.lt_of_lt_of_le (hSE k hk) hW.size) (hE.below hSE hW) hwf hHl)
  have HVP := Hd.mk (fun W (hW : Below w.heap.size w W) => Fn.pure_calls AE H.length cE H SE W (fun k hk => Nat.lt_of_lt_of_le (hSE k hk) hW.size) (hE.below hSE hW))
  have hHE := hE.le
  have HF := Hd.mk hf
  have heq := hf.eq
  rw [heq] at HVS
  have hlen := hf.len hr
  have HH := Hd.mk h
  have HHL := Hd.mk hL
  obtain ⟨hn0, hn1, hn2, hn3⟩ := hpin
  generalize hst : (runM mode H).s = st at *
  obtain ⟨n, hn⟩ : ∃ n, st.l.length = n := ⟨_, rfl⟩
  obtain ⟨m, hm⟩ : ∃ m, H.length = m := ⟨_, rfl⟩
  rw [hm] at HOF HVS HVP hHE ⊢
  have HN := Hd.mk hn
  clear h hK hL hE hwf hSE hf hm heq hst
  unfold spotV at *
  generalize s.now.at_ = q at *
  obtain ⟨qa, qm⟩ := q
  obtain ⟨j, hj⟩ : ∃ j : Nat, qa = j := ⟨qa.toNat, by simp only [] at hn0; omega⟩
  subst hj
  simp only [] at *
  have hjl : j ≤ s.text.length := by omega
  have hts : (ByteArray.mk s.text.toArray).size = s.text.length := by show s.text.toArray.size = _; exact List.size_toArray
  obtain ⟨T, hT⟩ : ∃ T : ByteArray, ByteArray.mk s.text.toArray = T := ⟨_, rfl⟩
  have HJN := Hd.mk (HF.out.joined hr)
  have HBY := Hd.mk (HF.out.bytes hr)
  rw [hT] at HTX hts HBY
  have HTT := Hd.mk hT
  clear hT
  obtain ⟨B1, hB1⟩ : ∃ b, ByteArray.mk (s.text.take j).toArray = b := ⟨_, rfl⟩
  have hex : T.extract 0 j = B1 := by
    rw [← hB1, eq_bl (T.extract 0 j), take_ext T j (by omega), ← HTT.out]
    rfl
  have HBB : Hd (ByteArray.mk (bytesU T (st.l.map (·.tok))).toArray = B1) := ⟨by rw [HBY.out, Int.toNat_natCast, hB1]⟩
  clear hB1
  have hn100 : n ≤ 100000 := by omega
  have hv0 := blk_new w (.cells #[.slice C.A1 C.n1 e1, .slice C.A2 C.n2 e2, .slice C.A3 C.n3 e3, .int .i64 mode, .int .i64 C.P.bytes, .int .i64 C.P.trail, .int .i64 C.P.marks, .int .i64 C.P.ahead, .int .i64 C.P.tickets, .int .i64 C.P.retries, .int .i64 C.P.step] 30 (0, 0)) _ rfl
  have HV0 := Hd.mk hv0
  clear hv0
  go_enter Tryz.func11, Tryz.ntmps11
  go_upto_region 2 with (first
    | (go_at_call 25; go_must (with_reducible refine Calls.mono (HTX.out _ HB2.out) ?_; rintro e w3 ⟨rfl, h9⟩; subst h9))
    | (go_at_call 24; go_must (with_reducible refine Calls.mono (HSP.out _ HB1.out) ?_; rintro e w2 ⟨rfl, hb2⟩; have HB2 := Hd.mk (below_seq HB1.out hb2); have HR2 := Hd.mk ((HR1.out.below (fun k hk => hk) hb2).mono (S' := fun k => k < w2.heap.size) (fun k hk => Nat.lt_of_lt_of_le hk hb2.size)); have HV2 := Hd.mk (blk_below HV1.out hb2); clear hb2))
    | (go_at_call 14; go_must (with_reducible refine Calls.mono (HOF.out _ (by exact (by repeat (first | (with_reducible assumption) | (with_reducible exact Below.refl _ _) | (with_reducible apply below_drewL) | (with_reducible apply below_alloc) | (with_reducible apply below_drew1) | (with_reducible apply below_drewN) | (refine below_set ?_ (by first | omega | (simp only [size_alloc, size_drew, size_set]; omega)) _ _))))) ?_; rintro e w1 ⟨A', n', c', rfl, hcc, hr1, hb1⟩; have HB1 := Hd.mk (below_seq (a := w) (by repeat (first | (with_reducible assumption) | (with_reducible exact Below.refl _ _) | (with_reducible apply below_drewL) | (with_reducible apply below_alloc) | (with_reducible apply below_drew1) | (with_reducible apply below_drewN) | (refine below_set ?_ (by first | omega | (simp only [size_alloc, size_drew, size_set]; omega)) _ _))) hb1); obtain rfl : n = n' := (by rw [← HN.out]; exact row_len hr1); have HR1 := Hd.mk (hr1.mono (S' := fun k => k < w1.heap.size) (fun k hk => hk.2)); have hv1 := blk_below HV0.out hb1; have HV1 := Hd.mk hv1; clear hb1 hr1 hv1)))
  generalize hZ : World.alloc _ _ = Z
  have HBZ : Below w3.heap.size w3 Z := below_of hZ (by repeat (first | (with_reducible assumption) | (with_reducible exact Below.refl _ _) | (with_reducible apply below_drewL) | (with_reducible apply below_alloc) | (with_reducible apply below_drew1) | (with_reducible apply below_drewN) | (refine below_set ?_ (by first | omega | (simp only [size_alloc, size_drew, size_set]; omega)) _ _)))
  have zZ : Hd (Z.heap.size = w3.heap.size + 1) := ⟨by rw [← hZ]; simp only [size_alloc]⟩
  have Z0 := at_of hZ (blk_new _ _ _ rfl)
  have Z0l := blk_lt Z0
  clear hZ
  have HBZ2 := Hd.mk (below_seq HB2.out HBZ)
  have HRZ := Hd.mk (row_on HR2.out HBZ)
  have HVZ := Hd.mk (blk_below HV2.out HBZ)
  have HZ0 := Hd.mk Z0
  have hvz := HVZ.out
  have hd1 : decide (s.text.length < j) = false := decide_eq_false (by omega)
  have hvzc0 := blk_cell hvz 0 _ rfl; have hvzf0 := blk_frozen hvz 0; have hvzc1 := blk_cell hvz 1 _ rfl; have hvzf1 := blk_frozen hvz 1; have hvzc2 := blk_cell hvz 2 _ rfl; have hvzf2 := blk_frozen hvz 2; have hvzc3 := blk_cell hvz 3 _ rfl; have hvzf3 := blk_frozen hvz 3; have hvzc4 := blk_cell hvz 4 _ rfl; have hvzf4 := blk_frozen hvz 4; have hvzc5 := blk_cell hvz 5 _ rfl; have hvzf5 := blk_frozen hvz 5; have hvzc6 := blk_cell hvz 6 _ rfl; have hvzf6 := blk_frozen hvz 6; have hvzc7 := blk_cell hvz 7 _ rfl; have hvzf7 := blk_frozen hvz 7; have hvzc8 := blk_cell hvz 8 _ rfl; have hvzf8 := blk_frozen hvz 8; have hvzc9 := blk_cell hvz 9 _ rfl; have hvzf9 := blk_frozen hvz 9; have hvzc10 := blk_cell hvz 10 _ rfl; have hvzf10 := blk_frozen hvz 10; have hvzl := blk_lt hvz
  have Z0c0 := blk_cell Z0 0 _ rfl
  have Z0f0 := blk_frozen Z0 0
  have Z0c1 := blk_cell Z0 1 _ rfl
  have Z0f1 := blk_frozen Z0 1
  clear hvz zZ
  refine wp_region_can (.q [0, 1, 2, 4] (.e 3 true (.q [5, 6, 7, 8, 9] (.e 10 false (.q [11, 12, 13, 14, 15, 16, 17, 18, 19, 20, 21, 22, 24, 25, 26, 27] (.e 23 true (.q [28, 29] (.done)))))))) (clsB _) (by kernel_rfl) (by kernel_rfl) (by intro _ _ d _ _ h; cases d <;> exact h) (clsB_drew _) ?_
  refine can_q (l := [⟨_,_,_,_,_,_⟩, ⟨_,_,_,_,_,_⟩, ⟨_,_,_,_,_,_⟩, ⟨_,_,_,_,_,_⟩]) rfl ?_
  repeat (go_big_quiet_step (fail))
  refine wpQuiet_nil ?_
  refine can_e (o := ⟨_,_,_,_,_,_⟩) rfl (fun K hK => ?_)
  go_wp2_with (go_at_call 26; go_must (with_reducible refine Calls.mono (HVS.out _ (by exact below_drew1 HBZ2.out)) ?_; rintro e w4 ⟨rfl, hb4⟩; replace hb4 := below_undrew hb4))
  have HB4 := Hd.mk (below_seq HBZ2.out hb4)
  have HR4 := Hd.mk (row_on HRZ.out hb4)
  have HV4 := Hd.mk (blk_below HVZ.out hb4)
  have HW4 := Hd.mk (blk_below HZ0.out hb4)
  refine onK_normal (hK _ _ ⟨clsB _, clsB_of (by first | exact (hb4) | exact below_undrew (hb4)), fun _ _ h => h, ?_⟩)
  clear hK K
  refine can_q (l := [⟨_,_,_,_,_,_⟩, ⟨_,_,_,_,_,_⟩, ⟨_,_,_,_,_,_⟩, ⟨_,_,_,_,_,_⟩, ⟨_,_,_,_,_,_⟩]) rfl ?_
  repeat (go_big_quiet_step (fail))
  refine wpQuiet_nil ?_
  have HJ := Hd.mk (fun W (hW : Row eT W (fun k => k < W.heap.size) A' n st.l) => Fn.joined_calls A' n c' st.l j _ W (fun k hk => hk) hW)
  rw [HJN.out] at HJ
  have HB := Hd.mk (fun W (hW : Row eT W (fun k => k < W.heap.size) A' n st.l) => Fn.bytes_calls T A' n c' st.l _ W (fun k hk => hk) hW (by omega) hn100)
  rw [HBB.out] at HB
  refine can_e (o := ⟨_,_,_,_,_,_⟩) rfl (fun K hK => ?_)
  go_wp2_with (go_at_call 15; go_must (with_reducible refine Calls.mono (HJ.out _ HR4.out) ?_; rintro e w5 ⟨rfl, hb5⟩))
  have HB5 := Hd.mk (below_seq HB4.out hb5)
  have HR5 := Hd.mk (row_on HR4.out hb5)
  have HV5 := Hd.mk (blk_below HV4.out hb5)
  have HW5 := Hd.mk (blk_below HW4.out hb5)
  have HZ5 := Hd.mk (below_seq hb4 hb5)
  refine onK_normal (hK _ _ ⟨clsB _, clsB_of (by first | exact (HZ5.out) | exact below_undrew (HZ5.out)), fun _ _ h => h, ?_⟩)
  clear hK K
  refine can_q (l := [⟨_,_,_,_,_,_⟩, ⟨_,_,_,_,_,_⟩, ⟨_,_,_,_,_,_⟩, ⟨_,_,_,_,_,_⟩, ⟨_,_,_,_,_,_⟩, ⟨_,_,_,_,_,_⟩, ⟨_,_,_,_,_,_⟩, ⟨_,_,_,_,_,_⟩, ⟨_,_,_,_,_,_⟩, ⟨_,_,_,_,_,_⟩, ⟨_,_,_,_,_,_⟩, ⟨_,_,_,_,_,_⟩, ⟨_,_,_,_,_,_⟩, ⟨_,_,_,_,_,_⟩, ⟨_,_,_,_,_,_⟩, ⟨_,_,_,_,_,_⟩]) rfl ?_
  repeat (go_big_quiet_step (fail))
  refine wpQuiet_nil ?_
  refine can_e (o := ⟨_,_,_,_,_,_⟩) rfl (fun K hK => ?_)
  go_wp2_with (go_at_call 16; go_must (with_reducible refine Calls.mono (HB.out _ HR5.out) ?_; rintro e w6 ⟨rfl, hb6⟩))
  have HB6 := Hd.mk (below_seq HB5.out hb6)
  have HR6 := Hd.mk (row_on HR5.out hb6)
  have HV6 := Hd.mk (blk_below HV5.out hb6)
  have HW6 := Hd.mk (blk_below HW5.out hb6)
  refine onK_normal (hK _ _ ⟨clsB _, clsB_of (by first | exact ((below_seq HZ5.out hb6)) | exact below_undrew ((below_seq HZ5.out hb6))), fun _ _ h => h, ?_⟩)
  clear hK K
  refine can_q (l := [⟨_,_,_,_,_,_⟩, ⟨_,_,_,_,_,_⟩]) rfl ?_
  repeat (go_big_quiet_step (fail))
  refine wpQuiet_nil ?_
  refine can_done ?_
  clear hvzc0 hvzf0 hvzc1 hvzf1 hvzc2 hvzf2 hvzc3 hvzf3 hvzc4 hvzf4 hvzc5 hvzf5 hvzc6 hvzf6 hvzc7 hvzf7 hvzc8 hvzf8 hvzc9 hvzf9 hvzc10 hvzf10 hvzl
  clear hb4 hb5 hb6 HR4 HV4 HW4 HR5 HV5 HW5 HZ5 HB4 HB5 HRZ HVZ HZ0 HBZ2 HBZ Z0 Z0c0 Z0f0 Z0c1 Z0f1 HJ HB HVS HOF HBB HJN HBY hex
  have hwl6 := blk_lt HV6.out
  have HX6 := Hd.mk HB6.out.size
  go_wp2
  go_loopw [57] (fun i wr => ∃ k : Nat, k ≤ n ∧ i = .int .i64 k ∧ Hd (Below w6.heap.size w6 wr)) (fun i _ => n - (intOf i).toNat)
  case atStart => exact ⟨0, Nat.zero_le _, rfl, ⟨Below.refl _ _⟩⟩
  case round =>
    obtain ⟨k, hk, rfl, HB⟩ := hrel
    have HBw := Hd.mk (below_seq HB6.out HB.out)
    have HR := Hd.mk (row_on HR6.out HB.out)
    have HV := Hd.mk (blk_below HV6.out HB.out)
    by_cases hlt : k < n
    · obtain ⟨bb, off, e, rfl, hbb, hx, x0, x1, x2, x3, x4, x5, x6, x7⟩ : ∃ b off e, A' = some ⟨b, off, none⟩ ∧ b < wr.heap.size ∧ st.l[k]? = some e ∧ wr.cell? ⟨b, off + k * 8, none⟩ = some (.int .i64 e.at_.at_) ∧ wr.cell? ⟨b, off + k * 8 + 1, none⟩ = some (.int .i64 e.at_.mode) ∧ wr.cell? ⟨b, off + k * 8 + 2, none⟩ = some (.int .i64 e.tok.k) ∧ wr.cell? ⟨b, off + k * 8 + 3, none⟩ = some (.int .i64 e.tok.r) ∧ wr.cell? ⟨b, off + k * 8 + 4, none⟩ = some (.int .i64 e.tok.f) ∧ wr.cell? ⟨b, off + k * 8 + 5, none⟩ = some (.int .i64 e.tok.a) ∧ wr.cell? ⟨b, off + k * 8 + 6, none⟩ = some (.int .i64 e.tok.t) ∧ wr.cell? ⟨b, off + k * 8 + 7, none⟩ = some (.int .i64 e.tok.m) := by
        obtain ⟨b, off, e, h1, h2, h3, h4⟩ := Fn.flat_at HR.out k hlt
        exact ⟨b, off, e, h1, World.block_lt_of_cell? wr _ (h4 0 _ rfl), h3, h4 0 _ rfl, h4 1 _ rfl, h4 2 _ rfl, h4 3 _ rfl, h4 4 _ rfl, h4 5 _ rfl, h4 6 _ rfl, h4 7 _ rfl⟩
      have hte := HF.out.tok e (List.mem_of_getElem? hx)
      have HN2 := fun W (hW : Below w.heap.size w W) => next_calls C.A1 C.A2 C.A3 C.n1 C.n2 C.n3 e1 e2 e3 l hr S T s.cl (by omega) e.at_ (by rw [← HTT.out]; exact hte.2.2) (some e.tok) (by rw [← HTT.out]; exact hte.1) 0 rfl W (HHL.out.below hW)
      have HN2 := Hd.mk HN2
      unfold spotV at HN2
      have e0 : (some e.tok).getD tok0 = e.tok := rfl
      rw [e0] at HN2
      unfold tokV at HN2
      clear hte hx e0
      go_upto_region 7 with (fail)
      generalize hV : World.alloc _ _ = V
      have HBV : Below wr.heap.size wr V := below_of hV (by repeat (first | (with_reducible assumption) | (with_reducible exact Below.refl _ _) | (with_reducible apply below_drewL) | (with_reducible apply below_alloc) | (with_reducible apply below_drew1) | (with_reducible apply below_drewN) | (refine below_set ?_ (by first | omega | (simp only [size_alloc, size_drew, size_set]; omega)) _ _)))
      have zV : Hd (V.heap.size = wr.heap.size + 1) := ⟨by rw [← hV]; simp only [size_alloc]⟩
      have V0 := at_of hV (blk_new _ _ _ rfl)
      have V0l := blk_lt V0
      clear hV
      have HBV2 := Hd.mk (below_seq HBw.out HBV)
      have HVV := Hd.mk (blk_below HV.out HBV)
      have HE0 := Hd.mk V0
      have hvv := HVV.out
      have HZV := Hd.mk zV.out
      have HTN := Hd.mk (fun W (hW : Below V.heap.size V W) => HN2.out W (below_seq HBV2.out hW))
      have HTC := Hd.mk (fun W (hW : Below V.heap.size V W) => HCL.out W (below_seq HBV2.out hW))
      have HVW := Hd.mk HBV
      have hvvc0 := blk_cell hvv 0 _ rfl; have hvvf0 := blk_frozen hvv 0; have hvvc1 := blk_cell hvv 1 _ rfl; have hvvf1 := blk_frozen hvv 1; have hvvc2 := blk_cell hvv 2 _ rfl; have hvvf2 := blk_frozen hvv 2; have hvvc3 := blk_cell hvv 3 _ rfl; have hvvf3 := blk_frozen hvv 3; have hvvc4 := blk_cell hvv 4 _ rfl; have hvvf4 := blk_frozen hvv 4; have hvvc5 := blk_cell hvv 5 _ rfl; have hvvf5 := blk_frozen hvv 5; have hvvc6 := blk_cell hvv 6 _ rfl; have hvvf6 := blk_frozen hvv 6; have hvvc7 := blk_cell hvv 7 _ rfl; have hvvf7 := blk_frozen hvv 7; have hvvc8 := blk_cell hvv 8 _ rfl; have hvvf8 := blk_frozen hvv 8; have hvvc9 := blk_cell hvv 9 _ rfl; have hvvf9 := blk_frozen hvv 9; have hvvc10 := blk_cell hvv 10 _ rfl; have hvvf10 := blk_frozen hvv 10; have hvvl := blk_lt hvv
      have V0c0 := blk_cell V0 0 _ rfl
      have V0f0 := blk_frozen V0 0
      have V0c1 := blk_cell V0 1 _ rfl
      have V0f1 := blk_frozen V0 1
      have V0c2 := blk_cell V0 2 _ rfl
      have V0f2 := blk_frozen V0 2
      have V0c3 := blk_cell V0 3 _ rfl
      have V0f3 := blk_frozen V0 3
      have V0c4 := blk_cell V0 4 _ rfl
      have V0f4 := blk_frozen V0 4
      have V0c5 := blk_cell V0 5 _ rfl
      have V0f5 := blk_frozen V0 5
      have V0c6 := blk_cell V0 6 _ rfl
      have V0f6 := blk_frozen V0 6
      have V0c7 := blk_cell V0 7 _ rfl
      have V0f7 := blk_frozen V0 7
      clear hvv zV V0 HBV hk x0 x1 x2 x3 x4 x5 x6 x7
      refine wp_region_can (.q [0, 1, 2, 3, 4, 5] (.b 6 true (.b 7 false (.q [8, 9, 10] (.e 11 true (.e 12 false (.q [13] (.done))))) 11 true (.e 7 false (.q [8, 9, 10] (.e 12 false (.q [13] (.done)))))) 11 true (.e 6 true (.e 7 false (.q [8, 9, 10] (.e 12 false (.q [13] (.done)))))))) (clsB _) (by kernel_rfl) (by kernel_rfl) (by intro _ _ d _ _ h; cases d <;> exact h) (clsB_drew _) ?_
      refine can_q (l := [⟨_,_,_,_,_,_⟩, ⟨_,_,_,_,_,_⟩, ⟨_,_,_,_,_,_⟩, ⟨_,_,_,_,_,_⟩, ⟨_,_,_,_,_,_⟩, ⟨_,_,_,_,_,_⟩]) rfl ?_
      repeat (go_big_quiet_step (fail))
      refine wpQuiet_nil ?_
      apply cut_one (fun g W => V.heap.size ≤ g ∧ Below V.heap.size V W ∧ W.heap[g]? = some (.cells #[.int .i64 0, .int .i64 0, .int .i64 0, .int .i64 0, .int .i64 0, .int .i64 0] 43 (0, 0)))
      case main =>
        intro key
        refine can_b (o := ⟨_,_,_,_,_,_⟩) (oj := ⟨_,_,_,_,_,_⟩) rfl rfl (fun K hK => ?_) (fun K hK => ?_)
        · go_wp2_with (go_at_call 28; go_must (with_reducible refine Calls.mono (HTC.out _ ((by repeat (first | (with_reducible assumption) | (with_reducible exact Below.refl _ _) | (with_reducible apply below_drewL) | (with_reducible apply below_alloc) | (with_reducible apply below_drew1) | (with_reducible apply below_drewN) | (refine below_set ?_ (by first | omega | (simp only [size_alloc, size_drew, size_set]; omega)) _ _))))) ?_; rintro z9 w1 ⟨rfl, h9⟩; subst h9))
          refine onK_normal (hK _ _ ⟨clsB _, clsB_of (by first | exact ((below_drew1 (Below.refl _ V))) | exact below_undrew ((below_drew1 (Below.refl _ V)))), fun _ _ h => h, ?_⟩)
          clear hK K
          refine can_b (o := ⟨_,_,_,_,_,_⟩) (oj := ⟨_,_,_,_,_,_⟩) rfl rfl (fun K hK => ?_) (fun K hK => ?_)
          · go_wp2_with (go_at_call 27; go_must (with_reducible refine Calls.mono (HTN.out _ ((by repeat (first | (with_reducible assumption) | (with_reducible exact Below.refl _ _) | (with_reducible apply below_drewL) | (with_reducible apply below_alloc) | (with_reducible apply below_drew1) | (with_reducible apply below_drewN) | (refine below_set ?_ (by first | omega | (simp only [size_alloc, size_drew, size_set]; omega)) _ _))))) ?_; rintro z9 w1 ⟨rfl, hb1⟩; replace hb1 := below_undrew hb1; have hz1 := hb1.size))
            refine onK_normal (hK _ _ ⟨clsB _, clsB_of (by first | exact (hb1) | exact below_undrew (hb1)), fun _ _ h => h, ?_⟩)
            clear hK K
            refine can_q (l := [⟨_,_,_,_,_,_⟩, ⟨_,_,_,_,_,_⟩, ⟨_,_,_,_,_,_⟩]) rfl ?_
            repeat (go_big_quiet_step (fail))
            refine wpQuiet_nil ?_
            refine can_e (o := ⟨_,_,_,_,_,_⟩) rfl (fun K hK => ?_)
            go_wp2_with fail
            refine onK_normal (hK _ _ ⟨clsB _, clsB_of (by first | exact ((below_alloc hb1 _)) | exact below_undrew ((below_alloc hb1 _))), fun _ _ h => h, ?_⟩)
            clear hK K
            generalize hW9 : World.alloc w1 _ = W9
            have k1 : Below V.heap.size V W9 := by rw [← hW9]; exact below_alloc hb1 _
            have k2 : W9.heap[w1.heap.size]? = some (.cells #[.int .i64 0, .int .i64 0, .int .i64 0, .int .i64 0, .int .i64 0, .int .i64 0] 43 (0, 0)) := by rw [← hW9]; exact blk_new _ _ _ rfl
            generalize w1.heap.size = g at k2 hz1 ⊢
            exact key g W9 ⟨hz1, k1, k2⟩
          · go_wp2_with fail
            refine onK_normal (hK _ _ ⟨clsB _, clsB_of (by first | exact ((by repeat (first | (with_reducible assumption) | (with_reducible exact Below.refl _ _) | (with_reducible apply below_drewL) | (with_reducible apply below_alloc) | (with_reducible apply below_drew1) | (with_reducible apply below_drewN) | (refine below_set ?_ (by first | omega | (simp only [size_alloc, size_drew, size_set]; omega)) _ _)))) | exact below_undrew ((by repeat (first | (with_reducible assumption) | (with_reducible exact Below.refl _ _) | (with_reducible apply below_drewL) | (with_reducible apply below_alloc) | (with_reducible apply below_drew1) | (with_reducible apply below_drewN) | (refine below_set ?_ (by first | omega | (simp only [size_alloc, size_drew, size_set]; omega)) _ _))))), fun _ _ h => h, ?_⟩)
            clear hK K
            refine can_e (o := ⟨_,_,_,_,_,_⟩) rfl (fun K hK => ?_)
            go_wp2_with (go_at_call 27; go_must (with_reducible refine Calls.mono (HTN.out _ ((by repeat (first | (with_reducible assumption) | (with_reducible exact Below.refl _ _) | (with_reducible apply below_drewL) | (with_reducible apply below_alloc) | (with_reducible apply below_drew1) | (with_reducible apply below_drewN) | (refine below_set ?_ (by first | omega | (simp only [size_alloc, size_drew, size_set]; omega)) _ _))))) ?_; rintro z9 w1 ⟨rfl, hb1⟩; have hb2 : Below V.heap.size V w1 := (by first | exact below_seq (by repeat (first | (with_reducible assumption) | (with_reducible exact Below.refl _ _) | (with_reducible apply below_drewL) | (with_reducible apply below_alloc) | (with_reducible apply below_drew1) | (with_reducible apply below_drewN) | (refine below_set ?_ (by first | omega | (simp only [size_alloc, size_drew, size_set]; omega)) _ _))) hb1 | exact below_seq (by repeat (first | (with_reducible assumption) | (with_reducible exact Below.refl _ _) | (with_reducible apply below_drewL) | (with_reducible apply below_alloc) | (with_reducible apply below_drew1) | (with_reducible apply below_drewN) | (refine below_set ?_ (by first | omega | (simp only [size_alloc, size_drew, size_set]; omega)) _ _))) (below_undrew hb1)); have hg1 : w1.heap[V.heap.size]? = some (.cells #[.int .i64 0, .int .i64 0, .int .i64 0, .int .i64 0, .int .i64 0, .int .i64 0] 43 (0, 0)) := (by first | exact blk_below (blk_new _ _ _ rfl) hb1 | exact blk_below (blk_drew (blk_new _ _ _ rfl)) hb1)))
            refine onK_normal (hK _ _ ⟨clsB _, clsB_of (by first | exact (hb2) | exact below_undrew (hb2)), fun _ _ h => h, ?_⟩)
            clear hK K
            refine can_q (l := [⟨_,_,_,_,_,_⟩, ⟨_,_,_,_,_,_⟩, ⟨_,_,_,_,_,_⟩]) rfl ?_
            repeat (go_big_quiet_step (fail))
            refine wpQuiet_nil ?_
            generalize hkk : V.heap.size = g at hg1 ⊢
            exact key g w1 ⟨by omega, hb2, hg1⟩
        · go_wp2_with fail
          refine onK_normal (hK _ _ ⟨clsB _, clsB_of (by first | exact ((by repeat (first | (with_reducible assumption) | (with_reducible exact Below.refl _ _) | (with_reducible apply below_drewL) | (with_reducible apply below_alloc) | (with_reducible apply below_drew1) | (with_reducible apply below_drewN) | (refine below_set ?_ (by first | omega | (simp only [size_alloc, size_drew, size_set]; omega)) _ _)))) | exact below_undrew ((by repeat (first | (with_reducible assumption) | (with_reducible exact Below.refl _ _) | (with_reducible apply below_drewL) | (with_reducible apply below_alloc) | (with_reducible apply below_drew1) | (with_reducible apply below_drewN) | (refine below_set ?_ (by first | omega | (simp only [size_alloc, size_drew, size_set]; omega)) _ _))))), fun _ _ h => h, ?_⟩)
          clear hK K
          refine can_e (o := ⟨_,_,_,_,_,_⟩) rfl (fun K hK => ?_)
          go_wp2_with (go_at_call 28; go_must (with_reducible refine Calls.mono (HTC.out _ ((by repeat (first | (with_reducible assumption) | (with_reducible exact Below.refl _ _) | (with_reducible apply below_drewL) | (with_reducible apply below_alloc) | (with_reducible apply below_drew1) | (with_reducible apply below_drewN) | (refine below_set ?_ (by first | omega | (simp only [size_alloc, size_drew, size_set]; omega)) _ _))))) ?_; rintro z9 w1 ⟨rfl, h9⟩; subst h9))
          refine onK_normal (hK _ _ ⟨clsB _, clsB_of (by first | exact ((by repeat (first | (with_reducible assumption) | (with_reducible exact Below.refl _ _) | (with_reducible apply below_drewL) | (with_reducible apply below_alloc) | (with_reducible apply below_drew1) | (with_reducible apply below_drewN) | (refine below_set ?_ (by first | omega | (simp only [size_alloc, size_drew, size_set]; omega)) _ _)))) | exact below_undrew ((by repeat (first | (with_reducible assumption) | (with_reducible exact Below.refl _ _) | (with_reducible apply below_drewL) | (with_reducible apply below_alloc) | (with_reducible apply below_drew1) | (with_reducible apply below_drewN) | (refine below_set ?_ (by first | omega | (simp only [size_alloc, size_drew, size_set]; omega)) _ _))))), fun _ _ h => h, ?_⟩)
          clear hK K
          refine can_e (o := ⟨_,_,_,_,_,_⟩) rfl (fun K hK => ?_)
          go_wp2_with (go_at_call 27; go_must (with_reducible refine Calls.mono (HTN.out _ ((by repeat (first | (with_reducible assumption) | (with_reducible exact Below.refl _ _) | (with_reducible apply below_drewL) | (with_reducible apply below_alloc) | (with_reducible apply below_drew1) | (with_reducible apply below_drewN) | (refine below_set ?_ (by first | omega | (simp only [size_alloc, size_drew, size_set]; omega)) _ _))))) ?_; rintro z9 w1 ⟨rfl, hb1⟩; have hb2 : Below V.heap.size V w1 := (by first | exact below_seq (by repeat (first | (with_reducible assumption) | (with_reducible exact Below.refl _ _) | (with_reducible apply below_drewL) | (with_reducible apply below_alloc) | (with_reducible apply below_drew1) | (with_reducible apply below_drewN) | (refine below_set ?_ (by first | omega | (simp only [size_alloc, size_drew, size_set]; omega)) _ _))) hb1 | exact below_seq (by repeat (first | (with_reducible assumption) | (with_reducible exact Below.refl _ _) | (with_reducible apply below_drewL) | (with_reducible apply below_alloc) | (with_reducible apply below_drew1) | (with_reducible apply below_drewN) | (refine below_set ?_ (by first | omega | (simp only [size_alloc, size_drew, size_set]; omega)) _ _))) (below_undrew hb1)); have hg1 : w1.heap[V.heap.size]? = some (.cells #[.int .i64 0, .int .i64 0, .int .i64 0, .int .i64 0, .int .i64 0, .int .i64 0] 43 (0, 0)) := (by first | exact blk_below (blk_new _ _ _ rfl) hb1 | exact blk_below (blk_drew (blk_new _ _ _ rfl)) hb1)))
          refine onK_normal (hK _ _ ⟨clsB _, clsB_of (by first | exact (hb2) | exact below_undrew (hb2)), fun _ _ h => h, ?_⟩)
          clear hK K
          refine can_q (l := [⟨_,_,_,_,_,_⟩, ⟨_,_,_,_,_,_⟩, ⟨_,_,_,_,_,_⟩]) rfl ?_
          repeat (go_big_quiet_step (fail))
          refine wpQuiet_nil ?_
          generalize hkk : V.heap.size = g at hg1 ⊢
          exact key g w1 ⟨by omega, hb2, hg1⟩
      case key =>
        rintro g W ⟨hg, hbW, hgW⟩
        clear hvvc0 hvvf0 hvvc1 hvvf1 hvvc2 hvvf2 hvvc3 hvvf3 hvvc4 hvvf4 hvvc5 hvvf5 hvvc6 hvvf6 hvvc7 hvvf7 hvvc8 hvvf8 hvvc9 hvvf9 hvvc10 hvvf10 hvvl
        clear V0c0 V0f0 V0c1 V0f1 V0c2 V0f2 V0c3 V0f3 V0c4 V0f4 V0c5 V0f5 V0c6 V0f6 V0c7 V0f7 V0l
        have hgr : wr.heap.size < g := by have := HZV.out; omega
        have hng : ¬ wr.heap.size = g := by omega
        have HBW := Hd.mk (below_seq HVW.out hbW)
        have HEW := Hd.mk (blk_below HE0.out hbW)
        have HGW := Hd.mk hgW
        have hgWc0 := blk_cell hgW 0 _ rfl; have hgWf0 := blk_frozen hgW 0; have hgWc1 := blk_cell hgW 1 _ rfl; have hgWf1 := blk_frozen hgW 1; have hgWc2 := blk_cell hgW 2 _ rfl; have hgWf2 := blk_frozen hgW 2; have hgWc3 := blk_cell hgW 3 _ rfl; have hgWf3 := blk_frozen hgW 3; have hgWc4 := blk_cell hgW 4 _ rfl; have hgWf4 := blk_frozen hgW 4; have hgWc5 := blk_cell hgW 5 _ rfl; have hgWf5 := blk_frozen hgW 5; have hgWl := blk_lt hgW
        clear hbW hg
        refine can_e (o := ⟨_,_,_,_,_,_⟩) rfl (fun K hK => ?_)
        go_wp2_with fail
        refine onK_normal (hK _ _ ⟨fun _ => True, trivial, (fun h => by cases h), ?_⟩)
        clear hK K
        refine can_q (l := [⟨_,_,_,_,_,_⟩]) rfl ?_
        repeat (go_big_quiet_step (fail))
        refine wpQuiet_nil ?_
        refine can_done ?_
        generalize hU : World.setCell _ _ _ = U
        have HGU : Hd (U.heap[g]? = some (.cells #[.int .i64 e.tok.k, .int .i64 e.tok.r, .int .i64 e.tok.f, .int .i64 e.tok.a, .int .i64 e.tok.t, .int .i64 e.tok.m] 43 (0, 0))) := ⟨by rw [← hU]; exact blk_six HGW.out _ _ _ _ _ _⟩
        have HEU : Hd (U.heap[wr.heap.size]? = some (.cells #[.int .i64 e.at_.at_, .int .i64 e.at_.mode, .int .i64 e.tok.k, .int .i64 e.tok.r, .int .i64 e.tok.f, .int .i64 e.tok.a, .int .i64 e.tok.t, .int .i64 e.tok.m] 59 (0, 0))) := ⟨by rw [← hU]; exact (six_same hng _ _ _ _ _ _).trans HEW.out⟩
        have HBU : Hd (Below wr.heap.size wr U) := ⟨by rw [← hU]; exact (fr_six (Fr.of_below (X := fun _ => False) HBW.out) (.inr (Nat.le_of_lt hgr)) _ _ _ _ _ _).below (Nat.le_refl _) (fun _ _ h => h)⟩
        clear hgWc0 hgWf0 hgWc1 hgWf1 hgWc2 hgWf2 hgWc3 hgWf3 hgWc4 hgWf4 hgWc5 hgWf5 hgWl
        clear hU hgW
        have hgU := HGU.out
        have heU := HEU.out
        have hgUc0 := blk_cell hgU 0 _ rfl; have hgUf0 := blk_frozen hgU 0; have hgUc1 := blk_cell hgU 1 _ rfl; have hgUf1 := blk_frozen hgU 1; have hgUc2 := blk_cell hgU 2 _ rfl; have hgUf2 := blk_frozen hgU 2; have hgUc3 := blk_cell hgU 3 _ rfl; have hgUf3 := blk_frozen hgU 3; have hgUc4 := blk_cell hgU 4 _ rfl; have hgUf4 := blk_frozen hgU 4; have hgUc5 := blk_cell hgU 5 _ rfl; have hgUf5 := blk_frozen hgU 5; have hgUl := blk_lt hgU
        have heUc0 := blk_cell heU 0 _ rfl; have heUf0 := blk_frozen heU 0; have heUc1 := blk_cell heU 1 _ rfl; have heUf1 := blk_frozen heU 1; have heUc2 := blk_cell heU 2 _ rfl; have heUf2 := blk_frozen heU 2; have heUc3 := blk_cell heU 3 _ rfl; have heUf3 := blk_frozen heU 3; have heUc4 := blk_cell heU 4 _ rfl; have heUf4 := blk_frozen heU 4; have heUc5 := blk_cell heU 5 _ rfl; have heUf5 := blk_frozen heU 5; have heUc6 := blk_cell heU 6 _ rfl; have heUf6 := blk_frozen heU 6; have heUc7 := blk_cell heU 7 _ rfl; have heUf7 := blk_frozen heU 7; have heUl := blk_lt heU
        clear hgU heU
        go_wp2
        go_roundw
        case rel => exact ⟨k + 1, by omega, by go_num, ⟨below_seq HB.out HBU.out⟩⟩
        case measure => simp [intOf]; omega
    · obtain rfl : k = n := by omega
      obtain ⟨ht1, ht2⟩ := HF.out.tail
      rw [HN.out] at ht1 ht2
      obtain ⟨n2, hn2⟩ : ∃ n, s.tr.length = n := ⟨_, rfl⟩
      rw [hn2] at ht1 ht2
      have HN2 := Hd.mk hn2
      have HT2 := Hd.mk ht2
      clear hn2 ht2 hlt hk
      have HSQ := Hd.mk (fun W (cS : Nat) (hW : Row eT W (fun k => k < W.heap.size) (if c' = k - n2 then A' else A'.map (·.add ((k - n2) * 8))) (k - (k - n2)) (st.l.drop (k - n2))) => Fn.spots_calls _ _ cS _ _ W (fun k hk => hk) hW (by omega))
      rw [HT2.out] at HSQ
      have HDR := Hd.mk (fun W (hW : Row eT W (fun k => k < W.heap.size) A' k st.l) => (show Row eT W (fun k => k < W.heap.size) (if c' = k - n2 then A' else A'.map (·.add ((k - n2) * 8))) (k - (k - n2)) (st.l.drop (k - n2)) from hW.drop (k - n2) c' (by omega) hcc))
      have HSM := Hd.mk (fun W (Aa Ab : Option Addr) (ca cb : Nat) (h1 : Row spotT W (fun k => k < W.heap.size) Aa n2 s.tr) (h2 : Row spotT W (fun k => k < W.heap.size) Ab n2 s.tr) => by have h9 := Fn.refSame_calls Aa Ab ca cb s.tr s.tr _ _ W (fun k hk => hk) (fun k hk => hk) (by rw [HN2.out]; exact h1) (by rw [HN2.out]; exact h2); rw [HN2.out, decide_eq_true rfl] at h9; exact h9)
      go_upto_region 12 with (go_at_call 29; go_must (with_reducible refine Calls.mono (HTR.out _ HBw.out) ?_; rintro z9 w7 ⟨A2, n2', c2, rfl, hc2, hA2, hr2, hb7⟩; obtain rfl : n2 = n2' := (by rw [← HN2.out]; exact row_len hr2); have HB7 := Hd.mk (below_seq HBw.out hb7); have HR7 := Hd.mk (row_on HR.out hb7); have HV7 := Hd.mk (blk_below HV.out hb7); clear hr2 hA2 hc2))
      have hlt2 : decide (((k : Int) - n2) < 0) = false := by simp; omega
      have e9 : k - (k - n2) = n2 := by omega
      rw [e9] at HSQ HDR
      have HS33 := Hd.mk (fun W (Aa Ab : Option Addr) (ca cb : Nat) (tl : List Tok) (h1 : Row tokT W (fun k => k < W.heap.size) Aa k tl) (h2 : Row tokT W (fun k => k < W.heap.size) Ab k tl) => Fn.same33 Aa Ab k ca cb tl _ _ W (fun k hk => hk) (fun k hk => hk) h1 h2)
      have HTK := Hd.mk (fun W (cS : Nat) (hW : Row eT W (fun k => k < W.heap.size) A' k st.l) => Fn.tokens_calls A' k cS st.l _ W (fun k hk => hk) hW (by omega))
      by_cases hcx : c' = k - n2
      · rw [if_pos hcx] at HSQ HDR
        go_upto_region 14 with (first
        | (go_at_call 30; go_must (with_reducible refine Calls.mono (HSM.out _ _ _ _ _ HQ8.out HQ9.out) ?_; rintro z9 w10 ⟨rfl, hb10⟩; have HB10 := Hd.mk (below_seq HB9.out hb10); have HR10 := Hd.mk (row_on HR9.out hb10); have HV10 := Hd.mk (blk_below HV9.out hb10); clear hb10))
        | (go_at_call 29; go_must (with_reducible refine Calls.mono (HTR.out _ HB8.out) ?_; rintro z9 w9 ⟨A9, n9, c9, rfl, hc9, hA9, hr9, hb9⟩; obtain rfl : n2 = n9 := (by rw [← HN2.out]; exact row_len hr9); have HB9 := Hd.mk (below_seq HB8.out hb9); have HR9 := Hd.mk (row_on HR8.out hb9); have HV9 := Hd.mk (blk_below HV8.out hb9); have HQ8 := Hd.mk (row_on HS8.out hb9); have HQ9 := Hd.mk (hr9.mono (S' := fun k => k < w9.heap.size) (fun k hk => hk.2)); clear hr9 hA9 hc9 hb9))
        | (go_at_call 31; go_must (with_reducible refine Calls.mono (HSQ.out _ _ (HDR.out _ HR7.out)) ?_; rintro z9 w8 ⟨A8, c8, rfl, hr8, hb8⟩; have HB8 := Hd.mk (below_seq HB7.out hb8); have HR8 := Hd.mk (row_on HR7.out hb8); have HV8 := Hd.mk (blk_below HV7.out hb8); have HS8 := Hd.mk (hr8.mono (S' := fun k => k < w8.heap.size) (fun k hk => hk.2)); clear hr8 hb8)))
        cases hpp : pureL H with
        | false =>
          rw [hpp] at HVP
          go_wp2_with (go_at_call 17; go_must (with_reducible refine Calls.mono (HVP.out _ HB10.out) ?_; rintro z9 w11 ⟨rfl, hb11⟩))
          go_ret
          exact ⟨rfl, below_seq HB10.out hb11⟩
        | true =>
          rw [hpp] at HVP HF
          obtain ⟨ha1, ha2⟩ := HF.out.first hr
          obtain ⟨res, hres⟩ : ∃ r, allM l s.text (s.text.length + 1) ⟨0, mode⟩ = r := ⟨_, rfl⟩
          rw [hres, HN.out] at ha1 ha2
          have HAL := fun W (hW : Below w.heap.size w W) => all_calls C.A1 C.A2 C.A3 C.n1 C.n2 C.n3 e1 e2 e3 l hr S ⟨s.text.toArray⟩ (by rw [HTT.out]; omega) mode hm0 hm1 res hres W (HHL.out.below hW)
          rw [HTT.out] at HAL
          have HAL := Hd.mk HAL
          obtain ⟨na, hna⟩ : ∃ n, res.length = n := ⟨_, rfl⟩
          rw [hna] at ha1
          have HNA := Hd.mk hna
          have HA2 := Hd.mk ha2
          clear hna ha2 hres hpp
          have hv10 := HV10.out
          have hv10c0 := blk_cell hv10 0 _ rfl; have hv10f0 := blk_frozen hv10 0; have hv10c1 := blk_cell hv10 1 _ rfl; have hv10f1 := blk_frozen hv10 1; have hv10c2 := blk_cell hv10 2 _ rfl; have hv10f2 := blk_frozen hv10 2; have hv10c3 := blk_cell hv10 3 _ rfl; have hv10f3 := blk_frozen hv10 3; have hv10c4 := blk_cell hv10 4 _ rfl; have hv10f4 := blk_frozen hv10 4; have hv10c5 := blk_cell hv10 5 _ rfl; have hv10f5 := blk_frozen hv10 5; have hv10c6 := blk_cell hv10 6 _ rfl; have hv10f6 := blk_frozen hv10 6; have hv10c7 := blk_cell hv10 7 _ rfl; have hv10f7 := blk_frozen hv10 7; have hv10c8 := blk_cell hv10 8 _ rfl; have hv10f8 := blk_frozen hv10 8; have hv10c9 := blk_cell hv10 9 _ rfl; have hv10f9 := blk_frozen hv10 9; have hv10c10 := blk_cell hv10 10 _ rfl; have hv10f10 := blk_frozen hv10 10; have hv10l := blk_lt hv10
          go_upto_region 17 with (first
            | (go_at_call 32; go_must (with_reducible refine Calls.mono (HAL.out _ HB11.out) ?_; rintro z9 w12 ⟨A12, n12, c12, rfl, hc12, hr12, hb12⟩; obtain rfl : na = n12 := (by rw [← HNA.out]; exact row_len hr12); have HB12 := Hd.mk (below_seq HB11.out hb12); have HR12 := Hd.mk (row_on HR11.out hb12); have HQ12 := Hd.mk (hr12.mono (S' := fun k => k < w12.heap.size) (fun k hk => hk.2)); clear hr12 hb12))
            | (go_at_call 17; go_must (with_reducible refine Calls.mono (HVP.out _ HB10.out) ?_; rintro z9 w11 ⟨rfl, hb11⟩; have HB11 := Hd.mk (below_seq HB10.out hb11); have HR11 := Hd.mk (row_on HR10.out hb11); have hv11 := blk_below HV10.out hb11; clear hv10c0 hv10f0 hv10c1 hv10f1 hv10c2 hv10f2 hv10c3 hv10f3 hv10c4 hv10f4 hv10c5 hv10f5 hv10c6 hv10f6 hv10c7 hv10f7 hv10c8 hv10f8 hv10c9 hv10f9 hv10c10 hv10f10 hv10l; clear hv10 hb11; have hv11c0 := blk_cell hv11 0 _ rfl; have hv11f0 := blk_frozen hv11 0; have hv11c1 := blk_cell hv11 1 _ rfl; have hv11f1 := blk_frozen hv11 1; have hv11c2 := blk_cell hv11 2 _ rfl; have hv11f2 := blk_frozen hv11 2; have hv11c3 := blk_cell hv11 3 _ rfl; have hv11f3 := blk_frozen hv11 3; have hv11c4 := blk_cell hv11 4 _ rfl; have hv11f4 := blk_frozen hv11 4; have hv11c5 := blk_cell hv11 5 _ rfl; have hv11f5 := blk_frozen hv11 5; have hv11c6 := blk_cell hv11 6 _ rfl; have hv11f6 := blk_frozen hv11 6; have hv11c7 := blk_cell hv11 7 _ rfl; have hv11f7 := blk_frozen hv11 7; have hv11c8 := blk_cell hv11 8 _ rfl; have hv11f8 := blk_frozen hv11 8; have hv11c9 := blk_cell hv11 9 _ rfl; have hv11f9 := blk_frozen hv11 9; have hv11c10 := blk_cell hv11 10 _ rfl; have hv11f10 := blk_frozen hv11 10; have hv11l := blk_lt hv11)))
          clear hv11c0 hv11f0 hv11c1 hv11f1 hv11c2 hv11f2 hv11c3 hv11f3 hv11c4 hv11f4 hv11c5 hv11f5 hv11c6 hv11f6 hv11c7 hv11f7 hv11c8 hv11f8 hv11c9 hv11f9 hv11c10 hv11f10 hv11l
          have hkc : k ≤ c12 := by omega
          have hkn : decide (k < na) = true := decide_eq_true ha1
          have hkn2 : decide ((k : Int) < (na : Int)) = true := by simp; omega
          refine wp_region_can (.q [0, 1, 2, 3, 4, 5, 6, 7, 8, 9, 10, 12, 13, 14, 15] (.e 11 true (.e 16 false (.q [17, 18] (.done))))) (clsB _) (by kernel_rfl) (by kernel_rfl) (by intro _ _ d _ _ h; cases d <;> exact h) (clsB_drew _) ?_
          refine can_q (l := [⟨_,_,_,_,_,_⟩, ⟨_,_,_,_,_,_⟩, ⟨_,_,_,_,_,_⟩, ⟨_,_,_,_,_,_⟩, ⟨_,_,_,_,_,_⟩, ⟨_,_,_,_,_,_⟩, ⟨_,_,_,_,_,_⟩, ⟨_,_,_,_,_,_⟩, ⟨_,_,_,_,_,_⟩, ⟨_,_,_,_,_,_⟩, ⟨_,_,_,_,_,_⟩, ⟨_,_,_,_,_,_⟩, ⟨_,_,_,_,_,_⟩, ⟨_,_,_,_,_,_⟩, ⟨_,_,_,_,_,_⟩]) rfl ?_
          repeat (go_big_quiet_step (fail))
          refine wpQuiet_nil ?_
          refine can_e (o := ⟨_,_,_,_,_,_⟩) rfl (fun K hK => ?_)
          go_wp2_with (go_at_call 34; go_must (with_reducible refine Calls.mono (HTK.out _ _ (row_on HR12.out (below_drew1 (Below.refl _ _)))) ?_; rintro z9 w13 ⟨A13, c13, rfl, hr13, hb13⟩; replace hb13 := below_undrew hb13))
          have HB13 := Hd.mk (below_seq HB12.out hb13)
          have HQ13 := Hd.mk (row_on HQ12.out hb13)
          have HS13 := Hd.mk (hr13.mono (S' := fun k => k < w13.heap.size) (fun k hk => hk.2))
          have HS13' : Hd (Row tokT w13 (fun k => k < w13.heap.size) A13 k (st.l.map (·.tok))) := HS13
          rw [HA2.out] at HS13'
          refine onK_normal (hK _ _ ⟨clsB _, clsB_of (by first | exact (hb13) | exact below_undrew (hb13)), fun _ _ h => h, ?_⟩)
          clear hK K
          refine can_e (o := ⟨_,_,_,_,_,_⟩) rfl (fun K hK => ?_)
          go_wp2_with (go_at_call 33; go_must (with_reducible refine Calls.mono (HS33.out _ _ _ _ _ _ HS13'.out (HQ13.out.take k (Nat.le_of_lt ha1))) ?_; rintro z9 w14 ⟨rfl, hb14⟩))
          refine onK_normal (hK _ _ ⟨clsB _, clsB_of (by first | exact ((below_seq hb13 hb14)) | exact below_undrew ((below_seq hb13 hb14))), fun _ _ h => h, ?_⟩)
          clear hK K
          refine can_q (l := [⟨_,_,_,_,_,_⟩, ⟨_,_,_,_,_,_⟩]) rfl ?_
          repeat (go_big_quiet_step (fail))
          refine wpQuiet_nil ?_
          refine can_done ?_
          go_wp2
          go_ret
          exact ⟨rfl, below_seq HB13.out hb14⟩
      · rw [if_neg hcx] at HSQ HDR
        go_upto_region 14 with (first
        | (go_at_call 30; go_must (with_reducible refine Calls.mono (HSM.out _ _ _ _ _ HQ8.out HQ9.out) ?_; rintro z9 w10 ⟨rfl, hb10⟩; have HB10 := Hd.mk (below_seq HB9.out hb10); have HR10 := Hd.mk (row_on HR9.out hb10); have HV10 := Hd.mk (blk_below HV9.out hb10); clear hb10))
        | (go_at_call 29; go_must (with_reducible refine Calls.mono (HTR.out _ HB8.out) ?_; rintro z9 w9 ⟨A9, n9, c9, rfl, hc9, hA9, hr9, hb9⟩; obtain rfl : n2 = n9 := (by rw [← HN2.out]; exact row_len hr9); have HB9 := Hd.mk (below_seq HB8.out hb9); have HR9 := Hd.mk (row_on HR8.out hb9); have HV9 := Hd.mk (blk_below HV8.out hb9); have HQ8 := Hd.mk (row_on HS8.out hb9); have HQ9 := Hd.mk (hr9.mono (S' := fun k => k < w9.heap.size) (fun k hk => hk.2)); clear hr9 hA9 hc9 hb9))
        | (go_at_call 31; go_must (with_reducible refine Calls.mono (HSQ.out _ _ (HDR.out _ HR7.out)) ?_; rintro z9 w8 ⟨A8, c8, rfl, hr8, hb8⟩; have HB8 := Hd.mk (below_seq HB7.out hb8); have HR8 := Hd.mk (row_on HR7.out hb8); have HV8 := Hd.mk (blk_below HV7.out hb8); have HS8 := Hd.mk (hr8.mono (S' := fun k => k < w8.heap.size) (fun k hk => hk.2)); clear hr8 hb8)))
        cases hpp : pureL H with
        | false =>
          rw [hpp] at HVP
          go_wp2_with (go_at_call 17; go_must (with_reducible refine Calls.mono (HVP.out _ HB10.out) ?_; rintro z9 w11 ⟨rfl, hb11⟩))
          go_ret
          exact ⟨rfl, below_seq HB10.out hb11⟩
        | true =>
          rw [hpp] at HVP HF
          obtain ⟨ha1, ha2⟩ := HF.out.first hr
          obtain ⟨res, hres⟩ : ∃ r, allM l s.text (s.text.length + 1) ⟨0, mode⟩ = r := ⟨_, rfl⟩
          rw [hres, HN.out] at ha1 ha2
          have HAL := fun W (hW : Below w.heap.size w W) => all_calls C.A1 C.A2 C.A3 C.n1 C.n2 C.n3 e1 e2 e3 l hr S ⟨s.text.toArray⟩ (by rw [HTT.out]; omega) mode hm0 hm1 res hres W (HHL.out.below hW)
          rw [HTT.out] at HAL
          have HAL := Hd.mk HAL
          obtain ⟨na, hna⟩ : ∃ n, res.length = n := ⟨_, rfl⟩
          rw [hna] at ha1
          have HNA := Hd.mk hna
          have HA2 := Hd.mk ha2
          clear hna ha2 hres hpp
          have hv10 := HV10.out
          have hv10c0 := blk_cell hv10 0 _ rfl; have hv10f0 := blk_frozen hv10 0; have hv10c1 := blk_cell hv10 1 _ rfl; have hv10f1 := blk_frozen hv10 1; have hv10c2 := blk_cell hv10 2 _ rfl; have hv10f2 := blk_frozen hv10 2; have hv10c3 := blk_cell hv10 3 _ rfl; have hv10f3 := blk_frozen hv10 3; have hv10c4 := blk_cell hv10 4 _ rfl; have hv10f4 := blk_frozen hv10 4; have hv10c5 := blk_cell hv10 5 _ rfl; have hv10f5 := blk_frozen hv10 5; have hv10c6 := blk_cell hv10 6 _ rfl; have hv10f6 := blk_frozen hv10 6; have hv10c7 := blk_cell hv10 7 _ rfl; have hv10f7 := blk_frozen hv10 7; have hv10c8 := blk_cell hv10 8 _ rfl; have hv10f8 := blk_frozen hv10 8; have hv10c9 := blk_cell hv10 9 _ rfl; have hv10f9 := blk_frozen hv10 9; have hv10c10 := blk_cell hv10 10 _ rfl; have hv10f10 := blk_frozen hv10 10; have hv10l := blk_lt hv10
          go_upto_region 17 with (first
            | (go_at_call 32; go_must (with_reducible refine Calls.mono (HAL.out _ HB11.out) ?_; rintro z9 w12 ⟨A12, n12, c12, rfl, hc12, hr12, hb12⟩; obtain rfl : na = n12 := (by rw [← HNA.out]; exact row_len hr12); have HB12 := Hd.mk (below_seq HB11.out hb12); have HR12 := Hd.mk (row_on HR11.out hb12); have HQ12 := Hd.mk (hr12.mono (S' := fun k => k < w12.heap.size) (fun k hk => hk.2)); clear hr12 hb12))
            | (go_at_call 17; go_must (with_reducible refine Calls.mono (HVP.out _ HB10.out) ?_; rintro z9 w11 ⟨rfl, hb11⟩; have HB11 := Hd.mk (below_seq HB10.out hb11); have HR11 := Hd.mk (row_on HR10.out hb11); have hv11 := blk_below HV10.out hb11; clear hv10c0 hv10f0 hv10c1 hv10f1 hv10c2 hv10f2 hv10c3 hv10f3 hv10c4 hv10f4 hv10c5 hv10f5 hv10c6 hv10f6 hv10c7 hv10f7 hv10c8 hv10f8 hv10c9 hv10f9 hv10c10 hv10f10 hv10l; clear hv10 hb11; have hv11c0 := blk_cell hv11 0 _ rfl; have hv11f0 := blk_frozen hv11 0; have hv11c1 := blk_cell hv11 1 _ rfl; have hv11f1 := blk_frozen hv11 1; have hv11c2 := blk_cell hv11 2 _ rfl; have hv11f2 := blk_frozen hv11 2; have hv11c3 := blk_cell hv11 3 _ rfl; have hv11f3 := blk_frozen hv11 3; have hv11c4 := blk_cell hv11 4 _ rfl; have hv11f4 := blk_frozen hv11 4; have hv11c5 := blk_cell hv11 5 _ rfl; have hv11f5 := blk_frozen hv11 5; have hv11c6 := blk_cell hv11 6 _ rfl; have hv11f6 := blk_frozen hv11 6; have hv11c7 := blk_cell hv11 7 _ rfl; have hv11f7 := blk_frozen hv11 7; have hv11c8 := blk_cell hv11 8 _ rfl; have hv11f8 := blk_frozen hv11 8; have hv11c9 := blk_cell hv11 9 _ rfl; have hv11f9 := blk_frozen hv11 9; have hv11c10 := blk_cell hv11 10 _ rfl; have hv11f10 := blk_frozen hv11 10; have hv11l := blk_lt hv11)))
          clear hv11c0 hv11f0 hv11c1 hv11f1 hv11c2 hv11f2 hv11c3 hv11f3 hv11c4 hv11f4 hv11c5 hv11f5 hv11c6 hv11f6 hv11c7 hv11f7 hv11c8 hv11f8 hv11c9 hv11f9 hv11c10 hv11f10 hv11l
          have hkc : k ≤ c12 := by omega
          have hkn : decide (k < na) = true := decide_eq_true ha1
          have hkn2 : decide ((k : Int) < (na : Int)) = true := by simp; omega
          refine wp_region_can (.q [0, 1, 2, 3, 4, 5, 6, 7, 8, 9, 10, 12, 13, 14, 15] (.e 11 true (.e 16 false (.q [17, 18] (.done))))) (clsB _) (by kernel_rfl) (by kernel_rfl) (by intro _ _ d _ _ h; cases d <;> exact h) (clsB_drew _) ?_
          refine can_q (l := [⟨_,_,_,_,_,_⟩, ⟨_,_,_,_,_,_⟩, ⟨_,_,_,_,_,_⟩, ⟨_,_,_,_,_,_⟩, ⟨_,_,_,_,_,_⟩, ⟨_,_,_,_,_,_⟩, ⟨_,_,_,_,_,_⟩, ⟨_,_,_,_,_,_⟩, ⟨_,_,_,_,_,_⟩, ⟨_,_,_,_,_,_⟩, ⟨_,_,_,_,_,_⟩, ⟨_,_,_,_,_,_⟩, ⟨_,_,_,_,_,_⟩, ⟨_,_,_,_,_,_⟩, ⟨_,_,_,_,_,_⟩]) rfl ?_
          repeat (go_big_quiet_step (fail))
          refine wpQuiet_nil ?_
          refine can_e (o := ⟨_,_,_,_,_,_⟩) rfl (fun K hK => ?_)
          go_wp2_with (go_at_call 34; go_must (with_reducible refine Calls.mono (HTK.out _ _ (row_on HR12.out (below_drew1 (Below.refl _ _)))) ?_; rintro z9 w13 ⟨A13, c13, rfl, hr13, hb13⟩; replace hb13 := below_undrew hb13))
          have HB13 := Hd.mk (below_seq HB12.out hb13)
          have HQ13 := Hd.mk (row_on HQ12.out hb13)
          have HS13 := Hd.mk (hr13.mono (S' := fun k => k < w13.heap.size) (fun k hk => hk.2))
          have HS13' : Hd (Row tokT w13 (fun k => k < w13.heap.size) A13 k (st.l.map (·.tok))) := HS13
          rw [HA2.out] at HS13'
          refine onK_normal (hK _ _ ⟨clsB _, clsB_of (by first | exact (hb13) | exact below_undrew (hb13)), fun _ _ h => h, ?_⟩)
          clear hK K
          refine can_e (o := ⟨_,_,_,_,_,_⟩) rfl (fun K hK => ?_)
          go_wp2_with (go_at_call 33; go_must (with_reducible refine Calls.mono (HS33.out _ _ _ _ _ _ HS13'.out (HQ13.out.take k (Nat.le_of_lt ha1))) ?_; rintro z9 w14 ⟨rfl, hb14⟩))
          refine onK_normal (hK _ _ ⟨clsB _, clsB_of (by first | exact ((below_seq hb13 hb14)) | exact below_undrew ((below_seq hb13 hb14))), fun _ _ h => h, ?_⟩)
          clear hK K
          refine can_q (l := [⟨_,_,_,_,_,_⟩, ⟨_,_,_,_,_,_⟩]) rfl ?_
          repeat (go_big_quiet_step (fail))
          refine wpQuiet_nil ?_
          refine can_done ?_
          go_wp2
          go_ret
          exact ⟨rfl, below_seq HB13.out hb14⟩
end
end Go.Proofs.YtoambcpjdcehhaaGreat.Id
