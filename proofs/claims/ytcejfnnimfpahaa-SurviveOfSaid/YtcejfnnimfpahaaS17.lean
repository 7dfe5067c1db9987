/- What the reference's Of computes. -/
import Derived.Test.YtcejfnnimfpahaaS16
namespace Go.Proofs.Ytcejfnnimfpahaa.Fn
open Go Go.RowKit Go.Proofs.Ytcejfnnimfpahaa.Can Go.Proofs.Ytcejfnnimfpahaa.Base
attribute [local go_sem] clsB AB.cell

theorem cut_vgu {G : Prop} (F : Value → Nat → World → Prop) {C : Value → Nat → World → Prop} (main : (∀ v g U, F v g U → C v g U) → G) (key : ∀ v g U, F v g U → C v g U) : G := main key
/-- What the loop keeps. -/
structure RI (w0 : World) (mode : Int) (l : List Ev) (g4 g5 base B : Nat) (wr : World) (r : RS) (v6 : Value) (kl : List (Int × St)) (S6 : Nat → Prop) : Prop where
  tab : KL kl (runM mode l).κ
  rd : Rd wr (fun q => base ≤ q ∧ q < wr.heap.size) r (runM mode l).s
  own : Own kT wr base 69 S6 v6 kl
  s6 : ∀ q, S6 q → base ≤ q
  c5 : wr.heap[g5]? = some (.cells #[.int .i64 r.at_.at_, .int .i64 r.at_.mode, .slice r.AF r.nF r.cF, .slice r.AT r.nT r.cT] 42 (0, 0))
  c4 : wr.heap[g4]? = some (.cells #[.int .i64 0, .int .i64 0, .slice none 0 0, .slice none 0 0] 42 (0, 0))
  below : Below w0.heap.size w0 wr
  lk : kl.length ≤ B
  h4 : g4 < base
  h5 : g5 < base
  ne : g4 ≠ g5
  z4 : w0.heap.size ≤ g4
  z5 : w0.heap.size ≤ g5
  bz : base ≤ wr.heap.size
section
variable {w0 wr w' : World} {mode : Int} {l : List Ev} {g4 g5 base B : Nat} {r : RS} {v6 : Value} {kl : List (Int × St)} {S6 : Nat → Prop}
theorem RI.go (h : RI w0 mode l g4 g5 base B wr r v6 kl S6) (hb : Below wr.heap.size wr w') : RI w0 mode l g4 g5 base B w' r v6 kl S6 := by
  have hz := hb.size
  exact ⟨h.tab, (h.rd.below (fun _ hk => hk.2) hb).mono fun k hk => ⟨hk.1, by omega⟩, h.own.below hb, h.s6, blk_below h.c5 hb, blk_below h.c4 hb, below_seq h.below hb, h.lk, h.h4, h.h5, h.ne, h.z4, h.z5, by have := h.bz; omega⟩
/-- An event that changes nothing. -/
theorem RI.same (h : RI w0 mode l g4 g5 base B wr r v6 kl S6) {v : Ev} (hs : stepM (runM mode l) v = runM mode l) : RI w0 mode (l ++ [v]) g4 g5 base (B + 1) wr r v6 kl S6 := by
  have he : runM mode (l ++ [v]) = runM mode l := by rw [runM_snoc, hs]
  exact ⟨by rw [he]; exact h.tab, by rw [he]; exact h.rd, h.own, h.s6, h.c5, h.c4, h.below, Nat.le_succ_of_le h.lk, h.h4, h.h5, h.ne, h.z4, h.z5, h.bz⟩
/-- Another state. -/
theorem RI.state (h : RI w0 mode l g4 g5 base B wr r v6 kl S6) {v : Ev} (r' : RS) (s' : St) (hs : stepM (runM mode l) v = ⟨s', (runM mode l).κ⟩) (hf : Fr (fun k => k = g5) wr w') (hr : Rd w' (fun q => base ≤ q ∧ q < w'.heap.size) r' s')
    (hc : w'.heap[g5]? = some (.cells #[.int .i64 r'.at_.at_, .int .i64 r'.at_.mode, .slice r'.AF r'.nF r'.cF, .slice r'.AT r'.nT r'.cT] 42 (0, 0))) : RI w0 mode (l ++ [v]) g4 g5 base (B + 1) w' r' v6 kl S6 := by
  have he : runM mode (l ++ [v]) = ⟨s', (runM mode l).κ⟩ := by rw [runM_snoc, hs]
  have h5 := h.h5
  have hz := hf.size
  have hne : ∀ k, base ≤ k → ¬ k = g5 := fun k hk => by omega
  refine ⟨by rw [he]; exact h.tab, by rw [he]; exact hr, h.own.move (fun k hk => ?_) hz, h.s6, hc, (hf.same g4 (blk_lt h.c4) h.ne).trans h.c4, h.below.trans (hf.below (by have := h.below.size; omega) (fun b hb hx => by have := h.z5; omega)), Nat.le_succ_of_le h.lk, h.h4, h5, h.ne, h.z4, h.z5, by have := h.bz; omega⟩
  have hkl : k < wr.heap.size ∧ base ≤ k := by
    rcases hk with hk | hk
    · obtain ⟨_, _, _, ho⟩ := h.own
      exact ⟨(ho k hk).1, h.s6 k hk⟩
    · exact h.own.lt hk
  exact hf.same k hkl.1 (hne k hkl.2)
/-- Another list of what is kept. -/
theorem RI.keeps (h : RI w0 mode l g4 g5 base B wr r v6 kl S6) {v : Ev} {v6' : Value} {kl' : List (Int × St)} {S6' : Nat → Prop} {κ' : Int → Option St} (hs : stepM (runM mode l) v = ⟨(runM mode l).s, κ'⟩) (hk : KL kl' κ') (hb : Below wr.heap.size wr w')
    (ho : Own kT w' base 69 S6' v6' kl') (h6 : ∀ q, S6' q → base ≤ q) (hl : kl'.length ≤ B + 1) : RI w0 mode (l ++ [v]) g4 g5 base (B + 1) w' r v6' kl' S6' := by
  have he : runM mode (l ++ [v]) = ⟨(runM mode l).s, κ'⟩ := by rw [runM_snoc, hs]
  have hz := hb.size
  exact ⟨by rw [he]; exact hk, by rw [he]; exact (h.rd.below (fun _ hk => hk.2) hb).mono fun k hk => ⟨hk.1, by omega⟩, ho, h6, blk_below h.c5 hb, blk_below h.c4 hb, below_seq h.below hb, hl, h.h4, h.h5, h.ne, h.z4, h.z5, by have := h.bz; omega⟩
end
theorem Rd.fr {w w' : World} {S : Nat → Prop} {r : RS} {s : St} {g base : Nat} (h : Rd w S r s) (hf : Fr (fun k => k = g) w w') (hg : g < base) (hS : ∀ k, S k → base ≤ k ∧ k < w.heap.size) : Rd w' (fun q => base ≤ q ∧ q < w'.heap.size) r s :=
  (h.move fun k hk => hf.same k (hS k hk).2 (by have := (hS k hk).1; show ¬ k = g; omega)).mono fun k hk => ⟨(hS k hk).1, Nat.lt_of_lt_of_le (hS k hk).2 hf.size⟩
theorem step_not {m : Mdl} {v : Ev} (h : goodB v = false) : stepM m v = m := by unfold stepM; rw [h]; rfl
theorem step_yes {m : Mdl} {v : Ev} (h : goodB v = true) : stepM m v = turnM m v := by unfold stepM; rw [h]; rfl
theorem step4e {m : Mdl} {v : Ev} (h : goodB v = true) (h4 : v.op = 4) (hk : v.tok.k = 3) : stepM m v = m := by rw [step_yes h]; unfold turnM; rw [if_pos h4, if_pos hk]
theorem step4 {m : Mdl} {v : Ev} (h : goodB v = true) (h4 : v.op = 4) (hk : ¬ v.tok.k = 3) : stepM m v = ⟨pushSt m.s v.tok, m.κ⟩ := by rw [step_yes h]; unfold turnM; rw [if_pos h4, if_neg hk]; rfl
theorem step5 {m : Mdl} {v : Ev} (h : goodB v = true) (h5 : v.op = 5) : stepM m v = ⟨pop m.s, m.κ⟩ := by rw [step_yes h]; unfold turnM; rw [if_neg (by omega), if_pos h5]
theorem step6 {m : Mdl} {v : Ev} (h : goodB v = true) (h6 : v.op = 6) : stepM m v = ⟨m.s, fun y => if y = v.rn then some m.s else m.κ y⟩ := by rw [step_yes h]; unfold turnM; rw [if_neg (by omega), if_neg (by omega), if_pos h6]
theorem step7 {m : Mdl} {v : Ev} (h : goodB v = true) (h7 : v.op = 7) : stepM m v = ⟨(m.κ v.n).getD m.s, m.κ⟩ := by rw [step_yes h]; unfold turnM; rw [if_neg (by omega), if_neg (by omega), if_neg (by omega), if_pos h7]
theorem step8 {m : Mdl} {v : Ev} (h : goodB v = true) (h8 : v.op = 8) : stepM m v = ⟨m.s, fun y => if y = v.n then none else m.κ y⟩ := by rw [step_yes h]; unfold turnM; rw [if_neg (by omega), if_neg (by omega), if_neg (by omega), if_neg (by omega), if_pos h8]
theorem step9 {m : Mdl} {v : Ev} (h : goodB v = true) (h9 : v.op = 9) : stepM m v = ⟨⟨⟨m.s.at_.at_, v.n⟩, m.s.l⟩, m.κ⟩ := by rw [step_yes h]; unfold turnM; rw [if_neg (by omega), if_neg (by omega), if_neg (by omega), if_neg (by omega), if_neg (by omega), if_pos h9]
theorem step0 {m : Mdl} {v : Ev} (h : goodB v = true) (h4 : ¬ v.op = 4) (h5 : ¬ v.op = 5) (h6 : ¬ v.op = 6) (h7 : ¬ v.op = 7) (h8 : ¬ v.op = 8) (h9 : ¬ v.op = 9) : stepM m v = m := by rw [step_yes h]; unfold turnM; rw [if_neg h4, if_neg h5, if_neg h6, if_neg h7, if_neg h8, if_neg h9]
theorem goodB_true {v : Ev} (h : goodB v = true) : v.kind = 2 ∧ v.e = 0 := by
  unfold goodB at h
  rw [Bool.and_eq_true] at h
  exact ⟨by simpa using h.1, by simpa using h.2⟩
theorem goodB_false {v : Ev} (h : goodB v = false) : ¬ v.kind = 2 ∨ (v.kind = 2 ∧ ¬ v.e = 0) := by
  unfold goodB at h
  by_cases h1 : v.kind = 2
  · right
    refine ⟨h1, fun h2 => ?_⟩
    rw [h1, h2] at h
    simp at h
  · exact .inl h1
theorem pop_calls (r : RS) (s : St) (S : Nat → Prop) (w : World) (hS : ∀ k, S k → k < w.heap.size) (h : Rd w S r s) (hl : s.l.length ≤ 1000000) :
    Calls Try.prog 25 #[.agg #[.int .i64 r.at_.at_, .int .i64 r.at_.mode, .slice r.AF r.nF r.cF, .slice r.AT r.nT r.cT]] w fun e w' => ∃ r', e = .returned (.agg #[.int .i64 r'.at_.at_, .int .i64 r'.at_.mode, .slice r'.AF r'.nF r'.cF, .slice r'.AT r'.nT r'.cT]) ∧ Rd w' (fun k => w.heap.size ≤ k ∧ k < w'.heap.size) r' (pop s) ∧ Below w.heap.size w w' := by
  rcases List.eq_nil_or_concat s.l with hn | ⟨l, x, hn⟩
  · have : pop s = s := by unfold pop; rw [hn]; rfl
    rw [this]
    exact pop_nil r s S w h hn
  · rw [List.concat_eq_append] at hn
    have : pop s = ⟨x.at_, l⟩ := by unfold pop; rw [hn]; simp
    rw [this]
    exact pop_some r s l x S w hS h hn (by rw [hn, List.length_append] at hl; omega)
set_option maxRecDepth 20000 in
set_option maxHeartbeats 8000000 in
theorem rof_calls (mode : Int) (A : Option Addr) (c : Nat) (xs : List Ev) (S : Nat → Prop) (w : World) (hS : ∀ k, S k → k < w.heap.size) (hC : Row evT w S A xs.length xs) (hl : xs.length ≤ 1000000) :
    Calls Try.prog 13 #[.int .i64 mode, .slice A xs.length c] w fun e w' => ∃ r, e = .returned (.agg #[.int .i64 r.at_.at_, .int .i64 r.at_.mode, .slice r.AF r.nF r.cF, .slice r.AT r.nT r.cT]) ∧ Rd w' (fun k => w.heap.size ≤ k ∧ k < w'.heap.size) r (runM mode xs).s ∧ Below w.heap.size w w' := by
  obtain ⟨n, hn⟩ : ∃ n, xs.length = n := ⟨_, rfl⟩
  rw [hn] at hC hl ⊢
  have HN := Hd.mk hn; have HS := Hd.mk hS; have HC := Hd.mk hC
  clear hn hS hC
  go_enter Try.func13, Try.ntmps13
  go_wp2
  generalize hV : World.alloc _ _ = V
  have HBV : Below w.heap.size w V := below_of hV (by repeat (first | (with_reducible assumption) | (with_reducible exact Below.refl _ _) | (with_reducible apply below_drewL) | (with_reducible apply below_alloc) | (with_reducible apply below_drew1) | (with_reducible apply below_drewN) | (refine below_set ?_ (by first | omega | (simp only [size_alloc, size_drew, size_set]; omega)) _ _)))
  have zV : Hd (V.heap.size = w.heap.size + 1 + 1) := ⟨by rw [← hV]; simp only [size_alloc]⟩
  have V0 := at_of hV (blk_alloc (blk_new _ _ _ rfl) _)
  have V0l := blk_lt V0
  have V1 := at_of hV (blk_new _ _ _ rfl)
  simp only [size_alloc] at V1
  have V1l := blk_lt V1
  clear hV
  have hzV : V.heap.size = w.heap.size + 1 + 1 := zV.out
  have HI0 : Hd (RI w mode (xs.take 0) w.heap.size (w.heap.size + 1) (w.heap.size + 1 + 1) 0 V ⟨⟨0, mode⟩, none, 0, 0, none, 0, 0⟩ (.slice none 0 0) [] (fun _ => False)) := ⟨⟨KL.nil, ⟨rfl, Row.nil _ _ _ _, Row.nil _ _ _ _, Nat.le_refl _, Nat.le_refl _, fun _ => rfl, fun _ => rfl⟩, Own.nil _ _ _ _, fun _ h => h.elim, V1, V0, HBV, Nat.le_refl _, by omega, by omega, by omega, by omega, by omega, by omega⟩⟩
  clear V0 V1 V0l V1l zV HBV hzV
  generalize hg5 : w.heap.size + 1 = g5 at *
  obtain ⟨g4, hg4⟩ : ∃ g4, w.heap.size = g4 := ⟨_, rfl⟩
  obtain ⟨base, hbase⟩ : ∃ base, g5 + 1 = base := ⟨_, rfl⟩
  rw [hbase] at HI0
  have HG4 := Hd.mk hg4
  clear hg5 hbase hg4
  go_loopw [6, 7] (fun v6 i wr => ∃ (k : Nat) (r : RS) (kl : List (Int × St)) (S6 : Nat → Prop), k ≤ n ∧ i = .int .i64 k ∧ Hd (RI w mode (xs.take k) w.heap.size g5 base k wr r v6 kl S6)) (fun _ i _ => n - (intOf i).toNat)
  case atStart => exact ⟨0, _, _, _, Nat.zero_le _, rfl, HI0⟩
  case round =>
    clear HI0
    obtain ⟨k, r, kl, S6, hk, rfl, HI⟩ := hrel
    obtain ⟨A6, c6, hv6, hc6, hA6, hR6⟩ := HI.out.own.form
    subst hv6
    obtain ⟨n6, hn6⟩ : ∃ n6, kl.length = n6 := ⟨_, rfl⟩
    have hn6k : n6 ≤ k := by rw [← hn6]; exact HI.out.lk
    rw [hn6] at hc6 hR6 HI ⊢
    have HFT : Hd (∀ q, (S6 q ∨ (Value.slice A6 n6 c6).ownBlock = some q) → base ≤ q ∧ q < wr.heap.size) := ⟨fun q hq => by
      rcases hq with hq | hq
      · obtain ⟨_, _, _, ho⟩ := HI.out.own
        exact ⟨HI.out.s6 q hq, (ho q hq).1⟩
      · have := HI.out.own.lt hq
        exact ⟨this.2, this.1⟩⟩
    have HN6 := Hd.mk hn6; have HR6 := Hd.mk hR6; have HA6 := Hd.mk hA6
    clear hn6 hR6 hA6
    have h5 := HI.out.c5
    have h4 := HI.out.c4
    have hg5l := blk_lt h5
    have hg4l := blk_lt h4
    have h45 : ¬ w.heap.size = g5 := HI.out.ne
    have hb5 := HI.out.h5
    have h5c0 := blk_cell h5 0 _ rfl; have h5f0 := blk_frozen h5 0; have h5c1 := blk_cell h5 1 _ rfl; have h5f1 := blk_frozen h5 1; have h5c2 := blk_cell h5 2 _ rfl; have h5f2 := blk_frozen h5 2; have h5c3 := blk_cell h5 3 _ rfl; have h5f3 := blk_frozen h5 3; have h5l := blk_lt h5
    have H5 := Hd.mk h5
    clear h5
    by_cases hlt : k < n
    · clear h4
      obtain ⟨a, off, v, rfl, ha, hx, c0, c1, c2, c3, c4, c5, c6', c7, c8, c9, c10, c11, c12, c13⟩ := ev_get (HC.out.below HS.out HI.out.below) k hlt
      have HTK : Hd (xs.take (k + 1) = xs.take k ++ [v]) := ⟨by rw [List.take_add_one, hx]; rfl⟩
      clear hx
      obtain ⟨M, hM⟩ : ∃ M, runM mode (xs.take k) = M := ⟨_, rfl⟩
      have HMM := Hd.mk hM
      have HLen : Hd (M.s.l.length ≤ k) := ⟨by rw [← hM]; have := runM_len mode (xs.take k); rw [List.length_take] at this; omega⟩
      have HRd : Hd (Rd wr (fun q => base ≤ q ∧ q < wr.heap.size) r M.s) := ⟨by rw [← hM]; exact HI.out.rd⟩
      clear hM
      cases hg : goodB v with
      | false =>
        rcases goodB_false hg with h1 | ⟨h1, h2⟩
        · have hJ : (v.kind != 2) = true := by simpa using h1
          have HG := Hd.mk hg; clear hg h1
          go_wp2
          go_roundw
          case rel => exact ⟨k + 1, r, kl, S6, by omega, by go_num, ⟨by rw [HTK.out]; exact (HI.out.same (step_not HG.out)).go (below_alloc (Below.refl _ _) _)⟩⟩
          case measure => simp [intOf]; omega
        · have hJ : (v.kind != 2) = false := by simpa using h1
          have hJ2 : (v.e != 0) = true := by simpa using h2
          have HG := Hd.mk hg; clear hg h1 h2
          go_wp2
          go_roundw
          case rel => exact ⟨k + 1, r, kl, S6, by omega, by go_num, ⟨by rw [HTK.out]; exact (HI.out.same (step_not HG.out)).go (below_alloc (Below.refl _ _) _)⟩⟩
          case measure => simp [intOf]; omega
      | true =>
        obtain ⟨h1, h2⟩ := goodB_true hg
        have hJ : (v.kind != 2) = false := by simpa using h1
        have hJ2 : (v.e != 0) = false := by simpa using h2
        have HG := Hd.mk hg; clear hg h1 h2
        by_cases o4 : v.op = 4
        · have j4 : (v.op == 4) = true := by simpa using o4
          have O4 := Hd.mk o4; clear o4
          by_cases hk3 : v.tok.k = 3
          · have jk : (v.tok.k != 3) = false := by simpa using hk3
            have HK3 := Hd.mk hk3; clear hk3
            go_wp2
            go_roundw
            case rel => exact ⟨k + 1, r, kl, S6, by omega, by go_num, ⟨by rw [HTK.out]; exact (HI.out.same (step4e HG.out O4.out HK3.out)).go (below_alloc (Below.refl _ _) _)⟩⟩
            case measure => simp [intOf]; omega
          · have jk : (v.tok.k != 3) = true := by simpa using hk3
            have HK3 := Hd.mk hk3; clear hk3
            go_wp2_with (go_at_call 24; go_must (refine Calls.mono (push_calls r M.s v.tok (fun q => base ≤ q ∧ q < wr.heap.size) _ (fun q hq => by rw [size_alloc]; have := hq.2; omega) (HRd.out.below (fun q hq => hq.2) (below_alloc (Below.refl _ _) _)) (by have := HLen.out; omega)) ?_; rintro e w2 ⟨r2, rfl, hr2, hb2⟩; have hq5 := blk_below (blk_alloc H5.out _) hb2; have HI2 := Hd.mk ((HI.out.go (below_alloc (Below.refl _ _) _)).go hb2); have HR2 := Hd.mk hr2; have HB2 := Hd.mk hb2; clear hr2 hb2; have HQ5 := Hd.mk hq5; have hq5c0 := blk_cell hq5 0 _ rfl; have hq5f0 := blk_frozen hq5 0; have hq5c1 := blk_cell hq5 1 _ rfl; have hq5f1 := blk_frozen hq5 1; have hq5c2 := blk_cell hq5 2 _ rfl; have hq5f2 := blk_frozen hq5 2; have hq5c3 := blk_cell hq5 3 _ rfl; have hq5f3 := blk_frozen hq5 3; have hq5l := blk_lt hq5; clear hq5))
            go_roundw
            case rel =>
              have hfr := Fr.set (Fr.set (Fr.set (Fr.set (Fr.refl (fun k => k = g5) w2) (.inl rfl) 0 (.int .i64 r2.at_.at_)) (.inl rfl) 1 (.int .i64 r2.at_.mode)) (.inl rfl) 2 (.slice r2.AF r2.nF r2.cF)) (.inl rfl) 3 (.slice r2.AT r2.nT r2.cT)
              refine ⟨k + 1, r2, kl, S6, by omega, by go_num, ⟨?_⟩⟩
              rw [HTK.out]
              refine HI2.out.state r2 (pushSt M.s v.tok) (by rw [HMM.out]; exact step4 HG.out O4.out HK3.out) hfr (HR2.out.fr hfr hb5 (fun q hq => ⟨by have := hq.1; rw [size_alloc] at this; have := HI.out.below.size; have := HI.out.bz; omega, hq.2⟩)) ?_
              exact blk_set (blk_set (blk_set (blk_set HQ5.out 0 _ _ rfl) 1 _ _ rfl) 2 _ _ rfl) 3 _ _ rfl
            case measure => simp [intOf]; omega
        have j4 : (v.op == 4) = false := by simpa using o4
        by_cases o5 : v.op = 5
        · have j5 : (v.op == 5) = true := by simpa using o5
          have O5 := Hd.mk o5; clear o5
          go_wp2_with (go_at_call 25; go_must (refine Calls.mono (pop_calls r M.s (fun q => base ≤ q ∧ q < wr.heap.size) _ (fun q hq => by rw [size_alloc]; have := hq.2; omega) (HRd.out.below (fun q hq => hq.2) (below_alloc (Below.refl _ _) _)) (by have := HLen.out; omega)) ?_; rintro e w2 ⟨r2, rfl, hr2, hb2⟩; have hq5 := blk_below (blk_alloc H5.out _) hb2; have HI2 := Hd.mk ((HI.out.go (below_alloc (Below.refl _ _) _)).go hb2); have HR2 := Hd.mk hr2; have HB2 := Hd.mk hb2; clear hr2 hb2; have HQ5 := Hd.mk hq5; have hq5c0 := blk_cell hq5 0 _ rfl; have hq5f0 := blk_frozen hq5 0; have hq5c1 := blk_cell hq5 1 _ rfl; have hq5f1 := blk_frozen hq5 1; have hq5c2 := blk_cell hq5 2 _ rfl; have hq5f2 := blk_frozen hq5 2; have hq5c3 := blk_cell hq5 3 _ rfl; have hq5f3 := blk_frozen hq5 3; have hq5l := blk_lt hq5; clear hq5))
          go_roundw
          case rel =>
            have hfr := Fr.set (Fr.set (Fr.set (Fr.set (Fr.refl (fun k => k = g5) w2) (.inl rfl) 0 (.int .i64 r2.at_.at_)) (.inl rfl) 1 (.int .i64 r2.at_.mode)) (.inl rfl) 2 (.slice r2.AF r2.nF r2.cF)) (.inl rfl) 3 (.slice r2.AT r2.nT r2.cT)
            refine ⟨k + 1, r2, kl, S6, by omega, by go_num, ⟨?_⟩⟩
            rw [HTK.out]
            refine HI2.out.state r2 (pop M.s) (by rw [HMM.out]; exact step5 HG.out O5.out) hfr (HR2.out.fr hfr hb5 (fun q hq => ⟨by have := hq.1; rw [size_alloc] at this; have := HI.out.below.size; have := HI.out.bz; omega, hq.2⟩)) ?_
            exact blk_set (blk_set (blk_set (blk_set HQ5.out 0 _ _ rfl) 1 _ _ rfl) 2 _ _ rfl) 3 _ _ rfl
          case measure => simp [intOf]; omega
        have j5 : (v.op == 5) = false := by simpa using o5
        by_cases o6 : v.op = 6
        · have j6 : (v.op == 6) = true := by simpa using o6
          have O6 := Hd.mk o6; clear o6
          go_wp2
          generalize hW : World.alloc wr _ = W0
          have hbW : Below wr.heap.size wr W0 := by rw [← hW]; exact below_alloc (Below.refl _ _) _
          have hev : W0.heap[wr.heap.size]? = some (.cells (evE v).toArray 55 (0, 0)) := by rw [← hW]; exact blk_new _ _ _ rfl
          have hq5 := blk_below H5.out hbW
          have hzW : wr.heap.size < W0.heap.size := blk_lt hev
          have HBW := Hd.mk hbW
          simp only [evE] at hev
          have hevc0 := blk_cell hev 0 _ rfl; have hevf0 := blk_frozen hev 0; have hevc1 := blk_cell hev 1 _ rfl; have hevf1 := blk_frozen hev 1; have hevc2 := blk_cell hev 2 _ rfl; have hevf2 := blk_frozen hev 2; have hevc3 := blk_cell hev 3 _ rfl; have hevf3 := blk_frozen hev 3; have hevc4 := blk_cell hev 4 _ rfl; have hevf4 := blk_frozen hev 4; have hevc5 := blk_cell hev 5 _ rfl; have hevf5 := blk_frozen hev 5; have hevc6 := blk_cell hev 6 _ rfl; have hevf6 := blk_frozen hev 6; have hevc7 := blk_cell hev 7 _ rfl; have hevf7 := blk_frozen hev 7; have hevc8 := blk_cell hev 8 _ rfl; have hevf8 := blk_frozen hev 8; have hevc9 := blk_cell hev 9 _ rfl; have hevf9 := blk_frozen hev 9; have hevc10 := blk_cell hev 10 _ rfl; have hevf10 := blk_frozen hev 10; have hevc11 := blk_cell hev 11 _ rfl; have hevf11 := blk_frozen hev 11; have hevc12 := blk_cell hev 12 _ rfl; have hevf12 := blk_frozen hev 12; have hevc13 := blk_cell hev 13 _ rfl; have hevf13 := blk_frozen hev 13; have hevl := blk_lt hev
          have hq5c0 := blk_cell hq5 0 _ rfl; have hq5f0 := blk_frozen hq5 0; have hq5c1 := blk_cell hq5 1 _ rfl; have hq5f1 := blk_frozen hq5 1; have hq5c2 := blk_cell hq5 2 _ rfl; have hq5f2 := blk_frozen hq5 2; have hq5c3 := blk_cell hq5 3 _ rfl; have hq5f3 := blk_frozen hq5 3; have hq5l := blk_lt hq5
          clear h5c0 h5f0 h5c1 h5f1 h5c2 h5f2 h5c3 h5f3 h5l
          clear hW hbW hev hq5 c0 c1 c2 c3 c4 c5 c6' c7 c8 c9 c10 c11 c12 c13 hg5l hg4l ha
          refine wp_region_can (.q [0, 1, 2, 3, 5, 6, 7, 8, 9] (.b 4 true (.e 10 true (.e 11 false (.q [12] (.done)))) 10 true (.e 4 true (.e 11 false (.q [12] (.done)))))) (clsB _) (by kernel_rfl) (by kernel_rfl) (by intro _ _ d _ _ h; cases d <;> exact h) (clsB_drew _) ?_
          refine can_q (l := [⟨_,_,_,_,_,_⟩, ⟨_,_,_,_,_,_⟩, ⟨_,_,_,_,_,_⟩, ⟨_,_,_,_,_,_⟩, ⟨_,_,_,_,_,_⟩, ⟨_,_,_,_,_,_⟩, ⟨_,_,_,_,_,_⟩, ⟨_,_,_,_,_,_⟩, ⟨_,_,_,_,_,_⟩]) rfl ?_
          repeat (go_big_quiet_step (fail))
          refine wpQuiet_nil ?_
          apply cut_vgu (fun v2 g U => Hd (Below W0.heap.size W0 U) ∧ (∃ S2, Hd (Own kT U W0.heap.size 69 S2 v2 (without kl v.rn)) ∧ Hd (∀ q, S2 q → base ≤ q)) ∧ U.heap[g]? = some (.cells (.int .i64 v.rn :: r.cells).toArray 69 (0, 0)) ∧ W0.heap.size ≤ g ∧ v2.ownBlock ≠ some g)
          case main =>
            intro key
            have HBZ := Hd.mk HI.out.bz
            refine can_b (o := ⟨_,_,_,_,_,_⟩) (oj := ⟨_,_,_,_,_,_⟩) rfl rfl (fun K hK => ?_) (fun K hK => ?_)
            · go_wp2_with (go_at_call 26; go_must (refine Calls.mono (without_calls v.rn A6 n6 c6 kl _ W0.drew (fun q hq => by have := (HFT.out q hq).2; rw [size_drew]; omega) (HR6.out.below (fun q hq => (HFT.out q hq).2) (below_drew1 HBW.out)) (by omega)) ?_; rintro e w2 ⟨v2, S2, rfl, ho2, hs2, hb2⟩; replace hb2 := below_undrew hb2; have HO2 := Hd.mk ho2; have HS2 := Hd.mk hs2))
              refine onK_normal (hK _ _ ⟨clsB _, clsB_of (by first | exact (hb2) | exact below_undrew (hb2)), fun _ _ h => h, ?_⟩)
              clear hK K
              refine can_e (o := ⟨_,_,_,_,_,_⟩) rfl (fun K hK => ?_)
              go_wp2_with fail
              refine onK_normal (hK _ _ ⟨clsB _, clsB_of (by first | exact ((below_alloc hb2 _)) | exact below_undrew ((below_alloc hb2 _))), fun _ _ h => h, ?_⟩)
              clear hK K
              have hz2 := hb2.size
              generalize hU : World.alloc w2 _ = U
              have k1 : Below W0.heap.size W0 U := by rw [← hU]; exact below_alloc hb2 _
              have k2 : U.heap[w2.heap.size]? = some (.cells (.int .i64 v.rn :: r.cells).toArray 69 (0, 0)) := by rw [← hU]; exact blk_new _ _ _ rfl
              have k3 : Own kT U W0.heap.size 69 S2 v2 (without kl v.rn) := by rw [← hU]; exact HO2.out.below (below_alloc (Below.refl _ _) _)
              have k4 : v2.ownBlock ≠ some w2.heap.size := fun he => by have := (HO2.out.lt he).1; omega
              generalize w2.heap.size = g at k2 k4 hz2 ⊢
              exact key v2 g U ⟨⟨k1⟩, ⟨S2, ⟨k3⟩, ⟨fun q hq => by
                rcases HS2.out q hq with h | h
                · exact (HFT.out q h).1
                · rw [size_drew] at h; have := HBZ.out; omega⟩⟩, k2, hz2, k4⟩
            · go_wp2_with fail
              refine onK_normal (hK _ _ ⟨clsB _, clsB_of (by first | exact ((by repeat (first | (with_reducible assumption) | (with_reducible exact Below.refl _ _) | (with_reducible apply below_drewL) | (with_reducible apply below_alloc) | (with_reducible apply below_drew1) | (with_reducible apply below_drewN) | (refine below_set ?_ (by first | omega | (simp only [size_alloc, size_drew, size_set]; omega)) _ _)))) | exact below_undrew ((by repeat (first | (with_reducible assumption) | (with_reducible exact Below.refl _ _) | (with_reducible apply below_drewL) | (with_reducible apply below_alloc) | (with_reducible apply below_drew1) | (with_reducible apply below_drewN) | (refine below_set ?_ (by first | omega | (simp only [size_alloc, size_drew, size_set]; omega)) _ _))))), fun _ _ h => h, ?_⟩)
              clear hK K
              refine can_e (o := ⟨_,_,_,_,_,_⟩) rfl (fun K hK => ?_)
              go_wp2_with (go_at_call 26; go_must (refine Calls.mono (without_calls v.rn A6 n6 c6 kl _ _ (fun q hq => by have := (HFT.out q hq).2; simp only [size_drew, size_alloc]; omega) (HR6.out.below (fun q hq => (HFT.out q hq).2) (by first | exact below_alloc HBW.out _ | exact below_drew1 (below_alloc HBW.out _) | exact below_alloc (below_drew1 HBW.out) _)) (by omega)) ?_; rintro e w2 ⟨v2, S2, rfl, ho2, hs2, hb2⟩; have HO2 := Hd.mk ho2; have HS2 := Hd.mk hs2; have hb3 : Below W0.heap.size W0 w2 := (by first | exact below_seq (by repeat (first | (with_reducible assumption) | (with_reducible exact Below.refl _ _) | (with_reducible apply below_drewL) | (with_reducible apply below_alloc) | (with_reducible apply below_drew1) | (with_reducible apply below_drewN) | (refine below_set ?_ (by first | omega | (simp only [size_alloc, size_drew, size_set]; omega)) _ _))) hb2 | exact below_seq (by repeat (first | (with_reducible assumption) | (with_reducible exact Below.refl _ _) | (with_reducible apply below_drewL) | (with_reducible apply below_alloc) | (with_reducible apply below_drew1) | (with_reducible apply below_drewN) | (refine below_set ?_ (by first | omega | (simp only [size_alloc, size_drew, size_set]; omega)) _ _))) (below_undrew hb2)); have hg3 : w2.heap[W0.heap.size]? = some (.cells (.int .i64 v.rn :: r.cells).toArray 69 (0, 0)) := (by first | exact blk_below (blk_new _ _ _ rfl) hb2 | exact blk_below (blk_new _ _ _ rfl) (below_undrew hb2))))
              refine onK_normal (hK _ _ ⟨clsB _, clsB_of (by first | exact (hb3) | exact below_undrew (hb3)), fun _ _ h => h, ?_⟩)
              clear hK K
              have k3 : Own kT w2 W0.heap.size 69 S2 v2 (without kl v.rn) := HO2.out.lower (by simp only [size_drew, size_alloc]; omega)
              have k4 : v2.ownBlock ≠ some W0.heap.size := fun he => by have := (HO2.out.lt he).2; simp only [size_drew, size_alloc] at this; omega
              have k5 : ∀ q, S2 q → base ≤ q := fun q hq => by
                rcases HS2.out q hq with h | h
                · exact (HFT.out q h).1
                · simp only [size_drew, size_alloc] at h; have := HBZ.out; omega
              generalize hk : W0.heap.size = g at hg3 k4 ⊢
              exact key v2 g w2 ⟨⟨hb3⟩, ⟨S2, ⟨k3⟩, ⟨k5⟩⟩, hg3, by omega, k4⟩
          case key =>
            rintro v2 g U ⟨HBU, ⟨S2, HO2, HS2⟩, hgU, hgz, hvg⟩
            have hzU := HBU.out.size
            clear hevc0 hevf0 hevc1 hevf1 hevc2 hevf2 hevc3 hevf3 hevc4 hevf4 hevc5 hevf5 hevc6 hevf6 hevc7 hevf7 hevc8 hevf8 hevc9 hevf9 hevc10 hevf10 hevc11 hevf11 hevc12 hevf12 hevc13 hevf13 hevl
            clear hq5c0 hq5f0 hq5c1 hq5f1 hq5c2 hq5f2 hq5c3 hq5f3 hq5l
            have hlw := without_len kl v.rn
            have HLW := Hd.mk hlw; clear hlw
            have HGZ := Hd.mk hgz; have HZU := Hd.mk hzU; have HZW := Hd.mk hzW
            clear hgz hzU
            refine can_e (o := ⟨_,_,_,_,_,_⟩) rfl (fun K hK => ?_)
            go_wp2_with (at_builtin; go_must (refine append_one kT (S' := fun q => base ≤ q ∧ q < wr.heap.size) rfl (.tmp 57) (.tmp 63) 64 69 _ 72 rfl Try.underlying64 info69 rfl (by decide) (by decide) W0.heap.size v2 (without kl v.rn) (v.rn, M.s) (.int .i64 v.rn :: r.cells) g rfl rfl hgU ⟨r, rfl, HRd.out.below (fun q hq => hq.2) (HBW.out.trans (HBU.out.mono (by have := HZW.out; omega)))⟩ HO2.out (fun q hq => ⟨by have := hq.2; have := HZU.out; have := HZW.out; omega, fun he => by have := (HO2.out.lt he).2; have := hq.2; have := HZW.out; omega⟩) hvg HZU.out (by have := HLW.out; rw [HN6.out] at this; omega) ?_; intro v3 w3 hM3 hg3 hat3; have HM3 := Hd.mk hM3; have HB3 : Hd (Below W0.heap.size W0 w3) := ⟨HBU.out.trans (below_by hg3 HZU.out (fun q hq => (HO2.out.lt hq).2))⟩; clear hM3 hg3 hat3))
            refine onK_normal (hK _ _ ⟨fun _ => True, trivial, (fun h => by cases h), ?_⟩)
            clear hK K
            refine can_q (l := [⟨_,_,_,_,_,_⟩]) rfl ?_
            repeat (go_big_quiet_step (fail))
            refine wpQuiet_nil ?_
            refine can_done ?_
            go_wp2
            go_roundw
            case rel =>
              refine ⟨k + 1, r, without kl v.rn ++ [(v.rn, M.s)], (fun q => S2 q ∨ (base ≤ q ∧ q < wr.heap.size) ∨ q = g), by omega, by go_num, ⟨?_⟩⟩
              rw [HTK.out]
              have hbz := HI.out.bz
              exact (HI.out.go HBW.out).keeps (by rw [HMM.out]; exact step6 HG.out O6.out) ((show KL kl M.κ by rw [← HMM.out]; exact HI.out.tab).add v.rn M.s) HB3.out (HM3.out.lower (by have := HZW.out; omega)) (fun q hq => by
                rcases hq with h | h | rfl
                · exact HS2.out q h
                · exact h.1
                · have := HGZ.out; have := HZW.out; omega) (by have := HLW.out; rw [HN6.out] at this; rw [List.length_append]; simp; omega)
            case measure => simp [intOf]; omega
        have j6 : (v.op == 6) = false := by simpa using o6
        by_cases o7 : v.op = 7
        · have j7 : (v.op == 7) = true := by simpa using o7
          have O7 := Hd.mk o7; clear o7
          go_wp2
          generalize hW : World.alloc wr _ = W0
          have hbW : Below wr.heap.size wr W0 := by rw [← hW]; exact below_alloc (Below.refl _ _) _
          have hev : W0.heap[wr.heap.size]? = some (.cells (evE v).toArray 55 (0, 0)) := by rw [← hW]; exact blk_new _ _ _ rfl
          have HQ5 := Hd.mk (blk_below H5.out hbW)
          have hzW : wr.heap.size < W0.heap.size := blk_lt hev
          have HEV := Hd.mk hev
          have HI' := Hd.mk (HI.out.go hbW)
          have HR6' := Hd.mk (HR6.out.below (fun q hq => (HFT.out q hq).2) hbW)
          have HFT' : Hd (∀ q, (S6 q ∨ (Value.slice A6 n6 c6).ownBlock = some q) → base ≤ q ∧ q < W0.heap.size) := ⟨fun q hq => ⟨(HFT.out q hq).1, by have := (HFT.out q hq).2; omega⟩⟩
          have HRd' : Hd (Rd W0 (fun x => base ≤ x ∧ x < W0.heap.size) r M.s) := ⟨(HRd.out.below (fun q hq => hq.2) hbW).mono fun q hq => ⟨hq.1, by have := hq.2; omega⟩⟩
          have hN5 : ¬ wr.heap.size = g5 := by omega
          clear hW hbW hev c0 c1 c2 c3 c4 c5 c6' c7 c8 c9 c10 c11 c12 c13 hg5l hg4l ha HI HR6 HFT HRd
          clear h5c0 h5f0 h5c1 h5f1 h5c2 h5f2 h5c3 h5f3 h5l
          clear H5
          generalize wr.heap.size = N0 at *
          go_loopw [9] (fun j wx => ∃ (q : Nat) (r2 : RS), q ≤ n6 ∧ j = .int .i64 q ∧ Hd (Fr (fun x => x = g5) W0 wx) ∧ Hd (wx.heap[g5]? = some (.cells #[.int .i64 r2.at_.at_, .int .i64 r2.at_.mode, .slice r2.AF r2.nF r2.cF, .slice r2.AT r2.nT r2.cT] 42 (0, 0))) ∧ Hd (Rd wx (fun x => base ≤ x ∧ x < wx.heap.size) r2 (selK v.n M.s (kl.take q)))) (fun j _ => n6 - (intOf j).toNat)
          case atStart => exact ⟨0, r, Nat.zero_le _, rfl, ⟨Fr.refl _ _⟩, HQ5, HRd'⟩
          case round =>
            clear HQ5 HRd'
            obtain ⟨q, r2, hq, rfl, HF, HQ5, HRd2⟩ := hrel
            by_cases hqlt : q < n6
            · have hrow := HF.out.row HR6'.out (fun x hx => ⟨(HFT'.out x hx).2, by have := (HFT'.out x hx).1; show ¬ x = g5; omega⟩)
              obtain ⟨b, off2, x, r3, rfl, hb1, hx, hr3, d0, d1, d2, d3, d4⟩ := k_get hrow q hqlt
              have hev := HF.out.blk HEV.out hN5
              simp only [evE] at hev
              have hq5 := HQ5.out
              have hevc0 := blk_cell hev 0 _ rfl; have hevf0 := blk_frozen hev 0; have hevc1 := blk_cell hev 1 _ rfl; have hevf1 := blk_frozen hev 1; have hevc2 := blk_cell hev 2 _ rfl; have hevf2 := blk_frozen hev 2; have hevc3 := blk_cell hev 3 _ rfl; have hevf3 := blk_frozen hev 3; have hevc4 := blk_cell hev 4 _ rfl; have hevf4 := blk_frozen hev 4; have hevc5 := blk_cell hev 5 _ rfl; have hevf5 := blk_frozen hev 5; have hevc6 := blk_cell hev 6 _ rfl; have hevf6 := blk_frozen hev 6; have hevc7 := blk_cell hev 7 _ rfl; have hevf7 := blk_frozen hev 7; have hevc8 := blk_cell hev 8 _ rfl; have hevf8 := blk_frozen hev 8; have hevc9 := blk_cell hev 9 _ rfl; have hevf9 := blk_frozen hev 9; have hevc10 := blk_cell hev 10 _ rfl; have hevf10 := blk_frozen hev 10; have hevc11 := blk_cell hev 11 _ rfl; have hevf11 := blk_frozen hev 11; have hevc12 := blk_cell hev 12 _ rfl; have hevf12 := blk_frozen hev 12; have hevc13 := blk_cell hev 13 _ rfl; have hevf13 := blk_frozen hev 13; have hevl := blk_lt hev
              have hq5c0 := blk_cell hq5 0 _ rfl; have hq5f0 := blk_frozen hq5 0; have hq5c1 := blk_cell hq5 1 _ rfl; have hq5f1 := blk_frozen hq5 1; have hq5c2 := blk_cell hq5 2 _ rfl; have hq5f2 := blk_frozen hq5 2; have hq5c3 := blk_cell hq5 3 _ rfl; have hq5f3 := blk_frozen hq5 3; have hq5l := blk_lt hq5
              have HR3 := Hd.mk hr3
              have HX : Hd (kl.take (q + 1) = kl.take q ++ [x]) := ⟨by rw [List.take_add_one, hx]; rfl⟩
              clear hrow hx hr3 hev hq5
              by_cases hxn : x.1 = v.n
              · have jx : (x.1 == v.n) = true := by simpa using hxn
                have HXN := Hd.mk hxn; clear hxn
                go_wp2
                refine wp_region_can (.q [0, 1, 2, 3, 4, 5, 6, 7, 8] (.done)) (clsB _) (by kernel_rfl) (by kernel_rfl) (by intro _ _ d _ _ h; cases d <;> exact h) (clsB_drew _) ?_
                refine can_q (l := [⟨_,_,_,_,_,_⟩, ⟨_,_,_,_,_,_⟩, ⟨_,_,_,_,_,_⟩, ⟨_,_,_,_,_,_⟩, ⟨_,_,_,_,_,_⟩, ⟨_,_,_,_,_,_⟩, ⟨_,_,_,_,_,_⟩, ⟨_,_,_,_,_,_⟩, ⟨_,_,_,_,_,_⟩]) rfl ?_
                repeat (go_big_quiet_step (fail))
                refine wpQuiet_nil ?_
                refine can_done ?_
                go_wp2
                go_roundw
                case rel =>
                  have hfr := Fr.set (Fr.set (Fr.set (Fr.set (Fr.refl (fun k => k = g5) wr) (.inl rfl) 0 (.int .i64 r3.at_.at_)) (.inl rfl) 1 (.int .i64 r3.at_.mode)) (.inl rfl) 2 (.slice r3.AF r3.nF r3.cF)) (.inl rfl) 3 (.slice r3.AT r3.nT r3.cT)
                  refine ⟨q + 1, r3, by omega, by go_num, ⟨(HF.out.trans hfr).drew⟩, ⟨blk_drew (blk_set (blk_set (blk_set (blk_set HQ5.out 0 _ _ rfl) 1 _ _ rfl) 2 _ _ rfl) 3 _ _ rfl)⟩, ⟨?_⟩⟩
                  rw [HX.out, selK_snoc, if_pos HXN.out]
                  exact (HR3.out.fr hfr.drew hb5 (fun z hz => ⟨(HFT'.out z hz).1, by have := (HFT'.out z hz).2; have := HF.out.size; omega⟩))
                case measure => simp [intOf]; omega
              · have jx : (x.1 == v.n) = false := by simpa using hxn
                have HXN := Hd.mk hxn; clear hxn
                go_wp2
                refine wp_region_can (.q [0, 1, 2, 3, 4, 5, 6, 7, 8] (.done)) (clsB _) (by kernel_rfl) (by kernel_rfl) (by intro _ _ d _ _ h; cases d <;> exact h) (clsB_drew _) ?_
                refine can_q (l := [⟨_,_,_,_,_,_⟩, ⟨_,_,_,_,_,_⟩, ⟨_,_,_,_,_,_⟩, ⟨_,_,_,_,_,_⟩, ⟨_,_,_,_,_,_⟩, ⟨_,_,_,_,_,_⟩, ⟨_,_,_,_,_,_⟩, ⟨_,_,_,_,_,_⟩, ⟨_,_,_,_,_,_⟩]) rfl ?_
                repeat (go_big_quiet_step (fail))
                refine wpQuiet_nil ?_
                refine can_done ?_
                go_wp2
                go_roundw
                case rel =>
                  refine ⟨q + 1, r2, by omega, by go_num, ⟨HF.out.drew⟩, HQ5, ⟨?_⟩⟩
                  rw [HX.out, selK_snoc, if_neg HXN.out]
                  exact HRd2.out.move (w' := wr.drew) (fun _ _ => rfl)
                case measure => simp [intOf]; omega
            · obtain rfl : q = n6 := by omega
              have HKK : Hd (kl.take q = kl) := ⟨by rw [← HN6.out, List.take_length]⟩
              go_wp2
              go_roundw
              case rel =>
                refine ⟨k + 1, r2, kl, S6, by omega, by go_num, ⟨?_⟩⟩
                rw [HTK.out]
                have hsel := (show KL kl M.κ by rw [← HMM.out]; exact HI'.out.tab).sel v.n M.s
                have hrd := HRd2.out
                rw [HKK.out, hsel] at hrd
                exact HI'.out.state r2 _ (by rw [HMM.out]; exact step7 HG.out O7.out) HF.out hrd HQ5.out
              case measure => simp [intOf]; omega
        have j7 : (v.op == 7) = false := by simpa using o7
        by_cases o8 : v.op = 8
        · have j8 : (v.op == 8) = true := by simpa using o8
          have O8 := Hd.mk o8; clear o8
          go_wp2_with (go_at_call 26; go_must (refine Calls.mono (without_calls v.n A6 n6 c6 kl _ _ (fun q hq => by rw [size_alloc]; have := (HFT.out q hq).2; omega) (HR6.out.below (fun q hq => (HFT.out q hq).2) (below_alloc (Below.refl _ _) _)) (by omega)) ?_; rintro e w2 ⟨v2, S2, rfl, ho2, hs2, hb2⟩; have HO2 := Hd.mk ho2; have HS2 := Hd.mk hs2; have HB2 := Hd.mk hb2; clear ho2 hs2 hb2))
          go_roundw
          case rel =>
            refine ⟨k + 1, r, without kl v.n, S2, by omega, by go_num, ⟨?_⟩⟩
            rw [HTK.out]
            have hbz := HI.out.bz
            exact (HI.out.go (below_alloc (Below.refl _ _) _)).keeps (by rw [HMM.out]; exact step8 HG.out O8.out) ((show KL kl M.κ by rw [← HMM.out]; exact HI.out.tab).without v.n) HB2.out (HO2.out.lower (by rw [size_alloc]; omega)) (fun q hq => by
              rcases HS2.out q hq with h | h
              · exact (HFT.out q h).1
              · rw [size_alloc] at h; omega) (by have := without_len kl v.n; rw [HN6.out] at this; omega)
          case measure => simp [intOf]; omega
        have j8 : (v.op == 8) = false := by simpa using o8
        by_cases o9 : v.op = 9
        · have j9 : (v.op == 9) = true := by simpa using o9
          have O9 := Hd.mk o9; clear o9
          go_wp2
          go_roundw
          case rel =>
            refine ⟨k + 1, ⟨⟨r.at_.at_, v.n⟩, r.AF, r.nF, r.cF, r.AT, r.nT, r.cT⟩, kl, S6, by omega, by go_num, ⟨?_⟩⟩
            rw [HTK.out]
            have hfr := Fr.set (Fr.refl (fun k => k = g5) wr) (.inl rfl) 1 (.int .i64 v.n)
            have hrd : Rd wr (fun q => base ≤ q ∧ q < wr.heap.size) ⟨⟨r.at_.at_, v.n⟩, r.AF, r.nF, r.cF, r.AT, r.nT, r.cT⟩ ⟨⟨M.s.at_.at_, v.n⟩, M.s.l⟩ := ⟨by show (⟨_, _⟩ : Spot) = ⟨_, _⟩; rw [HRd.out.at_], HRd.out.F, HRd.out.T, HRd.out.capF, HRd.out.capT, HRd.out.nilF, HRd.out.nilT⟩
            exact (HI.out.state (w' := wr.setCell ⟨g5, 1, none⟩ (.int .i64 v.n)) ⟨⟨r.at_.at_, v.n⟩, r.AF, r.nF, r.cF, r.AT, r.nT, r.cT⟩ ⟨⟨M.s.at_.at_, v.n⟩, M.s.l⟩ (by rw [HMM.out]; exact step9 HG.out O9.out) hfr (hrd.fr hfr hb5 (fun q hq => hq)) (blk_set H5.out 1 _ _ rfl)).go (below_alloc (Below.refl _ _) _)
          case measure => simp [intOf]; omega
        · have j9 : (v.op == 9) = false := by simpa using o9
          have HST : Hd (∀ m : Mdl, stepM m v = m) := ⟨fun m => step0 HG.out o4 o5 o6 o7 o8 o9⟩
          clear o4 o5 o6 o7 o8 o9
          go_wp2
          go_roundw
          case rel => exact ⟨k + 1, r, kl, S6, by omega, by go_num, ⟨by rw [HTK.out]; exact (HI.out.same (HST.out _)).go (below_alloc (Below.refl _ _) _)⟩⟩
          case measure => simp [intOf]; omega
    · obtain rfl : k = n := by omega
      have HT : Hd (xs.take k = xs) := ⟨by rw [← HN.out, List.take_length]⟩
      have h4c0 := blk_cell h4 0 _ rfl; have h4f0 := blk_frozen h4 0; have h4c1 := blk_cell h4 1 _ rfl; have h4f1 := blk_frozen h4 1; have h4c2 := blk_cell h4 2 _ rfl; have h4f2 := blk_frozen h4 2; have h4c3 := blk_cell h4 3 _ rfl; have h4f3 := blk_frozen h4 3; have h4l := blk_lt h4
      go_wp2
      refine bodyPost_ret (results_cell_row rfl _ _ w.heap.size 42 #[.int .i64 r.at_.at_, .int .i64 r.at_.mode, .slice r.AF r.nF r.cF, .slice r.AT r.nT r.cT] (0, 0) _ rfl (blk_set (blk_set (blk_set (blk_set h4 0 _ _ rfl) 1 _ _ rfl) 2 _ _ rfl) 3 _ _ rfl) Try.underlying42 rfl (by kernel_rfl)) rfl ?_
      have hfr := Fr.set (Fr.set (Fr.set (Fr.set (Fr.refl (fun k => k = w.heap.size) wr) (.inl rfl) 0 (.int .i64 r.at_.at_)) (.inl rfl) 1 (.int .i64 r.at_.mode)) (.inl rfl) 2 (.slice r.AF r.nF r.cF)) (.inl rfl) 3 (.slice r.AT r.nT r.cT)
      have hrd := HI.out.rd
      rw [HT.out] at hrd
      refine ⟨r, rfl, (hrd.move (fun q hq => hfr.same q hq.2 (by have := HI.out.h4; have := hq.1; show ¬ q = _; omega))).mono (fun q hq => ⟨by have := HI.out.h4; have := hq.1; omega, by simp only [size_set]; exact hq.2⟩), ?_⟩
      exact HI.out.below.trans (hfr.below (by have := HI.out.below.size; omega) (fun b hb hx => by omega))
end Go.Proofs.Ytcejfnnimfpahaa.Fn
