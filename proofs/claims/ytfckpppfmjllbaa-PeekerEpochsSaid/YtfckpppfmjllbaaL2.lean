/- PeekerEpochs: the walk. -/
import Derived.Test.YtfckpppfmjllbaaL1
import Derived.Test.YtfckpppfmjllbaaP12
namespace Go.Proofs.Ytfckpppfmjllbaa.Fn
open Go Go.RowKit Go.Proofs.Ytfckpppfmjllbaa.Can Go.Proofs.Ytfckpppfmjllbaa.Base
attribute [local go_sem] clsB AB.cell clsX AX.cell

def spC (a : Spot) : Array Value := #[.int .i64 a.at_, .int .i64 a.mode]
theorem ceq35 (W : World) (x : Tok) : (binOp .eql 35 (tokV x) (tokV x)).run Try.prog W = .ok (.bool true) W := by
  have h := eq35 9998 W x
  unfold tokV at h ⊢
  simp only [binOp]
  simp [Op.equal, Op.maxDepth, h]
theorem set6 {U : World} {g : Nat} {t : Tok} (h : U.heap[g]? = some (.cells (tokC t) 35 (0, 0))) (x : Tok) :
    ((((((U.setCell ⟨g, 0, none⟩ (.int .i64 x.k)).setCell ⟨g, 1, none⟩ (.int .i64 x.r)).setCell ⟨g, 2, none⟩ (.int .i64 x.f)).setCell ⟨g, 3, none⟩ (.int .i64 x.a)).setCell ⟨g, 4, none⟩ (.int .i64 x.t)).setCell ⟨g, 5, none⟩ (.int .i64 x.m)).heap[g]? = some (.cells (tokC x) 35 (0, 0)) := by
  have y1 := blk_set h 0 (.int .i64 x.k) (tokC ⟨x.k, t.r, t.f, t.a, t.t, t.m⟩) rfl
  have y2 := blk_set y1 1 (.int .i64 x.r) (tokC ⟨x.k, x.r, t.f, t.a, t.t, t.m⟩) rfl
  have y3 := blk_set y2 2 (.int .i64 x.f) (tokC ⟨x.k, x.r, x.f, t.a, t.t, t.m⟩) rfl
  have y4 := blk_set y3 3 (.int .i64 x.a) (tokC ⟨x.k, x.r, x.f, x.a, t.t, t.m⟩) rfl
  have y5 := blk_set y4 4 (.int .i64 x.t) (tokC ⟨x.k, x.r, x.f, x.a, x.t, t.m⟩) rfl
  exact blk_set y5 5 (.int .i64 x.m) (tokC x) rfl
theorem set6fr (U : World) (g : Nat) (x : Tok) : Fr (fun b => b = g) U
    ((((((U.setCell ⟨g, 0, none⟩ (.int .i64 x.k)).setCell ⟨g, 1, none⟩ (.int .i64 x.r)).setCell ⟨g, 2, none⟩ (.int .i64 x.f)).setCell ⟨g, 3, none⟩ (.int .i64 x.a)).setCell ⟨g, 4, none⟩ (.int .i64 x.t)).setCell ⟨g, 5, none⟩ (.int .i64 x.m)) :=
  Fr.set (Fr.set (Fr.set (Fr.set (Fr.set (Fr.set (Fr.refl (fun b => b = g) _) (.inl rfl) _ _) (.inl rfl) _ _) (.inl rfl) _ _) (.inl rfl) _ _) (.inl rfl) _ _) (.inl rfl) _ _
theorem far {U : World} {g : Nat} {o : Obj} (h : U.heap[g]? = some o) {p : Addr} (hne : g ≠ p.block) (v : Value) : (U.setCell p v).heap[g]? = some o := (Below.heap_setCell U p v g hne).trans h
set_option maxRecDepth 20000 in
set_option maxHeartbeats 8000000 in
theorem epochs_calls (n : Nat) (hn255 : n ≤ 255) (A : Option Addr) (c : Nat) (l : List Frame) (S : Nat → Prop) (w : World) (hS : ∀ k, S k → k < w.heap.size) (hC : Row frameT w S A l.length l) :
    Calls Try.prog 3 #[.int .u8 n, .slice A l.length c] w fun e w' => e = .returned (.bool true) ∧ Below w.heap.size w w' := by
  have hmf : ∀ (fn : Fn) (first cap : Array Value) (w : World), (Instr.makeFunc fn first cap).run Try.prog w = .ok (.func fn first cap) w := fun _ _ _ _ => rfl
  have hn := hC.le
  have HS := Hd.mk hS; have HC := Hd.mk hC; clear hS hC
  obtain ⟨lb, hlb⟩ : ∃ lb, lightB l = lb := ⟨_, rfl⟩
  have HLB := Hd.mk hlb; clear hlb
  cases lb with
  | false =>
    go_enter Try.func3, Try.ntmps3
    go_wp2_with (first
      | (go_at_call 6; go_must (refine Calls.mono (alive_calls _) ?_; rintro e w2 ⟨rfl, hb2⟩))
      | (go_at_call 5; go_must (refine Calls.mono (light_calls A c l S w HS.out HC.out) ?_; rintro e w1 ⟨he, hb1⟩; rw [HLB.out] at he; subst he)))
    go_ret
    exact ⟨rfl, below_seq hb1 hb2⟩
  | true =>
    have hl100 : l.length ≤ 100 := by
      have := HLB.out
      unfold lightB at this
      rw [Bool.and_eq_true, decide_eq_true_eq] at this
      exact this.2
    obtain ⟨m, hm⟩ : ∃ m, 1 + n % 5 = m := ⟨_, rfl⟩
    have hmI : (1 : Int) + (n : Int) % 5 = m := by rw [← hm]; simp
    have hm5 : m ≤ 5 := by omega
    have hm1 : 1 ≤ m := by omega
    have hNM : nN m = m := by unfold nN; split <;> (try split) <;> omega
    have HNM := Hd.mk hNM; clear hm hNM
    go_enter Try.func3, Try.ntmps3
    go_wp2_with (first
      | (go_at_call 7; go_must (refine Calls.mono (new_calls m 16 w1) ?_; rintro e w2 ⟨p, rfl, hp, h0, hb2⟩; rw [HNM.out] at h0; have HP2 := Hd.mk h0; have HB2 := Hd.mk (below_seq HB1.out hb2); have hpw : w.heap.size ≤ p := (by have := HB1.out.size; omega); clear h0 hb2))
      | (go_at_call 5; go_must (refine Calls.mono (light_calls A c l S w HS.out HC.out) ?_; rintro e w1 ⟨he, hb1⟩; rw [HLB.out] at he; subst he; have HB1 := Hd.mk hb1; clear hb1)))
    go_loopw [28] (fun i wr => ∃ (k : Nat) (s : PS), k ≤ l.length ∧ i = .int .i64 k ∧ Hd (Ok s ∧ s.st ≤ k ∧ s.n = m) ∧ Hd (Inv l k s) ∧ Hd (wr.heap[p]? = some (.cells (pkC s) 51 (0, 0))) ∧ Hd (Below w.heap.size w wr)) (fun i _ => l.length - (intOf i).toNat)
    case atStart => exact ⟨0, _, Nat.zero_le _, rfl, ⟨by have := new_ok m 16; rw [HNM.out] at this; exact this, Nat.zero_le _, rfl⟩, ⟨inv0 l m _⟩, HP2, HB2⟩
    case round =>
      clear HP2 HB2 HB1 hmI
      obtain ⟨k, s, hk, rfl, HOK, HI, HP, HB⟩ := hrel
      by_cases hlt : k < l.length
      · obtain ⟨b, off, f, A1, c1, rfl, hb1, hf, hc0, hc1, hc2, hc3, hrow⟩ := frame_get (HC.out.below HS.out HB.out) k hlt
        have HR := Hd.mk hrow; have HFK := Hd.mk hf
        clear hf hrow
        obtain ⟨s', hs'⟩ : ∃ s', stepP s f = s' := ⟨_, rfl⟩
        have hok' := step_ok f HOK.out.1 (by have := HOK.out.2.1; omega)
        have hnn : (stepP s f).n = s.n := step_n s f
        rw [hs'] at hok' hnn
        have HOK' : Hd (Ok s' ∧ s'.st ≤ k + 1 ∧ s'.n = m) := ⟨hok'.1, by have := hok'.2; have := HOK.out.2.1; omega, by rw [hnn]; exact HOK.out.2.2⟩
        have HS' := Hd.mk hs'
        clear hok' hs' hnn
        have hSR : Hd (∀ j, S j → j < wr.heap.size ∧ j ≠ p) := ⟨fun j hj => by have := HS.out j hj; have := HB.out.size; omega⟩
        have hpr : p < wr.heap.size := blk_lt HP.out
        by_cases hd1 : s'.ho = 1
        · have hd1I : (s'.ho : Int) = 1 := by omega
          have hd1J : ((s'.ho : Int) == 1) = true := by simp; omega
          obtain ⟨pre, f0, fs, htk, hep, hlen, hch⟩ := done_run HOK.out.1 HI.out (by rw [HS'.out]; exact hd1)
          rw [HS'.out] at hch
          rw [HOK.out.2.2] at hlen
          obtain ⟨pl, hpl⟩ : ∃ pl, pre.length = pl := ⟨_, rfl⟩
          obtain ⟨pk, hpk⟩ : ∃ pk, pl + 1 = pk := ⟨_, rfl⟩
          have hkp : k = pk + m := by
            have := congrArg List.length htk
            rw [List.length_take, List.length_append, List.length_cons, hlen, hpl] at this
            omega
          have HF0 : Hd (l[pl]? = some f0) := ⟨by
            have : (l.take k)[pl]? = some f0 := by rw [htk, List.getElem?_append_right (by omega), hpl]; simp
            rw [List.getElem?_take_of_lt (by omega)] at this
            exact this⟩
          have HFS : Hd (∀ j, pk ≤ j → j < k → l[j]? = fs[j - pk]?) := ⟨fun j h1 h2 => by
            have : (l.take k)[j]? = fs[j - pk]? := by
              rw [htk, List.getElem?_append_right (by omega), hpl, show j - pl = (j - pk) + 1 by omega, List.getElem?_cons_succ]
            rw [List.getElem?_take_of_lt h2] at this
            exact this⟩
          have hI1 : (k : Int) - m = pk := by omega
          have hI2 : (pk : Int) - 1 = pl := by omega
          have hI3 : ¬ (k : Int) < (m : Int) + 1 := by omega
          have hI4 : decide ((k : Int) < (m : Int) + 1) = false := decide_eq_false hI3
          have hpll : pl < l.length := by omega
          have HCH := Hd.mk hch; have HLEN := Hd.mk hlen
          have HKP := Hd.mk hkp; have HPK := Hd.mk hpk
          clear hch htk hlen hpl hkp hpk
          have htv : tokV (if s'.ho = 1 then s'.t else tok0) = .agg #[.int .i64 s'.t.k, .int .i64 s'.t.r, .int .i64 s'.t.f, .int .i64 s'.t.a, .int .i64 s'.t.t, .int .i64 s'.t.m] := by rw [if_pos hd1]; rfl
          have HTV := Hd.mk htv
          have HD1 : Hd (decide (s'.ho = 1) = true) := ⟨decide_eq_true hd1⟩
          clear htv hd1
          go_wp2_with (first
            | (go_at_call 10; go_must (refine Calls.mono (token_calls (s := s') HP2.out) ?_; rintro e w6 ⟨he, hb6⟩; rw [HTV.out, HD1.out] at he; subst he))
            | (go_at_call 8; go_must (refine Calls.mono (step_calls f A1 c1 S (s := s) (blk_alloc HP.out _) HOK.out.1 (fun j hj => ⟨by have := hSR.out j hj; simp only [size_alloc]; omega, (hSR.out j hj).2⟩) (HR.out.below (fun j hj => (hSR.out j hj).1) (below_alloc (Below.refl _ _) _))) ?_; rintro e w2 ⟨he, h2, f2⟩; rw [HS'.out] at he h2; subst he; have HP2 := Hd.mk h2; have HT2 := Hd.mk (f2.blk (blk_new wr _ _ rfl) (by omega)); have HF2 : Hd (Fr (fun b => b = p) wr w2) := ⟨(Fr.of_below (below_alloc (Below.refl _ _) _)).trans f2⟩; clear h2 f2)))
          have hb7 := below_alloc hb6 (.cells (tokC s'.t) 35 (0, 0))
          have HT7 := blk_below HT2.out hb7
          have H97 : Hd ((w6.alloc (.cells (tokC s'.t) 35 (0, 0))).heap[w6.heap.size]? = some (.cells (tokC s'.t) 35 (0, 0))) := ⟨blk_new _ _ _ rfl⟩
          have HB7 : Hd (Below w.heap.size w (w6.alloc (.cells (tokC s'.t) 35 (0, 0)))) := ⟨Fr.seq HB.out (HF2.out.trans (Fr.of_below hb7)) HB.out.size (fun x hx hy => by omega)⟩
          have hsz : w6.heap.size < (w6.alloc (.cells (tokC s'.t) 35 (0, 0))).heap.size := by simp only [size_alloc]; omega
          have hgr : wr.heap.size ≤ w6.heap.size := by have := HF2.out.size; have := hb6.size; omega
          clear hb6 hb7 hc0 hc1 hc2 hc3
          unfold tokC at HT7 H97 HB7 hsz
          generalize World.alloc w6 _ = V at HT7 H97 HB7 hsz ⊢
          generalize w6.heap.size = g9 at H97 hsz hgr ⊢
          obtain ⟨b2, off2, f2, A2, c2, he2, hb2, hf2, hd0, hd1, hd2, hd3, hrow2⟩ := frame_get (HC.out.below HS.out HB7.out) pl hpll
          cases he2
          rw [HF0.out] at hf2
          cases hf2
          clear hrow2
          have HT7' := Hd.mk HT7
          have HT7c0 := blk_cell HT7 0 _ rfl; have HT7f0 := blk_frozen HT7 0; have HT7c1 := blk_cell HT7 1 _ rfl; have HT7f1 := blk_frozen HT7 1; have HT7c2 := blk_cell HT7 2 _ rfl; have HT7f2 := blk_frozen HT7 2; have HT7c3 := blk_cell HT7 3 _ rfl; have HT7f3 := blk_frozen HT7 3; have HT7l := blk_lt HT7
          clear HT7
          generalize wr.heap.size = g8 at *
          refine wp_region_can (.q [0, 1, 2, 3, 4, 5, 6, 7, 8, 9, 10, 11, 12, 13, 14, 15, 16, 17, 18, 19, 20] (.done)) (clsB _) (by kernel_rfl) (by kernel_rfl) (by intro _ _ d _ _ h; cases d <;> exact h) (clsB_drew _) ?_
          refine can_q (l := [⟨_,_,_,_,_,_⟩, ⟨_,_,_,_,_,_⟩, ⟨_,_,_,_,_,_⟩, ⟨_,_,_,_,_,_⟩, ⟨_,_,_,_,_,_⟩, ⟨_,_,_,_,_,_⟩, ⟨_,_,_,_,_,_⟩, ⟨_,_,_,_,_,_⟩, ⟨_,_,_,_,_,_⟩, ⟨_,_,_,_,_,_⟩, ⟨_,_,_,_,_,_⟩, ⟨_,_,_,_,_,_⟩, ⟨_,_,_,_,_,_⟩, ⟨_,_,_,_,_,_⟩, ⟨_,_,_,_,_,_⟩, ⟨_,_,_,_,_,_⟩, ⟨_,_,_,_,_,_⟩, ⟨_,_,_,_,_,_⟩, ⟨_,_,_,_,_,_⟩, ⟨_,_,_,_,_,_⟩, ⟨_,_,_,_,_,_⟩]) rfl ?_
          repeat (go_big_quiet_step (fail))
          refine wpQuiet_nil ?_
          refine can_done ?_
          go_wp2_with fail
          generalize hX : World.alloc _ _ = X
          have HBX : Below V.heap.size V X := below_of hX (by repeat (first | (with_reducible assumption) | (with_reducible exact Below.refl _ _) | (with_reducible apply below_drewL) | (with_reducible apply below_alloc) | (with_reducible apply below_drew1) | (with_reducible apply below_drewN) | (refine below_set ?_ (by first | omega | (simp only [size_alloc, size_drew, size_set]; omega)) _ _)))
          have zX : Hd (X.heap.size = V.heap.size + 1 + 1) := ⟨by rw [← hX]; simp only [size_alloc]⟩
          have X0 := at_of hX (blk_alloc (blk_new _ _ _ rfl) _)
          have X0l := blk_lt X0
          have X1 := at_of hX (blk_new _ _ _ rfl)
          simp only [size_alloc] at X1
          have X1l := blk_lt X1
          clear hX
          have HT8 := Hd.mk (blk_below HT7'.out HBX)
          have H98 := Hd.mk (blk_below H97.out HBX)
          have HB8 : Hd (Below w.heap.size w X) := ⟨below_seq HB7.out HBX⟩
          have HSP : Hd (X.heap[V.heap.size]? = some (.cells (spC f0.spot) 28 (0, 0))) := ⟨X0⟩
          have HTK : Hd (X.heap[V.heap.size + 1]? = some (.cells (tokC tok0) 35 (0, 0))) := ⟨X1⟩
          have hwV : w.heap.size ≤ V.heap.size := HB7.out.size
          have hg9V : g9 < V.heap.size := blk_lt H97.out
          generalize V.heap.size = gs at *
          clear X0 X1 HBX zX HT7c0 HT7c1 HT7c2 HT7c3 HT7f0 HT7f1 HT7f2 HT7f3 HT7l HT7' H97 HB7 hd0 hd1 hd2 hd3 hb2 HP2 HF2 HT2 HT8 hgr hsz hI3 hI4
          go_loopw [13] (fun jv wr => ∃ (j : Nat) (a : Spot) (t : Tok), pk ≤ j ∧ j ≤ k ∧ jv = .int .i64 j ∧ Hd (chain (fs.drop (j - pk)) a t = some (⟨s.a, s.m⟩, s'.t)) ∧ Hd (wr.heap[gs]? = some (.cells (spC a) 28 (0, 0))) ∧ Hd (wr.heap[gs + 1]? = some (.cells (tokC t) 35 (0, 0))) ∧ Hd (wr.heap[g9]? = some (.cells (tokC s'.t) 35 (0, 0))) ∧ Hd (Below w.heap.size w wr)) (fun jv _ => k - (intOf jv).toNat)
          case atStart => exact ⟨pk, f0.spot, tok0, Nat.le_refl _, by have := HKP.out; omega, rfl, ⟨by rw [Nat.sub_self, List.drop_zero]; exact HCH.out⟩, ⟨blk_drew HSP.out⟩, ⟨blk_drew HTK.out⟩, ⟨blk_drew H98.out⟩, ⟨below_drew1 HB8.out⟩⟩
          case round =>
            clear HSP HTK H98 HB8
            obtain ⟨j, a, t, hpj, hjk, rfl, HCJ, HSP, HTK, H9, HBJ⟩ := hrel
            by_cases hlj : j < k
            · obtain ⟨g, hg⟩ : ∃ g, fs[j - pk]? = some g := ⟨_, List.getElem?_eq_getElem (by rw [HLEN.out]; have := HKP.out; omega)⟩
              have hlg : l[j]? = some g := by rw [HFS.out j hpj hlj, hg]
              have hdr : fs.drop (j - pk) = g :: fs.drop (j + 1 - pk) := by
                obtain ⟨h1, h2⟩ := List.getElem?_eq_some_iff.1 hg
                rw [List.drop_eq_getElem_cons h1, h2, show j + 1 - pk = j - pk + 1 by omega]
              have hcj := HCJ.out
              rw [hdr] at hcj
              obtain ⟨x, hx⟩ : ∃ x, getE g.l a = some x := by
                cases h : getE g.l a with
                | none => simp only [chain, h] at hcj; cases hcj
                | some x => exact ⟨x, rfl⟩
              have HCX : Hd (chain (fs.drop (j + 1 - pk)) ⟨x.t, x.m⟩ x = some (⟨s.a, s.m⟩, s'.t)) := ⟨by simp only [chain, hx] at hcj; exact hcj⟩
              have HX := Hd.mk hx
              have hjl : j < l.length := by omega
              obtain ⟨b3, off3, f3, A3, c3, he3, hb3, hf3, hd0, hd1, hd2, hd3, hrow3⟩ := frame_get (HC.out.below HS.out HBJ.out) j hjl
              cases he3
              rw [hlg] at hf3
              cases hf3
              have HR3 := Hd.mk hrow3
              have hsp := HSP.out
              have htk := HTK.out
              unfold spC at hsp
              unfold tokC at htk
              clear hrow3 hlg hg hdr hcj hx
              have HK : Hd (∀ W, Below wr.heap.size wr W → Calls Try.prog 9 #[.agg #[.int .i64 g.epoch, .int .i64 g.spot.at_, .int .i64 g.spot.mode, .slice A3 g.l.length c3], .agg #[.int .i64 a.at_, .int .i64 a.mode]] W fun e w' => e = .returned (.tuple #[.agg #[.int .i64 x.k, .int .i64 x.r, .int .i64 x.f, .int .i64 x.a, .int .i64 x.t, .int .i64 x.m], .bool true]) ∧ Below W.heap.size W w') := ⟨fun W hW => by
                have hV : ∀ k, S k → k < wr.heap.size := fun k hk => Nat.lt_of_lt_of_le (HS.out k hk) HBJ.out.size
                have := known_calls A3 g.l.length c3 g.l g.epoch g.spot.at_ g.spot.mode a.at_ a.mode S W (fun k hk => Nat.lt_of_lt_of_le (hV k hk) hW.size) (HR3.out.below hV hW)
                rw [HX.out] at this
                exact this⟩
              have hspc0 := blk_cell hsp 0 _ rfl; have hspf0 := blk_frozen hsp 0; have hspc1 := blk_cell hsp 1 _ rfl; have hspf1 := blk_frozen hsp 1; have hspl := blk_lt hsp
              have htkc0 := blk_cell htk 0 _ rfl; have htkf0 := blk_frozen htk 0; have htkc1 := blk_cell htk 1 _ rfl; have htkf1 := blk_frozen htk 1; have htkc2 := blk_cell htk 2 _ rfl; have htkf2 := blk_frozen htk 2; have htkc3 := blk_cell htk 3 _ rfl; have htkf3 := blk_frozen htk 3; have htkc4 := blk_cell htk 4 _ rfl; have htkf4 := blk_frozen htk 4; have htkc5 := blk_cell htk 5 _ rfl; have htkf5 := blk_frozen htk 5; have htkl := blk_lt htk
              clear hsp htk
              go_wp2_with fail
              refine wp_region_can (.q [0, 1, 2, 3, 4] (.b 5 false (.q [6, 7, 8] (.e 9 true (.e 10 false (.q [11] (.done))))) 9 true (.e 5 false (.q [6, 7, 8] (.e 10 false (.q [11] (.done))))))) (clsB _) (by kernel_rfl) (by kernel_rfl) (by intro _ _ d _ _ h; cases d <;> exact h) (clsB_drew _) ?_
              refine can_q (l := [⟨_,_,_,_,_,_⟩, ⟨_,_,_,_,_,_⟩, ⟨_,_,_,_,_,_⟩, ⟨_,_,_,_,_,_⟩, ⟨_,_,_,_,_,_⟩]) rfl ?_
              repeat (go_big_quiet_step (fail))
              refine wpQuiet_nil ?_
              apply cut_one (fun g2 U => gs + 1 < g2 ∧ Below wr.heap.size wr U ∧ U.heap[g2]? = some (.cells (tokC x) 35 (0, 0)))
              case main =>
                intro key
                refine can_b (o := ⟨_,_,_,_,_,_⟩) (oj := ⟨_,_,_,_,_,_⟩) rfl rfl (fun K hK => ?_) (fun K hK => ?_)
                · go_wp2_with (go_at_call 9; go_must (refine Calls.mono (HK.out _ (below_drew1 (Below.refl _ _))) ?_; rintro e w1 ⟨rfl, hb1⟩; replace hb1 := below_undrew hb1))
                  refine onK_normal (hK _ _ ⟨clsB _, clsB_of (by first | exact (hb1) | exact below_undrew (hb1)), fun _ _ h => h, ?_⟩)
                  clear hK K
                  refine can_q (l := [⟨_,_,_,_,_,_⟩, ⟨_,_,_,_,_,_⟩, ⟨_,_,_,_,_,_⟩]) rfl ?_
                  repeat (go_big_quiet_step (fail))
                  refine wpQuiet_nil ?_
                  refine can_e (o := ⟨_,_,_,_,_,_⟩) rfl (fun K hK => ?_)
                  go_wp2_with fail
                  refine onK_normal (hK _ _ ⟨clsB _, clsB_of (by first | exact ((below_alloc hb1 _)) | exact below_undrew ((below_alloc hb1 _))), fun _ _ h => h, ?_⟩)
                  clear hK K
                  refine can_e (o := ⟨_,_,_,_,_,_⟩) rfl (fun K hK => ?_)
                  go_wp2_with fail
                  refine onK_normal (hK _ _ ⟨fun _ => True, trivial, (fun h => by cases h), ?_⟩)
                  clear hK K
                  refine can_q (l := [⟨_,_,_,_,_,_⟩]) rfl ?_
                  repeat (go_big_quiet_step (fail))
                  refine wpQuiet_nil ?_
                  refine can_done ?_
                  have hz := hb1.size
                  generalize hU : World.alloc w1 _ = U
                  have hg : U.heap[w1.heap.size]? = some (.cells (tokC x) 35 (0, 0)) := by rw [← hU]; exact blk_new _ _ _ rfl
                  have hb2 : Below wr.heap.size wr U := by rw [← hU]; exact below_alloc hb1 _
                  generalize w1.heap.size = g2 at hg hz ⊢
                  exact key g2 U ⟨by omega, hb2, hg⟩
                · go_wp2_with fail
                  refine onK_normal (hK _ _ ⟨clsB _, clsB_of (by first | exact ((by repeat (first | (with_reducible assumption) | (with_reducible exact Below.refl _ _) | (with_reducible apply below_drewL) | (with_reducible apply below_alloc) | (with_reducible apply below_drew1) | (with_reducible apply below_drewN) | (refine below_set ?_ (by first | omega | (simp only [size_alloc, size_drew, size_set]; omega)) _ _)))) | exact below_undrew ((by repeat (first | (with_reducible assumption) | (with_reducible exact Below.refl _ _) | (with_reducible apply below_drewL) | (with_reducible apply below_alloc) | (with_reducible apply below_drew1) | (with_reducible apply below_drewN) | (refine below_set ?_ (by first | omega | (simp only [size_alloc, size_drew, size_set]; omega)) _ _))))), fun _ _ h => h, ?_⟩)
                  clear hK K
                  refine can_e (o := ⟨_,_,_,_,_,_⟩) rfl (fun K hK => ?_)
                  go_wp2_with (go_at_call 9; go_must (refine Calls.mono (HK.out _ (by repeat (first | (with_reducible assumption) | (with_reducible exact Below.refl _ _) | (with_reducible apply below_drewL) | (with_reducible apply below_alloc) | (with_reducible apply below_drew1) | (with_reducible apply below_drewN) | (refine below_set ?_ (by first | omega | (simp only [size_alloc, size_drew, size_set]; omega)) _ _)))) ?_; rintro e w1 ⟨rfl, hb1⟩; have hg1 : w1.heap[wr.heap.size]? = some (.cells #[.int .i64 0, .int .i64 0, .int .i64 0, .int .i64 0, .int .i64 0, .int .i64 0] 35 (0, 0)) := (hb1.block wr.heap.size (by simp only [size_alloc, size_drew]; omega)).trans (by first | exact blk_new wr _ _ rfl | exact blk_drew (blk_new wr _ _ rfl)); have hb2 : Below wr.heap.size wr w1 := Below.trans (by first | exact below_alloc (Below.refl _ _) _ | exact below_drew1 (below_alloc (Below.refl _ _) _) | exact below_alloc (below_drew1 (Below.refl _ _)) _) (hb1.mono (by simp only [size_alloc, size_drew]; omega)); have hg1c0 := blk_cell hg1 0 _ rfl; have hg1f0 := blk_frozen hg1 0; have hg1c1 := blk_cell hg1 1 _ rfl; have hg1f1 := blk_frozen hg1 1; have hg1c2 := blk_cell hg1 2 _ rfl; have hg1f2 := blk_frozen hg1 2; have hg1c3 := blk_cell hg1 3 _ rfl; have hg1f3 := blk_frozen hg1 3; have hg1c4 := blk_cell hg1 4 _ rfl; have hg1f4 := blk_frozen hg1 4; have hg1c5 := blk_cell hg1 5 _ rfl; have hg1f5 := blk_frozen hg1 5; have hg1l := blk_lt hg1))
                  refine onK_normal (hK _ _ ⟨clsB _, clsB_of (by first | exact ((below_drewL hb2)) | exact below_undrew ((below_drewL hb2))), fun _ _ h => h, ?_⟩)
                  clear hK K
                  refine can_q (l := [⟨_,_,_,_,_,_⟩, ⟨_,_,_,_,_,_⟩, ⟨_,_,_,_,_,_⟩]) rfl ?_
                  repeat (go_big_quiet_step (fail))
                  refine wpQuiet_nil ?_
                  refine can_e (o := ⟨_,_,_,_,_,_⟩) rfl (fun K hK => ?_)
                  go_wp2_with fail
                  refine onK_normal (hK _ _ ⟨fun _ => True, trivial, (fun h => by cases h), ?_⟩)
                  clear hK K
                  refine can_q (l := [⟨_,_,_,_,_,_⟩]) rfl ?_
                  repeat (go_big_quiet_step (fail))
                  refine wpQuiet_nil ?_
                  refine can_done ?_
                  generalize hU : World.setCell _ _ _ = U
                  have hg : U.heap[wr.heap.size]? = some (.cells (tokC x) 35 (0, 0)) := by
                    rw [← hU]
                    exact blk_set (blk_set (blk_set (blk_set (blk_set (blk_set hg1 0 _ _ rfl) 1 _ _ rfl) 2 _ _ rfl) 3 _ _ rfl) 4 _ _ rfl) 5 _ _ rfl
                  have hb3 : Below wr.heap.size wr U := by rw [← hU]; exact (by repeat (first | (with_reducible assumption) | (with_reducible exact Below.refl _ _) | (with_reducible apply below_drewL) | (with_reducible apply below_alloc) | (with_reducible apply below_drew1) | (with_reducible apply below_drewN) | (refine below_set ?_ (by first | omega | (simp only [size_alloc, size_drew, size_set]; omega)) _ _)))
                  have hz : gs + 1 < wr.heap.size := htkl
                  generalize wr.heap.size = g2 at hg hz ⊢
                  exact key g2 U ⟨by omega, hb3, hg⟩
              case key =>
                rintro g2 U ⟨hgg, hbU, hgU⟩
                have HG := Hd.mk hgU
                have HSP2 := Hd.mk (blk_below HSP.out hbU); have HTK2 := Hd.mk (blk_below HTK.out hbU); have H92 := Hd.mk (blk_below H9.out hbU); have HBU := Hd.mk (below_seq HBJ.out hbU)
                have hsu := HSP2.out; have htu := HTK2.out
                unfold spC at hsu
                unfold tokC at htu hgU
                clear hspc0 hspc1 hspf0 hspf1 hspl htkc0 htkc1 htkc2 htkc3 htkc4 htkc5 htkf0 htkf1 htkf2 htkf3 htkf4 htkf5 htkl HSP HTK H9 HK hbU hd0 hd1 hd2 hd3
                have hsuc0 := blk_cell hsu 0 _ rfl; have hsuf0 := blk_frozen hsu 0; have hsuc1 := blk_cell hsu 1 _ rfl; have hsuf1 := blk_frozen hsu 1; have hsul := blk_lt hsu
                have htuc0 := blk_cell htu 0 _ rfl; have htuf0 := blk_frozen htu 0; have htuc1 := blk_cell htu 1 _ rfl; have htuf1 := blk_frozen htu 1; have htuc2 := blk_cell htu 2 _ rfl; have htuf2 := blk_frozen htu 2; have htuc3 := blk_cell htu 3 _ rfl; have htuf3 := blk_frozen htu 3; have htuc4 := blk_cell htu 4 _ rfl; have htuf4 := blk_frozen htu 4; have htuc5 := blk_cell htu 5 _ rfl; have htuf5 := blk_frozen htu 5; have htul := blk_lt htu
                have hgUc0 := blk_cell hgU 0 _ rfl; have hgUf0 := blk_frozen hgU 0; have hgUc1 := blk_cell hgU 1 _ rfl; have hgUf1 := blk_frozen hgU 1; have hgUc2 := blk_cell hgU 2 _ rfl; have hgUf2 := blk_frozen hgU 2; have hgUc3 := blk_cell hgU 3 _ rfl; have hgUf3 := blk_frozen hgU 3; have hgUc4 := blk_cell hgU 4 _ rfl; have hgUf4 := blk_frozen hgU 4; have hgUc5 := blk_cell hgU 5 _ rfl; have hgUf5 := blk_frozen hgU 5; have hgUl := blk_lt hgU
                clear hsu htu hgU
                go_wp2_with fail
                have hgs1 : ¬ g2 = gs := by omega
                have hgs2 : ¬ g2 = gs + 1 := by omega
                refine wp_region_can (.q [0, 1, 2, 3, 4, 5] (.e 6 true (.e 7 false (.done)))) (clsX (fun b => b = gs ∨ b = gs + 1) _) (by kernel_rfl) (by kernel_rfl) (by intro _ _ d _ _ h; cases d <;> exact h) (clsX_drew _ _) ?_
                refine can_q (l := [⟨_,_,_,_,_,_⟩, ⟨_,_,_,_,_,_⟩, ⟨_,_,_,_,_,_⟩, ⟨_,_,_,_,_,_⟩, ⟨_,_,_,_,_,_⟩, ⟨_,_,_,_,_,_⟩]) rfl ?_
                repeat (go_big_quiet_step (fail))
                refine wpQuiet_nil ?_
                refine can_e (o := ⟨_,_,_,_,_,_⟩) rfl (fun K hK => ?_)
                go_wp2_with fail
                refine onK_normal (hK _ _ ⟨clsX _ _, (by first | exact clsX_drew _ _ | exact clsX_self _ _), fun _ => clsX_next (by simp only [size_set, size_drew]; omega) (fun b_ hb_ hW_ => (set6fr _ (gs + 1) x).same b_ hb_ (fun he => hW_ (.inr he))), ?_⟩)
                clear hK K
                refine can_e (o := ⟨_,_,_,_,_,_⟩) rfl (fun K hK => ?_)
                go_wp2_with fail
                refine onK_normal (hK _ _ ⟨fun _ => True, trivial, (fun h => by cases h), ?_⟩)
                clear hK K
                refine can_done ?_
                generalize hZ : World.setCell _ _ _ = Z
                have HSP3 : Hd (Z.heap[gs]? = some (.cells (spC ⟨x.t, x.m⟩) 28 (0, 0))) := ⟨by
                  rw [← hZ]
                  exact blk_set (blk_set ((set6fr _ (gs + 1) x).blk (blk_drew HSP2.out) (by omega)) 0 _ _ rfl) 1 _ _ rfl⟩
                have HTK3 : Hd (Z.heap[gs + 1]? = some (.cells (tokC x) 35 (0, 0))) := ⟨by
                  rw [← hZ]
                  exact far (far (set6 (blk_drew HTK2.out) x) (show gs + 1 ≠ gs by omega) _) (show gs + 1 ≠ gs by omega) _⟩
                have H93 : Hd (Z.heap[g9]? = some (.cells (tokC s'.t) 35 (0, 0))) := ⟨by
                  rw [← hZ]
                  exact far (far ((set6fr _ (gs + 1) x).blk (blk_drew H92.out) (by omega)) (show g9 ≠ gs by omega) _) (show g9 ≠ gs by omega) _⟩
                have HB3 : Hd (Below w.heap.size w Z) := ⟨by
                  rw [← hZ]
                  exact Fr.seq (X := fun b => b = gs ∨ b = gs + 1) HBU.out (Fr.set (Fr.set ((set6fr _ (gs + 1) x).mono (Y := fun b => b = gs ∨ b = gs + 1) (fun b hb => .inr hb)) (.inl (.inl rfl)) _ _) (.inl (.inl rfl)) _ _) HBU.out.size (fun b hb hx => by omega)⟩
                clear hZ
                go_wp2
                go_roundw
                case rel => exact ⟨j + 1, ⟨x.t, x.m⟩, x, by omega, by omega, by go_num, HCX, ⟨blk_drew HSP3.out⟩, ⟨blk_drew HTK3.out⟩, ⟨blk_drew H93.out⟩, ⟨below_drew1 HB3.out⟩⟩
                case measure => simp [intOf]; omega
            · obtain rfl : j = k := by omega
              have hcj := HCJ.out
              rw [List.drop_eq_nil_of_le (by rw [HLEN.out]; have := HKP.out; omega)] at hcj
              simp only [chain, Option.some.injEq, Prod.mk.injEq] at hcj
              obtain ⟨_, rfl⟩ := hcj
              have htk := HTK.out
              have h9 := H9.out
              unfold tokC at htk h9
              have hne : ∀ W, (binOp .eql 35 (.agg #[.int .i64 s'.t.k, .int .i64 s'.t.r, .int .i64 s'.t.f, .int .i64 s'.t.a, .int .i64 s'.t.t, .int .i64 s'.t.m]) (.agg #[.int .i64 s'.t.k, .int .i64 s'.t.r, .int .i64 s'.t.f, .int .i64 s'.t.a, .int .i64 s'.t.t, .int .i64 s'.t.m])).run Try.prog W = .ok (.bool true) W := fun W => ceq35 W s'.t
              have htkc0 := blk_cell htk 0 _ rfl; have htkf0 := blk_frozen htk 0; have htkc1 := blk_cell htk 1 _ rfl; have htkf1 := blk_frozen htk 1; have htkc2 := blk_cell htk 2 _ rfl; have htkf2 := blk_frozen htk 2; have htkc3 := blk_cell htk 3 _ rfl; have htkf3 := blk_frozen htk 3; have htkc4 := blk_cell htk 4 _ rfl; have htkf4 := blk_frozen htk 4; have htkc5 := blk_cell htk 5 _ rfl; have htkf5 := blk_frozen htk 5; have htkl := blk_lt htk
              have h9c0 := blk_cell h9 0 _ rfl; have h9f0 := blk_frozen h9 0; have h9c1 := blk_cell h9 1 _ rfl; have h9f1 := blk_frozen h9 1; have h9c2 := blk_cell h9 2 _ rfl; have h9f2 := blk_frozen h9 2; have h9c3 := blk_cell h9 3 _ rfl; have h9f3 := blk_frozen h9 3; have h9c4 := blk_cell h9 4 _ rfl; have h9f4 := blk_frozen h9 4; have h9c5 := blk_cell h9 5 _ rfl; have h9f5 := blk_frozen h9 5; have h9l := blk_lt h9
              clear htk h9
              go_wp2_with (go_at_call 6; go_must (refine Calls.mono (alive_calls _) ?_; rintro e w7 ⟨rfl, hb7⟩))
              go_ret
              exact ⟨rfl, below_seq HBJ.out hb7⟩
        · have hd1I : ¬ (s'.ho : Int) = 1 := by omega
          have hd1J : ((s'.ho : Int) == 1) = false := by simp; omega
          have HI' : Hd (Inv l (k + 1) s') := ⟨by rw [← HS'.out]; exact step_inv HOK.out.1 HI.out HFK.out (by rw [HS'.out]; exact hd1)⟩
          go_wp2_with (go_at_call 8; go_must (refine Calls.mono (step_calls f A1 c1 S (s := s) (blk_alloc HP.out _) HOK.out.1 (fun j hj => ⟨by have := hSR.out j hj; simp only [size_alloc]; omega, (hSR.out j hj).2⟩) (HR.out.below (fun j hj => (hSR.out j hj).1) (below_alloc (Below.refl _ _) _))) ?_; rintro e w2 ⟨he, h2, f2⟩; rw [HS'.out] at he h2; subst he; have HP2 := Hd.mk h2; have HF2 : Hd (Fr (fun b => b = p) wr w2) := ⟨(Fr.of_below (below_alloc (Below.refl _ _) _)).trans f2⟩; clear h2 f2))
          go_roundw
          case rel => exact ⟨k + 1, s', by omega, by go_num, HOK', HI', HP2, ⟨Fr.seq HB.out HF2.out HB.out.size (fun x hx hy => by omega)⟩⟩
          case measure => simp [intOf]; omega
      · obtain rfl : k = l.length := by omega
        go_wp2_with (go_at_call 6; go_must (refine Calls.mono (alive_calls _) ?_; rintro e w7 ⟨rfl, hb7⟩))
        go_ret
        exact ⟨rfl, below_seq HB.out hb7⟩
end Go.Proofs.Ytfckpppfmjllbaa.Fn
