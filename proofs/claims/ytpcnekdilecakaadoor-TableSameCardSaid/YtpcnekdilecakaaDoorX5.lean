/- TableSame. -/
import Derived.Test.YtpcnekdilecakaaDoorXA
set_option linter.unusedVariables false
set_option linter.unusedSimpArgs false
namespace Go.Proofs.YtpcnekdilecakaaDoor.Tb
open Go Go.RowKit Go.Proofs.YtpcnekdilecakaaDoor.Can Go.Proofs.YtpcnekdilecakaaDoor.Base
attribute [local go_sem] clsB AB.cell

section
variable {P : Program} {ops : Array Oper} {rest : List Oper} {o : Oper} {a : Act} {Q : Exit → Act → World → Prop}
/-- A conversion whose answer is known. -/
theorem step_convert {U U' : World} (hgd : o.guard = none) (s t : TypeId) (x : Operand) (ho : o.op = .convert s t x) (v r : Value) (hx : a.eval x = v) (hrun : (convert s t v).run P U = .ok r U') (h : wpList P ops Q rest (a.put o.dst r) U') : wpList P ops Q (o :: rest) a U := by
  refine wpList_plain hgd fun K hK => ?_
  unfold Oper.wp execOp
  simp only [ho, Sem.run_bind, Sem.run_pure, Result.andThen_ok, hx, hrun]
  exact hK _ _ h
end
theorem xor_u8 (x m : Nat) (hx : x < 256) (hm : m < 256) : bits BinOp.xor IntKind.u8 (x : Int) (m : Int) = ((x ^^^ m : Nat) : Int) := by
  have h9 : x ^^^ m < 256 := Nat.xor_lt_two_pow (n := 8) hx hm
  first
    | (show IntKind.u8.wrap ((BitVec.ofInt 8 (x : Int) ^^^ BitVec.ofInt 8 (m : Int)).toNat : Int) = _
       rw [BitVec.ofInt_natCast, BitVec.ofInt_natCast, BitVec.toNat_xor, BitVec.toNat_ofNat, BitVec.toNat_ofNat, Nat.mod_eq_of_lt (by omega), Nat.mod_eq_of_lt (by omega)])
    | (show IntKind.u8.wrap ((BitVec.ofInt 64 (x : Int) ^^^ BitVec.ofInt 64 (m : Int)).toNat : Int) = _
       rw [BitVec.ofInt_natCast, BitVec.ofInt_natCast, BitVec.toNat_xor, BitVec.toNat_ofNat, BitVec.toNat_ofNat, Nat.mod_eq_of_lt (by omega), Nat.mod_eq_of_lt (by omega)])
  simp [IntKind.wrap, IntKind.signed, IntKind.bits]
  omega
theorem xor_other (x k : Nat) (hx : x < 256) (hk : k < 8) : ∃ z : Nat, z < 256 ∧ z ≠ x ∧ bits BinOp.xor IntKind.u8 (x : Int) ((2 : Int) ^ k % 256) = (z : Int) := by
  have key : ∀ m : Nat, 0 < m → m < 256 → (2 : Int) ^ k % 256 = (m : Int) → ∃ z : Nat, z < 256 ∧ z ≠ x ∧ bits BinOp.xor IntKind.u8 (x : Int) ((2 : Int) ^ k % 256) = (z : Int) := fun m h0 h1 e => by
    refine ⟨x ^^^ m, Nat.xor_lt_two_pow (n := 8) hx h1, fun h => ?_, by rw [e]; exact xor_u8 x m hx h1⟩
    have h2 : x ^^^ (x ^^^ m) = m := by rw [← Nat.xor_assoc, Nat.xor_self, Nat.zero_xor]
    rw [h, Nat.xor_self] at h2
    omega
  rcases (by omega : k = 0 ∨ k = 1 ∨ k = 2 ∨ k = 3 ∨ k = 4 ∨ k = 5 ∨ k = 6 ∨ k = 7) with rfl | rfl | rfl | rfl | rfl | rfl | rfl | rfl
  · exact key 1 (by omega) (by omega) rfl
  · exact key 2 (by omega) (by omega) rfl
  · exact key 4 (by omega) (by omega) rfl
  · exact key 8 (by omega) (by omega) rfl
  · exact key 16 (by omega) (by omega) rfl
  · exact key 32 (by omega) (by omega) rfl
  · exact key 64 (by omega) (by omega) rfl
  · exact key 128 (by omega) (by omega) rfl
theorem bytesRow_at {ys : List UInt8} {C j : Nat} {y : UInt8} (h : ys[j]? = some y) : (bytesRow (bs ys) C)[j]? = some (.int .u8 (y.toNat : Int)) := by
  have hj : j < ys.length := (List.getElem?_eq_some_iff.1 h).1
  unfold bytesRow
  rw [Array.getElem?_append_left (by rw [Array.size_map]; show j < ys.toArray.size; rw [List.size_toArray]; exact hj), Array.getElem?_map]
  show (ys.toArray[j]?).map _ = _
  rw [List.getElem?_toArray, h]
  rfl
theorem bytesRow_size (ys : List UInt8) (C : Nat) : ys.length ≤ (bytesRow (bs ys) C).size := by
  unfold bytesRow
  rw [Array.size_append, Array.size_map]
  show ys.length ≤ ys.toArray.size + _
  rw [List.size_toArray]
  omega
set_option maxRecDepth 20000 in
set_option maxHeartbeats 16000000 in
theorem tsameL_calls (A1 A2 A3 : Option Addr) (n1 n2 n3 c1 c2 c3 : Nat) (B1 B2 B3 : Option Addr) (m1 m2 m3 e1 e2 e3 : Nat) (a b : Lx) (S T : Nat → Prop) (d : Nat) (hd : d ≤ 65535) (w : World) (hL : LX w S A1 A2 A3 n1 n2 n3 a) (hX : LX w T B1 B2 B3 m1 m2 m3 b) (hB : Bg w) :
    Calls Tryd.prog 5 #[.agg #[.slice A1 n1 c1, .slice A2 n2 c2, .slice A3 n3 c3], .agg #[.slice B1 m1 e1, .slice B2 m2 e2, .slice B3 m3 e3], .int .u16 d] w fun e w' => e = .returned (.bool true) ∧ Below w.heap.size w w' := by
  obtain ⟨W0, hW0⟩ : ∃ W0, w.alloc (.cells #[.slice A1 n1 c1, .slice A2 n2 c2, .slice A3 n3 c3] 26) = W0 := ⟨_, rfl⟩
  have hBW : Below w.heap.size w W0 := by rw [← hW0]; exact below_alloc (Below.refl _ _) _
  have hx : W0.heap[w.heap.size]? = some (.cells #[.slice A1 n1 c1, .slice A2 n2 c2, .slice A3 n3 c3] 26 (0, 0)) := by rw [← hW0]; exact blk_new _ _ _ rfl
  have hs0 : W0.heap.size = w.heap.size + 1 := by rw [← hW0, size_alloc]
  obtain ⟨W1, hW1⟩ : ∃ W1, W0.alloc (.cells #[.slice B1 m1 e1, .slice B2 m2 e2, .slice B3 m3 e3] 26) = W1 := ⟨_, rfl⟩
  have hB1 : Below w.heap.size w W1 := by rw [← hW1]; exact below_alloc hBW _
  replace hx : W1.heap[w.heap.size]? = some (.cells #[.slice A1 n1 c1, .slice A2 n2 c2, .slice A3 n3 c3] 26 (0, 0)) := by rw [← hW1]; exact blk_alloc hx _
  have hy : W1.heap[w.heap.size + 1]? = some (.cells #[.slice B1 m1 e1, .slice B2 m2 e2, .slice B3 m3 e3] 26 (0, 0)) := by rw [← hW1]; exact blk_new _ _ _ (by rw [hs0])
  have HBW := Hd.mk hB1
  have HLA := Hd.mk (hL.below hB1)
  have HLB := Hd.mk (hX.below hB1)
  have HBG := Hd.mk (hB.below hB1)
  clear hL hX hBW hB1 hB
  go_enter Tryd.func5, Tryd.ntmps5
  go_upto_region 1 with fail
  clear hW1 hW0 hs0 W0
  have hxc0 := blk_cell hx 0 _ rfl; have hxf0 := blk_frozen hx 0; have hxc1 := blk_cell hx 1 _ rfl; have hxf1 := blk_frozen hx 1; have hxc2 := blk_cell hx 2 _ rfl; have hxf2 := blk_frozen hx 2; have hxl := blk_lt hx
  have hyc0 := blk_cell hy 0 _ rfl; have hyf0 := blk_frozen hy 0; have hyc1 := blk_cell hy 1 _ rfl; have hyf1 := blk_frozen hy 1; have hyc2 := blk_cell hy 2 _ rfl; have hyf2 := blk_frozen hy 2; have hyl := blk_lt hy
  have TOK := Hd.mk trivial
  go_upto_region 3 with (first
    | (have hq_ := HB1; clear hq_; go_at_call 6; go_must (refine Calls.mono (rfar_calls B1 B2 B3 m1 m2 m3 e1 e2 e3 b T w1 (HLB.out.below HB1.out)) ?_; rintro e w2 ⟨⟨b2, rfl⟩, hb_⟩; have HB2 := Hd.mk (below_seq HB1.out hb_); have hx2 := blk_below hx1 hb_; have hy2 := blk_below hy1 hb_; clear hx1c0 hx1f0 hx1c1 hx1f1 hx1c2 hx1f2 hx1l; clear hy1c0 hy1f0 hy1c1 hy1f1 hy1c2 hy1f2 hy1l; have hx2c0 := blk_cell hx2 0 _ rfl; have hx2f0 := blk_frozen hx2 0; have hx2c1 := blk_cell hx2 1 _ rfl; have hx2f1 := blk_frozen hx2 1; have hx2c2 := blk_cell hx2 2 _ rfl; have hx2f2 := blk_frozen hx2 2; have hx2l := blk_lt hx2; have hy2c0 := blk_cell hy2 0 _ rfl; have hy2f0 := blk_frozen hy2 0; have hy2c1 := blk_cell hy2 1 _ rfl; have hy2f1 := blk_frozen hy2 1; have hy2c2 := blk_cell hy2 2 _ rfl; have hy2f2 := blk_frozen hy2 2; have hy2l := blk_lt hy2; clear hb_ hx1 hy1; revert b2; refine bool_two ?_ ?_))
    | (have hq_ := TOK; clear hq_ TOK; go_at_call 6; go_must (refine Calls.mono (rfar_calls A1 A2 A3 n1 n2 n3 c1 c2 c3 a S W1 HLA.out) ?_; rintro e w1 ⟨⟨b1, rfl⟩, hb_⟩; have HB1 := Hd.mk hb_; have hx1 := blk_below hx hb_; have hy1 := blk_below hy hb_; clear hxc0 hxf0 hxc1 hxf1 hxc2 hxf2 hxl; clear hyc0 hyf0 hyc1 hyf1 hyc2 hyf2 hyl; have hx1c0 := blk_cell hx1 0 _ rfl; have hx1f0 := blk_frozen hx1 0; have hx1c1 := blk_cell hx1 1 _ rfl; have hx1f1 := blk_frozen hx1 1; have hx1c2 := blk_cell hx1 2 _ rfl; have hx1f2 := blk_frozen hx1 2; have hx1l := blk_lt hx1; have hy1c0 := blk_cell hy1 0 _ rfl; have hy1f0 := blk_frozen hy1 0; have hy1c1 := blk_cell hy1 1 _ rfl; have hy1f1 := blk_frozen hy1 1; have hy1c2 := blk_cell hy1 2 _ rfl; have hy1f2 := blk_frozen hy1 2; have hy1l := blk_lt hy1; clear hb_ hx hy; revert b1; refine bool_two ?_ ?_))
    | (have hq_ := HB2; clear hq_; go_at_call 7; go_must (refine Calls.mono (alive_calls w2 (HBG.out.below HB2.out)) ?_; rintro e w3 ⟨rfl, hb_⟩; have HB3 := Hd.mk (below_seq HB2.out hb_); clear hb_))
    | (have hq_ := HB1; clear hq_; go_at_call 7; go_must (refine Calls.mono (alive_calls w1 (HBG.out.below HB1.out)) ?_; rintro e w3 ⟨rfl, hb_⟩; have HB3 := Hd.mk (below_seq HB1.out hb_); clear hb_)))
  · go_ret
    exact ⟨rfl, below_seq HBW.out HB3.out⟩
  · go_ret
    exact ⟨rfl, below_seq HBW.out HB3.out⟩
  obtain ⟨bb, hbb⟩ : ∃ bb : Bool, (bb = true ↔ a = b) := by
    rcases Classical.em (a = b) with h | h
    · exact ⟨true, by simp [h]⟩
    · exact ⟨false, by simp [h]⟩
  have HBB := Hd.mk hbb
  have hnn : (bb != bb) = false := by simp
  clear hbb
  refine wp_region_can (.q [0, 1, 3, 4] (.e 2 true (.e 5 false (.q [6] (.done))))) (clsB _) (by kernel_rfl) (by kernel_rfl) (by intro _ _ d _ _ h; cases d <;> exact h) (clsB_drew _) ?_
  refine can_q (l := [⟨_,_,_,_,_,_⟩, ⟨_,_,_,_,_,_⟩, ⟨_,_,_,_,_,_⟩, ⟨_,_,_,_,_,_⟩]) rfl ?_
  repeat (go_big_quiet_step (fail))
  refine wpQuiet_nil ?_
  refine can_e (o := ⟨_,_,_,_,_,_⟩) rfl (fun K hK => ?_)
  go_wp2_with (go_at_call 14; go_must (refine Calls.mono (tsame_calls A1 A2 A3 B1 B2 B3 n1 n2 n3 m1 m2 m3 c1 c2 c3 e1 e2 e3 a b bb HBB.out S T w2.drew ((HLA.out.below HB2.out).below (below_drew1 (Below.refl _ _))) ((HLB.out.below HB2.out).below (below_drew1 (Below.refl _ _)))) ?_; rintro e w3 ⟨rfl, hb_⟩; have HB3 : Hd (Below w2.heap.size w2 w3) := ⟨below_undrew hb_⟩; clear hb_))
  refine onK_normal (hK _ _ ⟨clsB _, clsB_of (by first | exact (HB3.out) | exact below_undrew (HB3.out)), fun _ _ h => h, ?_⟩)
  clear hK K
  refine can_e (o := ⟨_,_,_,_,_,_⟩) rfl (fun K hK => ?_)
  go_wp2_with (go_at_call 13; go_must (refine Calls.mono (rsame_calls A1 A2 A3 B1 B2 B3 n1 n2 n3 m1 m2 m3 c1 c2 c3 e1 e2 e3 a b bb HBB.out S T w3 ((HLA.out.below HB2.out).below HB3.out) ((HLB.out.below HB2.out).below HB3.out)) ?_; rintro e w4 ⟨rfl, hb_⟩; have HB4 := Hd.mk (below_seq HB3.out hb_); clear hb_))
  refine onK_normal (hK _ _ ⟨clsB _, clsB_of (by first | exact (HB4.out) | exact below_undrew (HB4.out)), fun _ _ h => h, ?_⟩)
  clear hK K
  refine can_q (l := [⟨_,_,_,_,_,_⟩]) rfl ?_
  repeat (go_big_quiet_step (fail))
  refine wpQuiet_nil ?_
  refine can_done ?_
  have hx4 := blk_below hx2 HB4.out
  have HBW4 := Hd.mk (below_seq HB2.out HB4.out)
  clear hx2c0 hx2f0 hx2c1 hx2f1 hx2c2 hx2f2 hx2l
  clear hy2c0 hy2f0 hy2c1 hy2f1 hy2c2 hy2f2 hy2l
  clear hx2 hy2
  have hx4c0 := blk_cell hx4 0 _ rfl; have hx4f0 := blk_frozen hx4 0; have hx4c1 := blk_cell hx4 1 _ rfl; have hx4f1 := blk_frozen hx4 1; have hx4c2 := blk_cell hx4 2 _ rfl; have hx4f2 := blk_frozen hx4 2; have hx4l := blk_lt hx4
  cases hrb : rightB a with
  | false =>
    have HRB := Hd.mk hrb
    clear hrb
    go_wp2_with (first
      | (go_at_call 9; go_must (refine Calls.mono (rright_calls A1 A2 A3 n1 n2 n3 c1 c2 c3 a false HRB.out S w4 (HLA.out.below HBW4.out)) ?_; rintro e w5 ⟨rfl, hb_⟩; have HB5 := Hd.mk (below_seq HBW4.out hb_); clear hb_))
      | (go_at_call 7; go_must (refine Calls.mono (alive_calls w5 (HBG.out.below HB5.out)) ?_; rintro e w6 ⟨rfl, hb_⟩; have HB6 := Hd.mk (below_seq HB5.out hb_); clear hb_)))
    go_ret
    exact ⟨rfl, below_seq HBW.out HB6.out⟩
  | true =>
    have HRB := Hd.mk hrb
    have HPL : Hd ((putL a).length ≤ 20000000) := ⟨(RB.of hrb).put_len⟩
    clear hrb
    obtain ⟨N, hN⟩ : ∃ N, (putL a).length = N := ⟨_, rfl⟩
    have HN := Hd.mk hN
    have hN1 : 4 ≤ N ∧ N ≤ 20000000 := by rw [← hN]; refine ⟨?_, HPL.out⟩; unfold putL; simp only [List.length_append, w1_len]; omega
    clear hN
    go_upto_region 8 with (first
      | (go_at_call 9; go_must (refine Calls.mono (rright_calls A1 A2 A3 n1 n2 n3 c1 c2 c3 a true HRB.out S w4 (HLA.out.below HBW4.out)) ?_; rintro e w5 ⟨rfl, hb_⟩; have HB5 := Hd.mk (below_seq HBW4.out hb_); have hx5 := blk_below hx4 hb_; clear hx4c0 hx4f0 hx4c1 hx4f1 hx4c2 hx4f2 hx4l; have hx5c0 := blk_cell hx5 0 _ rfl; have hx5f0 := blk_frozen hx5 0; have hx5c1 := blk_cell hx5 1 _ rfl; have hx5f1 := blk_frozen hx5 1; have hx5c2 := blk_cell hx5 2 _ rfl; have hx5f2 := blk_frozen hx5 2; have hx5l := blk_lt hx5; clear hb_ hx4))
      | (go_at_call 12; go_must (refine Calls.mono (rput_calls A1 A2 A3 n1 n2 n3 c1 c2 c3 a HRB.out S w5 (HLA.out.below HB5.out)) ?_; rintro e w6 ⟨rfl, hb_⟩; have HB6 := Hd.mk (below_seq HB5.out hb_); have hx6 := blk_below hx5 hb_; clear hx5c0 hx5f0 hx5c1 hx5f1 hx5c2 hx5f2 hx5l; clear hb_ hx5))
      | (have hq_ := HB6; clear hq_; refine step_convert rfl 9 29 (.tmp 30) rfl (.string (bs (putL a))) _ rfl (run_bytes_of_string w6 9 29 5 (bs (putL a)) Tryd.underlying9 Tryd.underlying29 Tryd.underlying5) ?_))
    simp only [bs_len, HN.out]
    obtain ⟨C, hC⟩ : ∃ C, grownCap w6 N 0 5 = C := ⟨_, rfl⟩
    have hNC : N ≤ C := by rw [← hC]; exact grownCap_ge w6 N 0 5
    rw [hC]
    clear hC
    generalize hV : World.drew _ = V
    have hbV : Below w6.heap.size w6 V := by rw [← hV]; exact below_drew1 (below_alloc (Below.refl _ _) _)
    have hg : V.heap[w6.heap.size]? = some (.cells (bytesRow (bs (putL a)) C) 5 ((bytesRow (bs (putL a)) C).size, (bytesRow (bs (putL a)) C).size + 1)) := by rw [← hV]; exact blk_drew (blk_new _ _ _ rfl)
    have hx7 := blk_below hx6 hbV
    obtain ⟨i, hi⟩ : ∃ i, d % N = i := ⟨_, rfl⟩
    have hiN : i < N := by rw [← hi]; exact Nat.mod_lt _ (by omega)
    have hmod : Int.tmod (d : Int) (N : Int) = (i : Int) := by rw [← hi, Int.tmod_eq_emod_of_nonneg (by omega)]; omega
    have hmod2 : (d : Int) % (N : Int) = (i : Int) := by rw [← hi]; omega
    obtain ⟨x, hxi⟩ : ∃ x, (putL a)[i]? = some x := ⟨_, List.getElem?_eq_getElem (by rw [HN.out]; exact hiN)⟩
    have hci : V.cell? ⟨w6.heap.size, i, none⟩ = some (.int .u8 (x.toNat : Int)) := blk_cell hg i _ (bytesRow_at hxi)
    have hfi : V.frozen? ⟨w6.heap.size, i, none⟩ = false := by
      have h9 := bytesRow_size (putL a) C
      rw [HN.out] at h9
      have h8 : ¬ (bytesRow (bs (putL a)) C).size ≤ i := by omega
      simp [World.frozen?, hg, h8]
    have hgl := blk_lt hg
    have hxl := x.toNat_lt
    clear hV hi
    go_upto_region 9 with fail
    refine wp_region_can (.q [0, 1, 2, 3, 4, 5, 6, 7, 8] (.e 9 false (.done))) (clsB _) (by kernel_rfl) (by kernel_rfl) (by intro _ _ d _ _ h; cases d <;> exact h) (clsB_drew _) ?_
    refine can_q (l := [⟨_,_,_,_,_,_⟩, ⟨_,_,_,_,_,_⟩, ⟨_,_,_,_,_,_⟩, ⟨_,_,_,_,_,_⟩, ⟨_,_,_,_,_,_⟩, ⟨_,_,_,_,_,_⟩, ⟨_,_,_,_,_,_⟩, ⟨_,_,_,_,_,_⟩, ⟨_,_,_,_,_,_⟩]) rfl ?_
    repeat (go_big_quiet_step (fail))
    refine wpQuiet_nil ?_
    obtain ⟨z, hz1, hz2, hz3⟩ := xor_other x.toNat (i % 8) hxl (Nat.mod_lt _ (by omega))
    rw [hz3]
    have HZ := Hd.mk hz2
    clear hz2 hz3
    refine can_e (o := ⟨_,_,_,_,_,_⟩) rfl (fun K hK => ?_)
    go_wp2_with fail
    refine onK_normal (hK _ _ ⟨fun _ => True, trivial, (fun h => by cases h), ?_⟩)
    clear hK K
    refine can_done ?_
    generalize hY : World.drew (World.setCell _ _ _) = Y
    have hgY : Y.heap[w6.heap.size]? = some (.cells ((bytesRow (bs (putL a)) C).setIfInBounds i (.int .u8 (z : Int))) 5 ((bytesRow (bs (putL a)) C).size, (bytesRow (bs (putL a)) C).size + 1)) := by rw [← hY]; exact blk_drew (blk_set hg i _ _ rfl)
    have hfY : Fr (fun b => b = w6.heap.size) V Y := by rw [← hY]; exact ((Fr.refl (fun b => b = w6.heap.size) V).set (.inl rfl) _ _).drew
    clear hY
    obtain ⟨ys, hys⟩ : ∃ ys, (putL a).set i (UInt8.ofNat z) = ys := ⟨_, rfl⟩
    have hz9 : (UInt8.ofNat z).toNat = z := by rw [UInt8.toNat_ofNat']; omega
    have hyl : ys.length = N := by rw [← hys, List.length_set, HN.out]
    have HYP : Hd (ys ≠ putL a) := ⟨fun e => by
      have h1 : ys[i]? = some (UInt8.ofNat z) := by rw [← hys, List.getElem?_set_self (by rw [HN.out]; exact hiN)]
      rw [e, hxi] at h1
      have h2 := Option.some.inj h1
      exact HZ.out (by rw [h2, hz9])⟩
    have hrow : Row bT Y (fun k => k = w6.heap.size) (some ⟨w6.heap.size, 0, none⟩) N ys := by
      refine ⟨hyl, by omega, fun _ => ⟨w6.heap.size, 0, rfl, rfl, fun j p hj => ⟨uE p, rfl, fun k u hu => ?_⟩⟩⟩
      have hk : k = 0 ∧ u = .int .u8 (p.toNat : Int) := by
        cases k with
        | zero => exact ⟨rfl, by simpa [uE] using hu.symm⟩
        | succ k => simp [uE] at hu
      obtain ⟨rfl, rfl⟩ := hk
      have hjN : j < N := by rw [← hyl]; exact (List.getElem?_eq_some_iff.1 hj).1
      have e9 : 0 + j * bT.sz + 0 = j := by show 0 + j * 1 + 0 = j; omega
      rw [e9]
      have hsz : N ≤ (bytesRow (bs (putL a)) C).size := by have h9 := bytesRow_size (putL a) C; rw [HN.out] at h9; exact h9
      refine blk_cell hgY j _ ?_
      by_cases hji : j = i
      · subst hji
        rw [← hys, List.getElem?_set_self (by rw [HN.out]; exact hjN)] at hj
        obtain rfl := Option.some.inj hj
        rw [Array.getElem?_setIfInBounds_self_of_lt (by omega), hz9]
      · rw [← hys, List.getElem?_set_ne (Ne.symm hji)] at hj
        rw [Array.getElem?_setIfInBounds_ne (Ne.symm hji)]
        exact bytesRow_at hj
    have hx8 : Y.heap[w.heap.size]? = some (.cells #[.slice A1 n1 c1, .slice A2 n2 c2, .slice A3 n3 c3] 26 (0, 0)) := hfY.blk hx7 (by have := blk_lt hx6; omega)
    have HB7 := Hd.mk (below_seq HB6.out hbV)
    have HBY : Hd (Below W1.heap.size W1 Y) := ⟨HB7.out.trans (hfY.below HB7.out.size (fun b hb e => by have := HB6.out.size; omega))⟩
    have HROW := Hd.mk hrow
    have HYL := Hd.mk hyl
    have HGY := Hd.mk (blk_lt hgY)
    clear hys hyl hrow hgY hfY hx7 hx6 hg hgl hci hfi hbV hmod hmod2 hxi
    cases hge : getF ys with
    | none =>
      have HJ := Hd.mk (get_none (some ⟨w6.heap.size, 0, none⟩) N C ys hge (fun k => k = w6.heap.size) Y (fun k hk => (by rw [hk]; exact HGY.out)) HROW.out hNC (HBG.out.below HBY.out))
      clear hge
      go_wp2_with (first
        | (go_at_call 11; go_must (refine Calls.mono HJ.out ?_; rintro e w9 ⟨rfl, hb_⟩; have HB9 := Hd.mk (below_seq HBY.out hb_); clear hb_))
        | (go_at_call 7; go_must (refine Calls.mono (alive_calls _ (HBG.out.below (below_alloc HB9.out _))) ?_; rintro e w10 ⟨rfl, hb_⟩; have HB10 := Hd.mk (below_seq (below_alloc HB9.out _) hb_); clear hb_)))
      go_ret
      exact ⟨rfl, below_seq HBW.out HB10.out⟩
    | some l =>
      have HNE : Hd (false = true ↔ l = a) := ⟨⟨fun h => (by cases h), fun h => (by have h9 := (get_some hge).2; rw [h] at h9; exact absurd h9.symm HYP.out)⟩⟩
      have HJ := Hd.mk (get_ok (some ⟨w6.heap.size, 0, none⟩) N C ys l hge (fun k => k = w6.heap.size) Y (fun k hk => (by rw [hk]; exact HGY.out)) HROW.out hNC (HBG.out.below HBY.out))
      clear hge
      have hx8c0 := blk_cell hx8 0 _ rfl; have hx8f0 := blk_frozen hx8 0; have hx8c1 := blk_cell hx8 1 _ rfl; have hx8f1 := blk_frozen hx8 1; have hx8c2 := blk_cell hx8 2 _ rfl; have hx8f2 := blk_frozen hx8 2; have hx8l := blk_lt hx8
      go_upto_region 11 with (go_at_call 11; go_must (refine Calls.mono HJ.out ?_; rintro e w9 ⟨⟨E1, E2, E3, k1, k2, k3, g1, g2, g3, rfl, hL⟩, hb_⟩; have HL9 := Hd.mk hL; have HB9 := Hd.mk (below_seq HBY.out hb_); have hx9 := blk_below hx8 hb_; clear hx8c0 hx8f0 hx8c1 hx8f1 hx8c2 hx8f2 hx8l; clear hb_ hL hx8))
      generalize hV2 : World.alloc w9 _ = V2
      have hbV2 : Below w9.heap.size w9 V2 := by rw [← hV2]; exact below_alloc (Below.refl _ _) _
      have hy9 : V2.heap[w9.heap.size]? = some (.cells #[.slice E1 k1 g1, .slice E2 k2 g2, .slice E3 k3 g3] 26 (0, 0)) := by rw [← hV2]; exact blk_new _ _ _ rfl
      have hx10 := blk_below hx9 hbV2
      have HBV2 := Hd.mk (below_seq HB9.out hbV2)
      have HLV2 := Hd.mk (HL9.out.below hbV2)
      clear hV2 hbV2 hx9
      have hx10c0 := blk_cell hx10 0 _ rfl; have hx10f0 := blk_frozen hx10 0; have hx10c1 := blk_cell hx10 1 _ rfl; have hx10f1 := blk_frozen hx10 1; have hx10c2 := blk_cell hx10 2 _ rfl; have hx10f2 := blk_frozen hx10 2; have hx10l := blk_lt hx10
      have hy9c0 := blk_cell hy9 0 _ rfl; have hy9f0 := blk_frozen hy9 0; have hy9c1 := blk_cell hy9 1 _ rfl; have hy9f1 := blk_frozen hy9 1; have hy9c2 := blk_cell hy9 2 _ rfl; have hy9f2 := blk_frozen hy9 2; have hy9l := blk_lt hy9
      go_wp2_with (first
        | (go_at_call 13; go_must (refine Calls.mono (rsame_calls E1 E2 E3 A1 A2 A3 k1 k2 k3 n1 n2 n3 g1 g2 g3 c1 c2 c3 l a false HNE.out _ S V2 HLV2.out (HLA.out.below HBV2.out)) ?_; rintro e w10 ⟨rfl, hb_⟩; have HB10 := Hd.mk (below_seq HBV2.out hb_); clear hb_))
        | (go_at_call 7; go_must (refine Calls.mono (alive_calls w10 (HBG.out.below HB10.out)) ?_; rintro e w11 ⟨rfl, hb_⟩; have HB11 := Hd.mk (below_seq HB10.out hb_); clear hb_)))
      go_ret
      exact ⟨rfl, below_seq HBW.out HB11.out⟩
end Go.Proofs.YtpcnekdilecakaaDoor.Tb
