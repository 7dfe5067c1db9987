/- RingKeeps: the walk. -/
import Derived.Test.YtbdnhdecclndfaaL1
namespace Go.Proofs.Ytbdnhdecclndfaa.Fn
open Go Go.RowKit Go.Proofs.Ytbdnhdecclndfaa.Can Go.Proofs.Ytbdnhdecclndfaa.Base
attribute [local go_sem] clsB AB.cell

theorem index_at (X : ByteArray) (q : Nat) (b : UInt8) (h : (bl X)[q]? = some b) (W : World) : (Instr.index 9 (.string X) (.int .i64 q)).run Try.prog W = .ok (.int .u8 (b.toNat : Int)) W := by
  obtain ⟨h1, h2⟩ := List.getElem?_eq_some_iff.1 h
  rw [bl_len] at h1
  rw [run_index_string W 9 X .i64 q Try.underlying9, dif_pos ⟨by omega, by omega⟩]
  have h3 : X[(q : Int).toNat]'(by rw [Int.toNat_natCast]; exact h1) = b := by
    rw [← h2]
    simp [bl, ByteArray.getElem_eq_getElem_data]
  rw [h3]
set_option maxRecDepth 20000 in
set_option maxHeartbeats 4000000 in
theorem keeps_calls (s0 : Nat) (hs : s0 ≤ 255) (A : Option Addr) (c : Nat) (xs : List Act) (S : Nat → Prop) (w : World) (hS : ∀ k, S k → k < w.heap.size) (hC : Row actT w S A xs.length xs) :
    Calls Try.prog 4 #[.int .u8 s0, .slice A xs.length c] w fun e w' => e = .returned (.bool true) ∧ Below w.heap.size w w' := by
  have hc := hC.le
  have HS := Hd.mk hS; clear hS
  have HC := Hd.mk hC; clear hC
  by_cases hlong : 60 < xs.length
  · go_enter Try.func4, Try.ntmps4
    go_wp2_with (go_at_call 5; refine Calls.mono (alive_calls _) ?_; rintro e w1 ⟨rfl, hb1⟩)
    go_ret
    exact ⟨rfl, hb1⟩
  · obtain ⟨m, hm⟩ : ∃ m, 1 + s0 % 40 = m := ⟨_, rfl⟩
    have hmI : (1 : Int) + (s0 : Int) % 40 = m := by rw [← hm]; simp
    have hm1 : m ≤ 40 := by omega
    have hm0 : 0 < m := by omega
    have hsm : roomN m = m := by unfold roomN; split <;> (try split) <;> omega
    have HSM := Hd.mk hsm; clear hm hsm
    go_enter Try.func4, Try.ntmps4
    go_wp2_with (go_at_call 6; go_must (refine Calls.mono (new_calls m w) ?_; rintro e w1 ⟨p, r, rs, rfl, hp, hr, h0, hb1⟩; rw [HSM.out] at h0; have HD := Hd.mk h0; clear h0; have HB := Hd.mk hb1; clear hb1))
    go_loopw [7, 27] (fun sv i wr => ∃ (k fl : Nat) (all rs : List UInt8) (B : ByteArray), k ≤ xs.length ∧ i = .int .i64 k ∧ sv = .string B ∧ Hd (Rg wr p r m fl all rs) ∧ Hd (bl B = all) ∧ Hd (all.length ≤ 200 * k) ∧ Hd (Below w.heap.size w wr)) (fun _ i _ => xs.length - (intOf i).toNat)
    case atStart => exact ⟨0, 0, [], rs, ByteArray.empty, Nat.zero_le _, rfl, rfl, HD, ⟨rfl⟩, ⟨Nat.zero_le _⟩, HB⟩
    case round =>
      clear HD HB hmI
      obtain ⟨k, fl, all, rs, B, hk, rfl, rfl, HD, HBA, HL, HB⟩ := hrel
      by_cases hlt : k < xs.length
      · obtain ⟨b, off, s, rfl, hb1, _, hp0, hp1⟩ := act_get (HC.out.below HS.out HB.out) k hlt
        by_cases h200 : 200 < s.text.size
        · have h201 : (200 : Int) < s.text.size := by omega
          go_wp2_with (go_at_call 5; refine Calls.mono (alive_calls _) ?_; rintro e w1 ⟨rfl, hb1⟩)
          go_ret
          exact ⟨rfl, below_seq HB.out (below_seq (below_alloc (Below.refl _ _) _) hb1)⟩
        · have h201 : ¬ (200 : Int) < s.text.size := by omega
          have hpw : p < wr.heap.size := blk_lt HD.out.str
          have hrw : r < wr.heap.size := HD.out.row.lt
          have hal : all.length ≤ 12000 := by have := HL.out; omega
          obtain ⟨n, hn⟩ : ∃ n, min s.text.size (fl + m - all.length) = n := ⟨_, rfl⟩
          have hns : n ≤ s.text.size := by rw [← hn]; exact Nat.min_le_left _ _
          have hnI : (n : Int) ≤ s.text.size := by omega
          have HN := Hd.mk hn; clear hn
          obtain ⟨Bx, hBx⟩ : ∃ Bx : ByteArray, B ++ s.text.extract 0 n = Bx := ⟨_, rfl⟩
          have hadd : ∀ W, (Op.stringOp .add B (s.text.extract 0 n)).run Try.prog W = .ok (.string Bx) W := fun W => by
            rw [← hBx]
            exact run_string_add_sum (w := W) B _ (by rw [← bl_len, ← bl_len, HBA.out, bl_ext, List.length_take, List.length_drop, bl_len]; omega)
          have hadd2 : n = s.text.size → ∀ W, (Op.stringOp .add B s.text).run Try.prog W = .ok (.string Bx) W := fun h W => by
            have := hadd W
            rwa [h, show s.text.extract 0 s.text.size = s.text from ByteArray.extract_zero_size] at this
          have HBX : Hd (bl Bx = all ++ (bl s.text).take n) := ⟨by rw [← hBx, bl_app, HBA.out, bl_ext, List.drop_zero, Nat.sub_zero]⟩
          clear hBx hadd2
          obtain ⟨e2, he2⟩ : ∃ e2, (all ++ (bl s.text).take n).length = e2 := ⟨_, rfl⟩
          have he3 : e2 = all.length + n := by rw [← he2, List.length_append, List.length_take, bl_len]; omega
          have hbs : Bx.size = e2 := by rw [← bl_len, HBX.out, he2]
          obtain ⟨nf, hnf⟩ : ∃ nf, newFl s.n fl (all ++ (bl s.text).take n).length = nf := ⟨_, rfl⟩
          have HE2 := Hd.mk he2; have HNF := Hd.mk hnf
          have hflle := HD.out.fle
          have hge := newFl_ge s.n (fl := fl) (e := e2) (by omega)
          rw [← he2, hnf, he2] at hge
          have hge1 : ¬ (nf : Int) < fl := by omega
          have hgeB : decide ((nf : Int) < fl) = false := decide_eq_false hge1
          have HE3 := Hd.mk he3
          have he2b : e2 ≤ 100000 := by omega
          clear he2 hnf he3
          go_upto_region 19 with (first
            | (go_at_call 12; have hq_ := HL3; clear hq_; go_must (refine Calls.mono (floor_calls HD4.out) ?_; rintro e w5 ⟨rfl, rfl⟩))
            | (go_at_call 14; go_must (refine Calls.mono (len_calls HD4.out (by rw [HE2.out]; have := HE3.out; omega)) ?_; rintro e w5 ⟨he, rfl⟩; rw [HE2.out] at he; obtain ⟨d, hd, hdm⟩ : ∃ d : Nat, e2 - nf = d ∧ d ≤ m := ⟨_, rfl, (by have := HD4.out.room; rw [HE2.out] at this; omega)⟩; rw [hd] at he; subst he; have HL3 := Hd.mk hd; have hdmI : ¬ (m : Int) < d := (by omega); have hdmB : decide ((m : Int) < d) = false := decide_eq_false hdmI; clear hd))
            | (go_at_call 13; go_must (refine Calls.mono (end_calls HD4.out) ?_; rintro e w5 ⟨he, rfl⟩; rw [HE2.out] at he; subst he))
            | (go_at_call 10; go_must (refine Calls.mono (raise_calls s.n HD3.out (by rw [HE2.out]; have := HE3.out; omega)) ?_; rintro e w4 ⟨he, h4, f4⟩; rw [HNF.out] at he h4; subst he; have HD4 := Hd.mk h4; have HB4 : Hd (Below w.heap.size w w4) := ⟨Fr.seq HB3.out f4 HB3.out.size (fun b hb hx => (by omega))⟩; clear h4))
            | (go_at_call 12; go_must (refine Calls.mono (floor_calls HD3.out) ?_; rintro e w5 ⟨rfl, rfl⟩))
            | (go_at_call 8; go_must (refine Calls.mono (put_calls s.text (HD.out.below (by repeat (first | (with_reducible assumption) | (with_reducible exact Below.refl _ _) | (with_reducible apply below_drewL) | (with_reducible apply below_alloc) | (with_reducible apply below_drew1) | (with_reducible apply below_drewN) | (refine below_set ?_ (by first | omega | (simp only [size_alloc, size_drew, size_set]; omega)) _ _)))) (by omega)) ?_; rintro e w3 ⟨he, ⟨rs3, h3⟩, f2⟩; rw [HN.out] at he h3; subst he; have HD3 := Hd.mk h3; clear h3; have hv := f2.blk (blk_new _ _ _ rfl) (by omega); have hvc0 := blk_cell hv 0 _ rfl; have hvf0 := blk_frozen hv 0; have hvc1 := blk_cell hv 1 _ rfl; have hvf1 := blk_frozen hv 1; have hvl := blk_lt hv; have HB3 : Hd (Below w.heap.size w w3) := ⟨Fr.seq (below_seq HB.out (by repeat (first | (with_reducible assumption) | (with_reducible exact Below.refl _ _) | (with_reducible apply below_drewL) | (with_reducible apply below_alloc) | (with_reducible apply below_drew1) | (with_reducible apply below_drewN) | (refine below_set ?_ (by first | omega | (simp only [size_alloc, size_drew, size_set]; omega)) _ _)))) f2 (by simp only [size_alloc]; have := HB.out.size; omega) (fun b hb hx => (by omega))⟩)))
          go_cut [12] (fun t12 wx => t12 = .int .i64 0 ∧ Hd (Rg wx p r m nf (all ++ (bl s.text).take n) rs3) ∧ Hd (Below w.heap.size w wx))
          case first =>
            go_wp2
            go_meet
            case rel => exact ⟨rfl, HD4, HB4⟩
          case rest =>
          obtain ⟨rfl, HD5, HB5⟩ := hcut
          clear HD4 HB4 HD3 HB3 f2 f4 HD HB hv hvc0 hvc1 hvf0 hvf1 hvl
          go_wp2
          go_loopw [12] (fun i wr => ∃ q : Nat, q ≤ e2 ∧ i = .int .i64 q ∧ Hd (Rg wr p r m nf (all ++ (bl s.text).take n) rs3) ∧ Hd (Below w.heap.size w wr)) (fun i _ => e2 - (intOf i).toNat)
          case atStart => exact ⟨0, Nat.zero_le _, rfl, HD5, HB5⟩
          case round =>
            clear HD5 HB5
            obtain ⟨q, hq, rfl, HD, HB⟩ := hrel
            by_cases hqe : q < e2
            · obtain ⟨b9, hb9⟩ : ∃ b9, (all ++ (bl s.text).take n)[q]? = some b9 := ⟨_, List.getElem?_eq_getElem (by rw [HE2.out]; exact hqe)⟩
              by_cases hqn : q < nf
              · have hqnI : ¬ (nf : Int) ≤ q := by omega
                have HNO : Hd ((q : Int) < nf ∨ ((all ++ (bl s.text).take n).length : Int) ≤ q) := ⟨.inl (by omega)⟩
                go_wp2_with (first
                  | (go_at_call 12; go_must (refine Calls.mono (floor_calls HD2.out) ?_; rintro e w5 ⟨rfl, rfl⟩))
                  | (go_at_call 16; go_must (refine Calls.mono (atno_calls q HD.out HNO.out) ?_; rintro e w4 ⟨rfl, hb4⟩; have HD2 := Hd.mk (HD.out.below hb4); have HB2 := Hd.mk (below_seq HB.out hb4); clear hb4)))
                go_roundw
                case rel => exact ⟨q + 1, by omega, by go_num, HD2, HB2⟩
                case measure => simp [intOf]; omega
              · have hqnI : (nf : Int) ≤ q := by omega
                have hqn2 : nf ≤ q := by omega
                have HB9 := Hd.mk hb9
                have hix : ∀ W, (Instr.index 9 (.string Bx) (.int .i64 q)).run Try.prog W = .ok (.int .u8 (b9.toNat : Int)) W := fun W => index_at Bx q b9 (by rw [HBX.out]; exact hb9) W
                clear hb9
                go_wp2_with (first
                  | (go_at_call 12; go_must (refine Calls.mono (floor_calls HD2.out) ?_; rintro e w5 ⟨rfl, rfl⟩))
                  | (go_at_call 16; go_must (refine Calls.mono (at_calls q HD.out hqn2 HB9.out) ?_; rintro e w4 ⟨rfl, hb4⟩; have HD2 := Hd.mk (HD.out.below hb4); have HB2 := Hd.mk (below_seq HB.out hb4); clear hb4)))
                go_roundw
                case rel => exact ⟨q + 1, by omega, by go_num, HD2, HB2⟩
                case measure => simp [intOf]; omega
            · obtain rfl : q = e2 := by omega
              go_wp2
              go_roundw
              case rel => exact ⟨k + 1, nf, _, rs3, Bx, by omega, by go_num, rfl, HD, HBX, ⟨by rw [HE2.out]; have := HE3.out; have := HL.out; omega⟩, HB⟩
              case measure => simp [intOf]; omega
      · obtain rfl : k = xs.length := by omega
        have hal : all.length ≤ 12000 := by have := HL.out; omega
        have HAL : Hd (all.length ≤ 1000000000) := ⟨by omega⟩
        have hBs : B.size = all.length := by rw [← bl_len, HBA.out]
        have hfle := HD.out.fle
        obtain ⟨e2, he2⟩ : ∃ e2, all.length = e2 := ⟨_, rfl⟩
        rw [he2] at hBs hal hfle
        have hx : B.extract fl e2 = ⟨(textL all fl 0 (e2 : Int)).toArray⟩ := by
          have h3 : loN 0 fl = fl := by unfold loN; split <;> omega
          have h4 : hiN (e2 : Int) all.length = e2 := by unfold hiN; rw [he2, if_neg (by omega)]; omega
          unfold textL
          rw [h3, h4]
          apply ByteArray.ext
          rw [ByteArray.data_extract]
          apply Array.toList_inj.1
          simp [← HBA.out, bl, List.extract_eq_take_drop, List.drop_take]
        obtain ⟨T, hT⟩ : ∃ T : ByteArray, (⟨(textL all fl 0 (e2 : Int)).toArray⟩ : ByteArray) = T := ⟨_, rfl⟩
        rw [hT] at hx
        have HT := Hd.mk hT; have HE2 := Hd.mk he2
        clear hT he2
        go_wp2_with (first
          | (go_at_call 5; go_must (refine Calls.mono (alive_calls _) ?_; rintro e w7 ⟨rfl, hb7⟩))
          | (go_at_call 12; go_must (refine Calls.mono (floor_calls (HD.out.below hb5)) ?_; rintro e w6 ⟨rfl, rfl⟩))
          | (go_at_call 18; go_must (refine Calls.mono (text_calls 0 e2 HD.out HAL.out) ?_; rintro e w5 ⟨he, hb5⟩; rw [HT.out] at he; subst he)))
        go_ret
        exact ⟨rfl, below_seq HB.out (below_seq hb5 hb7)⟩
end Go.Proofs.Ytbdnhdecclndfaa.Fn
