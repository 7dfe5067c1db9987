/- MarksOnce: the walk. -/
import Derived.Test.YtofknjoaemiebaaM10
import Derived.Test.YtofknjoaemiebaaCut
import Derived.Test.YtofknjoaemiebaaOpens
import Derived.Deep.DeepCutAuto
namespace Go.Proofs.Ytofknjoaemiebaa.Fn
open Go Go.RowKit Go.Proofs.Ytofknjoaemiebaa.Can Go.Proofs.Ytofknjoaemiebaa.Base
attribute [local go_sem] clsB AB.cell clsX AX.cell

theorem opensB : Opens Try.prog 48 (Ty.slice Ty.bool (by decide)) (fun _ => True) :=
  (opens_slice Try.underlying48 (by kernel_rfl) (by decide) (opens_bool Try.underlying4)).map id (fun _ _ => trivial) (fun _ _ _ _ h => h)
theorem opensU : Opens Try.prog 49 (Ty.slice (Ty.int .u8) (by decide)) (fun xs => ∀ x ∈ xs, (Lit.int .u8 x).wf = true) :=
  (opens_slice Try.underlying49 (by kernel_rfl) (by decide) (opens_int Try.underlying5))
theorem get_bool {w : World} {S : Nat → Prop} {A : Option Addr} {n : Nat} {xs : List Bool} (h : Row Ty.bool w S A n xs) (i : Nat) (hi : i < n) :
    ∃ b off x, A = some ⟨b, off, none⟩ ∧ b < w.heap.size ∧ w.cell? ⟨b, off + i, none⟩ = some (.bool x) := by
  obtain ⟨b, off, cs, he, hs, hr, hcell⟩ := h.get i hi
  have hr' : cs = [.bool _] := hr
  subst hr'
  have h0 := hcell 0 _ rfl
  have h1 : off + i * Ty.bool.sz + 0 = off + i := by show off + i * 1 + 0 = _; omega
  rw [h1] at h0
  exact ⟨b, off, _, he, World.block_lt_of_cell? w _ h0, h0⟩
/-- What holds at the head of each round. -/
structure Inv (wr : World) (p r m k base : Nat) (L : List (Slot Int)) (all held : List Int) (v1 v2 : Value) : Prop where
  tab : Tab (Value.int .i64) 54 64 wr p r m m k L
  m1 : Mine I wr base 3 v1 all
  m2 : Mine I wr base 3 v2 held
  dj : ∀ j, v1.ownBlock = some j → v2.ownBlock ≠ some j
  al : AllOk m L all
  hd : HeldOk L held
  la : all.length ≤ k
theorem Inv.below {wr w2 : World} {p r m k base : Nat} {L : List (Slot Int)} {all held : List Int} {v1 v2 : Value} (h : Inv wr p r m k base L all held v1 v2) (hb : Below wr.heap.size wr w2) : Inv w2 p r m (k + 1) base L all held v1 v2 :=
  ⟨(h.tab.below hb).more (Nat.le_succ _), h.m1.below hb, h.m2.below hb, h.dj, h.al, h.hd, by have := h.la; omega⟩
set_option maxRecDepth 20000 in
set_option maxHeartbeats 4000000 in
theorem once_calls (s : Nat) (hs : s ≤ 255) (A : Option Addr) (c : Nat) (xs : List Bool) (A2 : Option Addr) (c2 : Nat) (ys : List Int) (S : Nat → Prop) (w : World) (hS : ∀ k, S k → k < w.heap.size) (hC : Row Ty.bool w S A xs.length xs) (hC2 : Row (Ty.int .u8) w S A2 ys.length ys) (hy : ∀ y ∈ ys, (Lit.int .u8 y).wf = true) :
    Calls Try.prog 4 #[.int .u8 s, .slice A xs.length c, .slice A2 ys.length c2] w fun e w' => e = .returned (.bool true) ∧ Below w.heap.size w w' := by
  have hc := hC.le
  have hc2 := hC2.le
  have HS := Hd.mk hS; clear hS
  have HC := Hd.mk hC; clear hC
  have HC2 := Hd.mk hC2; clear hC2
  have HY := Hd.mk hy; clear hy
  by_cases hlong : 100 < xs.length
  · go_enter Try.func4, Try.ntmps4
    go_wp2_with (go_at_call 6; refine Calls.mono (alive_calls _) ?_; rintro e w1 ⟨rfl, hb1⟩)
    go_ret
    exact ⟨rfl, hb1⟩
  · obtain ⟨m, hm⟩ : ∃ m, 1 + s % 9 = m := ⟨_, rfl⟩
    have hmI : (1 : Int) + (s : Int) % 9 = m := by rw [← hm]; simp
    have hm1 : m ≤ 9 := by omega
    have hm0 : 0 < m := by omega
    have hsm : roomN m = m := by unfold roomN; split <;> (try split) <;> omega
    have HSM := Hd.mk hsm; have HM := Hd.mk hm; clear hm hsm
    go_enter Try.func4, Try.ntmps4
    go_wp2_with (go_at_call 7; go_must (refine Calls.mono (new_int m w) ?_; rintro e w1 ⟨p, r, rfl, hp, hr, h0, hb1⟩; rw [HSM.out] at h0; have HD := Hd.mk h0; clear h0; have HB := Hd.mk hb1; clear hb1; have hpb : p < w1.heap.size := blk_lt HD.out.str; have hrb : r < w1.heap.size := HD.out.row.lt))
    have hbase : Hd (w.heap.size ≤ w1.heap.size) := ⟨HB.out.size⟩
    go_loopw [9, 10, 35] (fun v1 v2 i wr => ∃ (k n1 n2 d1 d2 : Nat) (B1 B2 : Option Addr) (L : List (Slot Int)) (all held : List Int), k ≤ xs.length ∧ i = .int .i64 k ∧ v1 = .slice B1 n1 d1 ∧ v2 = .slice B2 n2 d2 ∧ Hd (all.length = n1) ∧ Hd (held.length = n2) ∧ n1 ≤ k ∧ n2 ≤ m ∧ Hd (Inv wr p r m k w1.heap.size L all held v1 v2) ∧ Hd (w1.heap.size ≤ wr.heap.size) ∧ Hd (Below w.heap.size w wr)) (fun _ _ i _ => xs.length - (intOf i).toNat)
    case atStart => exact ⟨0, 0, 0, 0, 0, none, none, _, [], [], Nat.zero_le _, rfl, rfl, rfl, ⟨rfl⟩, ⟨rfl⟩, Nat.le_refl _, Nat.zero_le _, ⟨⟨HD.out, Mine.nil _ _ _ _, Mine.nil _ _ _ _, fun j hj => by simp [Value.ownBlock] at hj, fun x hx => by simp at hx, ⟨fun x hx => by simp at hx, List.nodup_nil, by simp [cnt, List.countP_replicate, slot0]⟩, Nat.le_refl _⟩⟩, ⟨Nat.le_refl _⟩, HB⟩
    case round =>
      clear HD HB hmI
      obtain ⟨k, n1, n2, d1, d2, B1, B2, L, all, held, hk, rfl, rfl, rfl, HN1, HN2, hn1, hn2, HI, hws, HB⟩ := hrel
      have hwsz := hws.out
      by_cases hlt : k < xs.length
      · obtain ⟨b, off, x, rfl, hb1, hp0⟩ := get_bool (HC.out.below HS.out HB.out) k hlt
        have hkB : k ≤ 1000000 := by omega
        go_upto_if 40 with fail
        go_cut [9, 10] (fun v1 v2 wx => ∃ (n1 n2 d1 d2 : Nat) (B1 B2 : Option Addr) (L : List (Slot Int)) (all held : List Int), v1 = .slice B1 n1 d1 ∧ v2 = .slice B2 n2 d2 ∧ Hd (all.length = n1) ∧ Hd (held.length = n2) ∧ n1 ≤ k + 1 ∧ n2 ≤ m ∧ Hd (Inv wx p r m (k + 1) w1.heap.size L all held v1 v2) ∧ Hd (w1.heap.size ≤ wx.heap.size) ∧ Hd (Below w.heap.size w wx))
        case first =>
          cases x with
          | true =>
            rcases full_or L with hfull | ⟨i, sl, hfree, hx, ht⟩
            · have hcn : n2 = m := by rw [← HN2.out, HI.out.hd.cn, cnt_full hfull]; exact HI.out.tab.len
              have hno : ¬ (n2 : Int) < m := by omega
              have HFu := Hd.mk hfull; clear hfull hcn
              go_wp2_with (go_at_call 9; go_must (refine Calls.mono (setfull_int (k : Int) (k : Int) HI.out.tab HFu.out) ?_; rintro e w2 ⟨rfl, hb2⟩))
              go_roundw
              case rel => exact ⟨k + 1, n1, n2, d1, d2, B1, B2, L, all, held, by omega, by go_num, rfl, rfl, HN1, HN2, by omega, hn2, ⟨HI.out.below hb2⟩, ⟨Nat.le_trans hwsz hb2.size⟩, ⟨below_seq HB.out hb2⟩⟩
              case measure => simp [intOf]; omega
            · have hcn : n2 < m := by rw [← HN2.out, HI.out.hd.cn, ← HI.out.tab.len]; exact cnt_free hx ht
              have hno : (n2 : Int) < m := by omega
              obtain ⟨N, hN⟩ : ∃ N, numb m i sl = N := ⟨_, rfl⟩
              have HNu := Hd.mk hN; have HFr := Hd.mk hfree; have HX := Hd.mk hx; have HT := Hd.mk ht
              have HAf : Hd ((N : Int) ∉ all) := ⟨by rw [← hN]; exact HI.out.al.fresh HI.out.tab.len hx ht⟩
              have HA2 : Hd (AllOk m (L.set i (took sl k k)) (all ++ [(N : Int)])) := ⟨by rw [← hN]; exact HI.out.al.set hx ht⟩
              have HH2 : Hd (HeldOk (L.set i (took sl k k)) (held ++ [(N : Int)])) := ⟨by rw [← hN]; exact HI.out.hd.set HI.out.tab.len hx ht⟩
              have hil : i < L.length := (List.getElem?_eq_some_iff.1 hx).1
              have HX2 : Hd ((L.set i (took sl k k))[i]? = some (took sl k k)) := ⟨List.getElem?_set_self hil⟩
              have HF2 : Hd (findL (L.set i (took sl k k)) (N : Int) = some i) := ⟨by rw [← hN]; exact find_hit (by rw [List.length_set]; exact HI.out.tab.len) HX2.out rfl rfl⟩
              clear hfree hx ht hN hil
              go_wp2_with (go_at_call 9; go_must (refine Calls.mono (set_int (k : Int) (k : Int) HI.out.tab hkB HFr.out HX.out HT.out) ?_; rintro e w2 ⟨he, h, f2⟩; rw [HNu.out] at he; subst he; have HT2 := Hd.mk h; clear h; have HM1 := Hd.mk (HI.out.m1.by f2 (fun b hb => (by omega))); have HM2 := Hd.mk (HI.out.m2.by f2 (fun b hb => (by omega))); have hz2 : w1.heap.size ≤ w2.heap.size := Nat.le_trans hwsz f2.size; have HB2 : Hd (Below w.heap.size w w2) := ⟨Fr.seq HB.out f2 HB.out.size (fun b hb hx => (by omega))⟩))
              go_loopw [59] (fun j wr => ∃ q : Nat, q ≤ n1 ∧ j = .int .i64 q ∧ wr = w2) (fun j _ => n1 - (intOf j).toNat)
              case atStart => exact ⟨0, Nat.zero_le _, rfl, rfl⟩
              case round =>
                obtain ⟨q, hq, rfl, hw⟩ := hrel
                subst hw
                by_cases hqn : q < n1
                · obtain ⟨A3, c3, hv3, _, _, hR3⟩ := HM1.out.form
                  rw [HN1.out] at hv3 hR3
                  cases hv3
                  obtain ⟨b3, o3, y, rfl, _, hb3, hy3, hc3'⟩ := hR3.get_int q hqn
                  have hne : ¬ y = (N : Int) := fun he => HAf.out (by rw [← he]; exact List.mem_of_getElem? hy3)
                  clear hR3 hy3
                  go_wp2
                  go_roundw
                  case rel => exact ⟨q + 1, by omega, by go_num, trivial⟩
                  case measure => simp [intOf]; omega
                · obtain rfl : q = n1 := by omega
                  go_wp2_with (first
                    | (go_at_call 11; go_must (refine Calls.mono (get_int (id := (N : Int)) HT4.out hkB HF2.out HX2.out) ?_; rintro e w5 ⟨he, hb5⟩; obtain rfl : e = .returned (.tuple #[.int .i64 k, .int .i64 0]) := he))
                    | (at_builtin; have hq_ := hz3; clear hq_; go_must (refine append_snoc I (Ty.int_flat _) rfl (.tmp 71) (.tmp 73) 39 3 _ 8 rfl Try.underlying39 info3 rfl (by decide) (by decide) w1.heap.size (.slice B2 n2 d2) held N [.int .i64 N] w3.heap.size rfl rfl (blk_new _ _ _ rfl) rfl (HM23.out.below (by repeat (first | (with_reducible assumption) | (with_reducible exact Below.refl _ _) | (with_reducible apply below_drewL) | (with_reducible apply below_alloc) | (with_reducible apply below_drew1) | (with_reducible apply below_drewN) | (refine below_set ?_ (by first | omega | (simp only [size_alloc, size_drew, size_set]; omega)) _ _)))) (HM23.out.ne_new (Nat.le_refl _)) (by simp only [size_alloc]; omega) (by rw [HN2.out]; omega) ?_; intro v4 w4 hM4 hb4 hk4 hat4; obtain ⟨A4, c4, hv4, hc4, hA4, hR4⟩ := hM4.form; have hl4 : (held ++ [(N : Int)]).length = n2 + 1 := (by rw [List.length_append, HN2.out]; rfl); rw [hl4] at hv4 hc4; subst hv4; have HL4 := Hd.mk hl4; clear hR4 hl4; have HM14 : Hd (Mine I w4 w1.heap.size 3 (.slice A3 (q + 1) c3) (all ++ [(N : Int)])) := ⟨Mine.mv (HM13.out.below (by repeat (first | (with_reducible assumption) | (with_reducible exact Below.refl _ _) | (with_reducible apply below_drewL) | (with_reducible apply below_alloc) | (with_reducible apply below_drew1) | (with_reducible apply below_drewN) | (refine below_set ?_ (by first | omega | (simp only [size_alloc, size_drew, size_set]; omega)) _ _)))) (fun j hj => hk4 j (by have := (HM13.out.lt hj).1; simp only [size_alloc]; omega) (HJ3.out j hj)) hb4.size⟩; have HJ4 : Hd (∀ j, (Value.slice A3 (q + 1) c3).ownBlock = some j → (Value.slice A4 (n2 + 1) c4).ownBlock ≠ some j) := ⟨fun j hj => (by rcases hat4 with he | he; (rw [he]; exact HJ3.out j hj); (rw [he]; intro hh; injection hh with hh; have := (HM13.out.lt hj).1; simp only [size_alloc] at hh; omega))⟩; have HT4 := Hd.mk (HT3.out.move (hk4 p (by have := blk_lt HT3.out.str; simp only [size_alloc]; omega) (HM23.out.ne_old hpb) |>.trans (Below.heap_alloc _ _ _ (blk_lt HT3.out.str))) (hk4 r (by have := HT3.out.row.lt; simp only [size_alloc]; omega) (HM23.out.ne_old hrb) |>.trans (Below.heap_alloc _ _ _ HT3.out.row.lt))); have HB4 : Hd (Below w.heap.size w w4) := ⟨Below.trans (below_alloc HB3.out _) (hb4.mono hbase.out)⟩; have hz4 := hb4.size; simp only [size_alloc] at hz4; have HM24 := Hd.mk hM4; clear hM4 hk4 hat4 hb4))
                    | (at_builtin; go_must (refine append_snoc I (Ty.int_flat _) rfl (.tmp 67) (.tmp 69) 39 3 _ 8 rfl Try.underlying39 info3 rfl (by decide) (by decide) w1.heap.size (.slice B1 q d1) all N [.int .i64 N] wr.heap.size rfl rfl (blk_new _ _ _ rfl) rfl (HM1.out.below (by repeat (first | (with_reducible assumption) | (with_reducible exact Below.refl _ _) | (with_reducible apply below_drewL) | (with_reducible apply below_alloc) | (with_reducible apply below_drew1) | (with_reducible apply below_drewN) | (refine below_set ?_ (by first | omega | (simp only [size_alloc, size_drew, size_set]; omega)) _ _)))) (HM1.out.ne_new (Nat.le_refl _)) (by simp only [size_alloc]; omega) (by rw [HN1.out]; omega) ?_; intro v3 w3 hM3 hb3 hk3 hat3; obtain ⟨A3, c3, hv3, hc3, hA3, hR3⟩ := hM3.form; have hl3 : (all ++ [(N : Int)]).length = q + 1 := (by rw [List.length_append, HN1.out]; rfl); rw [hl3] at hv3 hc3; subst hv3; have HL3 := Hd.mk hl3; clear hR3 hl3; have HM23 : Hd (Mine I w3 w1.heap.size 3 (.slice B2 n2 d2) held) := ⟨Mine.mv (HM2.out.below (by repeat (first | (with_reducible assumption) | (with_reducible exact Below.refl _ _) | (with_reducible apply below_drewL) | (with_reducible apply below_alloc) | (with_reducible apply below_drew1) | (with_reducible apply below_drewN) | (refine below_set ?_ (by first | omega | (simp only [size_alloc, size_drew, size_set]; omega)) _ _)))) (fun j hj => hk3 j (by have := (HM2.out.lt hj).1; simp only [size_alloc]; omega) (fun hh => HI.out.dj j hh hj)) hb3.size⟩; have HJ3 : Hd (∀ j, (Value.slice A3 (q + 1) c3).ownBlock = some j → (Value.slice B2 n2 d2).ownBlock ≠ some j) := ⟨fun j hj => (by rcases hat3 with he | he; (rw [he] at hj; exact HI.out.dj j hj); (rw [he] at hj; injection hj with hj; intro hh; have := (HM2.out.lt hh).1; simp only [size_alloc] at hj; omega))⟩; have HT3 := Hd.mk (HT2.out.move (hk3 p (by have := blk_lt HT2.out.str; simp only [size_alloc]; omega) (HM1.out.ne_old hpb) |>.trans (Below.heap_alloc _ _ _ (blk_lt HT2.out.str))) (hk3 r (by have := HT2.out.row.lt; simp only [size_alloc]; omega) (HM1.out.ne_old hrb) |>.trans (Below.heap_alloc _ _ _ HT2.out.row.lt))); have HB3 : Hd (Below w.heap.size w w3) := ⟨Below.trans (below_alloc HB2.out _) (hb3.mono hbase.out)⟩; have hz3 := hb3.size; simp only [size_alloc] at hz3; have HM13 := Hd.mk hM3; clear hM3 hk3 hat3 hb3)))
                  go_meet
                  case rel => exact ⟨q + 1, n2 + 1, c3, c4, A3, A4, _, _, _, rfl, rfl, HL3, HL4, by omega, hcn, ⟨⟨(HT4.out.below hb5).more (Nat.le_succ _), HM14.out.below hb5, HM24.out.below hb5, HJ4.out, HA2.out, HH2.out, by rw [HL3.out]; omega⟩⟩, ⟨Nat.le_trans (by omega) hb5.size⟩, ⟨below_seq HB4.out hb5⟩⟩
          | false =>
            by_cases hz : n2 = 0
            · subst hz
              go_wp2
              go_meet
              case rel => exact ⟨n1, 0, d1, d2, B1, B2, L, all, held, rfl, rfl, HN1, HN2, by omega, by omega, ⟨HI.out.below (Below.refl _ _)⟩, ⟨hwsz⟩, HB⟩
            · have hz' : 0 < (n2 : Int) := by omega
              go_upto_if 94 with fail
              go_cut [19] (fun t19 wx => ∃ kk : Nat, kk < n2 ∧ t19 = .int .i64 kk ∧ wr = wx)
              case first =>
                by_cases hky : k < ys.length
                · obtain ⟨b3, o3, y, rfl, _, hb3, hy3, hcy⟩ := (HC2.out.below HS.out HB.out).get_int k hky
                  have hw := HY.out y (List.mem_of_getElem? hy3)
                  simp only [Lit.wf, IntKind.min, IntKind.max, IntKind.signed, IntKind.bits, Bool.and_eq_true, decide_eq_true_eq] at hw
                  obtain ⟨yn, rfl⟩ : ∃ yn : Nat, y = yn := ⟨y.toNat, by simp at hw; omega⟩
                  have hyn : yn ≤ 255 := by simp at hw; omega
                  obtain ⟨kk, hkk⟩ : ∃ kk, yn % n2 = kk := ⟨_, rfl⟩
                  have hkI : (yn : Int) % (n2 : Int) = kk := by rw [← hkk]; simp
                  have hkl : kk < n2 := by rw [← hkk]; exact Nat.mod_lt _ (by omega)
                  clear hw hy3 hkk
                  go_wp2
                  go_meet
                  case rel => exact ⟨kk, hkl, by rw [hkI], rfl⟩
                · go_wp2
                  go_meet
                  case rel => exact ⟨0, by omega, rfl, rfl⟩
              case rest =>
                obtain ⟨kk, hkk, rfl, rfl⟩ := hcut
                obtain ⟨A3, c3, hv3, hc3, hA3, hR3⟩ := HI.out.m2.form
                rw [HN2.out] at hv3 hc3 hR3
                cases hv3
                obtain ⟨b3, o3, id, rfl, _, hb3, hid, hcid⟩ := hR3.get_int kk hkk
                obtain ⟨i, hf⟩ := HI.out.hd.fnd id (List.mem_of_getElem? hid)
                obtain ⟨sl, hx, ht, hnum⟩ := findL_slot hf
                have HH2 : Hd (HeldOk (L.set i (freed 0 sl)) (held.take kk ++ held.drop (kk + 1))) := ⟨HI.out.hd.free HI.out.tab.len hid hf hx⟩
                have HA2 : Hd (AllOk m (L.set i (freed 0 sl)) all) := ⟨HI.out.al.free hx⟩
                have HF2 : Hd (findL (L.set i (freed 0 sl)) id = none) := ⟨find_none (m := m) (i := i) (t := sl.times) (s := freed 0 sl) (by rw [List.length_set]; exact HI.out.tab.len) (List.getElem?_set_self (List.getElem?_eq_some_iff.1 hx).1) rfl (by rw [← hnum, HI.out.tab.len]; rfl)⟩
                have HF := Hd.mk hf; have HX := Hd.mk hx
                obtain ⟨i0, hi0, _, hi2, _⟩ := info_of info3
                obtain ⟨Aa, hcutA, hrowA, hnA⟩ := cut_to I 39 3 Try.underlying39 hi0 hi2 (some ⟨b3, o3, none⟩) n2 d2 kk (by omega) hc3
                obtain ⟨Ab, hcutB, hrowB, hnB⟩ := cut_from I 39 3 Try.underlying39 hi0 hi2 (some ⟨b3, o3, none⟩) n2 d2 (kk + 1) (by omega) hc3
                have hca : ∀ W, (Instr.slice 39 (.slice (some ⟨b3, o3, none⟩) n2 d2) none (some (.int .i64 kk)) none).run Try.prog W = .ok (.slice Aa kk d2) W := fun W => hcutA W .i64
                have hcb : ∀ W, (Instr.slice 39 (.slice (some ⟨b3, o3, none⟩) n2 d2) (some (.int .i64 ((kk : Int) + 1))) none none).run Try.prog W = .ok (.slice Ab (n2 - (kk + 1)) (d2 - (kk + 1))) W := fun W => hcutB W .i64
                have HRa := Hd.mk (hrowA _ _ _ hR3); have HRb := Hd.mk (hrowB _ _ _ hR3)
                have HnA := Hd.mk (hnA (fun h => by cases h)); have HnB := Hd.mk (hnB (fun h => by cases h))
                have HL2 : Hd ((held.take kk ++ held.drop (kk + 1)).length = n2 - 1) := ⟨by rw [List.length_append, List.length_take, List.length_drop, HN2.out]; omega⟩
                have HLk : Hd ((held.take kk).length = kk) := ⟨by rw [List.length_take, HN2.out]; omega⟩
                clear hcutA hcutB hrowA hrowB hnA hnB hi0 hi2 hR3 hid hf hx ht hnum hA3
                go_wp2
                refine wp_region_can (.q [1, 2, 3, 5, 6, 7, 8] (.e 0 true (.e 4 true (.e 9 false (.q [10] (.done)))))) (clsB _) (by kernel_rfl) (by kernel_rfl) (by intro _ _ d _ _ h; cases d <;> exact h) (clsB_drew _) ?_
                refine can_q (l := [⟨_,_,_,_,_,_⟩, ⟨_,_,_,_,_,_⟩, ⟨_,_,_,_,_,_⟩, ⟨_,_,_,_,_,_⟩, ⟨_,_,_,_,_,_⟩, ⟨_,_,_,_,_,_⟩, ⟨_,_,_,_,_,_⟩]) rfl ?_
                repeat (go_big_quiet_step (fail))
                refine wpQuiet_nil ?_
                refine can_e (o := ⟨_,_,_,_,_,_⟩) rfl (fun K hK => ?_)
                go_wp2_with fail
                refine onK_normal (hK _ _ ⟨clsB _, clsB_of (by first | exact ((by repeat (first | (with_reducible assumption) | (with_reducible exact Below.refl _ _) | (with_reducible apply below_drewL) | (with_reducible apply below_alloc) | (with_reducible apply below_drew1) | (with_reducible apply below_drewN) | (refine below_set ?_ (by first | omega | (simp only [size_alloc, size_drew, size_set]; omega)) _ _)))) | exact below_undrew ((by repeat (first | (with_reducible assumption) | (with_reducible exact Below.refl _ _) | (with_reducible apply below_drewL) | (with_reducible apply below_alloc) | (with_reducible apply below_drew1) | (with_reducible apply below_drewN) | (refine below_set ?_ (by first | omega | (simp only [size_alloc, size_drew, size_set]; omega)) _ _))))), fun _ _ h => h, ?_⟩)
                clear hK K
                refine can_e (o := ⟨_,_,_,_,_,_⟩) rfl (fun K hK => ?_)
                go_wp2_with (at_builtin; go_must (refine append_row I (Ty.int_flat _) rfl (.tmp 107) (.tmp 110) 39 3 _ 8 rfl Try.underlying39 info3 rfl (by decide) (by decide) wr.heap.size (.slice (some ⟨wr.heap.size, 0, none⟩) 0 0) [] (held.take kk) Aa kk d2 rfl rfl HnA.out (Mine.empty I wr.drew rfl (Nat.le_refl _)) (HRa.out.below (fun k hk => hk.2) (by repeat (first | (with_reducible assumption) | (with_reducible exact Below.refl _ _) | (with_reducible apply below_drewL) | (with_reducible apply below_alloc) | (with_reducible apply below_drew1) | (with_reducible apply below_drewN) | (refine below_set ?_ (by first | omega | (simp only [size_alloc, size_drew, size_set]; omega)) _ _)))) (fun j hj => ⟨by simp only [size_alloc, size_drew]; have := hj.2; omega, ownBlock_ne hj.2⟩) (by simp only [size_alloc, size_drew]; omega) (by simp only [List.length_nil]; omega) ?_; intro v5 w5 hM5 hb5 hk5 hat5; rw [List.nil_append] at hM5; obtain ⟨A5, c5, hv5, hc5, hA5, hR5⟩ := hM5.form; rw [HLk.out] at hv5; subst hv5; have HM5 := Hd.mk hM5; have HB5 : Hd (Below wr.heap.size wr w5) := ⟨Below.trans (by repeat (first | (with_reducible assumption) | (with_reducible exact Below.refl _ _) | (with_reducible apply below_drewL) | (with_reducible apply below_alloc) | (with_reducible apply below_drew1) | (with_reducible apply below_drewN) | (refine below_set ?_ (by first | omega | (simp only [size_alloc, size_drew, size_set]; omega)) _ _))) hb5⟩; clear hM5 hb5 hk5 hat5 hR5 hc5 hA5))
                refine onK_normal (hK _ _ ⟨clsB _, clsB_of (by first | exact ((below_drewL HB5.out)) | exact below_undrew ((below_drewL HB5.out))), fun _ _ h => h, ?_⟩)
                clear hK K
                refine can_e (o := ⟨_,_,_,_,_,_⟩) rfl (fun K hK => ?_)
                go_wp2_with (at_builtin; go_must (refine append_row I (Ty.int_flat _) rfl (.tmp 111) (.tmp 115) 39 3 _ 8 rfl Try.underlying39 info3 rfl (by decide) (by decide) wr.heap.size (.slice A5 kk c5) (held.take kk) (held.drop (kk + 1)) Ab (n2 - (kk + 1)) (d2 - (kk + 1)) rfl rfl HnB.out HM5.out (HRb.out.below (fun k hk => hk.2) HB5.out) (fun j hj => ⟨Nat.lt_of_lt_of_le hj.2 HB5.out.size, HM5.out.ne_old hj.2⟩) HB5.out.size (by rw [HLk.out]; omega) ?_; intro v6 w6 hM6 hb6 hk6 hat6; obtain ⟨A6, c6, hv6, hc6, hA6, hR6⟩ := hM6.form; rw [HL2.out] at hv6; subst hv6; have HM6 := Hd.mk hM6; have HB6 : Hd (Below wr.heap.size wr w6) := ⟨Below.trans HB5.out hb6⟩; clear hM6 hb6 hk6 hat6 hR6 hc6 hA6))
                refine onK_normal (hK _ _ ⟨fun _ => True, trivial, (fun h => by cases h), ?_⟩)
                clear hK K
                refine can_q (l := [⟨_,_,_,_,_,_⟩]) rfl ?_
                repeat (go_big_quiet_step (fail))
                refine wpQuiet_nil ?_
                refine can_done ?_
                have HT6 := Hd.mk (HI.out.tab.below HB6.out)
                have HM1 := Hd.mk (HI.out.m1.below HB6.out)
                have HJ6 : Hd (∀ j, (Value.slice B1 n1 d1).ownBlock = some j → (Value.slice A6 (n2 - 1) c6).ownBlock ≠ some j) := ⟨fun j hj hh => by have := (HI.out.m1.lt hj).1; have := (HM6.out.lt hh).2; omega⟩
                go_wp2_with (first
                  | (go_at_call 11; go_must (refine Calls.mono (getno_int (id := id) (HT7.out.below hb8) (by omega) HF2.out) ?_; rintro e w9 ⟨rfl, hb9⟩))
                  | (go_at_call 13; have hq_ := HT7; clear hq_; go_must (refine Calls.mono (relno_int (id := id) HT7.out (by omega) HF2.out) ?_; rintro e w8 ⟨rfl, hb8⟩))
                  | (go_at_call 13; go_must (refine Calls.mono (rel_int (id := id) HT6.out hkB HF.out HX.out) ?_; rintro e w7 ⟨rfl, h, f7⟩; have HT7 := Hd.mk h; have HM17 := Hd.mk (HM1.out.by f7 (fun b hb => (by omega))); have HM27 := Hd.mk (HM6.out.by f7 (fun b hb => (by omega))); have hz7 := f7.size; clear h)))
                go_meet
                case rel =>
                  have hb89 := below_seq hb8 hb9
                  have hz6 := HB6.out.size
                  have hz8 := hb89.size
                  exact ⟨n1, n2 - 1, d1, c6, B1, A6, _, all, _, rfl, rfl, HN1, HL2, by omega, by omega, ⟨⟨HT7.out.below hb89, HM17.out.below hb89, (HM27.out.lower hwsz).below hb89, HJ6.out, HA2.out, HH2.out, by have := HI.out.la; omega⟩⟩, ⟨by omega⟩, ⟨below_seq (Fr.seq (below_seq HB.out (HB6.out)) f7 (Nat.le_trans HB.out.size HB6.out.size) (fun b hb hx => by omega)) hb89⟩⟩
        case rest =>
          clear HI HB HN1 HN2 hn1 hn2 hwsz hws
          obtain ⟨n1, n2, d1, d2, B1, B2, L, all, held, rfl, rfl, HN1, HN2, hn1, hn2, HI, hws, HB⟩ := hcut
          have HC : Hd ((idsUpto L m).length = n2) := ⟨by rw [ids_len HI.out.tab.len, ← HI.out.hd.cn, HN2.out]⟩
          have hkB' : k + 1 ≤ 1000000 := by omega
          go_wp2_with (first
            | (go_at_call 18; have hq_ := hb5; clear hq_; go_must (refine Calls.mono (len_calls (HI.out.tab.below hb5) hkB') ?_; rintro e w6 ⟨he, hb6⟩; rw [HC.out] at he; subst he))
            | (go_at_call 18; go_must (refine Calls.mono (len_calls HI.out.tab hkB') ?_; rintro e w5 ⟨he, hb5⟩; rw [HC.out] at he; subst he)))
          go_roundw
          case rel =>
            have hb56 := below_seq hb5 hb6
            have hz := hb56.size
            have hi := HI.out
            exact ⟨k + 1, n1, n2, d1, d2, B1, B2, L, all, held, by omega, by go_num, rfl, rfl, HN1, HN2, by omega, hn2, ⟨⟨hi.tab.below hb56, hi.m1.below hb56, hi.m2.below hb56, hi.dj, hi.al, hi.hd, hi.la⟩⟩, ⟨Nat.le_trans hws.out hz⟩, ⟨below_seq HB.out hb56⟩⟩
          case measure => simp [intOf]; omega
      · obtain rfl : k = xs.length := by omega
        go_wp2_with (go_at_call 6; go_must (refine Calls.mono (alive_calls _) ?_; rintro e w9 ⟨rfl, hb9⟩))
        go_ret
        exact ⟨rfl, below_seq HB.out hb9⟩
end Go.Proofs.Ytofknjoaemiebaa.Fn
