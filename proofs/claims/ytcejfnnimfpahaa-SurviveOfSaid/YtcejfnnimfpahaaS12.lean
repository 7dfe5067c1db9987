/- Pieces of texts; the bytes of takes. -/
import Derived.Test.YtcejfnnimfpahaaS11
import Derived.Laws.DeepStrings4
namespace Go.Proofs.Ytcejfnnimfpahaa.Fn
open Go Go.RowKit Go.Proofs.Ytcejfnnimfpahaa.Can Go.Proofs.Ytcejfnnimfpahaa.Base
attribute [local go_sem] clsB AB.cell

def loI (f : Int) : Int := if f < 0 then 0 else f
def hiI (s : ByteArray) (t : Int) : Int := if (s.size : Int) < t then s.size else t
/-- The part of a text between two places, as far as it has it. -/
def cutB (s : ByteArray) (f t : Int) : ByteArray := if hiI s t ≤ loI f then ByteArray.empty else s.extract (loI f).toNat (hiI s t).toNat
theorem cutB_size (s : ByteArray) (f t : Int) : (cutB s f t).size ≤ s.size := by
  unfold cutB
  split
  · exact Nat.zero_le _
  · rw [ByteArray.size_extract]; omega
theorem cut_calls (s : ByteArray) (f t : Int) (w : World) : Calls Try.prog 28 #[.string s, .int .i64 f, .int .i64 t] w fun e w' => e = .returned (.string (cutB s f t)) ∧ w' = w := by
  obtain ⟨lo, hlo⟩ : ∃ lo, loI f = lo := ⟨_, rfl⟩
  obtain ⟨hi, hhi⟩ : ∃ hi, hiI s t = hi := ⟨_, rfl⟩
  have hlo0 : 0 ≤ lo := by rw [← hlo]; unfold loI; split <;> omega
  have hhis : hi ≤ s.size := by rw [← hhi]; unfold hiI; split <;> omega
  have HLO : Hd ((if f < 0 then 0 else f) = lo) := ⟨hlo⟩
  have HHI : Hd ((if (s.size : Int) < t then (s.size : Int) else t) = hi) := ⟨hhi⟩
  unfold cutB
  rw [hlo, hhi]
  clear hlo hhi
  by_cases hc : hi ≤ lo
  · rw [if_pos hc]
    go_enter Try.func28, Try.ntmps28
    go_wp2_with (first | (refine max_int rfl (.tmp 7) (.const (.int .i64 0)) _ rfl .i64 f 0 lo rfl rfl HLO.out ?_) | (refine min_int rfl (.tmp 9) (.tmp 11) _ rfl .i64 t s.size hi rfl rfl HHI.out ?_))
    go_ret
    exact ⟨rfl, rfl⟩
  · rw [if_neg hc]
    obtain ⟨a, rfl⟩ : ∃ a : Nat, lo = a := ⟨lo.toNat, by omega⟩
    obtain ⟨b, rfl⟩ : ∃ b : Nat, hi = b := ⟨hi.toNat, by omega⟩
    go_enter Try.func28, Try.ntmps28
    go_wp2_with (first | (refine max_int rfl (.tmp 7) (.const (.int .i64 0)) _ rfl .i64 f 0 a rfl rfl HLO.out ?_) | (refine min_int rfl (.tmp 9) (.tmp 11) _ rfl .i64 t s.size b rfl rfl HHI.out ?_))
    go_ret
    exact ⟨by first | rfl | simp, rfl⟩
theorem part_calls (s : ByteArray) (f t : Int) (w : World) : Calls Try.prog 22 #[.string s, .int .i64 f, .int .i64 t] w fun e w' => e = .returned (.string (cutB s f t)) ∧ w' = w := by
  unfold cutB
  obtain ⟨n, hn⟩ : ∃ n : Nat, s.size = n := ⟨_, rfl⟩
  by_cases h1 : f < 0
  · have hlo : loI f = 0 := by unfold loI; rw [if_pos h1]
    rw [hlo]
    by_cases h2 : (s.size : Int) < t
    · have hhi : hiI s t = s.size := by unfold hiI; rw [if_pos h2]
      rw [hhi]
      by_cases hc : (s.size : Int) ≤ 0
      · rw [if_pos hc]
        go_enter Try.func22, Try.ntmps22
        go_wp2
        go_ret
        exact ⟨rfl, rfl⟩
      · rw [if_neg hc]
        go_enter Try.func22, Try.ntmps22
        go_wp2
        go_ret
        exact ⟨by first | rfl | simp, rfl⟩
    · have hhi : hiI s t = t := by unfold hiI; rw [if_neg h2]
      rw [hhi]
      by_cases hc : t ≤ 0
      · rw [if_pos hc]
        go_enter Try.func22, Try.ntmps22
        go_wp2
        go_ret
        exact ⟨rfl, rfl⟩
      · rw [if_neg hc]
        obtain ⟨b, rfl⟩ : ∃ b : Nat, t = b := ⟨t.toNat, by omega⟩
        go_enter Try.func22, Try.ntmps22
        go_wp2
        go_ret
        exact ⟨by first | rfl | simp, rfl⟩
  · have hlo : loI f = f := by unfold loI; rw [if_neg h1]
    rw [hlo]
    obtain ⟨a, rfl⟩ : ∃ a : Nat, f = a := ⟨f.toNat, by omega⟩
    by_cases h2 : (s.size : Int) < t
    · have hhi : hiI s t = s.size := by unfold hiI; rw [if_pos h2]
      rw [hhi]
      by_cases hc : (s.size : Int) ≤ a
      · rw [if_pos hc]
        go_enter Try.func22, Try.ntmps22
        go_wp2
        go_ret
        exact ⟨rfl, rfl⟩
      · rw [if_neg hc]
        go_enter Try.func22, Try.ntmps22
        go_wp2
        go_ret
        exact ⟨by first | rfl | simp, rfl⟩
    · have hhi : hiI s t = t := by unfold hiI; rw [if_neg h2]
      rw [hhi]
      by_cases hc : t ≤ a
      · rw [if_pos hc]
        go_enter Try.func22, Try.ntmps22
        go_wp2
        go_ret
        exact ⟨rfl, rfl⟩
      · rw [if_neg hc]
        obtain ⟨b, rfl⟩ : ∃ b : Nat, t = b := ⟨t.toNat, by omega⟩
        go_enter Try.func22, Try.ntmps22
        go_wp2
        go_ret
        exact ⟨by first | rfl | simp, rfl⟩
theorem text_calls (s : ByteArray) (t : Tok) (w : World) : Calls Try.prog 21 #[.string s, tokV t] w fun e w' => e = .returned (.tuple #[.string (cutB s t.f t.a), .string (cutB s t.a t.t)]) ∧ Below w.heap.size w w' := by
  unfold tokV
  go_enter Try.func21, Try.ntmps21
  go_wp2
  refine wp_region_can (.q [0, 1, 2, 3, 4, 6, 7, 8, 9, 10] (.e 5 true (.e 11 false (.q [12, 13] (.done))))) (clsB _) (by kernel_rfl) (by kernel_rfl) (by intro _ _ d _ _ h; cases d <;> exact h) (clsB_drew _) ?_
  refine can_q (l := [⟨_,_,_,_,_,_⟩, ⟨_,_,_,_,_,_⟩, ⟨_,_,_,_,_,_⟩, ⟨_,_,_,_,_,_⟩, ⟨_,_,_,_,_,_⟩, ⟨_,_,_,_,_,_⟩, ⟨_,_,_,_,_,_⟩, ⟨_,_,_,_,_,_⟩, ⟨_,_,_,_,_,_⟩, ⟨_,_,_,_,_,_⟩]) rfl ?_
  repeat (go_big_quiet_step (fail))
  refine wpQuiet_nil ?_
  refine can_e (o := ⟨_,_,_,_,_,_⟩) rfl (fun K hK => ?_)
  go_wp2_with (go_at_call 28; go_must (refine Calls.mono (cut_calls s t.f t.a _) ?_; rintro e w2 ⟨rfl, rfl⟩))
  refine onK_normal (hK _ _ ⟨clsB _, clsB_of (by first | exact ((Below.refl _ _)) | exact below_undrew ((Below.refl _ _))), fun _ _ h => h, ?_⟩)
  clear hK K
  refine can_e (o := ⟨_,_,_,_,_,_⟩) rfl (fun K hK => ?_)
  go_wp2_with (go_at_call 28; go_must (refine Calls.mono (cut_calls s t.a t.t _) ?_; rintro e w2 ⟨rfl, rfl⟩))
  refine onK_normal (hK _ _ ⟨fun _ => True, trivial, (fun h => by cases h), ?_⟩)
  clear hK K
  refine can_q (l := [⟨_,_,_,_,_,_⟩, ⟨_,_,_,_,_,_⟩]) rfl ?_
  repeat (go_big_quiet_step (fail))
  refine wpQuiet_nil ?_
  refine can_done ?_
  go_wp2
  go_ret2
  exact ⟨rfl, (by repeat (first | (with_reducible assumption) | (with_reducible exact Below.refl _ _) | (with_reducible apply below_drewL) | (with_reducible apply below_alloc) | (with_reducible apply below_drew1) | (with_reducible apply below_drewN) | (refine below_set ?_ (by first | omega | (simp only [size_alloc, size_drew, size_set]; omega)) _ _)))⟩
/-- The bytes of tokens, of a text. -/
def bytesU (s : ByteArray) (l : List Tok) : List UInt8 := l.flatMap fun t => bl (cutB s t.f t.a) ++ bl (cutB s t.a t.t)
theorem bytesU_snoc (s : ByteArray) (l : List Tok) (t : Tok) : bytesU s (l ++ [t]) = (bytesU s l ++ bl (cutB s t.f t.a)) ++ bl (cutB s t.a t.t) := by simp [bytesU]
theorem bytesU_len (s : ByteArray) (l : List Tok) (hs : s.size ≤ 100000) : (bytesU s l).length ≤ l.length * 200000 := by
  induction l with
  | nil => exact Nat.zero_le _
  | cons t l ih =>
    have h1 := cutB_size s t.f t.a
    have h2 := cutB_size s t.a t.t
    have : bytesU s (t :: l) = (bl (cutB s t.f t.a) ++ bl (cutB s t.a t.t)) ++ bytesU s l := by simp [bytesU]
    rw [this, List.length_append, List.length_append, bl_len, bl_len, List.length_cons]
    omega
theorem info5 : (Try.prog.info? 5).map (fun i => (i.zero, i.size, i.bytes)) = some (some (.int .u8 0), 1, 1) := by kernel_rfl
set_option maxHeartbeats 1000000 in
theorem bytes_calls (s : ByteArray) (A : Option Addr) (n c : Nat) (L : List E) (S : Nat → Prop) (w : World) (hS : ∀ k, S k → k < w.heap.size) (hC : Row eT w S A n L) (hs : s.size ≤ 100000) (hn : n ≤ 100000) :
    Calls Try.prog 9 #[.string s, .slice A n c] w fun e w' => e = .returned (.string ⟨(bytesU s (L.map (·.tok))).toArray⟩) ∧ Below w.heap.size w w' := by
  have HL := Hd.mk hC.1
  have HC := Hd.mk hC; have HS := Hd.mk hS; clear hC hS
  go_enter Try.func9, Try.ntmps9
  go_wp2
  go_loopw [5, 12] (fun v i wr => ∃ (k : Nat), k ≤ n ∧ i = .int .i64 k ∧ Hd (Mine bT wr w.heap.size 5 v (bytesU s ((L.take k).map (·.tok)))) ∧ Hd (Below w.heap.size w wr)) (fun _ i _ => n - (intOf i).toNat)
  case atStart => exact ⟨0, Nat.zero_le _, rfl, ⟨Mine.nil _ _ _ _⟩, ⟨Below.refl _ _⟩⟩
  case round =>
    obtain ⟨k, hk, rfl, HM, HB⟩ := hrel
    have HLE : Hd ((bytesU s ((L.take k).map (·.tok))).length ≤ k * 200000) := ⟨by have := bytesU_len s ((L.take k).map (·.tok)) hs; rw [List.length_map, List.length_take, HL.out, Nat.min_eq_left hk] at this; exact this⟩
    obtain ⟨A2, z, c2, rfl, hz, hc2, hA2, hR2⟩ := HM.out.formN
    have HR2 := Hd.mk hR2; have HZ := Hd.mk hz; clear hz hR2 hA2
    by_cases hlt : k < n
    · obtain ⟨b, off, e, rfl, hb1, hx, c0, c1, d0, d1, d2, d3, d4, d5⟩ := e_get (HC.out.below HS.out HB.out) k hlt
      have HT : Hd (bytesU s ((L.take (k + 1)).map (·.tok)) = (bytesU s ((L.take k).map (·.tok)) ++ bl (cutB s e.tok.f e.tok.a)) ++ bl (cutB s e.tok.a e.tok.t)) := ⟨by rw [List.take_add_one, hx, List.map_append]; exact bytesU_snoc s _ _⟩
      have h1 := cutB_size s e.tok.f e.tok.a
      have h2 := cutB_size s e.tok.a e.tok.t
      obtain ⟨B1, hB1⟩ : ∃ B, cutB s e.tok.f e.tok.a = B := ⟨_, rfl⟩
      obtain ⟨B2, hB2⟩ : ∃ B, cutB s e.tok.a e.tok.t = B := ⟨_, rfl⟩
      rw [hB1] at h1 HT
      rw [hB2] at h2 HT
      have HB1 := Hd.mk hB1; have HB2 := Hd.mk hB2
      clear hx hB1 hB2
      go_wp2_with (first
        | (go_at_call 21; go_must (refine Calls.mono (text_calls s e.tok _) ?_; rintro e9 w2 ⟨he, hb2⟩; rw [HB1.out, HB2.out] at he; subst he; have HM2 := Hd.mk ((HM.out.below (below_alloc (Below.refl _ _) _)).below hb2); have HW2 := Hd.mk (below_seq HB.out (below_seq (below_alloc (Below.refl _ _) _) hb2)); clear hb2))
        | (at_builtin; have hq_ := HM3; clear hq_; go_must (refine append_str rfl (.tmp 25) (.tmp 26) 57 9 5 rfl Try.underlying57 Try.underlying9 info5 w.heap.size v3 _ B2 rfl rfl HM3.out HW3.out.size (by have := HLE.out; rw [List.length_append, bl_len]; omega) ?_; intro v4 w4 hM4 hb4 _; have HM4 := Hd.mk hM4; have HW4 := Hd.mk (HW3.out.trans hb4); clear hM4 hb4))
        | (at_builtin; go_must (refine append_str rfl (.tmp 23) (.tmp 24) 57 9 5 rfl Try.underlying57 Try.underlying9 info5 w.heap.size (.slice A2 z c2) _ B1 rfl rfl HM2.out HW2.out.size (by have := HLE.out; omega) ?_; intro v3 w3 hM3 hb3 _; have HM3 := Hd.mk hM3; have HW3 := Hd.mk (HW2.out.trans hb3); clear hM3 hb3)))
      go_roundw
      case rel => exact ⟨k + 1, by omega, by go_num, ⟨by rw [HT.out]; exact HM4.out⟩, HW4⟩
      case measure => simp [intOf]; omega
    · obtain rfl : k = n := by omega
      have hL : L.take k = L := by rw [← HL.out, List.take_length]
      rw [hL] at HR2 HLE
      have hconv := conv_back (P := Try.prog) 57 9 5 Try.underlying57 Try.underlying5 Try.underlying9 HR2.out (c := c2) (by have := HLE.out; omega)
      go_wp2
      go_ret
      exact ⟨rfl, HB.out⟩
set_option maxHeartbeats 1000000 in
theorem rbytes_calls (s : ByteArray) (A : Option Addr) (n c : Nat) (L : List Tok) (S : Nat → Prop) (w : World) (hS : ∀ k, S k → k < w.heap.size) (hC : Row tokT w S A n L) (hs : s.size ≤ 100000) (hn : n ≤ 100000) :
    Calls Try.prog 10 #[.string s, .slice A n c] w fun e w' => e = .returned (.string ⟨(bytesU s L).toArray⟩) ∧ Below w.heap.size w w' := by
  have HL := Hd.mk hC.1
  have HC := Hd.mk hC; have HS := Hd.mk hS; clear hC hS
  go_enter Try.func10, Try.ntmps10
  go_wp2
  go_loopw [5, 6] (fun v i wr => ∃ (k : Nat) (B : ByteArray), k ≤ n ∧ i = .int .i64 k ∧ v = .string B ∧ Hd (bl B = bytesU s (L.take k)) ∧ Hd (Below w.heap.size w wr)) (fun _ i _ => n - (intOf i).toNat)
  case atStart => exact ⟨0, ByteArray.empty, Nat.zero_le _, rfl, rfl, ⟨rfl⟩, ⟨Below.refl _ _⟩⟩
  case round =>
    obtain ⟨k, B, hk, rfl, rfl, HE, HB⟩ := hrel
    have HLE : Hd (B.size ≤ k * 200000) := ⟨by have := bytesU_len s (L.take k) hs; rw [List.length_take, HL.out, Nat.min_eq_left hk, ← HE.out, bl_len] at this; exact this⟩
    by_cases hlt : k < n
    · obtain ⟨b, off, x, rfl, hb1, hx, d0, d1, d2, d3, d4, d5⟩ := tok_get (HC.out.below HS.out HB.out) k hlt
      have h1 := cutB_size s x.f x.a
      have h2 := cutB_size s x.a x.t
      obtain ⟨B1, hB1⟩ : ∃ B, cutB s x.f x.a = B := ⟨_, rfl⟩
      obtain ⟨B2, hB2⟩ : ∃ B, cutB s x.a x.t = B := ⟨_, rfl⟩
      have hadd : ∀ W, (Op.stringOp .add B B1).run Try.prog W = .ok (.string (B ++ B1)) W := fun W => run_string_add_sum (w := W) B _ (by rw [hB1] at h1; have := HLE.out; omega)
      have hadd2 : ∀ W, (Op.stringOp .add (B ++ B1) B2).run Try.prog W = .ok (.string (B ++ B1 ++ B2)) W := fun W => run_string_add_sum (w := W) _ _ (by rw [hB1] at h1; rw [hB2] at h2; rw [ByteArray.size_append]; have := HLE.out; omega)
      have HT : Hd (bl (B ++ B1 ++ B2) = bytesU s (L.take (k + 1))) := ⟨by rw [List.take_add_one, hx]; show _ = bytesU s (L.take k ++ [x]); rw [bytesU_snoc, bl_app, bl_app, HE.out, hB1, hB2]⟩
      have HB1 := Hd.mk hB1; have HB2 := Hd.mk hB2
      clear hx hB1 hB2 h1 h2
      go_wp2
      refine wp_region_can (.q [0, 1, 2, 3, 4, 5, 6, 7, 8, 9, 10, 11, 14, 15, 16, 17, 18, 19, 20, 21, 22, 23, 24] (.e 12 true (.q [13] (.e 25 true (.q [26, 27] (.done)))))) (clsB _) (by kernel_rfl) (by kernel_rfl) (by intro _ _ d _ _ h; cases d <;> exact h) (clsB_drew _) ?_
      refine can_q (l := [⟨_,_,_,_,_,_⟩, ⟨_,_,_,_,_,_⟩, ⟨_,_,_,_,_,_⟩, ⟨_,_,_,_,_,_⟩, ⟨_,_,_,_,_,_⟩, ⟨_,_,_,_,_,_⟩, ⟨_,_,_,_,_,_⟩, ⟨_,_,_,_,_,_⟩, ⟨_,_,_,_,_,_⟩, ⟨_,_,_,_,_,_⟩, ⟨_,_,_,_,_,_⟩, ⟨_,_,_,_,_,_⟩, ⟨_,_,_,_,_,_⟩, ⟨_,_,_,_,_,_⟩, ⟨_,_,_,_,_,_⟩, ⟨_,_,_,_,_,_⟩, ⟨_,_,_,_,_,_⟩, ⟨_,_,_,_,_,_⟩, ⟨_,_,_,_,_,_⟩, ⟨_,_,_,_,_,_⟩, ⟨_,_,_,_,_,_⟩, ⟨_,_,_,_,_,_⟩, ⟨_,_,_,_,_,_⟩]) rfl ?_
      repeat (go_big_quiet_step (fail))
      refine wpQuiet_nil ?_
      refine can_e (o := ⟨_,_,_,_,_,_⟩) rfl (fun K hK => ?_)
      go_wp2_with (go_at_call 22; go_must (refine Calls.mono (part_calls s x.f x.a _) ?_; rintro e9 w2 ⟨he, rfl⟩; rw [HB1.out] at he; subst he))
      refine onK_normal (hK _ _ ⟨clsB _, clsB_of (by first | exact ((Below.refl _ _)) | exact below_undrew ((Below.refl _ _))), fun _ _ h => h, ?_⟩)
      clear hK K
      refine can_q (l := [⟨_,_,_,_,_,_⟩]) rfl ?_
      repeat (go_big_quiet_step (fail))
      refine wpQuiet_nil ?_
      refine can_e (o := ⟨_,_,_,_,_,_⟩) rfl (fun K hK => ?_)
      go_wp2_with (go_at_call 22; go_must (refine Calls.mono (part_calls s x.a x.t _) ?_; rintro e9 w2 ⟨he, rfl⟩; rw [HB2.out] at he; subst he))
      refine onK_normal (hK _ _ ⟨clsB _, clsB_of (by first | exact ((Below.refl _ _)) | exact below_undrew ((Below.refl _ _))), fun _ _ h => h, ?_⟩)
      clear hK K
      refine can_q (l := [⟨_,_,_,_,_,_⟩, ⟨_,_,_,_,_,_⟩]) rfl ?_
      repeat (go_big_quiet_step (fail))
      refine wpQuiet_nil ?_
      refine can_done ?_
      go_wp2
      go_roundw
      case rel => exact ⟨k + 1, _, by omega, by go_num, rfl, HT, ⟨by have := HB.out; exact (by repeat (first | (with_reducible assumption) | (with_reducible exact Below.refl _ _) | (with_reducible apply below_drewL) | (with_reducible apply below_alloc) | (with_reducible apply below_drew1) | (with_reducible apply below_drewN) | (refine below_set ?_ (by first | omega | (simp only [size_alloc, size_drew, size_set]; omega)) _ _)))⟩⟩
      case measure => simp [intOf]; omega
    · obtain rfl : k = n := by omega
      have hL : L.take k = L := by rw [← HL.out, List.take_length]
      rw [hL] at HE
      have HE2 : Hd (B = ⟨(bytesU s L).toArray⟩) := ⟨bl_inj (by rw [HE.out]; simp [bl])⟩
      go_wp2
      go_ret
      exact ⟨ret_str HE2.out, HB.out⟩
end Go.Proofs.Ytcejfnnimfpahaa.Fn
