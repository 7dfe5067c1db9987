/- What New, Low, Ids and Len compute. -/
import Derived.Test.YtofknjoaemiebaaM3
import Derived.OwnWalk
namespace Go.Proofs.Ytofknjoaemiebaa.Fn
open Go Go.RowKit Go.Proofs.Ytofknjoaemiebaa.Can Go.Proofs.Ytofknjoaemiebaa.Base
attribute [local go_sem] clsB AB.cell clsX AX.cell

def roomN (n : Int) : Nat := (if n < 1 then 1 else if 4096 < n then 4096 else n).toNat
theorem roomN_pos (n : Int) : 0 < roomN n ∧ roomN n ≤ 4096 := by unfold roomN; split <;> (try split) <;> omega
def slot0 {α : Type} (z : α) : Slot α := ⟨false, 0, 0, z⟩
def idsUpto {α : Type} (L : List (Slot α)) : Nat → List Int
  | 0 => []
  | k + 1 => idsUpto L k ++ (match L[k]? with | some s => if s.taken then [(numb L.length k s : Int)] else [] | none => [])
def lowUpto {α : Type} (L : List (Slot α)) (or : Int) : Nat → Int
  | 0 => or
  | k + 1 => match L[k]? with | some s => if s.taken then (if s.low < lowUpto L or k then s.low else lowUpto L or k) else lowUpto L or k | none => lowUpto L or k
theorem idsUpto_len {α : Type} (L : List (Slot α)) (k : Nat) : (idsUpto L k).length ≤ k := by
  induction k with
  | zero => exact Nat.le_refl _
  | succ k ih =>
    simp only [idsUpto, List.length_append]
    split
    · split <;> simp <;> omega
    · simp; omega
theorem info3 : (Try.prog.info? 3).map (fun i => (i.zero, i.size, i.bytes)) = some (some (.int .i64 0), 1, 8) := by kernel_rfl
abbrev I := Ty.int .i64

theorem new_int (n : Int) (w : World) : Calls Try.prog 7 #[.int .i64 n] w fun e w' =>
    ∃ p r, e = .returned (.pointer (some ⟨p, 0, none⟩)) ∧ w.heap.size ≤ p ∧ w.heap.size ≤ r ∧ Tab (Value.int .i64) 54 64 w' p r (roomN n) (roomN n) 0 (List.replicate (roomN n) (slot0 0)) ∧ Below w.heap.size w w' := by
  obtain ⟨m, hm⟩ : ∃ m, roomN n = m := ⟨_, rfl⟩
  have hp := roomN_pos n
  rw [hm] at hp ⊢
  obtain ⟨m1, hm1⟩ : ∃ m1 : Int, (if n < 1 then 1 else n) = m1 := ⟨_, rfl⟩
  have hm2 : (if (4096 : Int) < m1 then 4096 else m1) = m := by
    rw [← hm1, ← hm]; unfold roomN; split <;> split <;> (try split) <;> omega
  obtain ⟨i0, hi, hz, hs, hbb⟩ := info_of (P := Try.prog) (e := 64) (z := some (.agg #[.bool false, .int .i64 0, .int .i64 0, .int .i64 0])) (s := 4) (b := 32) (by kernel_rfl)
  have HM1 := Hd.mk hm1; have HM2 := Hd.mk hm2; have HI := Hd.mk (And.intro hi (And.intro hz (And.intro hs hbb)))
  clear hm1 hm2 hi hz hs hbb hm
  go_enter Try.func7, Try.ntmps7
  go_wp2_with (first | (at_make; go_must (refine wpList_make_full _ rfl (.tmp 5) (.tmp 5) 52 rfl w.heap.size 64 i0 (.agg #[.bool false, .int .i64 0, .int .i64 0, .int .i64 0]) 4 Try.underlying52 HI.out.1 HI.out.2.1 HI.out.2.2.1 .i64 .i64 m m m rfl rfl rfl rfl (by rw [HI.out.2.2.2]; omega) (by simp only [maxLen]; omega) (Nat.le_refl _) ?_; intro w1 ho1 hg1)) | (refine max_int rfl (.tmp 3) (.const (.int .i64 1)) _ rfl .i64 n 1 m1 rfl rfl HM1.out ?_) | (refine min_int rfl (.tmp 4) (.const (.int .i64 4096)) _ rfl .i64 m1 4096 m rfl rfl HM2.out ?_))
  go_ret
  have hz1 := hg1.size
  have hh : w1.heap[w.heap.size]? = some (.cells (flatC (slotE (Value.int .i64)) (List.replicate m (slot0 0))).toArray 64 (0, 0)) := by
    rcases ho1.2 with ⟨h0, _⟩ | ⟨g, cap, cur, he, hg, hh, hcap, _, hcs, ht⟩
    · cases h0
    · simp only [Value.slice.injEq, Option.some.injEq, Addr.mk.injEq, and_true, true_and] at he
      obtain ⟨rfl, rfl⟩ := he
      rw [hh]
      rw [List.take_of_length_le (by simp [hcs])] at ht
      have hcur : cur = (madeCells (.agg #[.bool false, .int .i64 0, .int .i64 0, .int .i64 0] : Value).cells (m * 4)) := by
        apply Array.toList_inj.1; exact ht
      rw [hcur, made_flat (enc := slotE (Value.int .i64)) (x := slot0 0) (zc := (.agg #[.bool false, .int .i64 0, .int .i64 0, .int .i64 0] : Value).cells) (slot_len _) (by decide) rfl m]
  refine ⟨w1.heap.size, w.heap.size, rfl, by omega, Nat.le_refl _, ⟨by rw [blk_new _ _ _ rfl], ⟨[], by rw [List.append_nil]; exact blk_alloc hh _⟩, by have := blk_lt hh; omega, by simp, Nat.le_refl _, hp.1, hp.2, fun s hs => by rw [(List.mem_replicate.1 hs).2]; exact Nat.le_refl _⟩, ?_⟩
  have hb1 : Below w.heap.size w w1 := (Below.refl _ _).grown hg1 (Nat.le_refl _) (fun k hk => by cases hk)
  exact (by repeat (first | (with_reducible assumption) | (with_reducible exact Below.refl _ _) | (with_reducible apply below_drewL) | (with_reducible apply below_alloc) | (with_reducible apply below_drew1) | (with_reducible apply below_drewN) | (refine below_set ?_ (by first | omega | (simp only [size_alloc, size_drew, size_set]; omega)) _ _)))
theorem new_str (n : Int) (w : World) : Calls Try.prog 23 #[.int .i64 n] w fun e w' =>
    ∃ p r, e = .returned (.pointer (some ⟨p, 0, none⟩)) ∧ w.heap.size ≤ p ∧ w.heap.size ≤ r ∧ Tab (Value.string) 68 70 w' p r (roomN n) (roomN n) 0 (List.replicate (roomN n) (slot0 ByteArray.empty)) ∧ Below w.heap.size w w' := by
  obtain ⟨m, hm⟩ : ∃ m, roomN n = m := ⟨_, rfl⟩
  have hp := roomN_pos n
  rw [hm] at hp ⊢
  obtain ⟨m1, hm1⟩ : ∃ m1 : Int, (if n < 1 then 1 else n) = m1 := ⟨_, rfl⟩
  have hm2 : (if (4096 : Int) < m1 then 4096 else m1) = m := by
    rw [← hm1, ← hm]; unfold roomN; split <;> split <;> (try split) <;> omega
  obtain ⟨i0, hi, hz, hs, hbb⟩ := info_of (P := Try.prog) (e := 70) (z := some (.agg #[.bool false, .int .i64 0, .int .i64 0, .string ByteArray.empty])) (s := 4) (b := 40) (by kernel_rfl)
  have HM1 := Hd.mk hm1; have HM2 := Hd.mk hm2; have HI := Hd.mk (And.intro hi (And.intro hz (And.intro hs hbb)))
  clear hm1 hm2 hi hz hs hbb hm
  go_enter Try.func23, Try.ntmps23
  go_wp2_with (first | (at_make; go_must (refine wpList_make_full _ rfl (.tmp 5) (.tmp 5) 66 rfl w.heap.size 70 i0 (.agg #[.bool false, .int .i64 0, .int .i64 0, .string ByteArray.empty]) 4 Try.underlying66 HI.out.1 HI.out.2.1 HI.out.2.2.1 .i64 .i64 m m m rfl rfl rfl rfl (by rw [HI.out.2.2.2]; omega) (by simp only [maxLen]; omega) (Nat.le_refl _) ?_; intro w1 ho1 hg1)) | (refine max_int rfl (.tmp 3) (.const (.int .i64 1)) _ rfl .i64 n 1 m1 rfl rfl HM1.out ?_) | (refine min_int rfl (.tmp 4) (.const (.int .i64 4096)) _ rfl .i64 m1 4096 m rfl rfl HM2.out ?_))
  go_ret
  have hz1 := hg1.size
  have hh : w1.heap[w.heap.size]? = some (.cells (flatC (slotE (Value.string)) (List.replicate m (slot0 ByteArray.empty))).toArray 70 (0, 0)) := by
    rcases ho1.2 with ⟨h0, _⟩ | ⟨g, cap, cur, he, hg, hh, hcap, _, hcs, ht⟩
    · cases h0
    · simp only [Value.slice.injEq, Option.some.injEq, Addr.mk.injEq, and_true, true_and] at he
      obtain ⟨rfl, rfl⟩ := he
      rw [hh]
      rw [List.take_of_length_le (by simp [hcs])] at ht
      have hcur : cur = (madeCells (.agg #[.bool false, .int .i64 0, .int .i64 0, .string ByteArray.empty] : Value).cells (m * 4)) := by
        apply Array.toList_inj.1; exact ht
      rw [hcur, made_flat (enc := slotE (Value.string)) (x := slot0 ByteArray.empty) (zc := (.agg #[.bool false, .int .i64 0, .int .i64 0, .string ByteArray.empty] : Value).cells) (slot_len _) (by decide) rfl m]
  refine ⟨w1.heap.size, w.heap.size, rfl, by omega, Nat.le_refl _, ⟨by rw [blk_new _ _ _ rfl], ⟨[], by rw [List.append_nil]; exact blk_alloc hh _⟩, by have := blk_lt hh; omega, by simp, Nat.le_refl _, hp.1, hp.2, fun s hs => by rw [(List.mem_replicate.1 hs).2]; exact Nat.le_refl _⟩, ?_⟩
  have hb1 : Below w.heap.size w w1 := (Below.refl _ _).grown hg1 (Nat.le_refl _) (fun k hk => by cases hk)
  exact (by repeat (first | (with_reducible assumption) | (with_reducible exact Below.refl _ _) | (with_reducible apply below_drewL) | (with_reducible apply below_alloc) | (with_reducible apply below_drew1) | (with_reducible apply below_drewN) | (refine below_set ?_ (by first | omega | (simp only [size_alloc, size_drew, size_set]; omega)) _ _)))

theorem low_int {p r m c B : Nat} {L} (or : Int) {w : World} (h : Tab (Value.int .i64) 54 64 w p r m c B L) : Calls Try.prog 19 #[.pointer (some ⟨p, 0, none⟩), .int .i64 or] w fun e w' => e = .returned (.int .i64 (lowUpto L or m)) ∧ Below w.heap.size w w' := by
  have h1 := h.max
  have H := Hd.mk h; clear h
  go_enter Try.func19, Try.ntmps19
  go_wp2_with (go_at_call 21; go_must (refine Calls.mono (room_int (H.out.below (by repeat (first | (with_reducible assumption) | (with_reducible exact Below.refl _ _) | (with_reducible apply below_drewL) | (with_reducible apply below_alloc) | (with_reducible apply below_drew1) | (with_reducible apply below_drewN) | (refine below_set ?_ (by first | omega | (simp only [size_alloc, size_drew, size_set]; omega)) _ _))))) ?_; rintro e w1 ⟨rfl, hw⟩; subst hw))
  go_loopw [1, 8] (fun o i wr => ∃ k : Nat, k ≤ m ∧ i = .int .i64 k ∧ (∃ x, o = .int .i64 x ∧ Hd (x = lowUpto L or k)) ∧ Hd (Below w1.heap.size w1 wr)) (fun _ i _ => m - (intOf i).toNat)
  case atStart => exact ⟨0, Nat.zero_le _, rfl, ⟨_, rfl, ⟨rfl⟩⟩, ⟨Below.refl _ _⟩⟩
  case round =>
    obtain ⟨k, hk, rfl, ⟨x, rfl, HX⟩, hb⟩ := hrel
    by_cases hlt : k < m
    · have H1 := Hd.mk (H.out.below hb.out)
      obtain ⟨s, hx⟩ : ∃ s, L[k]? = some s := ⟨_, List.getElem?_eq_getElem (by rw [H.out.len]; exact hlt)⟩
      have hc0 : wr.cell? ⟨r, k * 4, none⟩ = some (.bool s.taken) := H1.out.row.cell (j := 0) (slot_len _) hx rfl
      have hc1 : wr.cell? ⟨r, k * 4 + 1, none⟩ = some (.int .i64 s.times) := H1.out.row.cell (slot_len _) hx rfl
      have hc2 : wr.cell? ⟨r, k * 4 + 2, none⟩ = some (.int .i64 s.low) := H1.out.row.cell (slot_len _) hx rfl
      have hrl := H1.out.row.lt
      have hs := H1.out.str
      have hstep : lowUpto L or (k + 1) = if s.taken then (if s.low < x then s.low else x) else x := by
        rw [HX.out]; simp only [lowUpto, hx]
      have hsc0 := blk_cell hs 0 _ rfl; have hsf0 := blk_frozen hs 0; have hsl := blk_lt hs
      cases ht : s.taken with
      | false =>
        have HS : Hd (x = lowUpto L or (k + 1)) := ⟨by rw [hstep, ht]; rfl⟩
        rw [ht] at hc0
        clear hstep hx hs
        go_wp2_with (go_at_call 28; go_must (refine Calls.mono (free_calls _ _ _ _) ?_; rintro e w2 ⟨rfl, hb2⟩))
        go_roundw
        case rel => exact ⟨k + 1, by omega, by go_num, ⟨_, rfl, HS⟩, ⟨below_seq hb.out hb2⟩⟩
        case measure => simp [intOf]; omega
      | true =>
        obtain ⟨y, hy⟩ : ∃ y, (if s.low < x then s.low else x) = y := ⟨_, rfl⟩
        have HS : Hd (y = lowUpto L or (k + 1)) := ⟨by rw [hstep, ht, ← hy]; rfl⟩
        have HY := Hd.mk hy
        rw [ht] at hc0
        have HX2 := Hd.mk hx
        have HSs := Hd.mk hs
        clear hstep hx hy hs
        go_wp2_with (first | (refine min_int rfl (.tmp 21) (.tmp 30) _ rfl .i64 x s.low y rfl rfl HY.out ?_) | (go_at_call 28; go_must (refine Calls.mono (free_calls _ _ _ _) ?_; rintro e w2 ⟨rfl, hb2⟩; have hs2 := blk_below HSs.out hb2; clear hsc0 hsf0 hsl; clear hc0 hc1 hc2 hrl; have H2 := Hd.mk (H1.out.below hb2); have hd2 : w2.cell? ⟨r, k * 4 + 2, none⟩ = some (.int .i64 s.low) := H2.out.row.cell (slot_len _) HX2.out rfl; have hrl := H2.out.row.lt; have hs2c0 := blk_cell hs2 0 _ rfl; have hs2f0 := blk_frozen hs2 0; have hs2l := blk_lt hs2)))
        go_roundw
        case rel => exact ⟨k + 1, by omega, by go_num, ⟨_, rfl, HS⟩, ⟨below_seq hb.out hb2⟩⟩
        case measure => simp [intOf]; omega
    · obtain rfl : k = m := by omega
      go_wp2
      go_ret
      exact ⟨ret_int HX.out, hb.out⟩
theorem low_str {p r m c B : Nat} {L} (or : Int) {w : World} (h : Tab (Value.string) 68 70 w p r m c B L) : Calls Try.prog 27 #[.pointer (some ⟨p, 0, none⟩), .int .i64 or] w fun e w' => e = .returned (.int .i64 (lowUpto L or m)) ∧ Below w.heap.size w w' := by
  have h1 := h.max
  have H := Hd.mk h; clear h
  go_enter Try.func27, Try.ntmps27
  go_wp2_with (go_at_call 32; go_must (refine Calls.mono (room_str (H.out.below (by repeat (first | (with_reducible assumption) | (with_reducible exact Below.refl _ _) | (with_reducible apply below_drewL) | (with_reducible apply below_alloc) | (with_reducible apply below_drew1) | (with_reducible apply below_drewN) | (refine below_set ?_ (by first | omega | (simp only [size_alloc, size_drew, size_set]; omega)) _ _))))) ?_; rintro e w1 ⟨rfl, hw⟩; subst hw))
  go_loopw [1, 8] (fun o i wr => ∃ k : Nat, k ≤ m ∧ i = .int .i64 k ∧ (∃ x, o = .int .i64 x ∧ Hd (x = lowUpto L or k)) ∧ Hd (Below w1.heap.size w1 wr)) (fun _ i _ => m - (intOf i).toNat)
  case atStart => exact ⟨0, Nat.zero_le _, rfl, ⟨_, rfl, ⟨rfl⟩⟩, ⟨Below.refl _ _⟩⟩
  case round =>
    obtain ⟨k, hk, rfl, ⟨x, rfl, HX⟩, hb⟩ := hrel
    by_cases hlt : k < m
    · have H1 := Hd.mk (H.out.below hb.out)
      obtain ⟨s, hx⟩ : ∃ s, L[k]? = some s := ⟨_, List.getElem?_eq_getElem (by rw [H.out.len]; exact hlt)⟩
      have hc0 : wr.cell? ⟨r, k * 4, none⟩ = some (.bool s.taken) := H1.out.row.cell (j := 0) (slot_len _) hx rfl
      have hc1 : wr.cell? ⟨r, k * 4 + 1, none⟩ = some (.int .i64 s.times) := H1.out.row.cell (slot_len _) hx rfl
      have hc2 : wr.cell? ⟨r, k * 4 + 2, none⟩ = some (.int .i64 s.low) := H1.out.row.cell (slot_len _) hx rfl
      have hrl := H1.out.row.lt
      have hs := H1.out.str
      have hstep : lowUpto L or (k + 1) = if s.taken then (if s.low < x then s.low else x) else x := by
        rw [HX.out]; simp only [lowUpto, hx]
      have hsc0 := blk_cell hs 0 _ rfl; have hsf0 := blk_frozen hs 0; have hsl := blk_lt hs
      cases ht : s.taken with
      | false =>
        have HS : Hd (x = lowUpto L or (k + 1)) := ⟨by rw [hstep, ht]; rfl⟩
        rw [ht] at hc0
        clear hstep hx hs
        go_wp2_with (go_at_call 28; go_must (refine Calls.mono (free_calls _ _ _ _) ?_; rintro e w2 ⟨rfl, hb2⟩))
        go_roundw
        case rel => exact ⟨k + 1, by omega, by go_num, ⟨_, rfl, HS⟩, ⟨below_seq hb.out hb2⟩⟩
        case measure => simp [intOf]; omega
      | true =>
        obtain ⟨y, hy⟩ : ∃ y, (if s.low < x then s.low else x) = y := ⟨_, rfl⟩
        have HS : Hd (y = lowUpto L or (k + 1)) := ⟨by rw [hstep, ht, ← hy]; rfl⟩
        have HY := Hd.mk hy
        rw [ht] at hc0
        have HX2 := Hd.mk hx
        have HSs := Hd.mk hs
        clear hstep hx hy hs
        go_wp2_with (first | (refine min_int rfl (.tmp 21) (.tmp 30) _ rfl .i64 x s.low y rfl rfl HY.out ?_) | (go_at_call 28; go_must (refine Calls.mono (free_calls _ _ _ _) ?_; rintro e w2 ⟨rfl, hb2⟩; have hs2 := blk_below HSs.out hb2; clear hsc0 hsf0 hsl; clear hc0 hc1 hc2 hrl; have H2 := Hd.mk (H1.out.below hb2); have hd2 : w2.cell? ⟨r, k * 4 + 2, none⟩ = some (.int .i64 s.low) := H2.out.row.cell (slot_len _) HX2.out rfl; have hrl := H2.out.row.lt; have hs2c0 := blk_cell hs2 0 _ rfl; have hs2f0 := blk_frozen hs2 0; have hs2l := blk_lt hs2)))
        go_roundw
        case rel => exact ⟨k + 1, by omega, by go_num, ⟨_, rfl, HS⟩, ⟨below_seq hb.out hb2⟩⟩
        case measure => simp [intOf]; omega
    · obtain rfl : k = m := by omega
      go_wp2
      go_ret
      exact ⟨ret_int HX.out, hb.out⟩
end Go.Proofs.Ytofknjoaemiebaa.Fn
