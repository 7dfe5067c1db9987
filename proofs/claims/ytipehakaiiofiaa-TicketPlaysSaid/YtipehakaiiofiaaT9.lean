/- What the reference's desk computes. -/
import Derived.Test.YtipehakaiiofiaaT8
import Derived.Test.YtipehakaiiofiaaGrow
namespace Go.Proofs.Ytipehakaiiofiaa.Fn
open Go Go.RowKit Go.Proofs.Ytipehakaiiofiaa.Can Go.Proofs.Ytipehakaiiofiaa.Base
attribute [local go_sem] clsB AB.cell

theorem info3 : (Try.prog.info? 3).map (fun i => (i.zero, i.size, i.bytes)) = some (some (.int .i64 0), 1, 8) := by kernel_rfl
abbrev I := Ty.int .i64
/-- The reference's desk: its struct in block q, its line behind it. -/
structure RefD (w : World) (q m held : Nat) (A : Option Addr) (c : Nat) (L : List Int) : Prop where
  str : w.heap[q]? = some (.cells #[.int .i64 m, .int .i64 held, .slice A L.length c] 39 (0, 0))
  cap : L.length ≤ c
  nil : A = none → c = 0
  row : Row I w (fun b => q < b ∧ b < w.heap.size) A L.length L
  m1 : m ≤ 4096
  held_ : held ≤ m
  in_ : L.length ≤ held
theorem RefD.fr {w w' : World} {q m held : Nat} {A : Option Addr} {c : Nat} {L : List Int} (h : RefD w q m held A c L) (hm : ∀ b, q ≤ b → b < w.heap.size → w'.heap[b]? = w.heap[b]?) (hz : w.heap.size ≤ w'.heap.size) : RefD w' q m held A c L :=
  ⟨(hm q (Nat.le_refl _) (blk_lt h.str)).trans h.str, h.cap, h.nil, (h.row.move fun b hb => hm b (by omega) hb.2).mono fun b hb => ⟨hb.1, by omega⟩, h.m1, h.held_, h.in_⟩

theorem rnew_calls (n : Int) (w : World) : Calls Try.prog 15 #[.int .i64 n] w fun e w' =>
    ∃ q, e = .returned (.pointer (some ⟨q, 0, none⟩)) ∧ w.heap.size ≤ q ∧ RefD w' q (seatsN n) 0 none 0 [] ∧ Below w.heap.size w w' := by
  obtain ⟨m, hm⟩ : ∃ m, seatsN n = m := ⟨_, rfl⟩
  have hp := seatsN_pos n
  rw [hm] at hp ⊢
  have HM := Hd.mk hm; clear hm
  by_cases h1 : n < 1
  · have h2 : m = 1 := by rw [← HM.out]; unfold seatsN; rw [if_pos h1]; rfl
    subst h2
    go_enter Try.func15, Try.ntmps15
    go_wp2
    go_ret
    exact ⟨_, rfl, Nat.le_refl _, ⟨by rw [blk_new _ _ _ rfl]; rfl, Nat.le_refl _, fun _ => rfl, Row.nil _ _ _ _, hp.2, Nat.zero_le _, Nat.le_refl _⟩, (by repeat (first | (with_reducible assumption) | (with_reducible exact Below.refl _ _) | (with_reducible apply below_drewL) | (with_reducible apply below_alloc) | (with_reducible apply below_drew1) | (with_reducible apply below_drewN) | (refine below_set ?_ (by first | omega | (simp only [size_alloc, size_drew, size_set]; omega)) _ _)))⟩
  · by_cases h2 : 4096 < n
    · have h3 : m = 4096 := by rw [← HM.out]; unfold seatsN; rw [if_neg h1, if_pos h2]; rfl
      subst h3
      go_enter Try.func15, Try.ntmps15
      go_wp2
      go_ret
      exact ⟨_, rfl, Nat.le_refl _, ⟨by rw [blk_new _ _ _ rfl]; rfl, Nat.le_refl _, fun _ => rfl, Row.nil _ _ _ _, hp.2, Nat.zero_le _, Nat.le_refl _⟩, (by repeat (first | (with_reducible assumption) | (with_reducible exact Below.refl _ _) | (with_reducible apply below_drewL) | (with_reducible apply below_alloc) | (with_reducible apply below_drew1) | (with_reducible apply below_drewN) | (refine below_set ?_ (by first | omega | (simp only [size_alloc, size_drew, size_set]; omega)) _ _)))⟩
    · have h3 : n = m := by rw [← HM.out]; unfold seatsN; rw [if_neg h1, if_neg h2]; omega
      subst h3
      go_enter Try.func15, Try.ntmps15
      go_wp2
      go_ret
      exact ⟨_, rfl, Nat.le_refl _, ⟨by rw [blk_new _ _ _ rfl]; rfl, Nat.le_refl _, fun _ => rfl, Row.nil _ _ _ _, hp.2, Nat.zero_le _, Nat.le_refl _⟩, (by repeat (first | (with_reducible assumption) | (with_reducible exact Below.refl _ _) | (with_reducible apply below_drewL) | (with_reducible apply below_alloc) | (with_reducible apply below_drew1) | (with_reducible apply below_drewN) | (refine below_set ?_ (by first | omega | (simp only [size_alloc, size_drew, size_set]; omega)) _ _)))⟩

theorem rseat_calls {q m held : Nat} {A : Option Addr} {c : Nat} {L : List Int} {w : World} (h : RefD w q m held A c L) : Calls Try.prog 16 #[.pointer (some ⟨q, 0, none⟩)] w fun e w' =>
    e = .returned (.bool (decide (held < m))) ∧ RefD w' q m (if held < m then held + 1 else held) A c L ∧ Fr (fun b => b = q) w w' := by
  have hs := h.str
  have hm1 := h.m1
  have hh := h.held_
  have hsc0 := blk_cell hs 0 _ rfl; have hsf0 := blk_frozen hs 0; have hsc1 := blk_cell hs 1 _ rfl; have hsf1 := blk_frozen hs 1; have hsc2 := blk_cell hs 2 _ rfl; have hsf2 := blk_frozen hs 2; have hsl := blk_lt hs
  have H := Hd.mk h; clear h
  by_cases hc : held < m
  · have h0 : (held : Int) < m := by omega
    go_enter Try.func16, Try.ntmps16
    go_wp2
    refine wp_region_can (.q [0, 1, 2, 3, 4, 5, 6, 7, 8] (.done)) (clsB _) (by kernel_rfl) (by kernel_rfl) (by intro _ _ d _ _ h; cases d <;> exact h) (clsB_drew _) ?_
    refine can_q (l := [⟨_,_,_,_,_,_⟩, ⟨_,_,_,_,_,_⟩, ⟨_,_,_,_,_,_⟩, ⟨_,_,_,_,_,_⟩, ⟨_,_,_,_,_,_⟩, ⟨_,_,_,_,_,_⟩, ⟨_,_,_,_,_,_⟩, ⟨_,_,_,_,_,_⟩, ⟨_,_,_,_,_,_⟩]) rfl ?_
    repeat (go_big_quiet_step (fail))
    refine wpQuiet_nil ?_
    refine can_done ?_
    go_wp2
    go_ret
    try rw [if_pos hc]
    refine ⟨by first | rfl | exact ret_bool (by simp [hc]), ⟨blk_drew (blk_set hs 1 _ _ rfl), H.out.cap, H.out.nil, ?_, hm1, hc, by have := H.out.in_; omega⟩, (Fr.set (Fr.refl (fun b => b = q) _) (.inl rfl) _ _).drew⟩
    exact ((H.out.row.set (fun b hb => by omega) _).move fun b hb => rfl).mono fun b hb => ⟨hb.1, by simp only [size_drew, size_set]; exact hb.2⟩
  · have h0 : ¬ (held : Int) < m := by omega
    go_enter Try.func16, Try.ntmps16
    go_wp2
    refine wp_region_can (.q [0, 1, 2, 3, 4, 5, 6, 7, 8] (.done)) (clsB _) (by kernel_rfl) (by kernel_rfl) (by intro _ _ d _ _ h; cases d <;> exact h) (clsB_drew _) ?_
    refine can_q (l := [⟨_,_,_,_,_,_⟩, ⟨_,_,_,_,_,_⟩, ⟨_,_,_,_,_,_⟩, ⟨_,_,_,_,_,_⟩, ⟨_,_,_,_,_,_⟩, ⟨_,_,_,_,_,_⟩, ⟨_,_,_,_,_,_⟩, ⟨_,_,_,_,_,_⟩, ⟨_,_,_,_,_,_⟩]) rfl ?_
    repeat (go_big_quiet_step (fail))
    refine wpQuiet_nil ?_
    refine can_done ?_
    go_wp2
    go_ret
    try rw [if_neg hc]
    exact ⟨by first | rfl | exact ret_bool (by simp [hc]), H.out.fr (fun _ _ _ => rfl) (Nat.le_refl _), (Fr.refl _ _).drew⟩

theorem rleave_calls {q m held : Nat} {A : Option Addr} {c : Nat} {L : List Int} {w : World} (h : RefD w q m held A c L) : Calls Try.prog 19 #[.pointer (some ⟨q, 0, none⟩)] w fun e w' =>
    e = .returned (.bool (decide (L.length < held))) ∧ RefD w' q m (if L.length < held then held - 1 else held) A c L ∧ Fr (fun b => b = q) w w' := by
  have hs := h.str
  have hm1 := h.m1
  have hh := h.held_
  have hsc0 := blk_cell hs 0 _ rfl; have hsf0 := blk_frozen hs 0; have hsc1 := blk_cell hs 1 _ rfl; have hsf1 := blk_frozen hs 1; have hsc2 := blk_cell hs 2 _ rfl; have hsf2 := blk_frozen hs 2; have hsl := blk_lt hs
  have H := Hd.mk h; clear h
  by_cases hc : L.length < held
  · have h0 : ¬ (held : Int) ≤ L.length := by omega
    go_enter Try.func19, Try.ntmps19
    go_wp2
    refine wp_region_can (.q [0, 1, 2, 3, 4, 5, 6, 7, 8, 9] (.done)) (clsB _) (by kernel_rfl) (by kernel_rfl) (by intro _ _ d _ _ h; cases d <;> exact h) (clsB_drew _) ?_
    refine can_q (l := [⟨_,_,_,_,_,_⟩, ⟨_,_,_,_,_,_⟩, ⟨_,_,_,_,_,_⟩, ⟨_,_,_,_,_,_⟩, ⟨_,_,_,_,_,_⟩, ⟨_,_,_,_,_,_⟩, ⟨_,_,_,_,_,_⟩, ⟨_,_,_,_,_,_⟩, ⟨_,_,_,_,_,_⟩, ⟨_,_,_,_,_,_⟩]) rfl ?_
    repeat (go_big_quiet_step (fail))
    refine wpQuiet_nil ?_
    refine can_done ?_
    go_wp2
    go_ret
    try rw [if_pos hc]
    have he : (held : Int) - 1 = ((held - 1 : Nat) : Int) := by omega
    rw [he]
    refine ⟨by first | rfl | exact ret_bool (by simp [hc]), ⟨blk_drew (blk_set hs 1 _ _ rfl), H.out.cap, H.out.nil, ?_, hm1, by omega, by omega⟩, (Fr.set (Fr.refl (fun b => b = q) _) (.inl rfl) _ _).drew⟩
    exact ((H.out.row.set (fun b hb => by omega) _).move fun b hb => rfl).mono fun b hb => ⟨hb.1, by simp only [size_drew, size_set]; exact hb.2⟩
  · have h0 : (held : Int) ≤ L.length := by omega
    go_enter Try.func19, Try.ntmps19
    go_wp2
    refine wp_region_can (.q [0, 1, 2, 3, 4, 5, 6, 7, 8, 9] (.done)) (clsB _) (by kernel_rfl) (by kernel_rfl) (by intro _ _ d _ _ h; cases d <;> exact h) (clsB_drew _) ?_
    refine can_q (l := [⟨_,_,_,_,_,_⟩, ⟨_,_,_,_,_,_⟩, ⟨_,_,_,_,_,_⟩, ⟨_,_,_,_,_,_⟩, ⟨_,_,_,_,_,_⟩, ⟨_,_,_,_,_,_⟩, ⟨_,_,_,_,_,_⟩, ⟨_,_,_,_,_,_⟩, ⟨_,_,_,_,_,_⟩, ⟨_,_,_,_,_,_⟩]) rfl ?_
    repeat (go_big_quiet_step (fail))
    refine wpQuiet_nil ?_
    refine can_done ?_
    go_wp2
    go_ret
    try rw [if_neg hc]
    exact ⟨by first | rfl | exact ret_bool (by simp [hc]), H.out.fr (fun _ _ _ => rfl) (Nat.le_refl _), (Fr.refl _ _).drew⟩

theorem rline_calls (v : Int) {q m held : Nat} {A : Option Addr} {c : Nat} {L : List Int} {w : World} (h : RefD w q m held A c L) : Calls Try.prog 17 #[.pointer (some ⟨q, 0, none⟩), .int .i64 v] w fun e w' =>
    e = .returned (.bool (decide (L.length < held))) ∧ (∃ A' c', RefD w' q m held A' c' (if L.length < held then L ++ [v] else L)) ∧ Fr (fun b => b = q) w w' := by
  have hs := h.str
  have hm1 := h.m1
  have hh := h.held_
  have hin := h.in_
  have hql : q < w.heap.size := blk_lt hs
  have hsc0 := blk_cell hs 0 _ rfl; have hsf0 := blk_frozen hs 0; have hsc1 := blk_cell hs 1 _ rfl; have hsf1 := blk_frozen hs 1; have hsc2 := blk_cell hs 2 _ rfl; have hsf2 := blk_frozen hs 2; have hsl := blk_lt hs
  have H := Hd.mk h; clear h
  by_cases hc : L.length < held
  · have h0 : ¬ (held : Int) ≤ L.length := by omega
    go_enter Try.func17, Try.ntmps17
    go_wp2
    refine wp_region_can (.q [0, 1, 2, 3, 4, 5, 6, 7, 8, 9] (.done)) (clsB _) (by kernel_rfl) (by kernel_rfl) (by intro _ _ d _ _ h; cases d <;> exact h) (clsB_drew _) ?_
    refine can_q (l := [⟨_,_,_,_,_,_⟩, ⟨_,_,_,_,_,_⟩, ⟨_,_,_,_,_,_⟩, ⟨_,_,_,_,_,_⟩, ⟨_,_,_,_,_,_⟩, ⟨_,_,_,_,_,_⟩, ⟨_,_,_,_,_,_⟩, ⟨_,_,_,_,_,_⟩, ⟨_,_,_,_,_,_⟩, ⟨_,_,_,_,_,_⟩]) rfl ?_
    repeat (go_big_quiet_step (fail))
    refine wpQuiet_nil ?_
    refine can_done ?_
    go_wp2_with (first
      | (at_builtin; have hq_ := hs; clear hq_; go_must (refine append_row I (Ty.int_flat _) rfl (.tmp 16) (.tmp 20) 36 3 _ 8 rfl Try.underlying36 info3 rfl (by decide) (by decide) w.heap.size (.slice (some ⟨w.heap.size, 0, none⟩) 0 0) [] L A L.length c rfl rfl H.out.nil (Mine.empty I w.drew rfl (Nat.le_refl _)) (H.out.row.below (fun k hk => hk.2) (by repeat (first | (with_reducible assumption) | (with_reducible exact Below.refl _ _) | (with_reducible apply below_drewL) | (with_reducible apply below_alloc) | (with_reducible apply below_drew1) | (with_reducible apply below_drewN) | (refine below_set ?_ (by first | omega | (simp only [size_alloc, size_drew, size_set]; omega)) _ _)))) (fun k hk => ⟨by simp only [size_alloc, size_drew]; have := hk.2; omega, ownBlock_ne hk.2⟩) (by simp only [size_alloc, size_drew]; omega) (by simp only [List.length_nil]; omega) ?_; intro v1 w1 hM1 hb1 hk1 hat1; rw [List.nil_append] at hM1; have hq1 := (hk1 q (by simp only [size_alloc, size_drew]; omega) (ownBlock_ne hsl)).trans (blk_alloc (blk_drew hs) _); clear hsc0 hsf0 hsc1 hsf1 hsc2 hsf2 hsl; clear hs hk1 hat1; obtain ⟨A1, c1, rfl, hc1, hA1, hR1⟩ := hM1.form; have hq1c0 := blk_cell hq1 0 _ rfl; have hq1f0 := blk_frozen hq1 0; have hq1c1 := blk_cell hq1 1 _ rfl; have hq1f1 := blk_frozen hq1 1; have hq1c2 := blk_cell hq1 2 _ rfl; have hq1f2 := blk_frozen hq1 2; have hq1l := blk_lt hq1; have hz1 := hb1.size; simp only [size_alloc, size_drew] at hz1; replace hb1 : Below w.heap.size w w1 := Below.trans (by repeat (first | (with_reducible assumption) | (with_reducible exact Below.refl _ _) | (with_reducible apply below_drewL) | (with_reducible apply below_alloc) | (with_reducible apply below_drew1) | (with_reducible apply below_drewN) | (refine below_set ?_ (by first | omega | (simp only [size_alloc, size_drew, size_set]; omega)) _ _))) hb1))
      | (at_builtin; go_must (refine append_snoc I (Ty.int_flat _) rfl (.tmp 21) (.tmp 23) 36 3 _ 8 rfl Try.underlying36 info3 rfl (by decide) (by decide) w.heap.size (.slice A1 L.length c1) L v [.int .i64 v] w1.heap.size rfl rfl (blk_new _ _ _ rfl) rfl (hM1.below (by repeat (first | (with_reducible assumption) | (with_reducible exact Below.refl _ _) | (with_reducible apply below_drewL) | (with_reducible apply below_alloc) | (with_reducible apply below_drew1) | (with_reducible apply below_drewN) | (refine below_set ?_ (by first | omega | (simp only [size_alloc, size_drew, size_set]; omega)) _ _)))) (hM1.ne_new (Nat.le_refl _)) (by simp only [size_alloc]; omega) (by omega) ?_; intro v2 w2 hM2 hb2 hk2 hat2; have hq2 := (hk2 q (by simp only [size_alloc]; omega) (hM1.ne_old (by omega))).trans (blk_alloc hq1 _); clear hq1c0 hq1f0 hq1c1 hq1f1 hq1c2 hq1f2 hq1l; clear hk2 hat2; obtain ⟨A2, c2, rfl, hc2, hA2, hR2⟩ := hM2.form; have hq2c0 := blk_cell hq2 0 _ rfl; have hq2f0 := blk_frozen hq2 0; have hq2c1 := blk_cell hq2 1 _ rfl; have hq2f1 := blk_frozen hq2 1; have hq2c2 := blk_cell hq2 2 _ rfl; have hq2f2 := blk_frozen hq2 2; have hq2l := blk_lt hq2; have hz2 := hb2.size; simp only [size_alloc] at hz2; replace hb2 : Below w.heap.size w w2 := Below.trans (hb1.alloc hb1.size _) hb2)))
    go_ret
    try rw [if_pos hc]
    have hql : q < w.heap.size := blk_lt H.out.str
    refine ⟨by first | rfl | exact ret_bool (by simp [hc]), ⟨A2, c2, ⟨blk_set hq2 2 _ _ (by simp), hc2, hA2, ?_, hm1, hh, by simp; omega⟩⟩, Fr.set (X := fun b => b = q) (Fr.of_below hb2) (.inl rfl) _ _⟩
    exact (hR2.set (fun b hb => by omega) _).mono fun b hb => ⟨by omega, by rw [size_set]; exact hb.2⟩
  · have h0 : (held : Int) ≤ L.length := by omega
    go_enter Try.func17, Try.ntmps17
    go_wp2
    refine wp_region_can (.q [0, 1, 2, 3, 4, 5, 6, 7, 8, 9] (.done)) (clsB _) (by kernel_rfl) (by kernel_rfl) (by intro _ _ d _ _ h; cases d <;> exact h) (clsB_drew _) ?_
    refine can_q (l := [⟨_,_,_,_,_,_⟩, ⟨_,_,_,_,_,_⟩, ⟨_,_,_,_,_,_⟩, ⟨_,_,_,_,_,_⟩, ⟨_,_,_,_,_,_⟩, ⟨_,_,_,_,_,_⟩, ⟨_,_,_,_,_,_⟩, ⟨_,_,_,_,_,_⟩, ⟨_,_,_,_,_,_⟩, ⟨_,_,_,_,_,_⟩]) rfl ?_
    repeat (go_big_quiet_step (fail))
    refine wpQuiet_nil ?_
    refine can_done ?_
    go_wp2
    go_ret
    try rw [if_neg hc]
    exact ⟨by first | rfl | exact ret_bool (by simp [hc]), ⟨_, _, H.out.fr (fun _ _ _ => rfl) (Nat.le_refl _)⟩, (Fr.refl _ _).drew⟩

theorem rcallnil_calls {q m held : Nat} {A : Option Addr} {c : Nat} {w : World} (h : RefD w q m held A c []) : Calls Try.prog 18 #[.pointer (some ⟨q, 0, none⟩)] w fun e w' =>
    e = .returned (.tuple #[.int .i64 0, .bool false]) ∧ w' = w := by
  have hs := h.str
  have hsc0 := blk_cell hs 0 _ rfl; have hsf0 := blk_frozen hs 0; have hsc1 := blk_cell hs 1 _ rfl; have hsf1 := blk_frozen hs 1; have hsc2 := blk_cell hs 2 _ rfl; have hsf2 := blk_frozen hs 2; have hsl := blk_lt hs
  clear h
  go_enter Try.func18, Try.ntmps18
  go_wp2
  go_ret2
  exact ⟨rfl, rfl⟩
theorem rcall_calls {q m held : Nat} {A : Option Addr} {c : Nat} {v : Int} {L : List Int} {w : World} (h : RefD w q m held A c (v :: L)) : Calls Try.prog 18 #[.pointer (some ⟨q, 0, none⟩)] w fun e w' =>
    e = .returned (.tuple #[.int .i64 v, .bool true]) ∧ (∃ A' c', RefD w' q m held A' c' L) ∧ Fr (fun b => b = q) w w' := by
  have hs := h.str
  have hm1 := h.m1
  have hh := h.held_
  have hin := h.in_
  obtain ⟨n, hn⟩ : ∃ n, (v :: L).length = n := ⟨_, rfl⟩
  have hn' : L.length + 1 = n := by rw [← hn]; rfl
  rw [hn] at hs hin
  have hn0 : ¬ (n : Int) = 0 := by omega
  obtain ⟨b, off, x, rfl, hb0, hb1, hx, hcell⟩ := h.row.get_int 0 (by simp)
  obtain rfl : v = x := by simpa using hx
  rw [Nat.add_zero] at hcell
  obtain ⟨i0, hi, _, hi2, _⟩ := info_of info3
  have hcap := h.cap
  rw [hn] at hcap
  have hrow := h.row
  rw [hn] at hrow
  obtain ⟨A1, hcut, hrow1, hnone⟩ := cut_from I 36 3 Try.underlying36 hi hi2 (some ⟨b, off, none⟩) n c 1 (by omega) hcap
  have hr1 := Hd.mk (hrow1 w _ _ hrow)
  have hcut1 : ∀ W, (Instr.slice 36 (.slice (some ⟨b, off, none⟩) n c) (some (.int .i64 1)) none none).run Try.prog W = .ok (.slice A1 (n - 1) (c - 1)) W := fun W => hcut W .i64
  have HNo := Hd.mk hnone; have HNe := Hd.mk hn'; have HHn := Hd.mk hn
  have hsc0 := blk_cell hs 0 _ rfl; have hsf0 := blk_frozen hs 0; have hsc1 := blk_cell hs 1 _ rfl; have hsf1 := blk_frozen hs 1; have hsc2 := blk_cell hs 2 _ rfl; have hsf2 := blk_frozen hs 2; have hsl := blk_lt hs
  have H := Hd.mk h; clear h hcut hrow1 hnone hrow hi hi2 hn' hn hx
  have hn1 : n ≤ 4096 := by omega
  go_enter Try.func18, Try.ntmps18
  go_wp2_with (first
      | (at_builtin; go_must (refine append_row I (Ty.int_flat _) rfl (.tmp 18) (.tmp 23) 36 3 _ 8 rfl Try.underlying36 info3 rfl (by decide) (by decide) w.heap.size (.slice (some ⟨w.heap.size, 0, none⟩) 0 0) [] L A1 (n - 1) (c - 1) rfl rfl (HNo.out fun h => by cases h) (Mine.empty I w rfl (Nat.le_refl _)) (hr1.out.below (fun k hk => hk.2) (by repeat (first | (with_reducible assumption) | (with_reducible exact Below.refl _ _) | (with_reducible apply below_drewL) | (with_reducible apply below_alloc) | (with_reducible apply below_drew1) | (with_reducible apply below_drewN) | (refine below_set ?_ (by first | omega | (simp only [size_alloc, size_drew, size_set]; omega)) _ _)))) (fun k hk => ⟨by simp only [size_alloc, size_drew]; have := hk.2; omega, ownBlock_ne hk.2⟩) (by simp only [size_alloc, size_drew]; omega) (by simp only [List.length_nil]; omega) ?_; intro v1 w1 hM1 hb1 hk1 hat1; rw [List.nil_append] at hM1; have hq1 := (hk1 q (by simp only [size_alloc, size_drew]; omega) (ownBlock_ne hsl)).trans (blk_alloc hs _); clear hsc0 hsf0 hsc1 hsf1 hsc2 hsf2 hsl; clear hs hk1 hat1; obtain ⟨A2, c1, rfl, hc1, hA1, hR1⟩ := hM1.form; have hq1c0 := blk_cell hq1 0 _ rfl; have hq1f0 := blk_frozen hq1 0; have hq1c1 := blk_cell hq1 1 _ rfl; have hq1f1 := blk_frozen hq1 1; have hq1c2 := blk_cell hq1 2 _ rfl; have hq1f2 := blk_frozen hq1 2; have hq1l := blk_lt hq1; have hz1 := hb1.size; simp only [size_alloc, size_drew] at hz1; replace hb1 : Below w.heap.size w w1 := Below.trans (by repeat (first | (with_reducible assumption) | (with_reducible exact Below.refl _ _) | (with_reducible apply below_drewL) | (with_reducible apply below_alloc) | (with_reducible apply below_drew1) | (with_reducible apply below_drewN) | (refine below_set ?_ (by first | omega | (simp only [size_alloc, size_drew, size_set]; omega)) _ _))) hb1)))
  go_ret2
  have hql : q < w.heap.size := blk_lt H.out.str
  have hne := HNe.out
  refine ⟨rfl, ⟨A2, c1, ⟨blk_set hq1 2 _ _ rfl, hc1, hA1, ?_, hm1, hh, by omega⟩⟩, Fr.set (X := fun b => b = q) (Fr.of_below hb1) (.inl rfl) _ _⟩
  exact (hR1.set (fun b hb => by omega) _).mono fun b hb => ⟨by omega, by rw [size_set]; exact hb.2⟩
end Go.Proofs.Ytipehakaiiofiaa.Fn
