/- What Raise and At compute. -/
import Derived.Test.YtbdnhdecclndfaaR1
namespace Go.Proofs.Ytbdnhdecclndfaa.Fn
open Go Go.RowKit Go.Proofs.Ytbdnhdecclndfaa.Can Go.Proofs.Ytbdnhdecclndfaa.Base
attribute [local go_sem] clsB AB.cell

def newFl (f : Int) (fl e : Nat) : Nat := if f < fl then fl else if e < f then e else f.toNat
theorem newFl_ge (f : Int) {fl e : Nat} (h : fl ≤ e) : fl ≤ newFl f fl e ∧ newFl f fl e ≤ e := by unfold newFl; split <;> (try split) <;> omega
theorem raise_calls (f : Int) {p r m fl : Nat} {all rs : List UInt8} {w : World} (h : Rg w p r m fl all rs) (hE : all.length ≤ 1000000000) : Calls Try.prog 10 #[.pointer (some ⟨p, 0, none⟩), .int .i64 f] w fun e w' =>
    e = .returned (.int .i64 ((newFl f fl all.length - fl : Nat) : Int)) ∧ Rg w' p r m (newFl f fl all.length) all rs ∧ Fr (fun b => b = p) w w' := by
  have hs := h.str
  have h1 := h.max
  have h2 := h.pos
  have h3 := h.fle
  have h4 := h.room
  obtain ⟨e, he⟩ : ∃ e, all.length = e := ⟨_, rfl⟩
  rw [he] at hs h3 h4
  have HE := Hd.mk he; clear he
  have hsc0 := blk_cell hs 0 _ rfl; have hsf0 := blk_frozen hs 0; have hsc1 := blk_cell hs 1 _ rfl; have hsf1 := blk_frozen hs 1; have hsc2 := blk_cell hs 2 _ rfl; have hsf2 := blk_frozen hs 2; have hsl := blk_lt hs
  have H := Hd.mk h; clear h
  rw [HE.out] at hE
  by_cases c1 : f < fl
  · have c2 : (fl : Int) ≤ e := by omega
    have HQ : Hd (newFl f fl e = fl) := ⟨by unfold newFl; first | rw [if_pos (by omega)] | (rw [if_neg (by omega)]; first | rw [if_pos (by omega)] | (rw [if_neg (by omega)]; omega))⟩
    rw [HE.out, HQ.out]
    go_enter Try.func10, Try.ntmps10
    go_wp2_with (go_at_call 20; go_must (refine Calls.mono (made_calls H.out) ?_; rintro e w1 ⟨rfl, rfl⟩))
    refine wp_region_can (.q [0, 1, 2, 3, 4, 5, 6, 7, 8, 9, 10, 11, 12, 13] (.e 14 false (.done))) (clsB _) (by kernel_rfl) (by kernel_rfl) (by intro _ _ d _ _ h; cases d <;> exact h) (clsB_drew _) ?_
    refine can_q (l := [⟨_,_,_,_,_,_⟩, ⟨_,_,_,_,_,_⟩, ⟨_,_,_,_,_,_⟩, ⟨_,_,_,_,_,_⟩, ⟨_,_,_,_,_,_⟩, ⟨_,_,_,_,_,_⟩, ⟨_,_,_,_,_,_⟩, ⟨_,_,_,_,_,_⟩, ⟨_,_,_,_,_,_⟩, ⟨_,_,_,_,_,_⟩, ⟨_,_,_,_,_,_⟩, ⟨_,_,_,_,_,_⟩, ⟨_,_,_,_,_,_⟩, ⟨_,_,_,_,_,_⟩]) rfl ?_
    repeat (go_big_quiet_step (fail))
    refine wpQuiet_nil ?_
    refine can_e (o := ⟨_,_,_,_,_,_⟩) rfl (fun K hK => ?_)
    go_wp2_with fail
    refine onK_normal (hK _ _ ⟨fun _ => True, trivial, (fun h => by cases h), ?_⟩)
    clear hK K
    refine can_done ?_
    go_wp2
    go_ret
    have hq := newFl_ge f (fl := fl) (e := e) h3
    rw [HQ.out] at hq
    refine ⟨ret_int (by omega), ⟨blk_drew (blk_set hs 1 _ _ (by rw [HE.out]; rfl)), (H.out.row.far (p := ⟨p, 1, none⟩) (Ne.symm H.out.ne) _).move rfl, H.out.ne, H.out.len, h2, h1, by rw [HE.out]; exact hq.2, by rw [HE.out]; omega, fun i hi hl => H.out.ok i (by omega) hl⟩, (Fr.set (Fr.refl (fun b => b = p) _) (.inl rfl) _ _).drew⟩
  · by_cases c2 : (e : Int) < f
    · have c3 := c2
      have HQ : Hd (newFl f fl e = e) := ⟨by unfold newFl; first | rw [if_pos (by omega)] | (rw [if_neg (by omega)]; first | rw [if_pos (by omega)] | (rw [if_neg (by omega)]; omega))⟩
      rw [HE.out, HQ.out]
      go_enter Try.func10, Try.ntmps10
      go_wp2_with (go_at_call 20; go_must (refine Calls.mono (made_calls H.out) ?_; rintro e w1 ⟨rfl, rfl⟩))
      refine wp_region_can (.q [0, 1, 2, 3, 4, 5, 6, 7, 8, 9, 10, 11, 12, 13] (.e 14 false (.done))) (clsB _) (by kernel_rfl) (by kernel_rfl) (by intro _ _ d _ _ h; cases d <;> exact h) (clsB_drew _) ?_
      refine can_q (l := [⟨_,_,_,_,_,_⟩, ⟨_,_,_,_,_,_⟩, ⟨_,_,_,_,_,_⟩, ⟨_,_,_,_,_,_⟩, ⟨_,_,_,_,_,_⟩, ⟨_,_,_,_,_,_⟩, ⟨_,_,_,_,_,_⟩, ⟨_,_,_,_,_,_⟩, ⟨_,_,_,_,_,_⟩, ⟨_,_,_,_,_,_⟩, ⟨_,_,_,_,_,_⟩, ⟨_,_,_,_,_,_⟩, ⟨_,_,_,_,_,_⟩, ⟨_,_,_,_,_,_⟩]) rfl ?_
      repeat (go_big_quiet_step (fail))
      refine wpQuiet_nil ?_
      refine can_e (o := ⟨_,_,_,_,_,_⟩) rfl (fun K hK => ?_)
      go_wp2_with fail
      refine onK_normal (hK _ _ ⟨fun _ => True, trivial, (fun h => by cases h), ?_⟩)
      clear hK K
      refine can_done ?_
      go_wp2
      go_ret
      have hq := newFl_ge f (fl := fl) (e := e) h3
      rw [HQ.out] at hq
      refine ⟨ret_int (by omega), ⟨blk_drew (blk_set hs 1 _ _ (by rw [HE.out]; rfl)), (H.out.row.far (p := ⟨p, 1, none⟩) (Ne.symm H.out.ne) _).move rfl, H.out.ne, H.out.len, h2, h1, by rw [HE.out]; exact hq.2, by rw [HE.out]; omega, fun i hi hl => H.out.ok i (by omega) hl⟩, (Fr.set (Fr.refl (fun b => b = p) _) (.inl rfl) _ _).drew⟩
    · obtain ⟨n, rfl⟩ : ∃ n : Nat, f = n := ⟨f.toNat, by omega⟩
      have c3 : (fl : Int) ≤ n := by omega
      have c4 : (n : Int) ≤ e := by omega
      have HQ : Hd (newFl (n : Int) fl e = n) := ⟨by unfold newFl; first | rw [if_pos (by omega)] | (rw [if_neg (by omega)]; first | rw [if_pos (by omega)] | (rw [if_neg (by omega)]; omega))⟩
      rw [HE.out, HQ.out]
      go_enter Try.func10, Try.ntmps10
      go_wp2_with (go_at_call 20; go_must (refine Calls.mono (made_calls H.out) ?_; rintro e w1 ⟨rfl, rfl⟩))
      refine wp_region_can (.q [0, 1, 2, 3, 4, 5, 6, 7, 8, 9, 10, 11, 12, 13] (.e 14 false (.done))) (clsB _) (by kernel_rfl) (by kernel_rfl) (by intro _ _ d _ _ h; cases d <;> exact h) (clsB_drew _) ?_
      refine can_q (l := [⟨_,_,_,_,_,_⟩, ⟨_,_,_,_,_,_⟩, ⟨_,_,_,_,_,_⟩, ⟨_,_,_,_,_,_⟩, ⟨_,_,_,_,_,_⟩, ⟨_,_,_,_,_,_⟩, ⟨_,_,_,_,_,_⟩, ⟨_,_,_,_,_,_⟩, ⟨_,_,_,_,_,_⟩, ⟨_,_,_,_,_,_⟩, ⟨_,_,_,_,_,_⟩, ⟨_,_,_,_,_,_⟩, ⟨_,_,_,_,_,_⟩, ⟨_,_,_,_,_,_⟩]) rfl ?_
      repeat (go_big_quiet_step (fail))
      refine wpQuiet_nil ?_
      refine can_e (o := ⟨_,_,_,_,_,_⟩) rfl (fun K hK => ?_)
      go_wp2_with fail
      refine onK_normal (hK _ _ ⟨fun _ => True, trivial, (fun h => by cases h), ?_⟩)
      clear hK K
      refine can_done ?_
      go_wp2
      go_ret
      have hq := newFl_ge (n : Int) (fl := fl) (e := e) h3
      rw [HQ.out] at hq
      refine ⟨ret_int (by omega), ⟨blk_drew (blk_set hs 1 _ _ (by rw [HE.out]; rfl)), (H.out.row.far (p := ⟨p, 1, none⟩) (Ne.symm H.out.ne) _).move rfl, H.out.ne, H.out.len, h2, h1, by rw [HE.out]; exact hq.2, by rw [HE.out]; omega, fun i hi hl => H.out.ok i (by omega) hl⟩, (Fr.set (Fr.refl (fun b => b = p) _) (.inl rfl) _ _).drew⟩
theorem atno_calls (i : Int) {p r m fl : Nat} {all rs : List UInt8} {w : World} (h : Rg w p r m fl all rs) (hi : i < fl ∨ (all.length : Int) ≤ i) : Calls Try.prog 16 #[.pointer (some ⟨p, 0, none⟩), .int .i64 i] w fun e w' => e = .returned (.tuple #[.int .u8 0, .bool false]) ∧ Below w.heap.size w w' := by
  have hs := h.str
  have h1 := h.max
  have h2 := h.pos
  have h3 := h.fle
  have h4 := h.room
  obtain ⟨e, he⟩ : ∃ e, all.length = e := ⟨_, rfl⟩
  rw [he] at hs h3 h4
  have HE := Hd.mk he; clear he
  have hsc0 := blk_cell hs 0 _ rfl; have hsf0 := blk_frozen hs 0; have hsc1 := blk_cell hs 1 _ rfl; have hsf1 := blk_frozen hs 1; have hsc2 := blk_cell hs 2 _ rfl; have hsf2 := blk_frozen hs 2; have hsl := blk_lt hs
  have H := Hd.mk h; clear h
  rw [HE.out] at hi
  by_cases c1 : i < fl
  · clear hi
    go_enter Try.func16, Try.ntmps16
    go_wp2_with (go_at_call 20; go_must (refine Calls.mono (made_calls H.out) ?_; rintro e w1 ⟨rfl, rfl⟩))
    go_ret2
    exact ⟨rfl, (by repeat (first | (with_reducible assumption) | (with_reducible exact Below.refl _ _) | (with_reducible apply below_drewL) | (with_reducible apply below_alloc) | (with_reducible apply below_drew1) | (with_reducible apply below_drewN) | (refine below_set ?_ (by first | omega | (simp only [size_alloc, size_drew, size_set]; omega)) _ _)))⟩
  · have c2 : (e : Int) ≤ i := by omega
    clear hi
    go_enter Try.func16, Try.ntmps16
    go_wp2_with (go_at_call 20; go_must (refine Calls.mono (made_calls H.out) ?_; rintro e w1 ⟨rfl, rfl⟩))
    go_ret2
    exact ⟨rfl, (by repeat (first | (with_reducible assumption) | (with_reducible exact Below.refl _ _) | (with_reducible apply below_drewL) | (with_reducible apply below_alloc) | (with_reducible apply below_drew1) | (with_reducible apply below_drewN) | (refine below_set ?_ (by first | omega | (simp only [size_alloc, size_drew, size_set]; omega)) _ _)))⟩
theorem at_calls (i : Nat) {b : UInt8} {p r m fl : Nat} {all rs : List UInt8} {w : World} (h : Rg w p r m fl all rs) (hi : fl ≤ i) (hx : all[i]? = some b) : Calls Try.prog 16 #[.pointer (some ⟨p, 0, none⟩), .int .i64 i] w fun e w' => e = .returned (.tuple #[.int .u8 (b.toNat : Int), .bool true]) ∧ Below w.heap.size w w' := by
  have hil : i < all.length := (List.getElem?_eq_some_iff.1 hx).1
  have hr := h.ok i hi hil
  rw [hx] at hr
  have hs := h.str
  have h1 := h.max
  have h2 := h.pos
  have h3 := h.fle
  have h4 := h.room
  obtain ⟨e, he⟩ : ∃ e, all.length = e := ⟨_, rfl⟩
  rw [he] at hs h3 h4
  have HE := Hd.mk he; clear he
  have hsc0 := blk_cell hs 0 _ rfl; have hsf0 := blk_frozen hs 0; have hsc1 := blk_cell hs 1 _ rfl; have hsf1 := blk_frozen hs 1; have hsc2 := blk_cell hs 2 _ rfl; have hsf2 := blk_frozen hs 2; have hsl := blk_lt hs
  have H := Hd.mk h; clear h
  rw [HE.out] at hil
  have c1 : (fl : Int) ≤ i := by omega
  have c2 : (i : Int) < e := by omega
  obtain ⟨j, hj⟩ : ∃ j, i % m = j := ⟨_, rfl⟩
  have hjm : j < m := by rw [← hj]; exact Nat.mod_lt _ h2
  rw [hj] at hr
  have hcell : w.cell? ⟨r, j, none⟩ = some (.int .u8 (b.toNat : Int)) := by have := H.out.row.cell (j := 0) u_len hr rfl; simpa using this
  have hrl := H.out.row.lt
  have HJ := Hd.mk hj
  clear hj hr hx
  go_enter Try.func16, Try.ntmps16
  go_wp2_with (go_at_call 20; go_must (refine Calls.mono (made_calls H.out) ?_; rintro e w1 ⟨rfl, rfl⟩))
  refine wp_region_can (.q [0, 1, 2, 3, 4, 5] (.e 6 true (.q [7, 8, 9, 10] (.done)))) (clsB _) (by kernel_rfl) (by kernel_rfl) (by intro _ _ d _ _ h; cases d <;> exact h) (clsB_drew _) ?_
  refine can_q (l := [⟨_,_,_,_,_,_⟩, ⟨_,_,_,_,_,_⟩, ⟨_,_,_,_,_,_⟩, ⟨_,_,_,_,_,_⟩, ⟨_,_,_,_,_,_⟩, ⟨_,_,_,_,_,_⟩]) rfl ?_
  repeat (go_big_quiet_step (fail))
  refine wpQuiet_nil ?_
  refine can_e (o := ⟨_,_,_,_,_,_⟩) rfl (fun K hK => ?_)
  go_wp2_with (go_at_call 19; go_must (refine Calls.mono (place_calls i (H.out.below (by repeat (first | (with_reducible assumption) | (with_reducible exact Below.refl _ _) | (with_reducible apply below_drewL) | (with_reducible apply below_alloc) | (with_reducible apply below_drew1) | (with_reducible apply below_drewN) | (refine below_set ?_ (by first | omega | (simp only [size_alloc, size_drew, size_set]; omega)) _ _))))) ?_; rintro e w2 ⟨hh, rfl⟩; rw [HJ.out] at hh; subst hh))
  refine onK_normal (hK _ _ ⟨clsB _, (by first | exact clsB_drew _ | exact clsB_self _), fun _ => clsB_next (by first | exact ((by repeat (first | (with_reducible assumption) | (with_reducible exact Below.refl _ _) | (with_reducible apply below_drewL) | (with_reducible apply below_alloc) | (with_reducible apply below_drew1) | (with_reducible apply below_drewN) | (refine below_set ?_ (by first | omega | (simp only [size_alloc, size_drew, size_set]; omega)) _ _)))) | exact below_undrew ((by repeat (first | (with_reducible assumption) | (with_reducible exact Below.refl _ _) | (with_reducible apply below_drewL) | (with_reducible apply below_alloc) | (with_reducible apply below_drew1) | (with_reducible apply below_drewN) | (refine below_set ?_ (by first | omega | (simp only [size_alloc, size_drew, size_set]; omega)) _ _))))), ?_⟩)
  clear hK K
  refine can_q (l := [⟨_,_,_,_,_,_⟩, ⟨_,_,_,_,_,_⟩, ⟨_,_,_,_,_,_⟩, ⟨_,_,_,_,_,_⟩]) rfl ?_
  repeat (go_big_quiet_step (fail))
  refine wpQuiet_nil ?_
  refine can_done ?_
  go_wp2
  go_ret2
  exact ⟨rfl, (by repeat (first | (with_reducible assumption) | (with_reducible exact Below.refl _ _) | (with_reducible apply below_drewL) | (with_reducible apply below_alloc) | (with_reducible apply below_drew1) | (with_reducible apply below_drewN) | (refine below_set ?_ (by first | omega | (simp only [size_alloc, size_drew, size_set]; omega)) _ _)))⟩
end Go.Proofs.Ytbdnhdecclndfaa.Fn
