/- What a ring is in memory; what the calls that only look at it compute. -/
import Derived.Test.YtbdnhdecclndfaaProg
import Derived.Test.YtbdnhdecclndfaaFlat
import Derived.Test.YtbdnhdecclndfaaCut
namespace Go.Proofs.Ytbdnhdecclndfaa.Fn
open Go Go.RowKit Go.Proofs.Ytbdnhdecclndfaa.Can Go.Proofs.Ytbdnhdecclndfaa.Base
attribute [local go_sem] clsB AB.cell

def uE (b : UInt8) : List Value := [.int .u8 (b.toNat : Int)]
theorem u_len (b : UInt8) : (uE b).length = 1 := rfl
/-- A ring in memory: the struct in block p, the bytes in block r; all: the bytes that were ever put; fl: the floor. -/
structure Rg (w : World) (p r m fl : Nat) (all rs : List UInt8) : Prop where
  str : w.heap[p]? = some (.cells #[.slice (some ⟨r, 0, none⟩) m m, .int .i64 fl, .int .i64 all.length] 45 (0, 0))
  row : Blk uE w 5 r rs
  ne : p ≠ r
  len : rs.length = m
  pos : 0 < m
  max : m ≤ 65536
  fle : fl ≤ all.length
  room : all.length ≤ fl + m
  ok : ∀ i, fl ≤ i → i < all.length → rs[i % m]? = all[i]?
section
variable {w w' : World} {p r m fl : Nat} {all rs : List UInt8} {X : Nat → Prop}
theorem Rg.move (h : Rg w p r m fl all rs) (hp : w'.heap[p]? = w.heap[p]?) (hr : w'.heap[r]? = w.heap[r]?) : Rg w' p r m fl all rs :=
  ⟨hp.trans h.str, h.row.move hr, h.ne, h.len, h.pos, h.max, h.fle, h.room, h.ok⟩
theorem Rg.below (h : Rg w p r m fl all rs) (hb : Below w.heap.size w w') : Rg w' p r m fl all rs := h.move (hb.block p (blk_lt h.str)) (hb.block r h.row.lt)
theorem Rg.by (h : Rg w p r m fl all rs) (hf : Fr X w w') (hp : ¬ X p) (hr : ¬ X r) : Rg w' p r m fl all rs := h.move (hf.same p (blk_lt h.str) hp) (hf.same r h.row.lt hr)
end

theorem made_calls {p r m fl : Nat} {all rs : List UInt8} {w : World} (h : Rg w p r m fl all rs) : Calls Try.prog 20 #[.pointer (some ⟨p, 0, none⟩)] w fun e w' => e = .returned (.bool true) ∧ w' = w := by
  have hs := h.str
  have h1 := h.max
  have h2 := h.pos
  have h3 := h.fle
  have h4 := h.room
  obtain ⟨e, he⟩ : ∃ e, all.length = e := ⟨_, rfl⟩
  rw [he] at hs h3 h4
  have HE := Hd.mk he; clear he
  have hsc0 := blk_cell hs 0 _ rfl; have hsf0 := blk_frozen hs 0; have hsc1 := blk_cell hs 1 _ rfl; have hsf1 := blk_frozen hs 1; have hsc2 := blk_cell hs 2 _ rfl; have hsf2 := blk_frozen hs 2; have hsl := blk_lt hs
  have H := Hd.mk h; clear h
  have h5 : (0 : Int) < m := by omega
  go_enter Try.func20, Try.ntmps20
  go_wp2
  go_ret
  exact ⟨by first | rfl | exact ret_bool (by simp [h2]), rfl⟩
theorem floor_calls {p r m fl : Nat} {all rs : List UInt8} {w : World} (h : Rg w p r m fl all rs) : Calls Try.prog 12 #[.pointer (some ⟨p, 0, none⟩)] w fun e w' => e = .returned (.int .i64 fl) ∧ w' = w := by
  have hs := h.str
  have h1 := h.max
  have h2 := h.pos
  have h3 := h.fle
  have h4 := h.room
  obtain ⟨e, he⟩ : ∃ e, all.length = e := ⟨_, rfl⟩
  rw [he] at hs h3 h4
  have HE := Hd.mk he; clear he
  have hsc0 := blk_cell hs 0 _ rfl; have hsf0 := blk_frozen hs 0; have hsc1 := blk_cell hs 1 _ rfl; have hsf1 := blk_frozen hs 1; have hsc2 := blk_cell hs 2 _ rfl; have hsf2 := blk_frozen hs 2; have hsl := blk_lt hs
  have H := Hd.mk h; clear h
  go_enter Try.func12, Try.ntmps12
  go_wp2_with (go_at_call 20; go_must (refine Calls.mono (made_calls H.out) ?_; rintro e w1 ⟨rfl, rfl⟩))
  go_ret
  exact ⟨rfl, rfl⟩
theorem end_calls {p r m fl : Nat} {all rs : List UInt8} {w : World} (h : Rg w p r m fl all rs) : Calls Try.prog 13 #[.pointer (some ⟨p, 0, none⟩)] w fun e w' => e = .returned (.int .i64 all.length) ∧ w' = w := by
  have hs := h.str
  have h1 := h.max
  have h2 := h.pos
  have h3 := h.fle
  have h4 := h.room
  obtain ⟨e, he⟩ : ∃ e, all.length = e := ⟨_, rfl⟩
  rw [he] at hs h3 h4
  have HE := Hd.mk he; clear he
  have hsc0 := blk_cell hs 0 _ rfl; have hsf0 := blk_frozen hs 0; have hsc1 := blk_cell hs 1 _ rfl; have hsf1 := blk_frozen hs 1; have hsc2 := blk_cell hs 2 _ rfl; have hsf2 := blk_frozen hs 2; have hsl := blk_lt hs
  have H := Hd.mk h; clear h
  go_enter Try.func13, Try.ntmps13
  go_wp2_with (go_at_call 20; go_must (refine Calls.mono (made_calls H.out) ?_; rintro e w1 ⟨rfl, rfl⟩))
  go_ret
  exact ⟨ret_int (by rw [HE.out]), rfl⟩
theorem len_calls {p r m fl : Nat} {all rs : List UInt8} {w : World} (h : Rg w p r m fl all rs) (hE : all.length ≤ 1000000000) : Calls Try.prog 14 #[.pointer (some ⟨p, 0, none⟩)] w fun e w' => e = .returned (.int .i64 ((all.length - fl : Nat) : Int)) ∧ w' = w := by
  have hs := h.str
  have h1 := h.max
  have h2 := h.pos
  have h3 := h.fle
  have h4 := h.room
  obtain ⟨e, he⟩ : ∃ e, all.length = e := ⟨_, rfl⟩
  rw [he] at hs h3 h4
  have HE := Hd.mk he; clear he
  have hsc0 := blk_cell hs 0 _ rfl; have hsf0 := blk_frozen hs 0; have hsc1 := blk_cell hs 1 _ rfl; have hsf1 := blk_frozen hs 1; have hsc2 := blk_cell hs 2 _ rfl; have hsf2 := blk_frozen hs 2; have hsl := blk_lt hs
  have H := Hd.mk h; clear h
  rw [HE.out] at hE
  go_enter Try.func14, Try.ntmps14
  go_wp2_with (first | (go_at_call 12; go_must (refine Calls.mono (floor_calls H.out) ?_; rintro e w1 ⟨rfl, rfl⟩)) | (go_at_call 13; go_must (refine Calls.mono (end_calls H.out) ?_; rintro e w1 ⟨hh, rfl⟩; rw [HE.out] at hh; subst hh)))
  go_ret
  exact ⟨ret_int (by rw [HE.out]; omega), rfl⟩
theorem left_calls {p r m fl : Nat} {all rs : List UInt8} {w : World} (h : Rg w p r m fl all rs) (hE : all.length ≤ 1000000000) : Calls Try.prog 15 #[.pointer (some ⟨p, 0, none⟩)] w fun e w' => e = .returned (.int .i64 ((fl + m - all.length : Nat) : Int)) ∧ Below w.heap.size w w' := by
  have hs := h.str
  have h1 := h.max
  have h2 := h.pos
  have h3 := h.fle
  have h4 := h.room
  obtain ⟨e, he⟩ : ∃ e, all.length = e := ⟨_, rfl⟩
  rw [he] at hs h3 h4
  have HE := Hd.mk he; clear he
  have hsc0 := blk_cell hs 0 _ rfl; have hsf0 := blk_frozen hs 0; have hsc1 := blk_cell hs 1 _ rfl; have hsf1 := blk_frozen hs 1; have hsc2 := blk_cell hs 2 _ rfl; have hsf2 := blk_frozen hs 2; have hsl := blk_lt hs
  have H := Hd.mk h; clear h
  have HEE := Hd.mk hE
  rw [HE.out] at hE
  obtain ⟨d, hd⟩ : ∃ d, e - fl = d := ⟨_, rfl⟩
  have hd1 : d ≤ m := by omega
  have HD := Hd.mk hd; clear hd
  go_enter Try.func15, Try.ntmps15
  go_wp2_with (go_at_call 20; go_must (refine Calls.mono (made_calls H.out) ?_; rintro e w1 ⟨rfl, rfl⟩))
  refine wp_region_can (.q [0, 1, 2, 3, 4, 5] (.e 6 true (.q [7, 8] (.done)))) (clsB _) (by kernel_rfl) (by kernel_rfl) (by intro _ _ d _ _ h; cases d <;> exact h) (clsB_drew _) ?_
  refine can_q (l := [⟨_,_,_,_,_,_⟩, ⟨_,_,_,_,_,_⟩, ⟨_,_,_,_,_,_⟩, ⟨_,_,_,_,_,_⟩, ⟨_,_,_,_,_,_⟩, ⟨_,_,_,_,_,_⟩]) rfl ?_
  repeat (go_big_quiet_step (fail))
  refine wpQuiet_nil ?_
  refine can_e (o := ⟨_,_,_,_,_,_⟩) rfl (fun K hK => ?_)
  go_wp2_with (go_at_call 14; go_must (refine Calls.mono (len_calls (H.out.below (by repeat (first | (with_reducible assumption) | (with_reducible exact Below.refl _ _) | (with_reducible apply below_drewL) | (with_reducible apply below_alloc) | (with_reducible apply below_drew1) | (with_reducible apply below_drewN) | (refine below_set ?_ (by first | omega | (simp only [size_alloc, size_drew, size_set]; omega)) _ _)))) HEE.out) ?_; rintro e w2 ⟨hh, rfl⟩; rw [HE.out, HD.out] at hh; subst hh))
  refine onK_normal (hK _ _ ⟨clsB _, (by first | exact clsB_drew _ | exact clsB_self _), fun _ => clsB_next (by first | exact ((by repeat (first | (with_reducible assumption) | (with_reducible exact Below.refl _ _) | (with_reducible apply below_drewL) | (with_reducible apply below_alloc) | (with_reducible apply below_drew1) | (with_reducible apply below_drewN) | (refine below_set ?_ (by first | omega | (simp only [size_alloc, size_drew, size_set]; omega)) _ _)))) | exact below_undrew ((by repeat (first | (with_reducible assumption) | (with_reducible exact Below.refl _ _) | (with_reducible apply below_drewL) | (with_reducible apply below_alloc) | (with_reducible apply below_drew1) | (with_reducible apply below_drewN) | (refine below_set ?_ (by first | omega | (simp only [size_alloc, size_drew, size_set]; omega)) _ _))))), ?_⟩)
  clear hK K
  refine can_q (l := [⟨_,_,_,_,_,_⟩, ⟨_,_,_,_,_,_⟩]) rfl ?_
  repeat (go_big_quiet_step (fail))
  refine wpQuiet_nil ?_
  refine can_done ?_
  go_wp2
  go_ret
  exact ⟨ret_int (by rw [HE.out]; have := HD.out; omega), (by repeat (first | (with_reducible assumption) | (with_reducible exact Below.refl _ _) | (with_reducible apply below_drewL) | (with_reducible apply below_alloc) | (with_reducible apply below_drew1) | (with_reducible apply below_drewN) | (refine below_set ?_ (by first | omega | (simp only [size_alloc, size_drew, size_set]; omega)) _ _)))⟩
theorem place_calls (i : Nat) {p r m fl : Nat} {all rs : List UInt8} {w : World} (h : Rg w p r m fl all rs) : Calls Try.prog 19 #[.pointer (some ⟨p, 0, none⟩), .int .i64 i] w fun e w' => e = .returned (.int .i64 ((i % m : Nat) : Int)) ∧ w' = w := by
  have hs := h.str
  have h1 := h.max
  have h2 := h.pos
  have h3 := h.fle
  have h4 := h.room
  obtain ⟨e, he⟩ : ∃ e, all.length = e := ⟨_, rfl⟩
  rw [he] at hs h3 h4
  have HE := Hd.mk he; clear he
  have hsc0 := blk_cell hs 0 _ rfl; have hsf0 := blk_frozen hs 0; have hsc1 := blk_cell hs 1 _ rfl; have hsf1 := blk_frozen hs 1; have hsc2 := blk_cell hs 2 _ rfl; have hsf2 := blk_frozen hs 2; have hsl := blk_lt hs
  have H := Hd.mk h; clear h
  obtain ⟨j, hj⟩ : ∃ j, i % m = j := ⟨_, rfl⟩
  have hjI : (i : Int) % (m : Int) = j := by rw [← hj]; simp
  have hjm : j < m := by rw [← hj]; exact Nat.mod_lt _ h2
  have HJ := Hd.mk hj
  rw [hj]
  clear hj
  go_enter Try.func19, Try.ntmps19
  go_wp2
  go_ret
  exact ⟨by first | rfl | exact ret_int (by simp [hjI]), rfl⟩
end Go.Proofs.Ytbdnhdecclndfaa.Fn
