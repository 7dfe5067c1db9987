/- What Head and Call compute. -/
import Derived.Test.YtipehakaiiofiaaT3
import Derived.Laws.IdiomCopy
namespace Go.Proofs.Ytipehakaiiofiaa.Fn
open Go Go.RowKit Go.Proofs.Ytipehakaiiofiaa.Can Go.Proofs.Ytipehakaiiofiaa.Base
attribute [local go_sem] clsB AB.cell

theorem run_clear_one {P : Program} {t e : TypeId} {w : World} {r a c : Nat} {z : Value} (ht : P.underlying t = some (.slice e)) (hi : (P.info? e).map (·.zero) = some (some z)) (hz : z.cells = #[z]) (h1 : z.oneCell' = true) (hc : (w.cell? ⟨r, a, none⟩).isSome = true) (hf : w.frozen? ⟨r, a, none⟩ = false) (ty : TypeId) :
    (Builtin.clear_ #[t] ty #[.slice (some ⟨r, a, none⟩) 1 c]).run P w = .ok (.tuple #[]) (w.setCell ⟨r, a, none⟩ z) := by
  obtain ⟨i0, hi0, hiz⟩ := Option.map_eq_some_iff.1 hi
  have hzv : (zeroValue e).run P w = .ok z w := by simp [zeroValue, typeInfo, hi0, hiz, Sem.run_bind, Result.andThen]
  have hzc : (Builtin.zeroCells z.cells 1).toList = [z] := by rw [hz]; simp [Builtin.zeroCells, List.range_succ]
  have hst := run_storeCells_cells (P := P) r a [z] 0 w (fun j hj => by (obtain rfl : j = 0 := by (simpa using hj)); simpa using hc) (fun j hj => by (obtain rfl : j = 0 := by (simpa using hj)); simpa using hf) (fun v hv => by rw [List.mem_singleton.1 hv]; exact h1)
  simp [Builtin.clear_, run_underlying ht, hzv, hzc, hst, Sem.run_bind, Result.andThen, World.setCells]
theorem Desk.fr {α : Type} {enc : α → Value} {tD tE : TypeId} {w w' : World} {p r m held a : Nat} {L rs : List α} (h : Desk enc tD tE w p r m held L rs a) (hp : w'.heap[p]? = w.heap[p]?) (hr : w'.heap[r]? = w.heap[r]?) : Desk enc tD tE w' p r m held L rs a :=
  ⟨hp.trans h.str, hr.trans h.row, h.ne, h.len, h.m0, h.m1, h.lt, h.in_, h.held_, h.ring⟩

theorem headnil_int {p r m held a : Nat} {rs} {w : World} (h : Desk (Value.int .i64) 42 3 w p r m held [] rs a) : Calls Try.prog 20 #[.pointer (some ⟨p, 0, none⟩)] w fun e w' =>
    e = .returned (.tuple #[.int .i64 0, .bool false]) ∧ w' = w := by
  have H := Hd.mk h
  clear h
  go_enter Try.func20, Try.ntmps20
  go_wp2_with (first | (go_at_call 13; go_must (refine Calls.mono (waiting_int H.out) ?_; rintro e w1 ⟨rfl, rfl⟩)))
  go_ret2
  exact ⟨rfl, rfl⟩
theorem head_int {p r m held a : Nat} {x : Int} {L rs} {w : World} (h : Desk (Value.int .i64) 42 3 w p r m held (x :: L) rs a) : Calls Try.prog 20 #[.pointer (some ⟨p, 0, none⟩)] w fun e w' =>
    e = .returned (.tuple #[(Value.int .i64) x, .bool true]) ∧ Desk (Value.int .i64) 42 3 w' p r m held (x :: L) rs a ∧ Fr (fun _ => False) w w' := by
  have hs := h.str
  have h1 := h.m1
  have h4 := h.lt
  have hsc0 := blk_cell hs 0 _ rfl; have hsf0 := blk_frozen hs 0; have hsc1 := blk_cell hs 1 _ rfl; have hsf1 := blk_frozen hs 1; have hsc2 := blk_cell hs 2 _ rfl; have hsf2 := blk_frozen hs 2; have hsc3 := blk_cell hs 3 _ rfl; have hsf3 := blk_frozen hs 3; have hsl := blk_lt hs
  have hx := h.ring.head (by rw [h.len]; exact h4)
  have hcell : w.cell? ⟨r, a, none⟩ = some ((Value.int .i64) x) := blk_cell h.row a _ (by simp [hx])
  have hrl := blk_lt h.row
  have hn0 : ¬ ((x :: L).length : Int) = 0 := by simp only [List.length_cons]; omega
  have H := Hd.mk h
  clear h hx
  go_enter Try.func20, Try.ntmps20
  go_wp2_with (first | (go_at_call 13; go_must (refine Calls.mono (waiting_int H.out) ?_; rintro e w1 ⟨rfl, rfl⟩)))
  refine wp_region_can (.q [0, 1, 2, 3, 4, 5, 6, 7, 8, 9, 10, 11] (.done)) (clsB _) (by kernel_rfl) (by kernel_rfl) (by intro _ _ d _ _ h; cases d <;> exact h) (clsB_drew _) ?_
  refine can_q (l := [⟨_,_,_,_,_,_⟩, ⟨_,_,_,_,_,_⟩, ⟨_,_,_,_,_,_⟩, ⟨_,_,_,_,_,_⟩, ⟨_,_,_,_,_,_⟩, ⟨_,_,_,_,_,_⟩, ⟨_,_,_,_,_,_⟩, ⟨_,_,_,_,_,_⟩, ⟨_,_,_,_,_,_⟩, ⟨_,_,_,_,_,_⟩, ⟨_,_,_,_,_,_⟩, ⟨_,_,_,_,_,_⟩]) rfl ?_
  repeat (go_big_quiet_step (fail))
  refine wpQuiet_nil ?_
  refine can_done ?_
  go_wp2
  go_ret2
  exact ⟨rfl, H.out.fr rfl rfl, (Fr.refl _ _).drew⟩
theorem callnil_int {p r m held a : Nat} {rs} {w : World} (h : Desk (Value.int .i64) 42 3 w p r m held [] rs a) : Calls Try.prog 10 #[.pointer (some ⟨p, 0, none⟩)] w fun e w' =>
    e = .returned (.tuple #[.int .i64 0, .bool false]) ∧ w' = w := by
  have H := Hd.mk h
  clear h
  go_enter Try.func10, Try.ntmps10
  go_wp2_with (first | (go_at_call 20; go_must (refine Calls.mono (headnil_int H.out) ?_; rintro e w1 ⟨rfl, rfl⟩)))
  go_ret2
  exact ⟨rfl, rfl⟩
theorem call_int {p r m held a : Nat} {x : Int} {L rs} {w : World} (h : Desk (Value.int .i64) 42 3 w p r m held (x :: L) rs a) : Calls Try.prog 10 #[.pointer (some ⟨p, 0, none⟩)] w fun e w' =>
    e = .returned (.tuple #[(Value.int .i64) x, .bool true]) ∧ (∃ rs' a', Desk (Value.int .i64) 42 3 w' p r m held L rs' a') ∧ Fr (fun b => b = p ∨ b = r) w w' := by
  have h1 := h.m1
  have h4 := h.lt
  have h5 := h.in_
  have h6 := h.held_
  have hne : ¬ r = p := Ne.symm h.ne
  have hne2 : ¬ p = r := h.ne
  have hn0 : ¬ ((x :: L).length : Int) = 0 := by simp only [List.length_cons]; omega
  obtain ⟨j, hj⟩ : ∃ j, (a + 1) % m = j := ⟨_, rfl⟩
  have hmm : ((a : Int) + 1) % m = (j : Int) := by rw [← hj]; simp
  have hjm : j < m := by rw [← hj]; exact Nat.mod_lt _ (by omega)
  have HJ := Hd.mk hj; clear hj
  have H := Hd.mk h
  clear h
  go_enter Try.func10, Try.ntmps10
  go_wp2_with (first | (go_at_call 20; go_must (refine Calls.mono (head_int H.out) ?_; rintro e w1 ⟨rfl, h, hf⟩; have hs := h.str; have hsc0 := blk_cell hs 0 _ rfl; have hsf0 := blk_frozen hs 0; have hsc1 := blk_cell hs 1 _ rfl; have hsf1 := blk_frozen hs 1; have hsc2 := blk_cell hs 2 _ rfl; have hsf2 := blk_frozen hs 2; have hsc3 := blk_cell hs 3 _ rfl; have hsf3 := blk_frozen hs 3; have hsl := blk_lt hs; have hcell : w1.cell? ⟨r, a, none⟩ = some ((Value.int .i64) x) := blk_cell h.row a _ (by simp [h.ring.head (by rw [h.len]; exact h4)]); have hfro := blk_frozen h.row a; have hrl := blk_lt h.row; have hclr : (Builtin.clear_ #[36] 0 #[.slice (some ⟨r, a, none⟩) 1 (m - a)]).run Try.prog w1.drew = .ok (.tuple #[]) (w1.setCell ⟨r, a, none⟩ (.int .i64 0)).drew := run_clear_one (w := w1.drew) Try.underlying36 (by kernel_rfl) rfl rfl (by rw [show w1.drew.cell? ⟨r, a, none⟩ = w1.cell? ⟨r, a, none⟩ from rfl, hcell]; rfl) hfro 0; have H1 := Hd.mk h; clear h H)))
  refine wp_region_can (.q [0, 1, 2, 3, 4, 5, 6, 7, 8, 9, 10, 11, 12, 13] (.e 14 false (.done))) (clsB _) (by kernel_rfl) (by kernel_rfl) (by intro _ _ d _ _ h; cases d <;> exact h) (clsB_drew _) ?_
  refine can_q (l := [⟨_,_,_,_,_,_⟩, ⟨_,_,_,_,_,_⟩, ⟨_,_,_,_,_,_⟩, ⟨_,_,_,_,_,_⟩, ⟨_,_,_,_,_,_⟩, ⟨_,_,_,_,_,_⟩, ⟨_,_,_,_,_,_⟩, ⟨_,_,_,_,_,_⟩, ⟨_,_,_,_,_,_⟩, ⟨_,_,_,_,_,_⟩, ⟨_,_,_,_,_,_⟩, ⟨_,_,_,_,_,_⟩, ⟨_,_,_,_,_,_⟩, ⟨_,_,_,_,_,_⟩]) rfl ?_
  repeat (go_big_quiet_step (fail))
  refine wpQuiet_nil ?_
  refine can_e (o := ⟨_,_,_,_,_,_⟩) rfl (fun K hK => ?_)
  go_wp2_with fail
  refine onK_normal (hK _ _ ⟨fun _ => True, trivial, (fun h => by cases h), ?_⟩)
  clear hK K
  refine can_done ?_
  have hlen : (((x :: L).length : Nat) : Int) - 1 = (L.length : Int) := by simp only [List.length_cons]; omega
  have h3 := blk_drew (blk_far (p := ⟨r, a, none⟩) hs hne2 (.int .i64 0))
  have hr3 : (w1.setCell ⟨r, a, none⟩ (.int .i64 0)).drew.heap[r]? = some (.cells ((rs.set a 0).map (Value.int .i64)).toArray 3 (0, 0)) := blk_drew (blk_set H1.out.row a _ _ (by simp [List.map_set]))
  have hf3 : Fr (fun b => b = p ∨ b = r) w (w1.setCell ⟨r, a, none⟩ (.int .i64 0)).drew := (Fr.set (hf.mono (fun _ h => h.elim)) (.inl (.inr rfl)) _ _).drew
  clear hsc0 hsf0 hsc1 hsf1 hsc2 hsf2 hsc3 hsf3 hsl
  clear hclr hcell hfro hs
  generalize World.drew (World.setCell w1 _ _) = W1 at *
  have h3c0 := blk_cell h3 0 _ rfl; have h3f0 := blk_frozen h3 0; have h3c1 := blk_cell h3 1 _ rfl; have h3f1 := blk_frozen h3 1; have h3c2 := blk_cell h3 2 _ rfl; have h3f2 := blk_frozen h3 2; have h3c3 := blk_cell h3 3 _ rfl; have h3f3 := blk_frozen h3 3; have h3l := blk_lt h3
  have H3 := Hd.mk hr3; clear hr3
  go_wp2
  refine wp_region_can (.q [0, 1, 2, 3, 4, 5, 6, 7, 8, 9, 10, 11, 12, 13] (.e 14 false (.done))) (clsB _) (by kernel_rfl) (by kernel_rfl) (by intro _ _ d _ _ h; cases d <;> exact h) (clsB_drew _) ?_
  refine can_q (l := [⟨_,_,_,_,_,_⟩, ⟨_,_,_,_,_,_⟩, ⟨_,_,_,_,_,_⟩, ⟨_,_,_,_,_,_⟩, ⟨_,_,_,_,_,_⟩, ⟨_,_,_,_,_,_⟩, ⟨_,_,_,_,_,_⟩, ⟨_,_,_,_,_,_⟩, ⟨_,_,_,_,_,_⟩, ⟨_,_,_,_,_,_⟩, ⟨_,_,_,_,_,_⟩, ⟨_,_,_,_,_,_⟩, ⟨_,_,_,_,_,_⟩, ⟨_,_,_,_,_,_⟩]) rfl ?_
  repeat (go_big_quiet_step (fail))
  refine wpQuiet_nil ?_
  refine can_e (o := ⟨_,_,_,_,_,_⟩) rfl (fun K hK => ?_)
  go_wp2_with fail
  refine onK_normal (hK _ _ ⟨fun _ => True, trivial, (fun h => by cases h), ?_⟩)
  clear hK K
  refine can_done ?_
  go_wp2
  go_ret2
  have hl := H1.out.len
  have hrg := H1.out.ring.call (by simp only [List.length_cons] at h5; omega) (by omega) 0
  rw [hl, HJ.out] at hrg
  simp only [List.length_cons] at h5
  exact ⟨rfl, ⟨rs.set a 0, j, ⟨blk_drew (blk_set (blk_set h3 1 _ _ rfl) 2 _ _ rfl), blk_drew (blk_far (blk_far H3.out hne _) hne _), H1.out.ne, by rw [List.length_set]; exact hl, H1.out.m0, h1, hjm, by omega, h6, hrg⟩⟩, (Fr.set (Fr.set hf3 (.inl (.inl rfl)) _ _) (.inl (.inl rfl)) _ _).drew⟩
theorem headnil_str {p r m held a : Nat} {rs} {w : World} (h : Desk (Value.string) 50 9 w p r m held [] rs a) : Calls Try.prog 32 #[.pointer (some ⟨p, 0, none⟩)] w fun e w' =>
    e = .returned (.tuple #[.string ByteArray.empty, .bool false]) ∧ w' = w := by
  have H := Hd.mk h
  clear h
  go_enter Try.func32, Try.ntmps32
  go_wp2_with (first | (go_at_call 28; go_must (refine Calls.mono (waiting_str H.out) ?_; rintro e w1 ⟨rfl, rfl⟩)))
  go_ret2
  exact ⟨rfl, rfl⟩
theorem head_str {p r m held a : Nat} {x : ByteArray} {L rs} {w : World} (h : Desk (Value.string) 50 9 w p r m held (x :: L) rs a) : Calls Try.prog 32 #[.pointer (some ⟨p, 0, none⟩)] w fun e w' =>
    e = .returned (.tuple #[(Value.string) x, .bool true]) ∧ Desk (Value.string) 50 9 w' p r m held (x :: L) rs a ∧ Fr (fun _ => False) w w' := by
  have hs := h.str
  have h1 := h.m1
  have h4 := h.lt
  have hsc0 := blk_cell hs 0 _ rfl; have hsf0 := blk_frozen hs 0; have hsc1 := blk_cell hs 1 _ rfl; have hsf1 := blk_frozen hs 1; have hsc2 := blk_cell hs 2 _ rfl; have hsf2 := blk_frozen hs 2; have hsc3 := blk_cell hs 3 _ rfl; have hsf3 := blk_frozen hs 3; have hsl := blk_lt hs
  have hx := h.ring.head (by rw [h.len]; exact h4)
  have hcell : w.cell? ⟨r, a, none⟩ = some ((Value.string) x) := blk_cell h.row a _ (by simp [hx])
  have hrl := blk_lt h.row
  have hn0 : ¬ ((x :: L).length : Int) = 0 := by simp only [List.length_cons]; omega
  have H := Hd.mk h
  clear h hx
  go_enter Try.func32, Try.ntmps32
  go_wp2_with (first | (go_at_call 28; go_must (refine Calls.mono (waiting_str H.out) ?_; rintro e w1 ⟨rfl, rfl⟩)))
  refine wp_region_can (.q [0, 1, 2, 3, 4, 5, 6, 7, 8, 9, 10, 11] (.done)) (clsB _) (by kernel_rfl) (by kernel_rfl) (by intro _ _ d _ _ h; cases d <;> exact h) (clsB_drew _) ?_
  refine can_q (l := [⟨_,_,_,_,_,_⟩, ⟨_,_,_,_,_,_⟩, ⟨_,_,_,_,_,_⟩, ⟨_,_,_,_,_,_⟩, ⟨_,_,_,_,_,_⟩, ⟨_,_,_,_,_,_⟩, ⟨_,_,_,_,_,_⟩, ⟨_,_,_,_,_,_⟩, ⟨_,_,_,_,_,_⟩, ⟨_,_,_,_,_,_⟩, ⟨_,_,_,_,_,_⟩, ⟨_,_,_,_,_,_⟩]) rfl ?_
  repeat (go_big_quiet_step (fail))
  refine wpQuiet_nil ?_
  refine can_done ?_
  go_wp2
  go_ret2
  exact ⟨rfl, H.out.fr rfl rfl, (Fr.refl _ _).drew⟩
theorem callnil_str {p r m held a : Nat} {rs} {w : World} (h : Desk (Value.string) 50 9 w p r m held [] rs a) : Calls Try.prog 26 #[.pointer (some ⟨p, 0, none⟩)] w fun e w' =>
    e = .returned (.tuple #[.string ByteArray.empty, .bool false]) ∧ w' = w := by
  have H := Hd.mk h
  clear h
  go_enter Try.func26, Try.ntmps26
  go_wp2_with (first | (go_at_call 32; go_must (refine Calls.mono (headnil_str H.out) ?_; rintro e w1 ⟨rfl, rfl⟩)))
  go_ret2
  exact ⟨rfl, rfl⟩
theorem call_str {p r m held a : Nat} {x : ByteArray} {L rs} {w : World} (h : Desk (Value.string) 50 9 w p r m held (x :: L) rs a) : Calls Try.prog 26 #[.pointer (some ⟨p, 0, none⟩)] w fun e w' =>
    e = .returned (.tuple #[(Value.string) x, .bool true]) ∧ (∃ rs' a', Desk (Value.string) 50 9 w' p r m held L rs' a') ∧ Fr (fun b => b = p ∨ b = r) w w' := by
  have h1 := h.m1
  have h4 := h.lt
  have h5 := h.in_
  have h6 := h.held_
  have hne : ¬ r = p := Ne.symm h.ne
  have hne2 : ¬ p = r := h.ne
  have hn0 : ¬ ((x :: L).length : Int) = 0 := by simp only [List.length_cons]; omega
  obtain ⟨j, hj⟩ : ∃ j, (a + 1) % m = j := ⟨_, rfl⟩
  have hmm : ((a : Int) + 1) % m = (j : Int) := by rw [← hj]; simp
  have hjm : j < m := by rw [← hj]; exact Nat.mod_lt _ (by omega)
  have HJ := Hd.mk hj; clear hj
  have H := Hd.mk h
  clear h
  go_enter Try.func26, Try.ntmps26
  go_wp2_with (first | (go_at_call 32; go_must (refine Calls.mono (head_str H.out) ?_; rintro e w1 ⟨rfl, h, hf⟩; have hs := h.str; have hsc0 := blk_cell hs 0 _ rfl; have hsf0 := blk_frozen hs 0; have hsc1 := blk_cell hs 1 _ rfl; have hsf1 := blk_frozen hs 1; have hsc2 := blk_cell hs 2 _ rfl; have hsf2 := blk_frozen hs 2; have hsc3 := blk_cell hs 3 _ rfl; have hsf3 := blk_frozen hs 3; have hsl := blk_lt hs; have hcell : w1.cell? ⟨r, a, none⟩ = some ((Value.string) x) := blk_cell h.row a _ (by simp [h.ring.head (by rw [h.len]; exact h4)]); have hfro := blk_frozen h.row a; have hrl := blk_lt h.row; have hclr : (Builtin.clear_ #[48] 0 #[.slice (some ⟨r, a, none⟩) 1 (m - a)]).run Try.prog w1.drew = .ok (.tuple #[]) (w1.setCell ⟨r, a, none⟩ (.string ByteArray.empty)).drew := run_clear_one (w := w1.drew) Try.underlying48 (by kernel_rfl) rfl rfl (by rw [show w1.drew.cell? ⟨r, a, none⟩ = w1.cell? ⟨r, a, none⟩ from rfl, hcell]; rfl) hfro 0; have H1 := Hd.mk h; clear h H)))
  refine wp_region_can (.q [0, 1, 2, 3, 4, 5, 6, 7, 8, 9, 10, 11, 12, 13] (.e 14 false (.done))) (clsB _) (by kernel_rfl) (by kernel_rfl) (by intro _ _ d _ _ h; cases d <;> exact h) (clsB_drew _) ?_
  refine can_q (l := [⟨_,_,_,_,_,_⟩, ⟨_,_,_,_,_,_⟩, ⟨_,_,_,_,_,_⟩, ⟨_,_,_,_,_,_⟩, ⟨_,_,_,_,_,_⟩, ⟨_,_,_,_,_,_⟩, ⟨_,_,_,_,_,_⟩, ⟨_,_,_,_,_,_⟩, ⟨_,_,_,_,_,_⟩, ⟨_,_,_,_,_,_⟩, ⟨_,_,_,_,_,_⟩, ⟨_,_,_,_,_,_⟩, ⟨_,_,_,_,_,_⟩, ⟨_,_,_,_,_,_⟩]) rfl ?_
  repeat (go_big_quiet_step (fail))
  refine wpQuiet_nil ?_
  refine can_e (o := ⟨_,_,_,_,_,_⟩) rfl (fun K hK => ?_)
  go_wp2_with fail
  refine onK_normal (hK _ _ ⟨fun _ => True, trivial, (fun h => by cases h), ?_⟩)
  clear hK K
  refine can_done ?_
  have hlen : (((x :: L).length : Nat) : Int) - 1 = (L.length : Int) := by simp only [List.length_cons]; omega
  have h3 := blk_drew (blk_far (p := ⟨r, a, none⟩) hs hne2 (.string ByteArray.empty))
  have hr3 : (w1.setCell ⟨r, a, none⟩ (.string ByteArray.empty)).drew.heap[r]? = some (.cells ((rs.set a ByteArray.empty).map (Value.string)).toArray 9 (0, 0)) := blk_drew (blk_set H1.out.row a _ _ (by simp [List.map_set]))
  have hf3 : Fr (fun b => b = p ∨ b = r) w (w1.setCell ⟨r, a, none⟩ (.string ByteArray.empty)).drew := (Fr.set (hf.mono (fun _ h => h.elim)) (.inl (.inr rfl)) _ _).drew
  clear hsc0 hsf0 hsc1 hsf1 hsc2 hsf2 hsc3 hsf3 hsl
  clear hclr hcell hfro hs
  generalize World.drew (World.setCell w1 _ _) = W1 at *
  have h3c0 := blk_cell h3 0 _ rfl; have h3f0 := blk_frozen h3 0; have h3c1 := blk_cell h3 1 _ rfl; have h3f1 := blk_frozen h3 1; have h3c2 := blk_cell h3 2 _ rfl; have h3f2 := blk_frozen h3 2; have h3c3 := blk_cell h3 3 _ rfl; have h3f3 := blk_frozen h3 3; have h3l := blk_lt h3
  have H3 := Hd.mk hr3; clear hr3
  go_wp2
  refine wp_region_can (.q [0, 1, 2, 3, 4, 5, 6, 7, 8, 9, 10, 11, 12, 13] (.e 14 false (.done))) (clsB _) (by kernel_rfl) (by kernel_rfl) (by intro _ _ d _ _ h; cases d <;> exact h) (clsB_drew _) ?_
  refine can_q (l := [⟨_,_,_,_,_,_⟩, ⟨_,_,_,_,_,_⟩, ⟨_,_,_,_,_,_⟩, ⟨_,_,_,_,_,_⟩, ⟨_,_,_,_,_,_⟩, ⟨_,_,_,_,_,_⟩, ⟨_,_,_,_,_,_⟩, ⟨_,_,_,_,_,_⟩, ⟨_,_,_,_,_,_⟩, ⟨_,_,_,_,_,_⟩, ⟨_,_,_,_,_,_⟩, ⟨_,_,_,_,_,_⟩, ⟨_,_,_,_,_,_⟩, ⟨_,_,_,_,_,_⟩]) rfl ?_
  repeat (go_big_quiet_step (fail))
  refine wpQuiet_nil ?_
  refine can_e (o := ⟨_,_,_,_,_,_⟩) rfl (fun K hK => ?_)
  go_wp2_with fail
  refine onK_normal (hK _ _ ⟨fun _ => True, trivial, (fun h => by cases h), ?_⟩)
  clear hK K
  refine can_done ?_
  go_wp2
  go_ret2
  have hl := H1.out.len
  have hrg := H1.out.ring.call (by simp only [List.length_cons] at h5; omega) (by omega) ByteArray.empty
  rw [hl, HJ.out] at hrg
  simp only [List.length_cons] at h5
  exact ⟨rfl, ⟨rs.set a ByteArray.empty, j, ⟨blk_drew (blk_set (blk_set h3 1 _ _ rfl) 2 _ _ rfl), blk_drew (blk_far (blk_far H3.out hne _) hne _), H1.out.ne, by rw [List.length_set]; exact hl, H1.out.m0, h1, hjm, by omega, h6, hrg⟩⟩, (Fr.set (Fr.set hf3 (.inl (.inl rfl)) _ _) (.inl (.inl rfl)) _ _).drew⟩
end Go.Proofs.Ytipehakaiiofiaa.Fn
