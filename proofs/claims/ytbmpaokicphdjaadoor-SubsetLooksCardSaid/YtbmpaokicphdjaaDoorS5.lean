/- Made, Len, Full, Load, Find, Get. -/
import Derived.Test.YtbmpaokicphdjaaDoorS4
set_option linter.unusedVariables false
set_option linter.unusedSimpArgs false
namespace Go.Proofs.YtbmpaokicphdjaaDoor.Fn
open Go Go.RowKit Go.Proofs.YtbmpaokicphdjaaDoor.Can Go.Proofs.YtbmpaokicphdjaaDoor.Base
theorem nilH1 (fn : Fn) (a b : Array Value) (W : World) : (binOp .neq 80 (.func fn a b) .nilFunc).run Tryd.prog W = .ok (.bool true) W := by
  have h : ∀ d : Nat, (Op.equalIn (d + 1) 80 (.func fn a b) .nilFunc).run Tryd.prog W = .ok false W := fun d => by simp [Op.equalIn, run_underlying Tryd.underlying80]
  simp only [binOp]
  simp [Op.equal, Op.maxDepth, h 9999]
theorem nilH2 (W : World) : (binOp .neq 80 .nilFunc .nilFunc).run Tryd.prog W = .ok (.bool false) W := by
  have h : ∀ d : Nat, (Op.equalIn (d + 1) 80 .nilFunc .nilFunc).run Tryd.prog W = .ok true W := fun d => by simp [Op.equalIn, run_underlying Tryd.underlying80]
  simp only [binOp]
  simp [Op.equal, Op.maxDepth, h 9999]
attribute [local go_sem] clsB AB.cell nilH1 nilH2

theorem made_calls (p : Nat) (v pv rv : Value) (fn : Fn) (a b : Array Value) (w : World) (hobj : w.heap[p]? = some (.cells #[v, pv, rv, .func fn a b] 82 (0, 0))) :
    Calls Tryd.prog 76 #[.pointer (some ⟨p, 0, none⟩)] w fun e w' => e = .returned (.bool true) ∧ w' = w := by
  have hobjc0 := blk_cell hobj 0 _ rfl; have hobjf0 := blk_frozen hobj 0; have hobjc1 := blk_cell hobj 1 _ rfl; have hobjf1 := blk_frozen hobj 1; have hobjc2 := blk_cell hobj 2 _ rfl; have hobjf2 := blk_frozen hobj 2; have hobjc3 := blk_cell hobj 3 _ rfl; have hobjf3 := blk_frozen hobj 3; have hobjl := blk_lt hobj
  go_enter Tryd.func76, Tryd.ntmps76
  go_wp2
  go_ret
  exact ⟨rfl, rfl⟩
theorem made_zero (p : Nat) (v pv rv : Value) (w : World) (hobj : w.heap[p]? = some (.cells #[v, pv, rv, .nilFunc] 82 (0, 0))) :
    Calls Tryd.prog 76 #[.pointer (some ⟨p, 0, none⟩)] w fun e w' => e = .returned (.bool false) ∧ w' = w := by
  have hobjc0 := blk_cell hobj 0 _ rfl; have hobjf0 := blk_frozen hobj 0; have hobjc1 := blk_cell hobj 1 _ rfl; have hobjf1 := blk_frozen hobj 1; have hobjc2 := blk_cell hobj 2 _ rfl; have hobjf2 := blk_frozen hobj 2; have hobjc3 := blk_cell hobj 3 _ rfl; have hobjf3 := blk_frozen hobj 3; have hobjl := blk_lt hobj
  go_enter Tryd.func76, Tryd.ntmps76
  go_wp2
  go_ret
  exact ⟨rfl, rfl⟩
theorem made_nil (w : World) : Calls Tryd.prog 76 #[.pointer none] w fun e w' => e = .returned (.bool false) ∧ w' = w := by
  go_enter Tryd.func76, Tryd.ntmps76
  go_wp2
  go_ret
  exact ⟨rfl, rfl⟩
theorem len_calls (base p room : Nat) (F : Nat → Prop) (xs : List (Nat × List Nat)) (w : World) (hB : Tbl w base p F room xs) :
    Calls Tryd.prog 31 #[.pointer (some ⟨p, 0, none⟩)] w fun e w' => e = .returned (.int .i64 xs.length) ∧ w' = w := by
  obtain ⟨v, g, S, P, hI, hl1, hl2, hl3, fp, fg, fv, fS⟩ := hB.ex
  obtain ⟨Av, cv, rfl, hcv, hAv, hrow⟩ := hI.own.form
  have hobj := hI.obj
  unfold tabV at hobj
  have hxr := hB.xr
  have hr2 := hB.r2
  have hpl := blk_lt hobj
  have hbp := hI.bp
  have HOBJ := Hd.mk hobj
  obtain ⟨nx, hnx⟩ : ∃ n, xs.length = n := ⟨_, rfl⟩
  rw [hnx] at hobj hcv hrow hl1 hl2 hxr
  obtain ⟨n, hn⟩ : ∃ n, P.length = n := ⟨_, rfl⟩
  rw [hn] at hobj hl1 hl2 hl3
  have HNX := Hd.mk hnx; have HN := Hd.mk hn; have HI := Hd.mk hI; have HROW := Hd.mk hrow; have HB := Hd.mk hB
  have HMADE := Hd.mk (fun (W : World) (hb : Below w.heap.size w W) => made_calls p _ _ _ _ _ _ W (blk_below HOBJ.out hb))
  have HLT := Hd.mk (own_lt hI.own)
  rw [hnx]
  have hobjc0 := blk_cell hobj 0 _ rfl; have hobjf0 := blk_frozen hobj 0; have hobjc1 := blk_cell hobj 1 _ rfl; have hobjf1 := blk_frozen hobj 1; have hobjc2 := blk_cell hobj 2 _ rfl; have hobjf2 := blk_frozen hobj 2; have hobjc3 := blk_cell hobj 3 _ rfl; have hobjf3 := blk_frozen hobj 3; have hobjl := blk_lt hobj
  clear hI hrow hB hnx hn hAv fv fS fp fg
  go_enter Tryd.func31, Tryd.ntmps31
  go_wp2_with (go_at_call 76; go_must (refine Calls.mono (HMADE.out _ (Below.refl _ _)) ?_; rintro e w1 ⟨rfl, rfl⟩))
  go_ret
  exact ⟨rfl, rfl⟩
theorem full_calls (base p room : Nat) (F : Nat → Prop) (xs : List (Nat × List Nat)) (w : World) (hB : Tbl w base p F room xs) :
    Calls Tryd.prog 38 #[.pointer (some ⟨p, 0, none⟩)] w fun e w' => e = .returned (.bool (decide (room ≤ xs.length))) ∧ Below w.heap.size w w' := by
  obtain ⟨v, g, S, P, hI, hl1, hl2, hl3, fp, fg, fv, fS⟩ := hB.ex
  obtain ⟨Av, cv, rfl, hcv, hAv, hrow⟩ := hI.own.form
  have hobj := hI.obj
  unfold tabV at hobj
  have hxr := hB.xr
  have hr2 := hB.r2
  have hpl := blk_lt hobj
  have hbp := hI.bp
  have HOBJ := Hd.mk hobj
  obtain ⟨nx, hnx⟩ : ∃ n, xs.length = n := ⟨_, rfl⟩
  rw [hnx] at hobj hcv hrow hl1 hl2 hxr
  obtain ⟨n, hn⟩ : ∃ n, P.length = n := ⟨_, rfl⟩
  rw [hn] at hobj hl1 hl2 hl3
  have HNX := Hd.mk hnx; have HN := Hd.mk hn; have HI := Hd.mk hI; have HROW := Hd.mk hrow; have HB := Hd.mk hB
  have HMADE := Hd.mk (fun (W : World) (hb : Below w.heap.size w W) => made_calls p _ _ _ _ _ _ W (blk_below HOBJ.out hb))
  have HLT := Hd.mk (own_lt hI.own)
  rw [hnx]
  have hobjc0 := blk_cell hobj 0 _ rfl; have hobjf0 := blk_frozen hobj 0; have hobjc1 := blk_cell hobj 1 _ rfl; have hobjf1 := blk_frozen hobj 1; have hobjc2 := blk_cell hobj 2 _ rfl; have hobjf2 := blk_frozen hobj 2; have hobjc3 := blk_cell hobj 3 _ rfl; have hobjf3 := blk_frozen hobj 3; have hobjl := blk_lt hobj
  clear hI hrow hB hnx hn hAv fv fS fp fg
  go_enter Tryd.func38, Tryd.ntmps38
  go_wp2
  refine wp_region_can (.q [0] (.e 1 false (.q [2, 3, 4, 5, 6, 7, 8, 9, 10, 11, 12, 13, 14, 15] (.done)))) (clsB _) (by kernel_rfl) (by kernel_rfl) (by intro _ _ d _ _ h; cases d <;> exact h) (clsB_drew _) ?_
  refine can_q (l := [⟨_,_,_,_,_,_⟩]) rfl ?_
  repeat (go_big_quiet_step (fail))
  refine wpQuiet_nil ?_
  refine can_e (o := ⟨_,_,_,_,_,_⟩) rfl (fun K hK => ?_)
  go_wp2_with (go_at_call 76; go_must (refine Calls.mono (HMADE.out _ (below_drew1 (Below.refl _ _))) ?_; rintro e w1 ⟨rfl, rfl⟩))
  refine onK_normal (hK _ _ ⟨clsB _, clsB_of (by first | exact ((below_drew1 (Below.refl _ _))) | exact below_undrew ((below_drew1 (Below.refl _ _)))), fun _ _ h => h, ?_⟩)
  clear hK K
  refine can_q (l := [⟨_,_,_,_,_,_⟩, ⟨_,_,_,_,_,_⟩, ⟨_,_,_,_,_,_⟩, ⟨_,_,_,_,_,_⟩, ⟨_,_,_,_,_,_⟩, ⟨_,_,_,_,_,_⟩, ⟨_,_,_,_,_,_⟩, ⟨_,_,_,_,_,_⟩, ⟨_,_,_,_,_,_⟩, ⟨_,_,_,_,_,_⟩, ⟨_,_,_,_,_,_⟩, ⟨_,_,_,_,_,_⟩, ⟨_,_,_,_,_,_⟩, ⟨_,_,_,_,_,_⟩]) rfl ?_
  repeat (go_big_quiet_step (fail))
  refine wpQuiet_nil ?_
  refine can_done ?_
  go_wp2
  go_ret
  refine ⟨?_, below_drew1 (Below.refl _ _)⟩
  first
    | rfl
    | (congr 2; apply decide_eq_decide.2; omega)
theorem load_calls (base p room : Nat) (F : Nat → Prop) (xs : List (Nat × List Nat)) (w : World) (hB : Tbl w base p F room xs) :
    Calls Tryd.prog 32 #[.pointer (some ⟨p, 0, none⟩)] w fun e w' => ∃ n : Nat, e = .returned (.tuple #[.int .i64 n, .int .i64 xs.length]) ∧ 3 * (xs.length + 1) ≤ 2 * n ∧ n ≤ 1000000 ∧ Below w.heap.size w w' := by
  obtain ⟨v, g, S, P, hI, hl1, hl2, hl3, fp, fg, fv, fS⟩ := hB.ex
  obtain ⟨Av, cv, rfl, hcv, hAv, hrow⟩ := hI.own.form
  have hobj := hI.obj
  unfold tabV at hobj
  have hxr := hB.xr
  have hr2 := hB.r2
  have hpl := blk_lt hobj
  have hbp := hI.bp
  have HOBJ := Hd.mk hobj
  obtain ⟨nx, hnx⟩ : ∃ n, xs.length = n := ⟨_, rfl⟩
  rw [hnx] at hobj hcv hrow hl1 hl2 hxr
  obtain ⟨n, hn⟩ : ∃ n, P.length = n := ⟨_, rfl⟩
  rw [hn] at hobj hl1 hl2 hl3
  have HNX := Hd.mk hnx; have HN := Hd.mk hn; have HI := Hd.mk hI; have HROW := Hd.mk hrow; have HB := Hd.mk hB
  have HMADE := Hd.mk (fun (W : World) (hb : Below w.heap.size w W) => made_calls p _ _ _ _ _ _ W (blk_below HOBJ.out hb))
  have HLT := Hd.mk (own_lt hI.own)
  rw [hnx]
  have HCNT : Hd (P.countP (fun v => v != -1) = nx) := ⟨by rw [hI.inv.count, hnx]⟩
  have HBK := Hd.mk hI.blk
  have hobjc0 := blk_cell hobj 0 _ rfl; have hobjf0 := blk_frozen hobj 0; have hobjc1 := blk_cell hobj 1 _ rfl; have hobjf1 := blk_frozen hobj 1; have hobjc2 := blk_cell hobj 2 _ rfl; have hobjf2 := blk_frozen hobj 2; have hobjc3 := blk_cell hobj 3 _ rfl; have hobjf3 := blk_frozen hobj 3; have hobjl := blk_lt hobj
  clear hI hrow hB hnx hn hAv fv fS fp fg
  go_enter Tryd.func32, Tryd.ntmps32
  go_wp2_with (go_at_call 76; go_must (refine Calls.mono (HMADE.out _ (Below.refl _ _)) ?_; rintro e w1 ⟨rfl, rfl⟩))
  go_loopw [4, 15] (fun c i wr => ∃ k q : Nat, k ≤ n ∧ i = .int .i64 k ∧ c = .int .i64 q ∧ q ≤ k ∧ Hd (q = (P.take k).countP (fun v => v != -1)) ∧ w1 = wr) (fun _ i _ => n - (intOf i).toNat)
  case atStart => exact ⟨0, 0, Nat.zero_le _, rfl, rfl, Nat.zero_le _, ⟨rfl⟩, rfl⟩
  case round =>
    obtain ⟨k, q, hk, rfl, rfl, hqk, HQ, rfl⟩ := hrel
    by_cases hlt : k < n
    · obtain ⟨y, hy⟩ : ∃ y, P[k]? = some y := ⟨_, List.getElem?_eq_getElem (by rw [HN.out]; exact hlt)⟩
      have hcy := Blk.icell HBK.out hy
      have hgl := HBK.out.lt
      have HT : Hd (P.take (k + 1) = P.take k ++ [y]) := ⟨by rw [List.take_add_one, hy]; rfl⟩
      clear hy
      by_cases hy1 : y = -1
      · subst hy1
        have hj : ((-1 : Int) != -1) = false := rfl
        go_wp2
        go_roundw
        case rel => exact ⟨k + 1, q, by omega, by go_num, rfl, by omega, ⟨by rw [HT.out, List.countP_append, ← HQ.out]; rfl⟩, (by first | trivial | rfl)⟩
        case measure => simp [intOf]; omega
      · have hj : (y != -1) = true := by simpa using hy1
        have HJ := Hd.mk hj
        clear hy1
        go_wp2
        go_roundw
        case rel => exact ⟨k + 1, q + 1, by omega, by go_num, by go_num, by omega, ⟨by rw [HT.out, List.countP_append, ← HQ.out, List.countP_cons, List.countP_nil, if_pos HJ.out]⟩, (by first | trivial | rfl)⟩
        case measure => simp [intOf]; omega
    · obtain rfl : k = n := by omega
      obtain rfl : q = nx := by rw [HQ.out, ← HCNT.out, ← HN.out, List.take_length]
      go_wp2
      go_ret2
      exact ⟨k, rfl, hl1, by omega, Below.refl _ _⟩
end Go.Proofs.YtbmpaokicphdjaaDoor.Fn
