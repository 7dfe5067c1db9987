/- New, the reference's Room. -/
import Derived.Test.YtbmpaokicphdjaaDoorB2
namespace Go.Proofs.YtbmpaokicphdjaaDoor.Fn
open Go Go.RowKit Go.Proofs.YtbmpaokicphdjaaDoor.Can Go.Proofs.YtbmpaokicphdjaaDoor.Base
attribute [local go_sem] clsB AB.cell

def roomR (n : Int) : Nat := if n < 0 then 0 else if 65536 < n then 65536 else n.toNat
theorem roomR_le (n : Int) : roomR n ≤ 65536 := by unfold roomR; split <;> (try split) <;> omega
theorem Wok.made {room : Nat} (h : room ≤ 65536) : Wok room (List.replicate ((room + 63) / 64) 0) := by
  refine ⟨List.length_replicate, fun x hx => by rw [(List.mem_replicate.1 hx).2]; decide, fun n hn => ?_, h⟩
  unfold bitAt
  rw [List.getD_eq_getElem?_getD, List.getElem?_replicate]
  split <;> simp
theorem new_calls (n : Int) (w : World) : Calls Tryd.prog 27 #[.int .i64 n] w fun e w' => ∃ g, e = .returned (.agg #[.slice (some ⟨g, 0, none⟩) ((roomR n + 63) / 64) ((roomR n + 63) / 64), .int .i64 (roomR n)]) ∧ w.heap.size ≤ g ∧ g < w'.heap.size ∧ Wd w' (some ⟨g, 0, none⟩) g (List.replicate ((roomR n + 63) / 64) 0) ∧ Below w.heap.size w w' := by
  have hm6 := roomR_le n
  obtain ⟨m, hm⟩ : ∃ m, roomR n = m := ⟨_, rfl⟩
  rw [hm] at hm6 ⊢
  obtain ⟨K, hK⟩ : ∃ K, (m + 63) / 64 = K := ⟨_, rfl⟩
  rw [hK]
  obtain ⟨m1, hm1⟩ : ∃ m1 : Int, (if n < 0 then 0 else n) = m1 := ⟨_, rfl⟩
  have hm2 : (if (65536 : Int) < m1 then 65536 else m1) = m := by
    rw [← hm1, ← hm]; unfold roomR; split <;> split <;> (try split) <;> omega
  obtain ⟨i0, hi, hz, hs, hbb⟩ := info_of (P := Tryd.prog) (e := 33) (z := some (.int .u64 0)) (s := 1) (b := 8) (by kernel_rfl)
  have hdiv : ((m : Int) + 64 - 1) / 64 = (K : Int) := by omega
  have hK2 : K ≤ 1024 := by omega
  have HM1 := Hd.mk hm1; have HM2 := Hd.mk hm2; have HI := Hd.mk (And.intro hi (And.intro hz (And.intro hs hbb))); have HK := Hd.mk hK
  clear hm1 hm2 hi hz hs hbb hm hK
  go_enter Tryd.func27, Tryd.ntmps27
  go_wp2_with (first | (at_make; rw [hdiv]; go_must (refine wpList_make_full _ rfl (.tmp 9) (.tmp 9) 26 rfl (w.heap.size + 1) 33 i0 (.int .u64 0) 1 Tryd.underlying26 HI.out.1 HI.out.2.1 HI.out.2.2.1 .i64 .i64 K K K rfl rfl rfl rfl (by rw [HI.out.2.2.2]; omega) (by simp only [maxLen]; omega) (by simp only [size_alloc]; omega) ?_; intro w1 ho1 hg1; have hb1 : Below (w.heap.size + 1) (w.alloc (.cells #[.slice none 0 0, .int .i64 0] 28)) w1 := ((Below.refl _ _).grown hg1 (by simp only [size_alloc]; omega) (fun k hk => by cases hk)); have hp1 : w1.heap[w.heap.size]? = some (.cells #[.slice none 0 0, .int .i64 0] 28 (0, 0)) := ((hb1.block _ (by omega)).trans (blk_new _ _ _ rfl)); have hp1c0 := blk_cell hp1 0 _ rfl; have hp1f0 := blk_frozen hp1 0; have hp1c1 := blk_cell hp1 1 _ rfl; have hp1f1 := blk_frozen hp1 1; have hp1l := blk_lt hp1)) | (refine max_int rfl (.tmp 3) (.const (.int .i64 0)) _ rfl .i64 n 0 m1 rfl rfl HM1.out ?_) | (refine min_int rfl (.tmp 4) (.const (.int .i64 65536)) _ rfl .i64 m1 65536 m rfl rfl HM2.out ?_))
  have hg0 := Blk.made (enc := wE) (x := 0) w_len (by decide) rfl ho1
  simp only [size_alloc] at hg0
  refine bodyPost_ret (results_cell_row rfl _ _ w.heap.size 28 #[.slice (some ⟨w.heap.size + 1, 0, none⟩) K K, .int .i64 m] (0, 0) _ rfl (blk_set (blk_set hp1 0 _ _ rfl) 1 _ _ rfl) Tryd.underlying28 rfl (by kernel_rfl)) rfl ?_
  have hbw : Below w.heap.size w w1 := (below_alloc (Below.refl _ _) _).trans (hb1.mono (by omega))
  have hlg := hg0.lt
  refine ⟨w.heap.size + 1, rfl, by omega, by simp only [size_set]; exact hlg, .inr ⟨rfl, (hg0.far (by show ¬ w.heap.size + 1 = w.heap.size; omega) _).far (by show ¬ w.heap.size + 1 = w.heap.size; omega) _⟩, below_set (below_set hbw (Nat.le_refl _) _ _) (Nat.le_refl _) _ _⟩
end Go.Proofs.YtbmpaokicphdjaaDoor.Fn
