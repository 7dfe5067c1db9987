/- Hash and Copy of sets. -/
import Derived.Test.YtbmpaokicphdjaaDoorB20
import Derived.Laws.CopyOwn
set_option linter.unusedVariables false
set_option linter.unusedSimpArgs false
namespace Go.Proofs.YtbmpaokicphdjaaDoor.Fn
open Go Go.RowKit Go.Proofs.YtbmpaokicphdjaaDoor.Can Go.Proofs.YtbmpaokicphdjaaDoor.Base
attribute [local go_sem] clsB AB.cell

def hstep (h x : Nat) : Nat := let z := ((h ^^^ x) * 1099511628211) % 18446744073709551616; z ^^^ z / 536870912
def hashW (ws : List Nat) : Nat := ws.foldl hstep 14695981039346656037
theorem hstep_lt (h x : Nat) : hstep h x < 18446744073709551616 := by
  have e : hstep h x = ((h ^^^ x) * 1099511628211 % 18446744073709551616) ^^^ ((h ^^^ x) * 1099511628211 % 18446744073709551616) / 536870912 := rfl
  rw [e]
  generalize (h ^^^ x) * 1099511628211 = y
  have h1 : y % 18446744073709551616 < 2 ^ 64 := Nat.mod_lt _ (by decide)
  generalize y % 18446744073709551616 = z at h1
  have h2 : z / 536870912 < 2 ^ 64 := Nat.lt_of_le_of_lt (Nat.div_le_self _ _) h1
  have h3 := Nat.xor_lt_two_pow h1 h2
  simpa using h3
theorem hashW_snoc (ws : List Nat) (x : Nat) : hashW (ws ++ [x]) = hstep (hashW ws) x := by
  unfold hashW
  rw [List.foldl_append, List.foldl_cons, List.foldl_nil]
theorem hashW_nil : hashW [] = 14695981039346656037 := by unfold hashW; rw [List.foldl_nil]
theorem hashW_lt (ws : List Nat) : hashW ws < 18446744073709551616 := by
  rcases List.eq_nil_or_concat ws with rfl | ⟨l, x, rfl⟩
  · rw [hashW_nil]; omega
  · rw [List.concat_eq_append, hashW_snoc]; exact hstep_lt _ _
theorem hash_calls (A : Option Addr) (c g r : Nat) (ws : List Nat) (w : World) (hK : Wok r ws) (h1 : Wd w A g ws) :
    Calls Tryd.prog 19 #[.agg #[.slice A ws.length c, .int .i64 r]] w fun e w' => e = .returned (.int .u64 (hashW ws : Nat)) ∧ Below w.heap.size w w' := by
  have hm1 : ws.length ≤ 1100 := by have := hK.len; have := hK.small; omega
  obtain ⟨m, hme⟩ : ∃ m, ws.length = m := ⟨_, rfl⟩
  have HK := Hd.mk hK; have H1 := Hd.mk h1; have HM := Hd.mk hme
  rw [hme] at hm1 ⊢
  clear hK h1 hme
  go_enter Tryd.func19, Tryd.ntmps19
  go_wp2
  generalize hV : World.alloc _ _ = V
  have HBV : Hd (Below w.heap.size w V) := ⟨by rw [← hV]; exact below_alloc (Below.refl _ _) _⟩
  clear hV
  go_loopw [3, 9] (fun s i wr => ∃ k q : Nat, k ≤ m ∧ i = .int .i64 k ∧ s = .int .u64 q ∧ Hd (q = hashW (ws.take k)) ∧ Hd (Below V.heap.size V wr)) (fun _ i _ => m - (intOf i).toNat)
  case atStart => exact ⟨0, 14695981039346656037, Nat.zero_le _, rfl, rfl, ⟨by rw [List.take_zero, hashW_nil]⟩, ⟨Below.refl _ _⟩⟩
  case round =>
    obtain ⟨k, q, hk, rfl, rfl, HQ, HB⟩ := hrel
    by_cases hlt : k < m
    · obtain ⟨x, hx⟩ : ∃ x, ws[k]? = some x := ⟨_, List.getElem?_eq_getElem (by rw [HM.out]; exact hlt)⟩
      have hx64 : x < 18446744073709551616 := HK.out.lt x (List.mem_of_getElem? hx)
      have hq64 : q < 18446744073709551616 := by rw [HQ.out]; exact hashW_lt _
      have hWr := (H1.out.below HBV.out).below HB.out
      have hcx := hWr.cell hx
      obtain ⟨rfl, _⟩ := hWr.at_ hx
      have HT : Hd (ws.take (k + 1) = ws.take k ++ [x]) := ⟨by rw [List.take_add_one, hx]; rfl⟩
      have e1 := bits_xor_u64_nat q x hq64 hx64
      obtain ⟨y, hy⟩ : ∃ y, q ^^^ x = y := ⟨_, rfl⟩
      rw [hy] at e1
      obtain ⟨z, hz⟩ : ∃ z, y * 1099511628211 % 18446744073709551616 = z := ⟨_, rfl⟩
      have e2 : IntKind.u64.wrap ((y : Int) * 1099511628211) = (z : Int) := by rw [IntKind.wrap_u64]; omega
      have hz64 : z < 18446744073709551616 := by rw [← hz]; exact Nat.mod_lt _ (by decide)
      have e3 : bits .xor .u64 (z : Int) ((z : Int) / 536870912) = ((z ^^^ z / 536870912 : Nat) : Int) := by
        have := xorShift_u64 z 536870912 hz64
        exact this
      obtain ⟨v, hv⟩ : ∃ v, z ^^^ z / 536870912 = v := ⟨_, rfl⟩
      rw [hv] at e3
      have HS : Hd (v = hashW (ws.take (k + 1))) := ⟨by rw [HT.out, hashW_snoc, ← HQ.out]; unfold hstep; rw [hy, hz]; exact hv.symm⟩
      clear hx hWr hy hz hv HT
      go_wp2
      go_roundw
      case rel => exact ⟨k + 1, v, by omega, by go_num, rfl, HS, HB⟩
      case measure => simp [intOf]; omega
    · obtain rfl : k = m := by omega
      go_wp2
      go_ret
      rw [HQ.out, ← HM.out, List.take_length]
      exact ⟨rfl, below_seq HBV.out HB.out⟩
theorem roomR_id {m : Nat} (h : m ≤ 65536) : roomR (m : Int) = m := by unfold roomR; rw [if_neg (by omega)]; split <;> omega
theorem infoU64 : (Tryd.prog.info? 33).map (·.size) = some 1 := by kernel_rfl
set_option maxRecDepth 20000 in
theorem copy_calls (A : Option Addr) (c g r : Nat) (ws : List Nat) (w : World) (hK : Wok r ws) (h1 : Wd w A g ws) :
    Calls Tryd.prog 20 #[.agg #[.slice A ws.length c, .int .i64 r]] w fun e w' => ∃ g', e = .returned (.agg #[.slice (some ⟨g', 0, none⟩) ws.length ws.length, .int .i64 r]) ∧ w.heap.size ≤ g' ∧ g' < w'.heap.size ∧ Wd w' (some ⟨g', 0, none⟩) g' ws ∧ Below w.heap.size w w' := by
  have hm1 : ws.length ≤ 1100 := by have := hK.len; have := hK.small; omega
  have h7 := new_calls (r : Int)
  rw [roomR_id hK.small, ← hK.len] at h7
  obtain ⟨m, hme⟩ : ∃ m, ws.length = m := ⟨_, rfl⟩
  have HK := Hd.mk hK; have H1 := Hd.mk h1; have HM := Hd.mk hme
  rw [hme] at hm1 h7 ⊢
  have H7 := Hd.mk h7
  clear hK h1 hme h7
  rcases Nat.eq_zero_or_pos m with hm0 | hm0
  · subst hm0
    obtain rfl : ws = [] := List.eq_nil_of_length_eq_zero HM.out
    go_enter Tryd.func20, Tryd.ntmps20
    go_wp2_with (first
      | (have hq_ := hq1c0; clear hq_; refine wpList_copy_nothing rfl (.tmp 8) (.tmp 10) 26 26 rfl 33 Tryd.underlying26 infoU64 (some ⟨g', 0, none⟩) A 0 0 0 c rfl rfl rfl ?_)
      | (go_at_call 27; go_must (refine Calls.mono (H7.out _) ?_; rintro e w1 ⟨g', rfl, hg, hgl, hwd, hb1⟩; have hq0 := blk_below (blk_alloc (blk_new w (.cells #[.slice A 0 c, .int .i64 r] 28) _ rfl) (.cells #[.slice none 0 0, .int .i64 0] 28)) hb1; have hq1 := blk_below (blk_new (w.alloc (.cells #[.slice A 0 c, .int .i64 r] 28)) (.cells #[.slice none 0 0, .int .i64 0] 28) (w.heap.size + 1) (by rw [size_alloc])) hb1; have hq0c0 := blk_cell hq0 0 _ rfl; have hq0f0 := blk_frozen hq0 0; have hq0c1 := blk_cell hq0 1 _ rfl; have hq0f1 := blk_frozen hq0 1; have hq0l := blk_lt hq0; have hq1c0 := blk_cell hq1 0 _ rfl; have hq1f0 := blk_frozen hq1 0; have hq1c1 := blk_cell hq1 1 _ rfl; have hq1f1 := blk_frozen hq1 1; have hq1l := blk_lt hq1)))
    refine bodyPost_ret (results_cell_row rfl _ _ (w.heap.size + 1) 28 #[.slice (some ⟨g', 0, none⟩) 0 0, .int .i64 r] (0, 0) _ rfl (blk_alloc (blk_set (blk_set hq1 0 _ _ rfl) 1 _ _ rfl) _) Tryd.underlying28 rfl (by kernel_rfl)) rfl ?_
    rw [size_alloc, size_alloc] at hg
    have hbw := below_seq (below_alloc (below_alloc (Below.refl w.heap.size w) (.cells #[.slice A 0 c, .int .i64 r] 28)) (.cells #[.slice none 0 0, .int .i64 0] 28)) hb1
    exact ⟨g', rfl, by omega, by simp only [size_set, size_alloc]; omega, .inl rfl, below_alloc (below_set (below_set hbw (Nat.le_succ _) _ _) (Nat.le_succ _) _ _) _⟩
  · obtain ⟨x, hx⟩ : ∃ x, ws[0]? = some x := ⟨_, List.getElem?_eq_getElem (by rw [HM.out]; exact hm0)⟩
    obtain ⟨rfl, hblk⟩ := H1.out.at_ hx
    have HBK := Hd.mk hblk
    have hgw := hblk.lt
    have HCL : Hd ((flatC wE ws).length = m) := ⟨by rw [flat_len w_len, HM.out, Nat.mul_one]⟩
    clear hx hblk
    go_enter Tryd.func20, Tryd.ntmps20
    go_wp2_with (first
      | (have hq_ := hq1c0; clear hq_; refine wpList_copy_own rfl (.tmp 8) (.tmp 10) 26 26 rfl 33 Tryd.underlying26 infoU64 g' 0 m m ⟨g, 0, none⟩ m c rfl rfl _ 33 (blk_alloc HG.out _) (flatC wE ws) (by rw [HCL.out]; exact (Nat.min_self m).symm) (fun j v hj => ?src) (by rw [HCL.out]; simp [flat_len w_len]) (fun v hv => ?one) ?_; (case src => exact (by obtain ⟨rs, hrs⟩ := HBK.out; have h9 := blk_below hrs (below_alloc (below_seq (below_alloc (below_alloc (Below.refl _ _) _) _) HB1.out) (.cells #[.slice (some ⟨g', 0, none⟩) m m, .int .i64 r] 28)); have h8 := blk_cell h9 j v (by rw [List.getElem?_toArray, List.getElem?_append_left (List.getElem?_eq_some_iff.1 hj).1]; exact hj); have ha : (⟨g, 0, none⟩ : Addr).add j = ⟨g, j, none⟩ := (by unfold Addr.add; split <;> simp_all); rw [ha]; exact h8)); (case one => exact (by unfold flatC at hv; obtain ⟨y, _, hy⟩ := List.mem_flatMap.1 hv; exact w_one y v hy)); generalize hU : World.setRow _ _ _ = U; have hu1 : U.heap[w.heap.size + 1]? = some (.cells #[.slice none 0 0, .int .i64 0] 28 (0, 0)) := (by rw [← hU, setRow_other _ _ _ _ (by rw [size_alloc, size_alloc] at hg; omega)]; exact blk_alloc hq1 _); have hu3 : U.heap[w1.heap.size]? = some (.cells #[.slice (some ⟨g', 0, none⟩) m m, .int .i64 r] 28 (0, 0)) := (by rw [← hU, setRow_other _ _ _ _ (by omega)]; exact blk_new _ _ _ rfl); have HUG : Hd (Blk wE U 33 g' ws) := ⟨⟨rs', by rw [← hU, setRow_heap _ _ _ _ _ _ (blk_alloc HG.out _)]; congr 2; simp [HCL.out, flat_len w_len]⟩⟩; have HUB : Hd (Below w.heap.size w U) := ⟨by rw [← hU]; exact below_setRow (below_alloc (below_seq (below_alloc (below_alloc (Below.refl _ _) _) _) HB1.out) _) (by rw [size_alloc, size_alloc] at hg; omega) _⟩; have hgU : g' < U.heap.size := HUG.out.lt; clear hU; clear hq1c0 hq1f0 hq1c1 hq1f1 hq1l; have hu1c0 := blk_cell hu1 0 _ rfl; have hu1f0 := blk_frozen hu1 0; have hu1c1 := blk_cell hu1 1 _ rfl; have hu1f1 := blk_frozen hu1 1; have hu1l := blk_lt hu1; have hu3c0 := blk_cell hu3 0 _ rfl; have hu3f0 := blk_frozen hu3 0; have hu3c1 := blk_cell hu3 1 _ rfl; have hu3f1 := blk_frozen hu3 1; have hu3l := blk_lt hu3)
      | (go_at_call 27; go_must (refine Calls.mono (H7.out _) ?_; rintro e w1 ⟨g', rfl, hg, hgl, hwd, hb1⟩; have hq0 := blk_below (blk_alloc (blk_new w (.cells #[.slice (some ⟨g, 0, none⟩) m c, .int .i64 r] 28) _ rfl) (.cells #[.slice none 0 0, .int .i64 0] 28)) hb1; have hq1 := blk_below (blk_new (w.alloc (.cells #[.slice (some ⟨g, 0, none⟩) m c, .int .i64 r] 28)) (.cells #[.slice none 0 0, .int .i64 0] 28) (w.heap.size + 1) (by rw [size_alloc])) hb1; have hq0c0 := blk_cell hq0 0 _ rfl; have hq0f0 := blk_frozen hq0 0; have hq0c1 := blk_cell hq0 1 _ rfl; have hq0f1 := blk_frozen hq0 1; have hq0l := blk_lt hq0; have hq1c0 := blk_cell hq1 0 _ rfl; have hq1f0 := blk_frozen hq1 0; have hq1c1 := blk_cell hq1 1 _ rfl; have hq1f1 := blk_frozen hq1 1; have hq1l := blk_lt hq1; have HB1 := Hd.mk hb1; obtain ⟨rs', hrs'⟩ := ((hwd.at_ (q := 0) (x := 0) (by rw [List.getElem?_replicate, if_pos hm0])).2); have HG := Hd.mk hrs'; clear hrs' hwd hb1)))
    refine bodyPost_ret (results_cell_row rfl _ _ (w.heap.size + 1) 28 #[.slice (some ⟨g', 0, none⟩) m m, .int .i64 r] (0, 0) _ rfl (blk_set (blk_set hu1 0 _ _ rfl) 1 _ _ rfl) Tryd.underlying28 rfl (by kernel_rfl)) rfl ?_
    rw [size_alloc, size_alloc] at hg
    exact ⟨g', rfl, by omega, by simp only [size_set]; exact hgU, .inr ⟨rfl, (HUG.out.far (by show ¬ g' = w.heap.size + 1; omega) _).far (by show ¬ g' = w.heap.size + 1; omega) _⟩, below_set (below_set HUB.out (Nat.le_succ _) _ _) (Nat.le_succ _) _ _⟩
end Go.Proofs.YtbmpaokicphdjaaDoor.Fn
