/- What New and Text compute. -/
import Derived.Test.YtbdnhdecclndfaaR4
import Derived.OwnWalk
import Derived.Laws.IdiomStrings
namespace Go.Proofs.Ytbdnhdecclndfaa.Fn
open Go Go.RowKit Go.Proofs.Ytbdnhdecclndfaa.Can Go.Proofs.Ytbdnhdecclndfaa.Base
attribute [local go_sem] clsB AB.cell

theorem u_one (x : UInt8) : ∀ u ∈ uE x, u.oneCell' = true := fun u hu => by simp [uE] at hu; subst hu; rfl
abbrev bT : Ty UInt8 := Ty.flat 1 uE u_len u_one
theorem info5 : (Try.prog.info? 5).map (fun i => (i.zero, i.size, i.bytes)) = some (some (.int .u8 0), 1, 1) := by kernel_rfl
def roomN (n : Int) : Nat := (if n < 1 then 1 else if 65536 < n then 65536 else n).toNat
theorem roomN_pos (n : Int) : 0 < roomN n ∧ roomN n ≤ 65536 := by unfold roomN; split <;> (try split) <;> omega
theorem new_calls (n : Int) (w : World) : Calls Try.prog 6 #[.int .i64 n] w fun e w' =>
    ∃ p r rs, e = .returned (.pointer (some ⟨p, 0, none⟩)) ∧ w.heap.size ≤ p ∧ w.heap.size ≤ r ∧ Rg w' p r (roomN n) 0 [] rs ∧ Below w.heap.size w w' := by
  obtain ⟨m, hm⟩ : ∃ m, roomN n = m := ⟨_, rfl⟩
  have hp := roomN_pos n
  rw [hm] at hp ⊢
  obtain ⟨m1, hm1⟩ : ∃ m1 : Int, (if n < 1 then 1 else n) = m1 := ⟨_, rfl⟩
  have hm2 : (if (65536 : Int) < m1 then 65536 else m1) = m := by
    rw [← hm1, ← hm]; unfold roomN; split <;> split <;> (try split) <;> omega
  obtain ⟨i0, hi, hz, hs, hbb⟩ := info_of info5
  have HM1 := Hd.mk hm1; have HM2 := Hd.mk hm2; have HI := Hd.mk (And.intro hi (And.intro hz (And.intro hs hbb)))
  clear hm1 hm2 hi hz hs hbb hm
  go_enter Try.func6, Try.ntmps6
  go_wp2_with (first | (at_make; go_must (refine wpList_make_full _ rfl (.tmp 5) (.tmp 5) 41 rfl w.heap.size 5 i0 (.int .u8 0) 1 Try.underlying41 HI.out.1 HI.out.2.1 HI.out.2.2.1 .i64 .i64 m m m rfl rfl rfl rfl (by rw [HI.out.2.2.2]; omega) (by simp only [maxLen]; omega) (Nat.le_refl _) ?_; intro w1 ho1 hg1)) | (refine max_int rfl (.tmp 3) (.const (.int .i64 1)) _ rfl .i64 n 1 m1 rfl rfl HM1.out ?_) | (refine min_int rfl (.tmp 4) (.const (.int .i64 65536)) _ rfl .i64 m1 65536 m rfl rfl HM2.out ?_))
  go_ret
  have hz1 := hg1.size
  have hh : w1.heap[w.heap.size]? = some (.cells (flatC uE (List.replicate m 0)).toArray 5 (0, 0)) := by
    rcases ho1.2 with ⟨h0, _⟩ | ⟨g, cap, cur, he, hg, hh, hcap, _, hcs, ht⟩
    · cases h0
    · simp only [Value.slice.injEq, Option.some.injEq, Addr.mk.injEq, and_true, true_and] at he
      obtain ⟨rfl, rfl⟩ := he
      rw [hh]
      rw [List.take_of_length_le (by simp [hcs])] at ht
      have hcur : cur = (madeCells (Value.int .u8 0).cells (m * 1)) := by
        apply Array.toList_inj.1; exact ht
      rw [hcur, made_flat (enc := uE) (x := 0) (zc := (Value.int .u8 0).cells) u_len (by decide) rfl m]
  refine ⟨w1.heap.size, w.heap.size, List.replicate m 0, rfl, by omega, Nat.le_refl _, ⟨by rw [blk_new _ _ _ rfl]; rfl, ⟨[], by rw [List.append_nil]; exact blk_alloc hh _⟩, by have := blk_lt hh; omega, by simp, hp.1, hp.2, Nat.le_refl _, by simp, fun i _ hi => by simp at hi⟩, ?_⟩
  have hb1 : Below w.heap.size w w1 := (Below.refl _ _).grown hg1 (Nat.le_refl _) (fun k hk => by cases hk)
  exact (by repeat (first | (with_reducible assumption) | (with_reducible exact Below.refl _ _) | (with_reducible apply below_drewL) | (with_reducible apply below_alloc) | (with_reducible apply below_drew1) | (with_reducible apply below_drewN) | (refine below_set ?_ (by first | omega | (simp only [size_alloc, size_drew, size_set]; omega)) _ _)))

def loN (f : Int) (fl : Nat) : Nat := (if f < fl then (fl : Int) else f).toNat
def hiN (t : Int) (e : Nat) : Nat := (if (e : Int) < t then (e : Int) else t).toNat
def textL (all : List UInt8) (fl : Nat) (f t : Int) : List UInt8 := (all.take (hiN t all.length)).drop (loN f fl)
set_option maxHeartbeats 1000000 in
theorem text_calls (f t : Int) {p r m fl : Nat} {all rs : List UInt8} {w : World} (h : Rg w p r m fl all rs) (hE : all.length ≤ 1000000000) : Calls Try.prog 18 #[.pointer (some ⟨p, 0, none⟩), .int .i64 f, .int .i64 t] w fun e w' =>
    e = .returned (.string ⟨(textL all fl f t).toArray⟩) ∧ Below w.heap.size w w' := by
  have hmf : ∀ (fn : Fn) (first cap : Array Value) (w : World), (Instr.makeFunc fn first cap).run Try.prog w = .ok (.func fn first cap) w := fun _ _ _ _ => rfl
  have h1 := h.max
  have h2 := h.pos
  have h3 := h.fle
  have h4 := h.room
  obtain ⟨e, he⟩ : ∃ e, all.length = e := ⟨_, rfl⟩
  rw [he] at h3 h4 hE
  obtain ⟨i0, hi, hz, hs5, hbb⟩ := info_of info5
  have HI := Hd.mk (And.intro hi (And.intro hz (And.intro hs5 hbb)))
  obtain ⟨lo, hlo⟩ : ∃ lo, loN f fl = lo := ⟨_, rfl⟩
  have hloI : (if f < (fl : Int) then (fl : Int) else f) = lo := by rw [← hlo]; unfold loN; split <;> omega
  have hlofl : fl ≤ lo := by rw [← hlo]; unfold loN; split <;> omega
  obtain ⟨hh, hhh⟩ : ∃ hh : Int, (if (e : Int) < t then (e : Int) else t) = hh := ⟨_, rfl⟩
  have hhe : hh ≤ e := by rw [← hhh]; split <;> omega
  have hhN : hiN t e = hh.toNat := by unfold hiN; rw [hhh]
  have HLO := Hd.mk hloI; have HHH := Hd.mk hhh; have HHN := Hd.mk hhN; have HLN := Hd.mk hlo
  have hs := h.str
  rw [he] at hs
  have HE := Hd.mk he
  have hsc0 := blk_cell hs 0 _ rfl; have hsf0 := blk_frozen hs 0; have hsc1 := blk_cell hs 1 _ rfl; have hsf1 := blk_frozen hs 1; have hsc2 := blk_cell hs 2 _ rfl; have hsf2 := blk_frozen hs 2; have hsl := blk_lt hs
  have HS := Hd.mk hs
  have H := Hd.mk h; clear h he hi hz hs5 hbb hlo hloI hhh hhN hs
  go_enter Try.func18, Try.ntmps18
  go_wp2_with (first
    | (at_make; go_must (refine wpList_make_own _ rfl (.const (.int .i64 0)) (.tmp 19) 41 rfl w.heap.size 5 i0 (.int .u8 0) 1 Try.underlying41 HI.out.1 HI.out.2.1 HI.out.2.2.1 .i64 .i64 m m rfl rfl rfl (by rw [HI.out.2.2.2]; omega) (by simp only [maxLen]; omega) (Nat.le_refl _) ?_; intro w1 ho1 hg1; have hb1 : Below w.heap.size w w1 := (Below.refl _ _).grown hg1 (Nat.le_refl _) (fun k hk => (by cases hk)); have hs1 := blk_below HS.out hb1; have HM1 : Hd (Mine bT w1 w.heap.size 5 (.slice (some ⟨w.heap.size, 0, none⟩) 0 m) []) := ⟨⟨[], ho1, Cells.nil, fun _ h => h.elim⟩⟩; clear ho1 hg1; clear hsc0 hsf0 hsc1 hsf1 hsc2 hsf2 hsl; have hs1c0 := blk_cell hs1 0 _ rfl; have hs1f0 := blk_frozen hs1 0; have hs1c1 := blk_cell hs1 1 _ rfl; have hs1f1 := blk_frozen hs1 1; have hs1c2 := blk_cell hs1 2 _ rfl; have hs1f2 := blk_frozen hs1 2; have hs1l := blk_lt hs1))
    | (refine max_int rfl (.tmp 21) (.tmp 25) _ rfl .i64 f fl lo rfl rfl HLO.out ?_)
    | (go_at_call 20; go_must (refine Calls.mono (made_calls H.out) ?_; rintro e9 w ⟨rfl, rfl⟩)))
  clear HS
  go_loopw [8, 9] (fun v i wr => ∃ k n c g : Nat, lo ≤ k ∧ (k = lo ∨ (k : Int) ≤ hh) ∧ i = .int .i64 k ∧ v = .slice (some ⟨g, 0, none⟩) n c ∧ Hd (((all.take k).drop lo).length = n) ∧ n ≤ e ∧ Hd (Mine bT wr w.heap.size 5 v ((all.take k).drop lo)) ∧ Hd (Below w.heap.size w wr)) (fun _ i _ => e - (intOf i).toNat)
  case atStart => exact ⟨lo, 0, m, _, Nat.le_refl _, .inl rfl, rfl, rfl, ⟨by rw [List.drop_eq_nil_of_le (by rw [List.length_take]; omega)]; rfl⟩, Nat.zero_le _, ⟨by rw [List.drop_eq_nil_of_le (by rw [List.length_take]; omega)]; exact HM1.out⟩, ⟨hb1⟩⟩
  case round =>
    clear HM1
    obtain ⟨k, n, c, g, hk, hkh, rfl, rfl, HN, hn, HM, hb⟩ := hrel
    have HG := Hd.mk (H.out.below hb.out)
    have hs := HG.out.str
    rw [HE.out] at hs
    clear hs1c0 hs1f0 hs1c1 hs1f1 hs1c2 hs1f2 hs1l
    have hsc0 := blk_cell hs 0 _ rfl; have hsf0 := blk_frozen hs 0; have hsc1 := blk_cell hs 1 _ rfl; have hsf1 := blk_frozen hs 1; have hsc2 := blk_cell hs 2 _ rfl; have hsf2 := blk_frozen hs 2; have hsl := blk_lt hs
    have hrl := HG.out.row.lt
    by_cases hlt : (k : Int) < hh
    · have hke : k < e := by omega
      obtain ⟨b, hb0⟩ : ∃ b, all[k]? = some b := ⟨_, List.getElem?_eq_getElem (by rw [HE.out]; exact hke)⟩
      obtain ⟨j, hj⟩ : ∃ j, k % m = j := ⟨_, rfl⟩
      have hjm : j < m := by rw [← hj]; exact Nat.mod_lt _ h2
      have hcell : wr.cell? ⟨r, j, none⟩ = some (.int .u8 (b.toNat : Int)) := by
        have h9 := HG.out.ok k (by omega) (by rw [HE.out]; exact hke)
        rw [hj, hb0] at h9
        have := HG.out.row.cell (j := 0) u_len h9 rfl
        simpa using this
      have HST : Hd ((all.take k).drop lo ++ [b] = (all.take (k + 1)).drop lo) := ⟨by
        rw [List.take_add_one, hb0, List.drop_append_of_le_length (by rw [List.length_take, HE.out]; omega)]; rfl⟩
      have HJ := Hd.mk hj
      clear hj hb0 hs
      go_wp2_with (refine min_int rfl (.tmp 28) (.tmp 32) _ rfl .i64 t e hh rfl rfl HHH.out ?_)
      refine wp_region_can (.q [0, 1, 2, 3, 4, 5, 6] (.e 7 true (.q [8, 9] (.e 10 false (.e 11 false (.q [12] (.done))))))) (clsB _) (by kernel_rfl) (by kernel_rfl) (by intro _ _ d _ _ h; cases d <;> exact h) (clsB_drew _) ?_
      refine can_q (l := [⟨_,_,_,_,_,_⟩, ⟨_,_,_,_,_,_⟩, ⟨_,_,_,_,_,_⟩, ⟨_,_,_,_,_,_⟩, ⟨_,_,_,_,_,_⟩, ⟨_,_,_,_,_,_⟩, ⟨_,_,_,_,_,_⟩]) rfl ?_
      repeat (go_big_quiet_step (fail))
      refine wpQuiet_nil ?_
      refine can_e (o := ⟨_,_,_,_,_,_⟩) rfl (fun K hK => ?_)
      go_wp2_with (go_at_call 19; go_must (refine Calls.mono (place_calls k (HG.out.below (by repeat (first | (with_reducible assumption) | (with_reducible exact Below.refl _ _) | (with_reducible apply below_drewL) | (with_reducible apply below_alloc) | (with_reducible apply below_drew1) | (with_reducible apply below_drewN) | (refine below_set ?_ (by first | omega | (simp only [size_alloc, size_drew, size_set]; omega)) _ _))))) ?_; rintro e9 w2 ⟨hh9, rfl⟩; rw [HJ.out] at hh9; subst hh9))
      refine onK_normal (hK _ _ ⟨clsB _, (by first | exact clsB_drew _ | exact clsB_self _), fun _ => clsB_next (by first | exact ((by repeat (first | (with_reducible assumption) | (with_reducible exact Below.refl _ _) | (with_reducible apply below_drewL) | (with_reducible apply below_alloc) | (with_reducible apply below_drew1) | (with_reducible apply below_drewN) | (refine below_set ?_ (by first | omega | (simp only [size_alloc, size_drew, size_set]; omega)) _ _)))) | exact below_undrew ((by repeat (first | (with_reducible assumption) | (with_reducible exact Below.refl _ _) | (with_reducible apply below_drewL) | (with_reducible apply below_alloc) | (with_reducible apply below_drew1) | (with_reducible apply below_drewN) | (refine below_set ?_ (by first | omega | (simp only [size_alloc, size_drew, size_set]; omega)) _ _))))), ?_⟩)
      clear hK K
      refine can_q (l := [⟨_,_,_,_,_,_⟩, ⟨_,_,_,_,_,_⟩]) rfl ?_
      repeat (go_big_quiet_step (fail))
      refine wpQuiet_nil ?_
      refine can_e (o := ⟨_,_,_,_,_,_⟩) rfl (fun K hK => ?_)
      go_wp2_with fail
      refine onK_normal (hK _ _ ⟨fun _ => True, trivial, (fun h => by cases h), ?_⟩)
      clear hK K
      refine can_e (o := ⟨_,_,_,_,_,_⟩) rfl (fun K hK => ?_)
      go_wp2_with (at_builtin; go_must (refine append_snoc bT (Ty.flat_flat _ _ _ _) rfl (.tmp 37) (.tmp 47) 41 5 _ 1 rfl Try.underlying41 info5 rfl (by decide) (by decide) w.heap.size (.slice (some ⟨g, 0, none⟩) n c) ((all.take k).drop lo) b [.int .u8 (b.toNat : Int)] wr.heap.size rfl rfl (blk_new _ _ _ rfl) rfl (HM.out.below (by repeat (first | (with_reducible assumption) | (with_reducible exact Below.refl _ _) | (with_reducible apply below_drewL) | (with_reducible apply below_alloc) | (with_reducible apply below_drew1) | (with_reducible apply below_drewN) | (refine below_set ?_ (by first | omega | (simp only [size_alloc, size_drew, size_set]; omega)) _ _)))) (HM.out.ne_new (Nat.le_refl _)) (by simp only [size_alloc, size_drew]; have := hb.out.size; omega) (by rw [HN.out]; omega) ?_; intro v4 w4 hM4 hb4 hk4 hat4; rw [HST.out] at hM4; have hl4 : ((all.take (k + 1)).drop lo).length = n + 1 := (by rw [← HST.out, List.length_append, HN.out]; rfl); obtain ⟨g4, c4, hv4, _, _, _⟩ := hM4.blk u_len (by rw [hl4]; omega); rw [hl4] at hv4; subst hv4; have HM4 := Hd.mk hM4; have HL4 := Hd.mk hl4; have HB4 : Hd (Below w.heap.size w w4) := ⟨Below.trans (below_alloc (below_drew1 hb.out) _) hb4⟩; clear hM4 hb4 hk4 hat4 hl4))
      refine onK_normal (hK _ _ ⟨fun _ => True, trivial, (fun h => by cases h), ?_⟩)
      clear hK K
      refine can_q (l := [⟨_,_,_,_,_,_⟩]) rfl ?_
      repeat (go_big_quiet_step (fail))
      refine wpQuiet_nil ?_
      refine can_done ?_
      go_wp2
      go_roundw
      case rel => exact ⟨k + 1, n + 1, c4, g4, by omega, .inr (by omega), by go_num, rfl, HL4, by have := HL4.out; rw [List.length_drop, List.length_take, HE.out] at this; omega, HM4, HB4⟩
      case measure => simp [intOf]; omega
    · have hconv : (convert 41 9 (.slice (some ⟨g, 0, none⟩) n c)).run Try.prog wr = .ok (.string ⟨((all.take k).drop lo).toArray⟩) wr := by
        have := run_convert_bytes_back (P := Try.prog) wr 41 9 5 ⟨g, 0, none⟩ c ((all.take k).drop lo) Try.underlying41 Try.underlying5 Try.underlying9 (fun x hx => by
          obtain ⟨A9, c9, hv9, _, _, hR9⟩ := HM.out.form
          obtain ⟨b9, o9, cs, he9, _, hr9, hc9⟩ := hR9.get x hx
          have hr9' : cs = uE _ := hr9
          subst hr9'
          cases hv9
          cases he9
          have h0 := hc9 0 _ rfl
          have ha : (⟨g, 0, none⟩ : Addr).add x = ⟨g, x, none⟩ := by unfold Addr.add; split <;> simp_all
          have h1 : 0 + x * bT.sz + 0 = x := by show 0 + x * 1 + 0 = x; omega
          rw [h1] at h0
          rw [ha]
          exact h0)
        rw [HN.out] at this
        exact this
      have hend : textL all fl f t = (all.take k).drop lo := by
        unfold textL
        rw [HLN.out, HE.out, HHN.out]
        rcases hkh with rfl | hkh
        · rw [List.drop_eq_nil_of_le (by rw [List.length_take]; omega), List.drop_eq_nil_of_le (by rw [List.length_take]; omega)]
        · rw [show hh.toNat = k by omega]
      have HEND := Hd.mk hend; clear hend
      go_wp2_with (refine min_int rfl (.tmp 28) (.tmp 32) _ rfl .i64 t e hh rfl rfl HHH.out ?_)
      go_ret
      exact ⟨ret_str (by rw [HEND.out]), hb.out⟩
end Go.Proofs.Ytbdnhdecclndfaa.Fn
