/- The reference's Add. -/
import Derived.Test.YtbmpaokicphdjaaDoorB13
namespace Go.Proofs.YtbmpaokicphdjaaDoor.Fn
open Go Go.RowKit Go.Proofs.YtbmpaokicphdjaaDoor.Can Go.Proofs.YtbmpaokicphdjaaDoor.Base
attribute [local go_sem] clsB AB.cell

/-- R is L with x put at its place. -/
def Ins (L : List Int) (x : Int) (R : List Int) : Prop := ∃ k, k ≤ L.length ∧ (∀ y ∈ L.take k, y < x) ∧ (∀ y, L[k]? = some y → x ≤ y) ∧ R = L.take k ++ x :: L.drop k
theorem radd_same (A : Option Addr) (n c room : Nat) (L : List Int) (x : Int) (S : Nat → Prop) (w : World) (hS : ∀ k, S k → k < w.heap.size) (hC : Row I w S A n L) (hx : ¬ inR room x ∨ x ∈ L) :
    Calls Tryd.prog 16 #[.slice A n c, .int .i64 x, .int .i64 room] w fun e w' => e = .returned (.slice A n c) ∧ Below w.heap.size w w' := by
  by_cases h0 : x < 0
  · go_enter Tryd.func16, Tryd.ntmps16
    go_wp2
    go_ret
    exact ⟨rfl, Below.refl _ _⟩
  · by_cases h1 : (room : Int) ≤ x
    · go_enter Tryd.func16, Tryd.ntmps16
      go_wp2
      go_ret
      exact ⟨rfl, Below.refl _ _⟩
    · have hmem : decide (x ∈ L) = true := decide_eq_true (hx.resolve_left fun h => h (by unfold inR; omega))
      have HC := Hd.mk hC; have HS := Hd.mk hS; have HM := Hd.mk hmem
      clear hC hS hmem hx
      go_enter Tryd.func16, Tryd.ntmps16
      go_wp2_with (go_at_call 70; go_must (refine Calls.mono (rhas_calls A n c L x true S _ HS.out HC.out HM.out) ?_; rintro e w1 ⟨rfl, hb1⟩))
      go_ret
      exact ⟨rfl, hb1⟩
set_option maxHeartbeats 1000000 in
theorem radd_new (A : Option Addr) (n c room : Nat) (L : List Int) (x : Int) (S : Nat → Prop) (w : World) (hS : ∀ k, S k → k < w.heap.size) (hC : Row I w S A n L) (hc : n ≤ c) (hA : A = none → c = 0) (hn : n ≤ 1000000) (hx : inR room x) (hm : x ∉ L) :
    Calls Tryd.prog 16 #[.slice A n c, .int .i64 x, .int .i64 room] w fun e w' => ∃ R v, e = .returned v ∧ Ins L x R ∧ Mine I w' w.heap.size 3 v R ∧ Below w.heap.size w w' := by
  have h0 : ¬ x < 0 := by unfold inR at hx; omega
  have h1 : ¬ (room : Int) ≤ x := by unfold inR at hx; omega
  have hmem : decide (x ∈ L) = false := decide_eq_false hm
  have HC := Hd.mk hC; have HS := Hd.mk hS; have HM := Hd.mk hmem; have HA := Hd.mk hA; have HCc := Hd.mk hc
  clear hC hS hmem hx hm hA hc
  go_enter Tryd.func16, Tryd.ntmps16
  go_wp2_with (go_at_call 70; go_must (refine Calls.mono (rhas_calls A n c L x false S _ HS.out HC.out HM.out) ?_; rintro e w1 ⟨rfl, hb1⟩; have HB1 := Hd.mk hb1; clear hb1))
  clear h0 h1
  go_loopw [7] (fun i wr => ∃ k : Nat, k ≤ n ∧ i = .int .i64 k ∧ Hd (∀ y ∈ L.take k, y < x) ∧ Hd (Below w.heap.size w wr)) (fun i _ => n - (intOf i).toNat)
  case atStart => exact ⟨0, Nat.zero_le _, rfl, ⟨by simp⟩, HB1⟩
  case round =>
    clear HB1
    obtain ⟨k, hk, rfl, HP, HB⟩ := hrel
    have hgo : (k < n ∧ ∃ y, L[k]? = some y ∧ y < x) ∨ (k < n ∧ ∃ y, L[k]? = some y ∧ ¬ y < x) ∨ ¬ k < n := by
      by_cases hlt : k < n
      · obtain ⟨y, hy⟩ : ∃ y, L[k]? = some y := ⟨_, List.getElem?_eq_getElem (by rw [HC.out.1]; exact hlt)⟩
        by_cases hyx : y < x
        · exact .inl ⟨hlt, y, hy, hyx⟩
        · exact .inr (.inl ⟨hlt, y, hy, hyx⟩)
      · exact .inr (.inr hlt)
    rcases hgo with ⟨hlt, y, hy, hyx⟩ | hend
    · obtain ⟨g, off, y', rfl, _, hg, hy', hcell⟩ := (HC.out.below HS.out HB.out).get_int k hlt
      obtain rfl : y' = y := by rw [hy'] at hy; exact Option.some.inj hy
      have HP2 : Hd (∀ z ∈ L.take (k + 1), z < x) := ⟨fun z hz => by
        rw [List.take_add_one, hy] at hz
        simp only [Option.toList_some, List.mem_append, List.mem_singleton] at hz
        rcases hz with hz | rfl
        · exact HP.out z hz
        · exact hyx⟩
      clear hy hy'
      go_wp2
      go_roundw
      case rel => exact ⟨k + 1, by omega, by go_num, HP2, HB⟩
      case measure => simp [intOf]; omega
    · have HIns : Hd (Ins L x (L.take k ++ x :: L.drop k)) := ⟨k, by rw [HC.out.1]; exact hk, HP.out, (fun y hy => by
        rcases hend with ⟨_, z, hz, hzx⟩ | h
        · rw [hz] at hy; cases hy; omega
        · rw [List.getElem?_eq_none (by rw [HC.out.1]; omega)] at hy; cases hy), rfl⟩
      obtain ⟨i0, hi, _, hsz, _⟩ := info_of info3
      obtain ⟨A1, hcut1, hrow1, hnil1⟩ := cut_to I 24 3 Tryd.underlying24 hi hsz A n c k hk HCc.out
      obtain ⟨A2, hcut2, hrow2, hnil2⟩ := cut_from I 24 3 Tryd.underlying24 hi hsz A n c k hk HCc.out
      have hk1 : ∀ W, (Instr.slice 24 (.slice A n c) none (some (.int .i64 k)) none).run Tryd.prog W = .ok (.slice A1 k c) W := fun W => hcut1 W .i64
      have hk2 : ∀ W, (Instr.slice 24 (.slice A n c) (some (.int .i64 k)) none none).run Tryd.prog W = .ok (.slice A2 (n - k) (c - k)) W := fun W => hcut2 W .i64
      have HR1 : Hd (∀ W, Below w.heap.size w W → Row I W S A1 k (L.take k)) := ⟨fun W hb => hrow1 W S L (HC.out.below HS.out hb)⟩
      have HR2 : Hd (∀ W, Below w.heap.size w W → Row I W S A2 (n - k) (L.drop k)) := ⟨fun W hb => hrow2 W S L (HC.out.below HS.out hb)⟩
      have HN1 := Hd.mk (hnil1 HA.out); have HN2 := Hd.mk (hnil2 HA.out)
      have HLK : Hd ((L.take k).length = k) := ⟨by rw [List.length_take, HC.out.1]; omega⟩
      have HZ : Hd (w.heap.size ≤ wr.heap.size) := ⟨HB.out.size⟩
      clear hi hsz hcut1 hcut2 hrow1 hrow2 hnil1 hnil2
      rcases hend with ⟨hlt, z, hz, hzx⟩ | hend
      · obtain ⟨g, off, y', rfl, _, hg, hy', hcell⟩ := (HC.out.below HS.out HB.out).get_int k hlt
        obtain rfl : y' = z := by rw [hy'] at hz; exact Option.some.inj hz
        clear hz hy'
        go_wp2_with (first
          | (have hq_ := HM3; clear hq_; at_builtin; refine append_row I (Ty.int_flat _) rfl (.tmp 45) (.tmp 48) 24 3 _ 8 rfl Tryd.underlying24 info3 rfl (by decide) (by decide) wr.heap.size (.slice A4 n4 c4) (L.take k ++ [x]) (L.drop k) A2 (n - k) (c - k) rfl rfl HN2.out HM3.out (HR2.out _ HB3.out) (fun q hq => ⟨by have := HS.out q hq; have := HB3.out.size; omega, HM3.out.ne_old (by have := HS.out q hq; have := HZ.out; omega)⟩) (by have := HB3z.out; omega) (by rw [List.length_append, HLK.out]; simp only [List.length_singleton]; omega) ?_; intro v5 w5 hM5 hb5 hk5 hat5; have HM5 := Hd.mk hM5; have HB5 := Hd.mk (HB3.out.trans (hb5.mono HZ.out)); clear hM5 hb5 hk5 hat5)
          | (have hq_ := HM2; have hq3_ := HLK; clear hq_ hq3_; at_builtin; go_must (refine append_snoc I (Ty.int_flat _) rfl (.tmp 41) (.tmp 43) 24 3 _ 8 rfl Tryd.underlying24 info3 rfl (by decide) (by decide) wr.heap.size (.slice A3 n3 c3) (L.take k) x [.int .i64 x] w2.heap.size rfl rfl (blk_new _ _ _ rfl) rfl (HM2.out.below (by repeat (first | (with_reducible assumption) | (with_reducible exact Below.refl _ _) | (with_reducible apply below_drewL) | (with_reducible apply below_alloc) | (with_reducible apply below_drew1) | (with_reducible apply below_drewN) | (refine below_set ?_ (by first | omega | (simp only [size_alloc, size_drew, size_set]; omega)) _ _)))) (HM2.out.ne_new (Nat.le_refl _)) (by rw [size_alloc]; have := HB2z.out; omega) (by rw [HLK.out]; omega) ?_; intro v4 w4 hM4 hb4 hk4 hat4; obtain ⟨A4, n4, c4, rfl, -, -, -, -⟩ := hM4.formN; have HB3 := Hd.mk ((HB2.out.trans ((below_alloc (Below.refl _ _) _).mono HB2.out.size)).trans (hb4.mono HZ.out)); have HB3z : Hd (wr.heap.size ≤ w4.heap.size) := ⟨by have := hb4.size; rw [size_alloc] at this; have := HB2z.out; omega⟩; have HM3 := Hd.mk hM4; clear hM4 hb4 hk4 hat4))
          | (at_builtin; go_must (refine append_row I (Ty.int_flat _) rfl (.tmp 36) (.tmp 39) 24 3 _ 8 rfl Tryd.underlying24 info3 rfl (by decide) (by decide) wr.heap.size (.slice (some ⟨wr.heap.size, 0, none⟩) 0 0) [] (L.take k) A1 k c rfl rfl HN1.out (Mine.empty I wr rfl (Nat.le_refl _)) (HR1.out _ (below_alloc HB.out _)) (fun q hq => ⟨by rw [size_alloc]; have := HS.out q hq; have := HZ.out; omega, (Mine.empty (e := 3) I wr rfl (Nat.le_refl _)).ne_old (by have := HS.out q hq; have := HZ.out; omega)⟩) (by rw [size_alloc]; omega) (by simp only [List.length_nil]; omega) ?_; intro v2 w2 hM2 hb2 hk2 hat2; rw [List.nil_append] at hM2; obtain ⟨A3, n3, c3, rfl, -, -, -, -⟩ := hM2.formN; have HB2 := Hd.mk ((below_alloc HB.out _).trans (hb2.mono HZ.out)); have HB2z : Hd (wr.heap.size ≤ w2.heap.size) := ⟨by have := hb2.size; rw [size_alloc] at this; omega⟩; have HM2 := Hd.mk hM2; clear hM2 hb2 hk2 hat2)))
        go_ret
        exact ⟨_, _, rfl, HIns.out, by have := HM5.out.lower HZ.out; rwa [List.append_assoc] at this, HB5.out⟩
      · go_wp2_with (first
          | (have hq_ := HM3; clear hq_; at_builtin; refine append_row I (Ty.int_flat _) rfl (.tmp 45) (.tmp 48) 24 3 _ 8 rfl Tryd.underlying24 info3 rfl (by decide) (by decide) wr.heap.size (.slice A4 n4 c4) (L.take k ++ [x]) (L.drop k) A2 (n - k) (c - k) rfl rfl HN2.out HM3.out (HR2.out _ HB3.out) (fun q hq => ⟨by have := HS.out q hq; have := HB3.out.size; omega, HM3.out.ne_old (by have := HS.out q hq; have := HZ.out; omega)⟩) (by have := HB3z.out; omega) (by rw [List.length_append, HLK.out]; simp only [List.length_singleton]; omega) ?_; intro v5 w5 hM5 hb5 hk5 hat5; have HM5 := Hd.mk hM5; have HB5 := Hd.mk (HB3.out.trans (hb5.mono HZ.out)); clear hM5 hb5 hk5 hat5)
          | (have hq_ := HM2; have hq3_ := HLK; clear hq_ hq3_; at_builtin; go_must (refine append_snoc I (Ty.int_flat _) rfl (.tmp 41) (.tmp 43) 24 3 _ 8 rfl Tryd.underlying24 info3 rfl (by decide) (by decide) wr.heap.size (.slice A3 n3 c3) (L.take k) x [.int .i64 x] w2.heap.size rfl rfl (blk_new _ _ _ rfl) rfl (HM2.out.below (by repeat (first | (with_reducible assumption) | (with_reducible exact Below.refl _ _) | (with_reducible apply below_drewL) | (with_reducible apply below_alloc) | (with_reducible apply below_drew1) | (with_reducible apply below_drewN) | (refine below_set ?_ (by first | omega | (simp only [size_alloc, size_drew, size_set]; omega)) _ _)))) (HM2.out.ne_new (Nat.le_refl _)) (by rw [size_alloc]; have := HB2z.out; omega) (by rw [HLK.out]; omega) ?_; intro v4 w4 hM4 hb4 hk4 hat4; obtain ⟨A4, n4, c4, rfl, -, -, -, -⟩ := hM4.formN; have HB3 := Hd.mk ((HB2.out.trans ((below_alloc (Below.refl _ _) _).mono HB2.out.size)).trans (hb4.mono HZ.out)); have HB3z : Hd (wr.heap.size ≤ w4.heap.size) := ⟨by have := hb4.size; rw [size_alloc] at this; have := HB2z.out; omega⟩; have HM3 := Hd.mk hM4; clear hM4 hb4 hk4 hat4))
          | (at_builtin; go_must (refine append_row I (Ty.int_flat _) rfl (.tmp 36) (.tmp 39) 24 3 _ 8 rfl Tryd.underlying24 info3 rfl (by decide) (by decide) wr.heap.size (.slice (some ⟨wr.heap.size, 0, none⟩) 0 0) [] (L.take k) A1 k c rfl rfl HN1.out (Mine.empty I wr rfl (Nat.le_refl _)) (HR1.out _ (below_alloc HB.out _)) (fun q hq => ⟨by rw [size_alloc]; have := HS.out q hq; have := HZ.out; omega, (Mine.empty (e := 3) I wr rfl (Nat.le_refl _)).ne_old (by have := HS.out q hq; have := HZ.out; omega)⟩) (by rw [size_alloc]; omega) (by simp only [List.length_nil]; omega) ?_; intro v2 w2 hM2 hb2 hk2 hat2; rw [List.nil_append] at hM2; obtain ⟨A3, n3, c3, rfl, -, -, -, -⟩ := hM2.formN; have HB2 := Hd.mk ((below_alloc HB.out _).trans (hb2.mono HZ.out)); have HB2z : Hd (wr.heap.size ≤ w2.heap.size) := ⟨by have := hb2.size; rw [size_alloc] at this; omega⟩; have HM2 := Hd.mk hM2; clear hM2 hb2 hk2 hat2)))
        go_ret
        exact ⟨_, _, rfl, HIns.out, by have := HM5.out.lower HZ.out; rwa [List.append_assoc] at this, HB5.out⟩
end Go.Proofs.YtbmpaokicphdjaaDoor.Fn
