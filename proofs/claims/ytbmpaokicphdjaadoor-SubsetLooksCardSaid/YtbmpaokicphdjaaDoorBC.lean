/- Texts: B13, B14, B15, B16, B17, B18. -/
import Derived.Test.YtbmpaokicphdjaaDoorBB
set_option linter.unusedVariables false
set_option linter.unusedSimpArgs false
/- The reference's Drop and Add. -/
namespace Go.Proofs.YtbmpaokicphdjaaDoor.Fn
open Go Go.RowKit Go.Proofs.YtbmpaokicphdjaaDoor.Can Go.Proofs.YtbmpaokicphdjaaDoor.Base
attribute [local go_sem] clsB AB.cell

def dropR (x : Int) (L : List Int) : List Int := L.filter fun y => !(y == x)
theorem dropR_snoc (x y : Int) (L : List Int) : dropR x (L ++ [y]) = if y = x then dropR x L else dropR x L ++ [y] := by
  unfold dropR
  rw [List.filter_append]
  by_cases h : y = x
  · subst h; simp
  · rw [if_neg h]; simp [h]
end Go.Proofs.YtbmpaokicphdjaaDoor.Fn

/- The reference's Add. -/
namespace Go.Proofs.YtbmpaokicphdjaaDoor.Fn
open Go Go.RowKit Go.Proofs.YtbmpaokicphdjaaDoor.Can Go.Proofs.YtbmpaokicphdjaaDoor.Base
attribute [local go_sem] clsB AB.cell

/-- R is L with x put at its place. -/
def Ins (L : List Int) (x : Int) (R : List Int) : Prop := ∃ k, k ≤ L.length ∧ (∀ y ∈ L.take k, y < x) ∧ (∀ y, L[k]? = some y → x ≤ y) ∧ R = L.take k ++ x :: L.drop k
theorem radd_same (A : Option Addr) (n c room : Nat) (L : List Int) (x : Int) (S : Nat → Prop) (w : World) (hS : ∀ k, S k → k < w.heap.size) (hC : Row I w S A n L) (hx : ¬ inR room x ∨ x ∈ L) :
    Calls Tryd.prog 16 #[.slice A n c, .int .i64 x, .int .i64 room] w fun e w' => e = .returned (.slice A n c) ∧ Below w.heap.size w w' := by
  by_cases h0 : x < 0
  · go_enter Tryd.func16, Tryd.ntmps16
    go_wp2
    go_ret
    exact ⟨rfl, Below.refl _ _⟩
  · by_cases h1 : (room : Int) ≤ x
    · go_enter Tryd.func16, Tryd.ntmps16
      go_wp2
      go_ret
      exact ⟨rfl, Below.refl _ _⟩
    · have hmem : decide (x ∈ L) = true := decide_eq_true (hx.resolve_left fun h => h (by unfold inR; omega))
      have HC := Hd.mk hC; have HS := Hd.mk hS; have HM := Hd.mk hmem
      clear hC hS hmem hx
      go_enter Tryd.func16, Tryd.ntmps16
      go_wp2_with (go_at_call 70; go_must (refine Calls.mono (rhas_calls A n c L x true S _ HS.out HC.out HM.out) ?_; rintro e w1 ⟨rfl, hb1⟩))
      go_ret
      exact ⟨rfl, hb1⟩
set_option maxHeartbeats 1000000 in
theorem radd_new (A : Option Addr) (n c room : Nat) (L : List Int) (x : Int) (S : Nat → Prop) (w : World) (hS : ∀ k, S k → k < w.heap.size) (hC : Row I w S A n L) (hc : n ≤ c) (hA : A = none → c = 0) (hn : n ≤ 1000000) (hx : inR room x) (hm : x ∉ L) :
    Calls Tryd.prog 16 #[.slice A n c, .int .i64 x, .int .i64 room] w fun e w' => ∃ R v, e = .returned v ∧ Ins L x R ∧ Mine I w' w.heap.size 3 v R ∧ Below w.heap.size w w' := by
  have h0 : ¬ x < 0 := by unfold inR at hx; omega
  have h1 : ¬ (room : Int) ≤ x := by unfold inR at hx; omega
  have hmem : decide (x ∈ L) = false := decide_eq_false hm
  have HC := Hd.mk hC; have HS := Hd.mk hS; have HM := Hd.mk hmem; have HA := Hd.mk hA; have HCc := Hd.mk hc
  clear hC hS hmem hx hm hA hc
  go_enter Tryd.func16, Tryd.ntmps16
  go_wp2_with (go_at_call 70; go_must (refine Calls.mono (rhas_calls A n c L x false S _ HS.out HC.out HM.out) ?_; rintro e w1 ⟨rfl, hb1⟩; have HB1 := Hd.mk hb1; clear hb1))
  clear h0 h1
  go_loopw [7] (fun i wr => ∃ k : Nat, k ≤ n ∧ i = .int .i64 k ∧ Hd (∀ y ∈ L.take k, y < x) ∧ Hd (Below w.heap.size w wr)) (fun i _ => n - (intOf i).toNat)
  case atStart => exact ⟨0, Nat.zero_le _, rfl, ⟨by simp⟩, HB1⟩
  case round =>
    clear HB1
    obtain ⟨k, hk, rfl, HP, HB⟩ := hrel
    have hgo : (k < n ∧ ∃ y, L[k]? = some y ∧ y < x) ∨ (k < n ∧ ∃ y, L[k]? = some y ∧ ¬ y < x) ∨ ¬ k < n := by
      by_cases hlt : k < n
      · obtain ⟨y, hy⟩ : ∃ y, L[k]? = some y := ⟨_, List.getElem?_eq_getElem (by rw [HC.out.1]; exact hlt)⟩
        by_cases hyx : y < x
        · exact .inl ⟨hlt, y, hy, hyx⟩
        · exact .inr (.inl ⟨hlt, y, hy, hyx⟩)
      · exact .inr (.inr hlt)
    rcases hgo with ⟨hlt, y, hy, hyx⟩ | hend
    · obtain ⟨g, off, y', rfl, _, hg, hy', hcell⟩ := (HC.out.below HS.out HB.out).get_int k hlt
      obtain rfl : y' = y := by rw [hy'] at hy; exact Option.some.inj hy
      have HP2 : Hd (∀ z ∈ L.take (k + 1), z < x) := ⟨fun z hz => by
        rw [List.take_add_one, hy] at hz
        simp only [Option.toList_some, List.mem_append, List.mem_singleton] at hz
        rcases hz with hz | rfl
        · exact HP.out z hz
        · exact hyx⟩
      clear hy hy'
      go_wp2
      go_roundw
      case rel => exact ⟨k + 1, by omega, by go_num, HP2, HB⟩
      case measure => simp [intOf]; omega
    · have HIns : Hd (Ins L x (L.take k ++ x :: L.drop k)) := ⟨k, by rw [HC.out.1]; exact hk, HP.out, (fun y hy => by
        rcases hend with ⟨_, z, hz, hzx⟩ | h
        · rw [hz] at hy; cases hy; omega
        · rw [List.getElem?_eq_none (by rw [HC.out.1]; omega)] at hy; cases hy), rfl⟩
      obtain ⟨i0, hi, _, hsz, _⟩ := info_of info3
      obtain ⟨A1, hcut1, hrow1, hnil1⟩ := cut_to I 24 3 Tryd.underlying24 hi hsz A n c k hk HCc.out
      obtain ⟨A2, hcut2, hrow2, hnil2⟩ := cut_from I 24 3 Tryd.underlying24 hi hsz A n c k hk HCc.out
      have hk1 : ∀ W, (Instr.slice 24 (.slice A n c) none (some (.int .i64 k)) none).run Tryd.prog W = .ok (.slice A1 k c) W := fun W => hcut1 W .i64
      have hk2 : ∀ W, (Instr.slice 24 (.slice A n c) (some (.int .i64 k)) none none).run Tryd.prog W = .ok (.slice A2 (n - k) (c - k)) W := fun W => hcut2 W .i64
      have HR1 : Hd (∀ W, Below w.heap.size w W → Row I W S A1 k (L.take k)) := ⟨fun W hb => hrow1 W S L (HC.out.below HS.out hb)⟩
      have HR2 : Hd (∀ W, Below w.heap.size w W → Row I W S A2 (n - k) (L.drop k)) := ⟨fun W hb => hrow2 W S L (HC.out.below HS.out hb)⟩
      have HN1 := Hd.mk (hnil1 HA.out); have HN2 := Hd.mk (hnil2 HA.out)
      have HLK : Hd ((L.take k).length = k) := ⟨by rw [List.length_take, HC.out.1]; omega⟩
      have HZ : Hd (w.heap.size ≤ wr.heap.size) := ⟨HB.out.size⟩
      clear hi hsz hcut1 hcut2 hrow1 hrow2 hnil1 hnil2
      rcases hend with ⟨hlt, z, hz, hzx⟩ | hend
      · obtain ⟨g, off, y', rfl, _, hg, hy', hcell⟩ := (HC.out.below HS.out HB.out).get_int k hlt
        obtain rfl : y' = z := by rw [hy'] at hz; exact Option.some.inj hz
        clear hz hy'
        go_wp2_with (first
          | (have hq_ := HM3; clear hq_; at_builtin; refine append_row I (Ty.int_flat _) rfl (.tmp 45) (.tmp 48) 24 3 _ 8 rfl Tryd.underlying24 info3 rfl (by decide) (by decide) wr.heap.size (.slice A4 n4 c4) (L.take k ++ [x]) (L.drop k) A2 (n - k) (c - k) rfl rfl HN2.out HM3.out (HR2.out _ HB3.out) (fun q hq => ⟨by have := HS.out q hq; have := HB3.out.size; omega, HM3.out.ne_old (by have := HS.out q hq; have := HZ.out; omega)⟩) (by have := HB3z.out; omega) (by rw [List.length_append, HLK.out]; simp only [List.length_singleton]; omega) ?_; intro v5 w5 hM5 hb5 hk5 hat5; have HM5 := Hd.mk hM5; have HB5 := Hd.mk (HB3.out.trans (hb5.mono HZ.out)); clear hM5 hb5 hk5 hat5)
          | (have hq_ := HM2; have hq3_ := HLK; clear hq_ hq3_; at_builtin; go_must (refine append_snoc I (Ty.int_flat _) rfl (.tmp 41) (.tmp 43) 24 3 _ 8 rfl Tryd.underlying24 info3 rfl (by decide) (by decide) wr.heap.size (.slice A3 n3 c3) (L.take k) x [.int .i64 x] w2.heap.size rfl rfl (blk_new _ _ _ rfl) rfl (HM2.out.below (by repeat (first | (with_reducible assumption) | (with_reducible exact Below.refl _ _) | (with_reducible apply below_drewL) | (with_reducible apply below_alloc) | (with_reducible apply below_drew1) | (with_reducible apply below_drewN) | (refine below_set ?_ (by first | omega | (simp only [size_alloc, size_drew, size_set]; omega)) _ _)))) (HM2.out.ne_new (Nat.le_refl _)) (by rw [size_alloc]; have := HB2z.out; omega) (by rw [HLK.out]; omega) ?_; intro v4 w4 hM4 hb4 hk4 hat4; obtain ⟨A4, n4, c4, rfl, -, -, -, -⟩ := hM4.formN; have HB3 := Hd.mk ((HB2.out.trans ((below_alloc (Below.refl _ _) _).mono HB2.out.size)).trans (hb4.mono HZ.out)); have HB3z : Hd (wr.heap.size ≤ w4.heap.size) := ⟨by have := hb4.size; rw [size_alloc] at this; have := HB2z.out; omega⟩; have HM3 := Hd.mk hM4; clear hM4 hb4 hk4 hat4))
          | (at_builtin; go_must (refine append_row I (Ty.int_flat _) rfl (.tmp 36) (.tmp 39) 24 3 _ 8 rfl Tryd.underlying24 info3 rfl (by decide) (by decide) wr.heap.size (.slice (some ⟨wr.heap.size, 0, none⟩) 0 0) [] (L.take k) A1 k c rfl rfl HN1.out (Mine.empty I wr rfl (Nat.le_refl _)) (HR1.out _ (below_alloc HB.out _)) (fun q hq => ⟨by rw [size_alloc]; have := HS.out q hq; have := HZ.out; omega, (Mine.empty (e := 3) I wr rfl (Nat.le_refl _)).ne_old (by have := HS.out q hq; have := HZ.out; omega)⟩) (by rw [size_alloc]; omega) (by simp only [List.length_nil]; omega) ?_; intro v2 w2 hM2 hb2 hk2 hat2; rw [List.nil_append] at hM2; obtain ⟨A3, n3, c3, rfl, -, -, -, -⟩ := hM2.formN; have HB2 := Hd.mk ((below_alloc HB.out _).trans (hb2.mono HZ.out)); have HB2z : Hd (wr.heap.size ≤ w2.heap.size) := ⟨by have := hb2.size; rw [size_alloc] at this; omega⟩; have HM2 := Hd.mk hM2; clear hM2 hb2 hk2 hat2)))
        go_ret
        exact ⟨_, _, rfl, HIns.out, by have := HM5.out.lower HZ.out; rwa [List.append_assoc] at this, HB5.out⟩
      · go_wp2_with (first
          | (have hq_ := HM3; clear hq_; at_builtin; refine append_row I (Ty.int_flat _) rfl (.tmp 45) (.tmp 48) 24 3 _ 8 rfl Tryd.underlying24 info3 rfl (by decide) (by decide) wr.heap.size (.slice A4 n4 c4) (L.take k ++ [x]) (L.drop k) A2 (n - k) (c - k) rfl rfl HN2.out HM3.out (HR2.out _ HB3.out) (fun q hq => ⟨by have := HS.out q hq; have := HB3.out.size; omega, HM3.out.ne_old (by have := HS.out q hq; have := HZ.out; omega)⟩) (by have := HB3z.out; omega) (by rw [List.length_append, HLK.out]; simp only [List.length_singleton]; omega) ?_; intro v5 w5 hM5 hb5 hk5 hat5; have HM5 := Hd.mk hM5; have HB5 := Hd.mk (HB3.out.trans (hb5.mono HZ.out)); clear hM5 hb5 hk5 hat5)
          | (have hq_ := HM2; have hq3_ := HLK; clear hq_ hq3_; at_builtin; go_must (refine append_snoc I (Ty.int_flat _) rfl (.tmp 41) (.tmp 43) 24 3 _ 8 rfl Tryd.underlying24 info3 rfl (by decide) (by decide) wr.heap.size (.slice A3 n3 c3) (L.take k) x [.int .i64 x] w2.heap.size rfl rfl (blk_new _ _ _ rfl) rfl (HM2.out.below (by repeat (first | (with_reducible assumption) | (with_reducible exact Below.refl _ _) | (with_reducible apply below_drewL) | (with_reducible apply below_alloc) | (with_reducible apply below_drew1) | (with_reducible apply below_drewN) | (refine below_set ?_ (by first | omega | (simp only [size_alloc, size_drew, size_set]; omega)) _ _)))) (HM2.out.ne_new (Nat.le_refl _)) (by rw [size_alloc]; have := HB2z.out; omega) (by rw [HLK.out]; omega) ?_; intro v4 w4 hM4 hb4 hk4 hat4; obtain ⟨A4, n4, c4, rfl, -, -, -, -⟩ := hM4.formN; have HB3 := Hd.mk ((HB2.out.trans ((below_alloc (Below.refl _ _) _).mono HB2.out.size)).trans (hb4.mono HZ.out)); have HB3z : Hd (wr.heap.size ≤ w4.heap.size) := ⟨by have := hb4.size; rw [size_alloc] at this; have := HB2z.out; omega⟩; have HM3 := Hd.mk hM4; clear hM4 hb4 hk4 hat4))
          | (at_builtin; go_must (refine append_row I (Ty.int_flat _) rfl (.tmp 36) (.tmp 39) 24 3 _ 8 rfl Tryd.underlying24 info3 rfl (by decide) (by decide) wr.heap.size (.slice (some ⟨wr.heap.size, 0, none⟩) 0 0) [] (L.take k) A1 k c rfl rfl HN1.out (Mine.empty I wr rfl (Nat.le_refl _)) (HR1.out _ (below_alloc HB.out _)) (fun q hq => ⟨by rw [size_alloc]; have := HS.out q hq; have := HZ.out; omega, (Mine.empty (e := 3) I wr rfl (Nat.le_refl _)).ne_old (by have := HS.out q hq; have := HZ.out; omega)⟩) (by rw [size_alloc]; omega) (by simp only [List.length_nil]; omega) ?_; intro v2 w2 hM2 hb2 hk2 hat2; rw [List.nil_append] at hM2; obtain ⟨A3, n3, c3, rfl, -, -, -, -⟩ := hM2.formN; have HB2 := Hd.mk ((below_alloc HB.out _).trans (hb2.mono HZ.out)); have HB2z : Hd (wr.heap.size ≤ w2.heap.size) := ⟨by have := hb2.size; rw [size_alloc] at this; omega⟩; have HM2 := Hd.mk hM2; clear hM2 hb2 hk2 hat2)))
        go_ret
        exact ⟨_, _, rfl, HIns.out, by have := HM5.out.lower HZ.out; rwa [List.append_assoc] at this, HB5.out⟩
end Go.Proofs.YtbmpaokicphdjaaDoor.Fn

/- The plain laws: rising lists and words. -/
namespace Go.Proofs.YtbmpaokicphdjaaDoor.Fn
open Go Go.RowKit Go.Proofs.YtbmpaokicphdjaaDoor.Can Go.Proofs.YtbmpaokicphdjaaDoor.Base

def elemsI (ws : List Nat) : List Int := (elems ws).map fun x : Nat => (x : Int)
theorem sorted_ext : ∀ {L R : List Int}, L.Pairwise (· < ·) → R.Pairwise (· < ·) → (∀ x, x ∈ L ↔ x ∈ R) → L = R
  | [], [], _, _, _ => rfl
  | [], y :: R, _, _, h => by have := (h y).2 (by simp); simp at this
  | x :: L, [], _, _, h => by have := (h x).1 (by simp); simp at this
  | x :: L, y :: R, hl, hr, h => by
    have h1 := List.pairwise_cons.1 hl
    have h2 := List.pairwise_cons.1 hr
    have hxy : x = y := by
      have a := (h x).1 (by simp)
      have b := (h y).2 (by simp)
      rcases List.mem_cons.1 a with a | a
      · exact a
      · rcases List.mem_cons.1 b with b | b
        · exact b.symm
        · have c := h2.1 x a; have d := h1.1 y b; omega
    subst hxy
    congr 1
    refine sorted_ext h1.2 h2.2 fun z => ⟨fun hz => ?_, fun hz => ?_⟩
    · have := (h z).1 (List.mem_cons_of_mem _ hz)
      rcases List.mem_cons.1 this with e | e
      · have := h1.1 z hz; omega
      · exact e
    · have := (h z).2 (List.mem_cons_of_mem _ hz)
      rcases List.mem_cons.1 this with e | e
      · have := h2.1 z hz; omega
      · exact e
theorem elemsI_sorted (ws : List Nat) : (elemsI ws).Pairwise (· < ·) := by
  unfold elemsI
  rw [List.pairwise_map]
  exact (elems_sorted ws).imp fun h => by omega
theorem mem_elemsI {room : Nat} {ws : List Nat} (h : Wok room ws) (x : Int) : x ∈ elemsI ws ↔ (inR room x ∧ bitAt ws x.toNat = true) := by
  unfold elemsI
  rw [List.mem_map]
  constructor
  · rintro ⟨n, hn, rfl⟩
    have hb := (mem_elems h n).1 hn
    refine ⟨?_, by rwa [Int.toNat_natCast]⟩
    unfold inR
    rcases Nat.lt_or_ge n room with h1 | h1
    · omega
    · rw [h.top n h1] at hb; cases hb
  · rintro ⟨h1, h2⟩
    unfold inR at h1
    exact ⟨x.toNat, (mem_elems h _).2 h2, by omega⟩
theorem has_law {room : Nat} {ws : List Nat} (h : Wok room ws) (x : Int) : hasO room ws x = decide (x ∈ elemsI ws) := by
  unfold hasO
  by_cases h1 : inR room x
  · by_cases h2 : bitAt ws x.toNat = true
    · rw [decide_eq_true h1, h2, decide_eq_true ((mem_elemsI h x).2 ⟨h1, h2⟩)]; rfl
    · rw [decide_eq_true h1, Bool.eq_false_iff.2 h2, decide_eq_false (fun hm => h2 ((mem_elemsI h x).1 hm).2)]; rfl
  · rw [decide_eq_false h1, decide_eq_false (fun hm => h1 ((mem_elemsI h x).1 hm).1)]; rfl
theorem Ins.sorted {L R : List Int} {x : Int} (h : Ins L x R) (hs : L.Pairwise (· < ·)) (hx : x ∉ L) : R.Pairwise (· < ·) ∧ (∀ y, y ∈ R ↔ y ∈ L ∨ y = x) ∧ R.length = L.length + 1 := by
  obtain ⟨k, hk, h1, h2, rfl⟩ := h
  have hd : ∀ y ∈ L.drop k, x < y := fun y hy => by
    cases hL : L.drop k with
    | nil => rw [hL] at hy; simp at hy
    | cons z zs =>
      have hz : L[k]? = some z := by have := congrArg (·[0]?) hL; simpa using this
      have hxz := h2 z hz
      have hne : x ≠ z := fun e => hx (e ▸ List.mem_of_getElem? hz)
      have hp : (L.drop k).Pairwise (· < ·) := hs.drop
      rw [hL] at hp hy
      rcases List.mem_cons.1 hy with rfl | hy
      · omega
      · have := (List.pairwise_cons.1 hp).1 y hy; omega
  refine ⟨?_, fun y => ?_, ?_⟩
  · rw [List.pairwise_append]
    refine ⟨hs.take, List.pairwise_cons.2 ⟨hd, hs.drop⟩, fun a ha b hb => ?_⟩
    rcases List.mem_cons.1 hb with rfl | hb
    · exact h1 a ha
    · have := h1 a ha; have := hd b hb; omega
  · rw [List.mem_append, List.mem_cons]
    have := List.take_append_drop k L
    constructor
    · rintro (h | h | h)
      · exact .inl (List.mem_of_mem_take h)
      · exact .inr h
      · exact .inl (List.mem_of_mem_drop h)
    · rintro (h | h)
      · rw [← this, List.mem_append] at h
        rcases h with h | h
        · exact .inl h
        · exact .inr (.inr h)
      · exact .inr (.inl h)
  · rw [List.length_append, List.length_cons, List.length_take, List.length_drop]; omega
theorem ins_ex (L : List Int) (x : Int) : ∃ R, Ins L x R := by
  induction L with
  | nil => exact ⟨_, 0, Nat.le_refl _, by simp, by simp, rfl⟩
  | cons y L ih =>
    by_cases hy : y < x
    · obtain ⟨R, k, h1, h2, h3, rfl⟩ := ih
      refine ⟨_, k + 1, by simp; omega, fun z hz => ?_, fun z hz => h3 z (by simpa using hz), rfl⟩
      rw [List.take_succ_cons] at hz
      rcases List.mem_cons.1 hz with rfl | hz
      · exact hy
      · exact h2 z hz
    · exact ⟨_, 0, Nat.zero_le _, by simp, fun z hz => by simp at hz; omega, rfl⟩
theorem ins_law {room : Nat} {ws : List Nat} (h : Wok room ws) {x : Int} {R : List Int} (hx : inR room x) (hm : x ∉ elemsI ws) (hi : Ins (elemsI ws) x R) : R = elemsI (addW room ws x) := by
  obtain ⟨h1, h2, _⟩ := hi.sorted (elemsI_sorted ws) hm
  refine sorted_ext h1 (elemsI_sorted _) fun y => ?_
  rw [h2, mem_elemsI h, mem_elemsI (h.add x), bit_add h]
  unfold inR at *
  constructor
  · rintro (⟨a, b⟩ | rfl)
    · exact ⟨a, by rw [b]; rfl⟩
    · exact ⟨hx, by rw [decide_eq_true (⟨hx, by omega⟩), Bool.or_true]⟩
  · rintro ⟨a, b⟩
    rcases Bool.or_eq_true _ _ ▸ b with b | b
    · exact .inl ⟨a, b⟩
    · have := (of_decide_eq_true b).2
      exact .inr (by omega)
theorem same_law {room : Nat} {ws : List Nat} (h : Wok room ws) {x : Int} (hx : ¬ inR room x ∨ x ∈ elemsI ws) : addW room ws x = ws := by
  unfold addW
  split
  · rename_i h1
    exact putB_old ((mem_elemsI h x).1 (hx.resolve_left fun h => h h1)).2
  · rfl
theorem add_len {room : Nat} {ws : List Nat} (h : Wok room ws) (x : Int) : (addO room ws x = true ∧ (elemsI (addW room ws x)).length = (elemsI ws).length + 1) ∨ (addO room ws x = false ∧ addW room ws x = ws) := by
  by_cases h1 : inR room x ∧ bitAt ws x.toNat = false
  · refine .inl ⟨by unfold addO; rw [decide_eq_true h1.1, h1.2]; rfl, ?_⟩
    have hm : x ∉ elemsI ws := fun hm => by have := ((mem_elemsI h x).1 hm).2; rw [h1.2] at this; cases this
    have hs := elemsI_sorted ws
    obtain ⟨R, hi⟩ := ins_ex (elemsI ws) x
    rw [← ins_law h h1.1 hm hi]
    exact (hi.sorted hs hm).2.2
  · refine .inr ?_
    have : ¬ inR room x ∨ x ∈ elemsI ws := by
      by_cases h2 : inR room x
      · exact .inr ((mem_elemsI h x).2 ⟨h2, by cases hb : bitAt ws x.toNat; exact absurd ⟨h2, hb⟩ h1; rfl⟩)
      · exact .inl h2
    refine ⟨?_, same_law h this⟩
    unfold addO
    rcases this with h2 | h2
    · rw [decide_eq_false h2]; rfl
    · rw [((mem_elemsI h x).1 h2).2]; simp
end Go.Proofs.YtbmpaokicphdjaaDoor.Fn

/- The law's own example. -/
namespace Go.Proofs.YtbmpaokicphdjaaDoor.Fn
open Go Go.RowKit Go.Proofs.YtbmpaokicphdjaaDoor.Can Go.Proofs.YtbmpaokicphdjaaDoor.Base
attribute [local go_sem] clsB AB.cell

theorem lit_row (w : World) (l : List Int) (hl : l.length ≤ 9223372036854775807) {n : Nat} (hn : n = w.heap.size) : Row I (w.alloc (.cells (l.map (Value.int .i64)).toArray 3)) (fun k => k = n) (some ⟨n, 0, none⟩) l.length l := by
  subst hn
  refine (cells_int _ _ l).row rfl hl fun j u hu => ?_
  rw [Nat.zero_add]
  exact blk_cell (blk_new _ _ _ rfl) j u (by rw [List.getElem?_toArray]; exact hu)
theorem r9 : roomR 9 = 9 := by decide +kernel
theorem ex1 : ofW 9 [3, 1, 12] = [10] := by decide +kernel
theorem ex2 : (elems [10]).map (fun x : Nat => (x : Int)) = [1, 3] := by decide +kernel
theorem ex3 : (elems [10]).length = 2 := by decide +kernel
theorem ex4 : addO 9 [10] 3 = false := by decide +kernel
theorem ex5 : addW 9 [10] 3 = [10] := by decide +kernel
theorem ex6 : addO 9 [10] 8 = true := by decide +kernel
theorem ex7 : addW 9 [10] 8 = [266] := by decide +kernel
theorem ex8 : dropO 9 [266] 1 = true := by decide +kernel
theorem ok10 : Wok 9 [10] := by have := ofW_ok (room := 9) (by decide) [3, 1, 12]; rwa [ex1] at this
theorem ok266 : Wok 9 [266] := by have := ok10.add 8; rwa [ex7] at this
set_option maxRecDepth 20000 in
set_option maxHeartbeats 2000000 in
theorem alive_calls (w : World) (hT : TabAt 0 Lib.deBruijn64tab w) (h0 : 0 < w.heap.size) : Calls Tryd.prog 14 #[] w fun e w' => e = .returned (.bool true) ∧ Below w.heap.size w w' := by
  have HT := Hd.mk hT; have H0 := Hd.mk h0; clear hT h0
  have tabB : ∀ {W : World}, Below w.heap.size w W → TabAt 0 Lib.deBruijn64tab W := fun hb j hj => (hb.cell (p := ⟨0, j, none⟩) H0.out).trans (HT.out j hj)
  have TAB := Hd.mk @tabB; clear tabB
  go_enter Tryd.func14, Tryd.ntmps14
  go_wp2_with (go_at_call 15; go_must (have h9 := of_calls 9 (some ⟨w.heap.size, 0, none⟩) 3 3 [3, 1, 12] (fun k => k = w.heap.size) (w.alloc (.cells #[.int .i64 3, .int .i64 1, .int .i64 12] 3)) (fun k hk => by rw [size_alloc]; omega) (lit_row w [3, 1, 12] (by decide) rfl); rw [r9, ex1] at h9; refine Calls.mono h9 ?_; clear h9; rintro e w1 ⟨g, rfl, hg, hgl, hwd, hb1⟩))
  have hbw := below_seq (below_alloc (Below.refl w.heap.size w) (.cells #[.int .i64 3, .int .i64 1, .int .i64 12] 3)) hb1
  have hz1 := hb1.size
  rw [size_alloc] at hg hz1
  generalize hV : World.alloc w1 _ = V
  have hv1 : V.heap[w1.heap.size]? = some (.cells #[.slice (some ⟨g, 0, none⟩) 1 1, .int .i64 9] 28 (0, 0)) := by rw [← hV]; exact blk_new _ _ _ rfl
  have hwV : Wd V (some ⟨g, 0, none⟩) g [10] := by rw [← hV]; exact hwd.below (below_alloc (Below.refl _ _) _)
  have hbV : Below w.heap.size w V := by rw [← hV]; exact below_alloc hbw _
  have hgV : g < V.heap.size := by rw [← hV, size_alloc]; omega
  have hne : ¬ w1.heap.size = g := by omega
  have hgw : w.heap.size ≤ g := by omega
  have HV1 := Hd.mk hv1; have HWV := Hd.mk hwV; have HBV := Hd.mk hbV
  clear hV hv1 hwV hbV hwd hbw hb1 hgl hg hz1
  generalize w1.heap.size = p1 at *
  go_wp2_with (go_at_call 23; go_must (refine Calls.mono (all_calls (some ⟨g, 0, none⟩) 1 g 9 [10] V ok10 HWV.out hgV (TAB.out HBV.out) (by have := HBV.out.size; have := H0.out; omega)) ?_; rintro e w2 ⟨A2, n2, c2, rfl, hr2, hb2⟩; rw [ex2] at hr2; have HR2 := Hd.mk hr2; have HB2 := Hd.mk hb2; clear hr2 hb2))
  go_wp2_with (go_at_call 17; go_must (refine Calls.mono (same_calls A2 (some ⟨w2.heap.size, 0, none⟩) n2 2 c2 2 [1, 3] [1, 3] true _ (fun k => k = w2.heap.size) (w2.alloc (.cells #[.int .i64 1, .int .i64 3] 3)) (fun k hk => by have := hk.2; rw [size_alloc]; omega) (fun k hk => by rw [size_alloc]; omega) (HR2.out.below (fun k hk => hk.2) (below_alloc (Below.refl _ _) _)) (lit_row w2 [1, 3] (by decide) rfl) (decide_eq_true rfl)) ?_; rintro e w3 ⟨rfl, hb3⟩; have HB3 := Hd.mk (below_seq HB2.out (below_seq (below_alloc (Below.refl _ _) _) hb3)); clear hb3; have h3 := blk_below HV1.out HB3.out; have h3c0 := blk_cell h3 0 _ rfl; have h3f0 := blk_frozen h3 0; have h3c1 := blk_cell h3 1 _ rfl; have h3f1 := blk_frozen h3 1; have h3l := blk_lt h3))
  go_wp2_with (go_at_call 25; go_must (have h9 := count_calls (some ⟨g, 0, none⟩) 1 g 9 [10] w3 ok10 (HWV.out.below HB3.out); rw [ex3] at h9; refine Calls.mono h9 ?_; clear h9; rintro e w4 ⟨rfl, hb4⟩; have HB4 := Hd.mk (below_seq HB3.out hb4); clear hb4; clear h3c0 h3f0 h3c1 h3f1 h3l; have h4 := blk_below HV1.out HB4.out; have h4c0 := blk_cell h4 0 _ rfl; have h4f0 := blk_frozen h4 0; have h4c1 := blk_cell h4 1 _ rfl; have h4f1 := blk_frozen h4 1; have h4l := blk_lt h4))
  go_wp2_with (go_at_call 26; go_must (refine Calls.mono (room_calls (some ⟨g, 0, none⟩) 1 1 9 w4) ?_; rintro e w5 ⟨rfl, hb5⟩; have HB5 := Hd.mk (below_seq HB4.out hb5); clear hb5; clear h4c0 h4f0 h4c1 h4f1 h4l; have h5 := blk_below HV1.out HB5.out; have h5c0 := blk_cell h5 0 _ rfl; have h5f0 := blk_frozen h5 0; have h5c1 := blk_cell h5 1 _ rfl; have h5f1 := blk_frozen h5 1; have h5l := blk_lt h5))
  have TOK := Hd.mk trivial
  go_wp2_with (have hq_ := TOK; clear hq_ TOK; go_at_call 21; go_must (have h9 := add_calls (some ⟨g, 0, none⟩) 1 g 9 3 [10] w5 ok10 (HWV.out.below HB5.out); rw [ex4, ex5] at h9; refine Calls.mono h9 ?_; clear h9; rintro e w6 ⟨rfl, hf6, hw6⟩; have HF6 := Hd.mk (hf6.mono (Y := fun k => k = g) (fun _ h => h.1)); have HW6 := Hd.mk hw6; clear hf6 hw6; clear h5c0 h5f0 h5c1 h5f1 h5l; have h6 := HF6.out.blk h5 hne; have h6c0 := blk_cell h6 0 _ rfl; have h6f0 := blk_frozen h6 0; have h6c1 := blk_cell h6 1 _ rfl; have h6f1 := blk_frozen h6 1; have h6l := blk_lt h6))
  have TOK := Hd.mk trivial
  go_wp2_with (have hq_ := TOK; clear hq_ TOK; go_at_call 21; go_must (have h9 := add_calls (some ⟨g, 0, none⟩) 1 g 9 8 [10] w6 ok10 HW6.out; rw [ex6, ex7] at h9; refine Calls.mono h9 ?_; clear h9; rintro e w7 ⟨rfl, hf7, hw7⟩; have HF7 := Hd.mk (hf7.mono (Y := fun k => k = g) (fun _ h => h.1)); have HW7 := Hd.mk hw7; clear hf7 hw7; clear h6c0 h6f0 h6c1 h6f1 h6l; have h7 := HF7.out.blk h6 hne; have h7c0 := blk_cell h7 0 _ rfl; have h7f0 := blk_frozen h7 0; have h7c1 := blk_cell h7 1 _ rfl; have h7f1 := blk_frozen h7 1; have h7l := blk_lt h7))
  go_wp2_with (go_at_call 22; go_must (have h9 := less_calls (some ⟨g, 0, none⟩) 1 g 9 1 [266] w7 ok266 HW7.out; rw [ex8] at h9; refine Calls.mono h9 ?_; clear h9; rintro e w8 ⟨rfl, hf8, hw8⟩; have HF8 := Hd.mk (hf8.mono (Y := fun k => k = g) (fun _ h => h.1)); clear hf8 hw8))
  go_ret
  exact ⟨rfl, (below_seq HBV.out HB5.out).trans (((HF6.out.trans HF7.out).trans HF8.out).below (below_seq HBV.out HB5.out).size (fun b hb hx => by have hx' : b = g := hx; omega))⟩
end Go.Proofs.YtbmpaokicphdjaaDoor.Fn

/- The reference's Add and Drop, in terms of the words; the law of Join. -/
namespace Go.Proofs.YtbmpaokicphdjaaDoor.Fn
open Go Go.RowKit Go.Proofs.YtbmpaokicphdjaaDoor.Can Go.Proofs.YtbmpaokicphdjaaDoor.Base

/-- A row of a set's numbers, told by a slice. -/
structure Lst (w : World) (S : Nat → Prop) (A : Option Addr) (n c : Nat) (L : List Int) : Prop where
  row : Row I w S A n L
  cap : n ≤ c
  nil : A = none → c = 0
theorem Lst.below {w w' : World} {S : Nat → Prop} {A : Option Addr} {n c : Nat} {L : List Int} (h : Lst w S A n c L) (hS : ∀ k, S k → k < w.heap.size) (hb : Below w.heap.size w w') : Lst w' S A n c L := ⟨h.row.below hS hb, h.cap, h.nil⟩
theorem Lst.mono {w : World} {S S' : Nat → Prop} {A : Option Addr} {n c : Nat} {L : List Int} (h : Lst w S A n c L) (hS : ∀ k, S k → S' k) : Lst w S' A n c L := ⟨h.row.mono hS, h.cap, h.nil⟩
theorem Lst.fr {X : Nat → Prop} {w w' : World} {S : Nat → Prop} {A : Option Addr} {n c : Nat} {L : List Int} (h : Lst w S A n c L) (hf : Fr X w w') (hS : ∀ k, S k → k < w.heap.size ∧ ¬ X k) : Lst w' S A n c L := ⟨hf.row h.row hS, h.cap, h.nil⟩
theorem elemsI_len {room : Nat} {ws : List Nat} (h : Wok room ws) : (elemsI ws).length ≤ 70400 := by
  unfold elemsI elems
  rw [List.length_map]
  have := elemsK_len ws ws.length
  have := h.len
  have := h.small
  omega
theorem radd_calls (A : Option Addr) (n c room : Nat) (ws : List Nat) (x : Int) (S : Nat → Prop) (w : World) (hS : ∀ k, S k → k < w.heap.size) (hC : Lst w S A n c (elemsI ws)) (hK : Wok room ws) :
    Calls Tryd.prog 16 #[.slice A n c, .int .i64 x, .int .i64 room] w fun e w' => ∃ A' n' c', e = .returned (.slice A' n' c') ∧ Lst w' (fun q => S q ∨ (w.heap.size ≤ q ∧ q < w'.heap.size)) A' n' c' (elemsI (addW room ws x)) ∧ Below w.heap.size w w' := by
  by_cases hx : ¬ inR room x ∨ x ∈ elemsI ws
  · refine Calls.mono (radd_same A n c room (elemsI ws) x S w hS hC.row hx) ?_
    rintro e w' ⟨rfl, hb⟩
    exact ⟨A, n, c, rfl, by rw [same_law hK hx]; exact (hC.below hS hb).mono fun q hq => .inl hq, hb⟩
  · have h1 : inR room x := Classical.byContradiction fun h => hx (.inl h)
    have h2 : x ∉ elemsI ws := fun h => hx (.inr h)
    refine Calls.mono (radd_new A n c room (elemsI ws) x S w hS hC.row hC.cap hC.nil (by have := elemsI_len hK; have := hC.row.1; omega) h1 h2) ?_
    rintro e w' ⟨R, v, rfl, hi, hM, hb⟩
    obtain ⟨A', n', c', rfl, hn', hc', hA', hr'⟩ := hM.formN
    have hR := ins_law hK h1 h2 hi
    subst hR
    exact ⟨A', n', c', rfl, ⟨hr'.mono fun q hq => .inr hq, hc', hA'⟩, hb⟩
theorem drop_law {room : Nat} {ws : List Nat} (h : Wok room ws) (x : Int) : dropR x (elemsI ws) = elemsI (dropW room ws x) := by
  refine sorted_ext ((elemsI_sorted ws).filter _) (elemsI_sorted _) fun y => ?_
  unfold dropR
  rw [List.mem_filter, mem_elemsI h, mem_elemsI (h.less x), bit_less h]
  constructor
  · rintro ⟨⟨a, b⟩, c⟩
    refine ⟨a, ?_⟩
    have hne : ¬ y = x := by simpa using c
    unfold inR at a
    rw [b, decide_eq_false (by omega)]; rfl
  · rintro ⟨a, b⟩
    rw [Bool.and_eq_true] at b
    refine ⟨⟨a, b.1⟩, ?_⟩
    have : ¬ ((y.toNat : Nat) : Int) = x := by simpa using b.2
    unfold inR at a
    simp
    omega
theorem drop_len {room : Nat} {ws : List Nat} (h : Wok room ws) (x : Int) : (dropO room ws x = true ∧ ¬ (elemsI (dropW room ws x)).length = (elemsI ws).length) ∨ (dropO room ws x = false ∧ elemsI (dropW room ws x) = elemsI ws) := by
  rw [← drop_law h]
  have hO : dropO room ws x = decide (x ∈ elemsI ws) := has_law h x
  rw [hO]
  by_cases hm : x ∈ elemsI ws
  · refine .inl ⟨decide_eq_true hm, fun he => ?_⟩
    have := (List.length_filter_eq_length_iff).1 he x hm
    simp at this
  · refine .inr ⟨decide_eq_false hm, List.filter_eq_self.2 fun y hy => ?_⟩
    have : y ≠ x := fun e => hm (e ▸ hy)
    simpa using this
/-- What the reference adds of a list. -/
def foldR (room : Nat) (ws : List Nat) (l : List Int) : List Nat := l.foldl (fun s n => if n < 1000 then addW room s n else s) ws
theorem foldR_snoc (room : Nat) (ws : List Nat) (l : List Int) (n : Int) : foldR room ws (l ++ [n]) = if n < 1000 then addW room (foldR room ws l) n else foldR room ws l := by simp [foldR]
theorem foldR_ok {room : Nat} (l : List Int) : ∀ {ws : List Nat}, Wok room ws → Wok room (foldR room ws l) := by
  induction l with
  | nil => exact fun h => h
  | cons x l ih =>
    intro ws h
    show Wok room (foldR room (if x < 1000 then addW room ws x else ws) l)
    split
    · exact ih (h.add x)
    · exact ih h
theorem foldR_bit {room : Nat} (l : List Int) : ∀ {ws : List Nat}, Wok room ws → ∀ k, bitAt (foldR room ws l) k = (bitAt ws k || decide ((k : Int) ∈ l ∧ (k : Int) < 1000 ∧ k < room)) := by
  induction l with
  | nil => intro ws h k; simp [foldR]
  | cons x l ih =>
    intro ws h k
    show bitAt (foldR room (if x < 1000 then addW room ws x else ws) l) k = _
    by_cases hx : x < 1000
    · rw [if_pos hx, ih (h.add x), bit_add h, Bool.or_assoc]
      congr 1
      rw [← Bool.decide_or]
      apply decide_eq_decide.2
      unfold inR
      constructor
      · rintro (⟨a, b⟩ | ⟨a, b, c⟩)
        · exact ⟨by rw [b]; exact List.mem_cons_self .., by omega, by omega⟩
        · exact ⟨List.mem_cons_of_mem _ a, b, c⟩
      · rintro ⟨a, b, c⟩
        rcases List.mem_cons.1 a with a | a
        · exact .inl ⟨⟨by omega, by omega⟩, a⟩
        · exact .inr ⟨a, b, c⟩
    · rw [if_neg hx, ih h]
      congr 1
      apply decide_eq_decide.2
      constructor
      · rintro ⟨a, b, c⟩; exact ⟨List.mem_cons_of_mem _ a, b, c⟩
      · rintro ⟨a, b, c⟩
        rcases List.mem_cons.1 a with a | a
        · omega
        · exact ⟨a, b, c⟩
end Go.Proofs.YtbmpaokicphdjaaDoor.Fn

/- The law of Join. -/
namespace Go.Proofs.YtbmpaokicphdjaaDoor.Fn
open Go Go.RowKit Go.Proofs.YtbmpaokicphdjaaDoor.Can Go.Proofs.YtbmpaokicphdjaaDoor.Base

theorem fold_inv {α β : Type} (P : β → Prop) (f : β → α → β) (hf : ∀ s x, P s → P (f s x)) : ∀ (l : List α) (s : β), P s → P (l.foldl f s)
  | [], _, h => h
  | x :: l, s, h => fold_inv P f hf l (f s x) (hf s x h)
theorem join_flag {room : Nat} {ws : List Nat} (h : Wok room ws) (l : List Nat) : ((joinB room ws l).2 = false ∧ (joinB room ws l).1 = ws) ∨ ((joinB room ws l).2 = true ∧ (elemsI ws).length < (elemsI (joinB room ws l).1).length) := by
  have := fold_inv (fun s : List Nat × Bool => Wok room s.1 ∧ ((s.2 = false ∧ s.1 = ws) ∨ (s.2 = true ∧ (elemsI ws).length < (elemsI s.1).length)))
    (fun (s : List Nat × Bool) (n : Nat) => (addW room s.1 (n : Int), s.2 || addO room s.1 (n : Int)))
    (fun s x ⟨hk, hs⟩ => by
      refine ⟨hk.add _, ?_⟩
      dsimp only
      rcases add_len hk (x : Int) with ⟨a, b⟩ | ⟨a, b⟩
      · refine .inr ⟨by rw [a, Bool.or_true], ?_⟩
        rcases hs with ⟨_, h2⟩ | ⟨_, h2⟩
        · rw [b, h2]; omega
        · omega
      · rw [a, b, Bool.or_false]
        exact hs) l (ws, false) ⟨h, .inl ⟨rfl, rfl⟩⟩
  exact this.2
theorem join_bit {room : Nat} (l : List Nat) : ∀ {s : List Nat × Bool}, Wok room s.1 → ∀ k, bitAt (l.foldl (fun (s : List Nat × Bool) (n : Nat) => (addW room s.1 (n : Int), s.2 || addO room s.1 (n : Int))) s).1 k = (bitAt s.1 k || decide (k ∈ l ∧ k < room)) := by
  induction l with
  | nil => intro s h k; simp
  | cons x l ih =>
    intro s h k
    rw [List.foldl_cons, ih (h.add _)]
    dsimp only
    rw [bit_add h, Bool.or_assoc]
    congr 1
    rw [← Bool.decide_or]
    apply decide_eq_decide.2
    unfold inR
    constructor
    · rintro (⟨a, b⟩ | ⟨a, b⟩)
      · obtain rfl : k = x := by omega
        exact ⟨List.mem_cons_self .., by omega⟩
      · exact ⟨List.mem_cons_of_mem _ a, b⟩
    · rintro ⟨a, b⟩
      rcases List.mem_cons.1 a with a | a
      · exact .inl ⟨⟨by omega, by omega⟩, by omega⟩
      · exact .inr ⟨a, b⟩
theorem of_bit {room : Nat} (l : List Int) : ∀ {ws : List Nat}, Wok room ws → ∀ k, bitAt (l.foldl (addW room) ws) k = (bitAt ws k || decide ((k : Int) ∈ l ∧ k < room)) := by
  induction l with
  | nil => intro ws h k; simp
  | cons x l ih =>
    intro ws h k
    rw [List.foldl_cons, ih (h.add _), bit_add h, Bool.or_assoc]
    congr 1
    rw [← Bool.decide_or]
    apply decide_eq_decide.2
    unfold inR
    constructor
    · rintro (⟨a, b⟩ | ⟨a, b⟩)
      · exact ⟨by rw [b]; exact List.mem_cons_self .., by omega⟩
      · exact ⟨List.mem_cons_of_mem _ a, b⟩
    · rintro ⟨a, b⟩
      rcases List.mem_cons.1 a with a | a
      · exact .inl ⟨⟨by omega, by omega⟩, a⟩
      · exact .inr ⟨a, b⟩
theorem made_bit (room k : Nat) (h : room ≤ 65536) : bitAt (List.replicate ((room + 63) / 64) 0) k = false := by
  unfold bitAt
  rw [List.getD_eq_getElem?_getD, List.getElem?_replicate]
  split <;> simp
theorem join_law {room : Nat} {ws : List Nat} (h : Wok room ws) (l : List Int) : elemsI (joinB room ws (elems (ofW 1000 l))).1 = elemsI (foldR room ws l) := by
  have h1 := (joinB_ok h (elems (ofW 1000 l))).1
  have h2 := foldR_ok l h
  refine sorted_ext (elemsI_sorted _) (elemsI_sorted _) fun y => ?_
  rw [mem_elemsI h1, mem_elemsI h2]
  refine and_congr_right fun hy => ?_
  have e1 : bitAt (joinB room ws (elems (ofW 1000 l))).1 y.toNat = _ := join_bit (elems (ofW 1000 l)) (s := (ws, false)) h y.toNat
  rw [e1, foldR_bit l h]
  dsimp only
  have e2 : (y.toNat ∈ elems (ofW 1000 l) ∧ y.toNat < room) ↔ ((y.toNat : Int) ∈ l ∧ (y.toNat : Int) < 1000 ∧ y.toNat < room) := by
    rw [mem_elems (ofW_ok (by decide) l)]
    unfold ofW
    rw [of_bit l (Wok.made (by decide)), made_bit _ _ (by decide), Bool.false_or]
    simp only [decide_eq_true_eq]
    constructor
    · rintro ⟨⟨a, b⟩, c⟩; exact ⟨a, by omega, c⟩
    · rintro ⟨a, b, c⟩; exact ⟨⟨a, by omega⟩, c⟩
  rw [decide_eq_decide.2 e2]
theorem join_ok {room : Nat} {ws : List Nat} (h : Wok room ws) (l : List Int) : (joinB room ws (elems (ofW 1000 l))).2 = !decide ((elemsI (foldR room ws l)).length = (elemsI ws).length) := by
  rw [← join_law h]
  rcases join_flag h (elems (ofW 1000 l)) with ⟨a, b⟩ | ⟨a, b⟩
  · rw [a, b, decide_eq_true rfl]; rfl
  · rw [a, decide_eq_false (by omega)]; rfl
theorem words_ext {room : Nat} {ws ws' : List Nat} (h : Wok room ws) (h' : Wok room ws') (he : elemsI ws = elemsI ws') : ∀ k, bitAt ws k = bitAt ws' k := by
  intro k
  have := (mem_elemsI h (k : Int)).symm.trans ((by rw [he] : ((k : Int) ∈ elemsI ws ↔ (k : Int) ∈ elemsI ws')).trans (mem_elemsI h' (k : Int)))
  rw [Int.toNat_natCast] at this
  by_cases hk : k < room
  · have hin : inR room (k : Int) := ⟨by omega, by omega⟩
    have h2 : bitAt ws k = true ↔ bitAt ws' k = true := by simpa [hin] using this
    cases ha : bitAt ws k <;> cases hb : bitAt ws' k <;> simp_all
  · rw [h.top k (by omega), h'.top k (by omega)]
end Go.Proofs.YtbmpaokicphdjaaDoor.Fn
