/- TrailStays: the walk. -/
import Derived.Test.YtefkhjgckdphnaaF8
namespace Go.Proofs.Ytefkhjgckdphnaa.Fn
open Go Go.RowKit Go.Proofs.Ytefkhjgckdphnaa.Can Go.Proofs.Ytefkhjgckdphnaa.Base
attribute [local go_sem] clsB AB.cell nil22
attribute [local go_sem high] eq28

/-- Push, whatever there is; how long it has become. -/
theorem push_any' (A : Option Addr) (c : Nat) (l : List Spot) (n : Nat) (d : Int) (p : Spot) (S : Nat → Prop) (w : World) (hS : ∀ k, S k → k < w.heap.size) (hC : Row spotT w S A n l) (hd : 0 ≤ d) (hn : n ≤ 5000) (hnc : n ≤ c) (hA : A = none → c = 0) :
    Calls Try.prog 8 #[.agg #[.int .i64 d, .slice A n c], .agg #[.int .i64 p.at_, .int .i64 p.mode]] w fun e w' =>
      ∃ A' c' n' l', e = .returned (.agg #[.int .i64 d, .slice A' n' c']) ∧ n' ≤ n + 1 ∧ n' ≤ c' ∧ (A' = none → c' = 0) ∧ Row spotT w' (New S w w') A' n' l' ∧ Below w.heap.size w w' := by
  obtain rfl := hC.1
  refine (push_any A c l d p S w hS hC hd hn hnc hA).mono ?_
  rintro e w' ⟨A', c', rfl, h1, h2, h3, h4⟩
  exact ⟨A', c', _, _, rfl, pushL_len l p d, h1, h2, h3, h4⟩
theorem own_block' {w : World} {base : Nat} {S : Nat → Prop} {v : Value} {l : List Spot} (h : Own spotT w base 28 S v l) : ∃ A c b, v = .slice A l.length c ∧ base ≤ b ∧ (0 < l.length → A = some ⟨b, 0, none⟩ ∧ ∃ cs : Array Value, w.heap[b]? = some (.cells cs 28 (0, 0)) ∧ l.length * 2 ≤ cs.size) := by
  rcases own_block h with ⟨c, rfl, A, rfl⟩ | ⟨b, cs, c, rfl, h1, h2, h3⟩
  · exact ⟨A, c, base, rfl, Nat.le_refl _, fun h => by simp at h⟩
  · exact ⟨_, c, b, rfl, h1, fun _ => ⟨rfl, cs, h2, h3⟩⟩
theorem cut_two {G : Prop} (F : Nat → Nat → World → Prop) {C : Nat → Nat → World → Prop} (main : (∀ gu gv U, F gu gv U → C gu gv U) → G) (key : ∀ gu gv U, F gu gv U → C gu gv U) : G := main key



set_option maxRecDepth 20000 in
set_option maxHeartbeats 4000000 in
theorem stays_calls (d : Int) (A : Option Addr) (c : Nat) (xs : List Step) (B : Option Addr) (cb : Nat) (ys : List Step) (S : Nat → Prop) (w : World) (hS : ∀ k, S k → k < w.heap.size) (hC : Row stepT w S A xs.length xs) (hC2 : Row stepT w S B ys.length ys) (hd : 0 ≤ d ∧ d ≤ 255) :
    Calls Try.prog 5 #[.int .u8 d, .slice A xs.length c, .slice B ys.length cb] w fun e w' => e = .returned (.bool true) ∧ Below w.heap.size w w' := by
  have hc := hC.le
  have hc2 := hC2.le
  have HS := Hd.mk hS; clear hS
  have HC := Hd.mk hC; clear hC
  have HC2 := Hd.mk hC2; clear hC2
  by_cases hlong : 60 < xs.length
  · go_enter Try.func5, Try.ntmps5
    go_wp2_with (go_at_call 6; refine (alive_calls _).mono ?_; rintro e w1 ⟨rfl, hb1⟩)
    go_ret
    exact ⟨rfl, hb1⟩
  by_cases hlong2 : 60 < ys.length
  · go_enter Try.func5, Try.ntmps5
    go_wp2_with (go_at_call 6; refine (alive_calls _).mono ?_; rintro e w1 ⟨rfl, hb1⟩)
    go_ret
    exact ⟨rfl, hb1⟩
  · have hD0 := newD_pos d
    have HN : ∀ w, Calls Try.prog 7 #[.int .i64 d] w fun e w' => e = .returned (.agg #[.int .i64 (newD d), .slice none 0 0]) ∧ Below w.heap.size w w' := new_calls d
    generalize newD d = D at *
    go_enter Try.func5, Try.ntmps5
    go_wp2_with (go_at_call 7; refine (HN w).mono ?_; rintro e w1 ⟨rfl, hb1⟩)
    generalize hV : World.alloc _ _ = V
    have HBV : Below w1.heap.size w1 V := below_of hV (by repeat (first | (with_reducible assumption) | (with_reducible exact Below.refl _ _) | (with_reducible apply below_drewL) | (with_reducible apply below_alloc) | (with_reducible apply below_drew1) | (with_reducible apply below_drewN) | (refine below_set ?_ (by first | omega | (simp only [size_alloc, size_drew, size_set]; omega)) _ _)))
    have zV : Hd (V.heap.size = w1.heap.size + 1) := ⟨by rw [← hV]; simp only [size_alloc]⟩
    have V0 := at_of hV (blk_new _ _ _ rfl)
    have V0l := blk_lt V0
    clear hV
    replace HBV := below_seq hb1 HBV
    have hg : w.heap.size ≤ w1.heap.size := hb1.size
    generalize w1.heap.size = g at *
    go_loopw [31] (fun i wr => ∃ k : Nat, k ≤ xs.length ∧ i = .int .i64 k ∧ ∃ A1 c1 n L, wr.heap[g]? = some (.cells #[.int .i64 D, .slice A1 n c1] 25 (0, 0)) ∧ n ≤ k ∧ n ≤ c1 ∧ (A1 = none → c1 = 0) ∧ Hd (Row spotT wr (fun b => b ≠ g ∧ b < wr.heap.size) A1 n L) ∧ Hd (Below w.heap.size w wr)) (fun i _ => xs.length - (intOf i).toNat)
    case atStart => exact ⟨0, Nat.zero_le _, rfl, none, 0, 0, [], V0, Nat.le_refl _, Nat.le_refl _, fun _ => rfl, ⟨Row.nil _ _ _ _⟩, ⟨HBV⟩⟩
    case round =>
      clear V0 V0l zV HBV
      obtain ⟨k, hk, rfl, A1, c1, n, L, hx, hLk, hc1, hA1, hR1, hb⟩ := hrel
      have hxc0 := blk_cell hx 0 _ rfl; have hxf0 := blk_frozen hx 0; have hxc1 := blk_cell hx 1 _ rfl; have hxf1 := blk_frozen hx 1; have hxl := blk_lt hx
      have HX := Hd.mk hx; clear hx
      have HA1 := Hd.mk hA1; clear hA1
      by_cases hlt : k < xs.length
      · obtain ⟨b, o, s, rfl, _, hb1, _, hp0, hp1, hp2⟩ := step_get (HC.out.below HS.out hb.out) k hlt
        have hpl := pushL_len L s.spot D
        obtain ⟨Lp, hLp⟩ : ∃ Lp, pushL L s.spot D = Lp := ⟨_, rfl⟩
        rw [hLp] at hpl
        have HLp := Hd.mk hLp; clear hLp
        have hn := hR1.out.1
        go_wp2_with (go_at_call 8; go_must (refine (push_to A1 c1 L n D s.spot HLp.out rfl (fun b => b ≠ g ∧ b < wr.heap.size) _ (fun k hk => by simp only [size_alloc]; omega) (hR1.out.below (fun _ h => h.2) (by repeat (first | (with_reducible assumption) | (with_reducible exact Below.refl _ _) | (with_reducible apply below_drewL) | (with_reducible apply below_alloc) | (with_reducible apply below_drew1) | (with_reducible apply below_drewN) | (refine below_set ?_ (by first | omega | (simp only [size_alloc, size_drew, size_set]; omega)) _ _)))) (by omega) (by omega) hc1 HA1.out).mono ?_; rintro e w2 ⟨A2, c2, rfl, hc2', hA2, hR2, hb2⟩; have hv := blk_below (blk_alloc HX.out _) hb2; have hvc0 := blk_cell hv 0 _ rfl; have hvf0 := blk_frozen hv 0; have hvc1 := blk_cell hv 1 _ rfl; have hvf1 := blk_frozen hv 1; have hvl := blk_lt hv))
        go_roundw
        case rel =>
          have hz2 := hb2.size
          simp only [size_alloc] at hz2
          refine ⟨k + 1, by omega, by go_num, A2, c2, Lp.length, Lp, blk_set (blk_set hv 0 _ _ rfl) 1 _ _ rfl, by omega, hc2', hA2, ⟨?_⟩, ⟨?_⟩⟩
          · refine ((hR2.mono (S' := fun b => b ≠ g ∧ b < w2.heap.size) (fun b hbb => ?_)).set (fun b hbb => hbb.1) _ |>.set (fun b hbb => hbb.1) _).mono (fun b hbb => by simp only [size_set]; exact hbb)
            rcases hbb with hbb | hbb
            · omega
            · simp only [size_alloc] at hbb; omega
          · have hb' := hb.out
            have hb3 := below_seq (a := w) (by repeat (first | (with_reducible assumption) | (with_reducible exact Below.refl _ _) | (with_reducible apply below_drewL) | (with_reducible apply below_alloc) | (with_reducible apply below_drew1) | (with_reducible apply below_drewN) | (refine below_set ?_ (by first | omega | (simp only [size_alloc, size_drew, size_set]; omega)) _ _))) hb2
            exact (by repeat (first | (with_reducible assumption) | (with_reducible exact Below.refl _ _) | (with_reducible apply below_drewL) | (with_reducible apply below_alloc) | (with_reducible apply below_drew1) | (with_reducible apply below_drewN) | (refine below_set ?_ (by first | omega | (simp only [size_alloc, size_drew, size_set]; omega)) _ _)))
        case measure => simp [intOf]; omega
      · obtain rfl : k = xs.length := by omega
        have hn := hR1.out.1
        subst hn
        clear hlt hk
        go_wp2_with (go_at_call 15; go_must (refine (all_calls D A1 c1 L (fun b => b ≠ g ∧ b < wr.heap.size) _ (fun k hk => hk.2) hR1.out HA1.out (by omega)).mono ?_; rintro e w2 ⟨A0, c0, rfl, hc0, hA0, hR0, hb2⟩; have hv := blk_below HX.out hb2; have hvc0 := blk_cell hv 0 _ rfl; have hvf0 := blk_frozen hv 0; have hvc1 := blk_cell hv 1 _ rfl; have hvf1 := blk_frozen hv 1; have hvl := blk_lt hv))
        clear hxc0 hxf0 hxc1 hxf1 hxl
        have HV := Hd.mk hv
        have hbw := below_seq hb.out hb2
        have hzw := hb2.size
        have hgl : g < w2.heap.size := hvl
        have hR1' := Hd.mk ((hR1.out.below (fun _ h => h.2) hb2).mono (S' := fun b => b ≠ g ∧ b < w2.heap.size) (fun b h => ⟨h.1, by omega⟩))
        have hR0' := Hd.mk (hR0.mono (S' := fun b => b ≠ g ∧ b < w2.heap.size) (fun b h => ⟨by have := blk_lt HX.out; omega, h.2⟩))
        clear hR0 hR1 hb2 hb HX hv
        refine wp_region_can (.q [0, 1] (.b 2 true (.e 3 true (.e 4 true (.e 5 false (.done)))) 3 true (.e 2 true (.e 4 true (.e 5 false (.done)))))) (clsB _) (by kernel_rfl) (by kernel_rfl) (by intro _ _ d _ _ h; cases d <;> exact h) (clsB_drew _) ?_
        refine can_q (l := [⟨_,_,_,_,_,_⟩, ⟨_,_,_,_,_,_⟩]) rfl ?_
        repeat (go_big_quiet_step (fail))
        refine wpQuiet_nil ?_
        apply cut_two (fun gu gv U => (gu ≠ gv ∧ gu ≠ g ∧ gv ≠ g ∧ w2.heap.size ≤ gu ∧ w2.heap.size ≤ gv) ∧ Below w2.heap.size w2 U ∧ U.heap[gu]? = some (.cells #[.int .i64 D, .slice A1 L.length c1] 25 (0, 0)) ∧ U.heap[gv]? = some (.cells #[.int .i64 D, .slice A1 L.length c1] 25 (0, 0)))
        case main =>
          intro key
          refine can_b (o := ⟨_,_,_,_,_,_⟩) (oj := ⟨_,_,_,_,_,_⟩) rfl rfl (fun K hK => ?_) (fun K hK => ?_)
          · go_wp2_with fail
            refine onK_normal (hK _ _ ⟨clsB _, clsB_of (by first | exact ((by repeat (first | (with_reducible assumption) | (with_reducible exact Below.refl _ _) | (with_reducible apply below_drewL) | (with_reducible apply below_alloc) | (with_reducible apply below_drew1) | (with_reducible apply below_drewN) | (refine below_set ?_ (by first | omega | (simp only [size_alloc, size_drew, size_set]; omega)) _ _)))) | exact below_undrew ((by repeat (first | (with_reducible assumption) | (with_reducible exact Below.refl _ _) | (with_reducible apply below_drewL) | (with_reducible apply below_alloc) | (with_reducible apply below_drew1) | (with_reducible apply below_drewN) | (refine below_set ?_ (by first | omega | (simp only [size_alloc, size_drew, size_set]; omega)) _ _))))), fun _ _ h => h, ?_⟩)
            clear hK K
            refine can_e (o := ⟨_,_,_,_,_,_⟩) rfl (fun K hK => ?_)
            go_wp2_with fail
            refine onK_normal (hK _ _ ⟨clsB _, clsB_of (by first | exact ((by repeat (first | (with_reducible assumption) | (with_reducible exact Below.refl _ _) | (with_reducible apply below_drewL) | (with_reducible apply below_alloc) | (with_reducible apply below_drew1) | (with_reducible apply below_drewN) | (refine below_set ?_ (by first | omega | (simp only [size_alloc, size_drew, size_set]; omega)) _ _)))) | exact below_undrew ((by repeat (first | (with_reducible assumption) | (with_reducible exact Below.refl _ _) | (with_reducible apply below_drewL) | (with_reducible apply below_alloc) | (with_reducible apply below_drew1) | (with_reducible apply below_drewN) | (refine below_set ?_ (by first | omega | (simp only [size_alloc, size_drew, size_set]; omega)) _ _))))), fun _ _ h => h, ?_⟩)
            clear hK K
            refine can_e (o := ⟨_,_,_,_,_,_⟩) rfl (fun K hK => ?_)
            go_wp2_with fail
            refine onK_normal (hK _ _ ⟨clsB _, clsB_of (by first | exact ((by repeat (first | (with_reducible assumption) | (with_reducible exact Below.refl _ _) | (with_reducible apply below_drewL) | (with_reducible apply below_alloc) | (with_reducible apply below_drew1) | (with_reducible apply below_drewN) | (refine below_set ?_ (by first | omega | (simp only [size_alloc, size_drew, size_set]; omega)) _ _)))) | exact below_undrew ((by repeat (first | (with_reducible assumption) | (with_reducible exact Below.refl _ _) | (with_reducible apply below_drewL) | (with_reducible apply below_alloc) | (with_reducible apply below_drew1) | (with_reducible apply below_drewN) | (refine below_set ?_ (by first | omega | (simp only [size_alloc, size_drew, size_set]; omega)) _ _))))), fun _ _ h => h, ?_⟩)
            clear hK K
            refine can_e (o := ⟨_,_,_,_,_,_⟩) rfl (fun K hK => ?_)
            go_wp2_with fail
            refine onK_normal (hK _ _ ⟨fun _ => True, trivial, (fun h => by cases h), ?_⟩)
            clear hK K
            refine can_done ?_
            generalize hU : World.alloc _ _ = U
            have HBU : Below w2.heap.size w2 U := below_of hU (by repeat (first | (with_reducible assumption) | (with_reducible exact Below.refl _ _) | (with_reducible apply below_drewL) | (with_reducible apply below_alloc) | (with_reducible apply below_drew1) | (with_reducible apply below_drewN) | (refine below_set ?_ (by first | omega | (simp only [size_alloc, size_drew, size_set]; omega)) _ _)))
            have zU : Hd (U.heap.size = w2.heap.size + 1 + 1) := ⟨by rw [← hU]; simp only [size_alloc]⟩
            have U0 := at_of hU (blk_alloc (blk_new _ _ _ rfl) _)
            have U0l := blk_lt U0
            have U1 := at_of hU (blk_new _ _ _ rfl)
            simp only [size_alloc] at U1
            have U1l := blk_lt U1
            clear hU
            generalize hgu : w2.heap.size = gu at U0 U0l U1 U1l ⊢
            generalize hgv : gu + 1 = gv at U1 U1l ⊢
            exact key gu gv U ⟨by omega, HBU, U0, U1⟩
          · go_wp2_with fail
            refine onK_normal (hK _ _ ⟨clsB _, clsB_of (by first | exact ((by repeat (first | (with_reducible assumption) | (with_reducible exact Below.refl _ _) | (with_reducible apply below_drewL) | (with_reducible apply below_alloc) | (with_reducible apply below_drew1) | (with_reducible apply below_drewN) | (refine below_set ?_ (by first | omega | (simp only [size_alloc, size_drew, size_set]; omega)) _ _)))) | exact below_undrew ((by repeat (first | (with_reducible assumption) | (with_reducible exact Below.refl _ _) | (with_reducible apply below_drewL) | (with_reducible apply below_alloc) | (with_reducible apply below_drew1) | (with_reducible apply below_drewN) | (refine below_set ?_ (by first | omega | (simp only [size_alloc, size_drew, size_set]; omega)) _ _))))), fun _ _ h => h, ?_⟩)
            clear hK K
            refine can_e (o := ⟨_,_,_,_,_,_⟩) rfl (fun K hK => ?_)
            go_wp2_with fail
            refine onK_normal (hK _ _ ⟨clsB _, clsB_of (by first | exact ((by repeat (first | (with_reducible assumption) | (with_reducible exact Below.refl _ _) | (with_reducible apply below_drewL) | (with_reducible apply below_alloc) | (with_reducible apply below_drew1) | (with_reducible apply below_drewN) | (refine below_set ?_ (by first | omega | (simp only [size_alloc, size_drew, size_set]; omega)) _ _)))) | exact below_undrew ((by repeat (first | (with_reducible assumption) | (with_reducible exact Below.refl _ _) | (with_reducible apply below_drewL) | (with_reducible apply below_alloc) | (with_reducible apply below_drew1) | (with_reducible apply below_drewN) | (refine below_set ?_ (by first | omega | (simp only [size_alloc, size_drew, size_set]; omega)) _ _))))), fun _ _ h => h, ?_⟩)
            clear hK K
            refine can_e (o := ⟨_,_,_,_,_,_⟩) rfl (fun K hK => ?_)
            go_wp2_with fail
            refine onK_normal (hK _ _ ⟨clsB _, clsB_of (by first | exact ((by repeat (first | (with_reducible assumption) | (with_reducible exact Below.refl _ _) | (with_reducible apply below_drewL) | (with_reducible apply below_alloc) | (with_reducible apply below_drew1) | (with_reducible apply below_drewN) | (refine below_set ?_ (by first | omega | (simp only [size_alloc, size_drew, size_set]; omega)) _ _)))) | exact below_undrew ((by repeat (first | (with_reducible assumption) | (with_reducible exact Below.refl _ _) | (with_reducible apply below_drewL) | (with_reducible apply below_alloc) | (with_reducible apply below_drew1) | (with_reducible apply below_drewN) | (refine below_set ?_ (by first | omega | (simp only [size_alloc, size_drew, size_set]; omega)) _ _))))), fun _ _ h => h, ?_⟩)
            clear hK K
            refine can_e (o := ⟨_,_,_,_,_,_⟩) rfl (fun K hK => ?_)
            go_wp2_with fail
            refine onK_normal (hK _ _ ⟨fun _ => True, trivial, (fun h => by cases h), ?_⟩)
            clear hK K
            refine can_done ?_
            generalize hU : World.alloc _ _ = U
            have HBU : Below w2.heap.size w2 U := below_of hU (by repeat (first | (with_reducible assumption) | (with_reducible exact Below.refl _ _) | (with_reducible apply below_drewL) | (with_reducible apply below_alloc) | (with_reducible apply below_drew1) | (with_reducible apply below_drewN) | (refine below_set ?_ (by first | omega | (simp only [size_alloc, size_drew, size_set]; omega)) _ _)))
            have zU : Hd (U.heap.size = w2.heap.size + 1 + 1) := ⟨by rw [← hU]; simp only [size_alloc]⟩
            have U0 := at_of hU (blk_alloc (blk_new _ _ _ rfl) _)
            have U0l := blk_lt U0
            have U1 := at_of hU (blk_new _ _ _ rfl)
            simp only [size_alloc] at U1
            have U1l := blk_lt U1
            clear hU
            generalize hgv : w2.heap.size = gv at U0 U0l U1 U1l ⊢
            generalize hgu : gv + 1 = gu at U1 U1l ⊢
            exact key gu gv U ⟨by omega, HBU, U1, U0⟩
        case key =>
          rintro gu gv U ⟨hgg, HBU, HU, HW⟩
          replace HU := Hd.mk HU; replace HW := Hd.mk HW
          have HGG := Hd.mk hgg; clear hgg
          go_wp2
          go_loopw [46] (fun i wr => ∃ k : Nat, k ≤ ys.length ∧ i = .int .i64 k ∧ ∃ Au cu nu Lu Av cv nv Lv, wr.heap[gu]? = some (.cells #[.int .i64 D, .slice Au nu cu] 25 (0, 0)) ∧ wr.heap[gv]? = some (.cells #[.int .i64 D, .slice Av nv cv] 25 (0, 0)) ∧ nu ≤ 60 + k ∧ nv ≤ 60 + k ∧ nu ≤ cu ∧ nv ≤ cv ∧ (Au = none → cu = 0) ∧ (Av = none → cv = 0) ∧ Hd (Row spotT wr (fun b => b ≠ gu ∧ b ≠ gv ∧ b < wr.heap.size) Au nu Lu) ∧ Hd (Row spotT wr (fun b => b ≠ gu ∧ b ≠ gv ∧ b < wr.heap.size) Av nv Lv) ∧ Hd (Below w2.heap.size w2 wr)) (fun i _ => ys.length - (intOf i).toNat)
          case atStart =>
            have hR : Row spotT U.drew (fun b => b ≠ gu ∧ b ≠ gv ∧ b < U.drew.heap.size) A1 L.length L := ((hR1'.out.below (fun _ h => h.2) HBU).move (w' := U.drew) (fun _ _ => rfl)).mono (fun b h => by have := HBU.size; have hgg := HGG.out; exact ⟨by omega, by omega, by rw [size_drew]; omega⟩)
            exact ⟨0, Nat.zero_le _, rfl, A1, c1, L.length, L, A1, c1, L.length, L, HU.out, HW.out, by omega, by omega, hc1, hc1, HA1.out, HA1.out, ⟨hR⟩, ⟨hR⟩, ⟨below_drew1 HBU⟩⟩
          case round =>
            clear HBU HU HW
            obtain ⟨k, hk, rfl, Au, cu, nu, Lu, Av, cv, nv, Lv, hxu, hxv, hnu, hnv, hcu, hcv, hAu, hAv, hRu, hRv, hb⟩ := hrel
            have hxuc0 := blk_cell hxu 0 _ rfl; have hxuf0 := blk_frozen hxu 0; have hxuc1 := blk_cell hxu 1 _ rfl; have hxuf1 := blk_frozen hxu 1; have hxul := blk_lt hxu
            have hxvc0 := blk_cell hxv 0 _ rfl; have hxvf0 := blk_frozen hxv 0; have hxvc1 := blk_cell hxv 1 _ rfl; have hxvf1 := blk_frozen hxv 1; have hxvl := blk_lt hxv
            have HXu := Hd.mk hxu; have HXv := Hd.mk hxv; clear hxu hxv
            have HAu := Hd.mk hAu; have HAv := Hd.mk hAv; clear hAu hAv
            have hzr := hb.out.size
            by_cases hlt : k < ys.length
            · obtain ⟨b, o, s, rfl, _, hb1, _, hp0, hp1, hp2⟩ := step_get ((HC2.out.below HS.out hbw).below (fun j hj => Nat.lt_of_lt_of_le (HS.out j hj) hbw.size) hb.out) k hlt
              have hvu : ¬ gv = gu := fun h => HGG.out.1 h.symm
              have huv : ¬ gu = gv := HGG.out.1
              have hgu2 := HGG.out.2.2.2.1
              have hgv2 := HGG.out.2.2.2.2
              cases hpop : s.pop with
              | true =>
                rw [hpop] at hp0
                cases hpar : ((k : Int) % 2 == 0) with
                | true =>
                  go_wp2_with (first
                    | (go_at_call 8; have hq_ := HRZ2; clear hq_; go_must (refine Calls.mono (push_any' Av cv' Lv' nv' D ⟨-(k : Int), 9⟩ (fun b => b ≠ gu ∧ b ≠ gv ∧ b < (((y2.setCell ⟨gv, 0, none⟩ (.int .i64 D)).setCell ⟨gv, 1, none⟩ (.slice Av nv' cv'))).heap.size) _ (fun _ h => h.2.2) HRZ2.out (by omega) (by omega) hcv' HAv2.out) ?_; rintro e y3 ⟨A3, c3, n3, L3, rfl, hn3, hc3, hA3, hR3, hy3⟩; have hzu3 := blk_below HZu2.out hy3; have hzv3 := blk_below HZv2.out hy3; have HY3 := Hd.mk (below_seq HY2.out hy3); have HRU3 := Hd.mk (HRU2.out.below (fun _ h => h.2.2) hy3); have hz3 := hy3.size; have hzu3c0 := blk_cell hzu3 0 _ rfl; have hzu3f0 := blk_frozen hzu3 0; have hzu3c1 := blk_cell hzu3 1 _ rfl; have hzu3f1 := blk_frozen hzu3 1; have hzu3l := blk_lt hzu3; have hzv3c0 := blk_cell hzv3 0 _ rfl; have hzv3f0 := blk_frozen hzv3 0; have hzv3c1 := blk_cell hzv3 1 _ rfl; have hzv3f1 := blk_frozen hzv3 1; have hzv3l := blk_lt hzv3))
                    | (go_at_call 9; have hq_ := hyu; clear hq_; go_must (refine Calls.mono (pop_any Av cv nv Lv D (fun b => b ≠ gu ∧ b ≠ gv ∧ b < ((y1.setCell ⟨gu, 0, none⟩ (.int .i64 D)).setCell ⟨gu, 1, none⟩ (.slice Au nu' cu')).heap.size) _ (fun _ h => h.2.2) HRZ.out (by omega) hcv HAv.out) ?_; rintro e y2 ⟨cv', nv', Lv', p2, q2, r2, rfl, hnv', hcv', hAv', hRv', hy2⟩; have HAv2 := Hd.mk hAv'; have hzu2 := blk_below HZu.out hy2; have hzv2 := blk_below HZv.out hy2; have hz2 := hy2.size; rw [size_set, size_set] at hz2; have HY2 := Hd.mk (below_set (below_set (below_seq HY.out hy2) hgv2 0 (.int .i64 D)) hgv2 1 (.slice Av nv' cv')); have HZu2 := Hd.mk (blk_far (blk_far hzu2 (p := ⟨gv, 0, none⟩) huv (.int .i64 D)) (p := ⟨gv, 1, none⟩) huv (.slice Av nv' cv')); have HZv2 := Hd.mk (blk_set (blk_set hzv2 0 (.int .i64 D) _ rfl) 1 (.slice Av nv' cv') _ rfl); have HRZ2 := Hd.mk (((hRv'.set (g := gv) (i := 0) (fun _ h => h.2.1) (.int .i64 D)).set (g := gv) (i := 1) (fun _ h => h.2.1) (.slice Av nv' cv')).mono (S' := (fun b => b ≠ gu ∧ b ≠ gv ∧ b < ((y2.setCell ⟨gv, 0, none⟩ (.int .i64 D)).setCell ⟨gv, 1, none⟩ (.slice Av nv' cv')).heap.size)) (fun b h => ⟨h.1, h.2.1, by have h3 := h.2.2; rw [size_set, size_set] at h3; rw [size_set, size_set]; omega⟩)); have HRU2 := Hd.mk ((((HRU.out.below (fun _ h => h.2.2) hy2).set (g := gv) (i := 0) (fun _ h => h.2.1) (.int .i64 D)).set (g := gv) (i := 1) (fun _ h => h.2.1) (.slice Av nv' cv')).mono (S' := (fun b => b ≠ gu ∧ b ≠ gv ∧ b < ((y2.setCell ⟨gv, 0, none⟩ (.int .i64 D)).setCell ⟨gv, 1, none⟩ (.slice Av nv' cv')).heap.size)) (fun b h => ⟨h.1, h.2.1, by have h3 := h.2.2; rw [size_set, size_set] at h3; rw [size_set, size_set]; omega⟩)); have hzu2c0 := blk_cell hzu2 0 _ rfl; have hzu2f0 := blk_frozen hzu2 0; have hzu2c1 := blk_cell hzu2 1 _ rfl; have hzu2f1 := blk_frozen hzu2 1; have hzu2l := blk_lt hzu2; have hzv2c0 := blk_cell hzv2 0 _ rfl; have hzv2f0 := blk_frozen hzv2 0; have hzv2c1 := blk_cell hzv2 1 _ rfl; have hzv2f1 := blk_frozen hzv2 1; have hzv2l := blk_lt hzv2))
                    | (go_at_call 9; go_must (refine Calls.mono (pop_any Au cu nu Lu D (fun b => b ≠ gu ∧ b ≠ gv ∧ b < wr.heap.size) _ (fun k hk => by rw [size_alloc]; exact Nat.lt_succ_of_lt hk.2.2) (hRu.out.below (fun _ h => h.2.2) (below_alloc (Below.refl _ _) _)) (by omega) hcu HAu.out) ?_; rintro e y1 ⟨cu', nu', Lu', p1, q1, r1, rfl, hnu', hcu', hAu', hRu', hy1⟩; have hRu' := hRu'.mono (S' := (fun b => b ≠ gu ∧ b ≠ gv ∧ b < y1.heap.size)) (fun b h => ⟨h.1, h.2.1, by have := hy1.size; rw [size_alloc] at this; omega⟩); have hyu := blk_below (blk_alloc HXu.out _) hy1; have hyv := blk_below (blk_alloc HXv.out _) hy1; have hz1 := hy1.size; rw [size_alloc] at hz1; have HRv1 := Hd.mk ((hRv.out.below (w' := y1) (fun _ h => h.2.2) (below_seq (below_alloc (Below.refl _ _) _) hy1)).mono (S' := (fun b => b ≠ gu ∧ b ≠ gv ∧ b < y1.heap.size)) (fun b h => ⟨h.1, h.2.1, by omega⟩)); have HY := Hd.mk (below_set (below_set (below_seq hb.out (below_seq (below_alloc (Below.refl _ _) _) hy1)) hgu2 0 (.int .i64 D)) hgu2 1 (.slice Au nu' cu')); have HZu := Hd.mk (blk_set (blk_set hyu 0 (.int .i64 D) _ rfl) 1 (.slice Au nu' cu') _ rfl); have HZv := Hd.mk (blk_far (blk_far hyv (p := ⟨gu, 0, none⟩) hvu (.int .i64 D)) (p := ⟨gu, 1, none⟩) hvu (.slice Au nu' cu')); have HRZ := Hd.mk (((HRv1.out.set (g := gu) (i := 0) (fun _ h => h.1) (.int .i64 D)).set (g := gu) (i := 1) (fun _ h => h.1) (.slice Au nu' cu')).mono (S' := (fun b => b ≠ gu ∧ b ≠ gv ∧ b < ((y1.setCell ⟨gu, 0, none⟩ (.int .i64 D)).setCell ⟨gu, 1, none⟩ (.slice Au nu' cu')).heap.size)) (fun b h => ⟨h.1, h.2.1, by rw [size_set, size_set]; exact h.2.2⟩)); have HRU := Hd.mk (((hRu'.set (g := gu) (i := 0) (fun _ h => h.1) (.int .i64 D)).set (g := gu) (i := 1) (fun _ h => h.1) (.slice Au nu' cu')).mono (S' := (fun b => b ≠ gu ∧ b ≠ gv ∧ b < ((y1.setCell ⟨gu, 0, none⟩ (.int .i64 D)).setCell ⟨gu, 1, none⟩ (.slice Au nu' cu')).heap.size)) (fun b h => ⟨h.1, h.2.1, by rw [size_set, size_set]; exact h.2.2⟩)); have HAV := HAv; have hcV := hcv; have hnV := hnv; have hyuc0 := blk_cell hyu 0 _ rfl; have hyuf0 := blk_frozen hyu 0; have hyuc1 := blk_cell hyu 1 _ rfl; have hyuf1 := blk_frozen hyu 1; have hyul := blk_lt hyu; have hyvc0 := blk_cell hyv 0 _ rfl; have hyvf0 := blk_frozen hyv 0; have hyvc1 := blk_cell hyv 1 _ rfl; have hyvf1 := blk_frozen hyv 1; have hyvl := blk_lt hyv
                                       ))
                    )
                  go_roundw
                  case rel =>
                    refine ⟨k + 1, by omega, by go_num, Au, cu', nu', Lu', A3, c3, n3, L3, blk_far (blk_far hzu3 (p := ⟨gv, 0, none⟩) huv _) (p := ⟨gv, 1, none⟩) huv _, blk_set (blk_set hzv3 0 _ _ rfl) 1 _ _ rfl, by omega, by omega, hcu', hc3, hAu', hA3, ⟨?_⟩, ⟨?_⟩, ⟨below_set (below_set HY3.out hgv2 _ _) hgv2 _ _⟩⟩
                    · exact ((HRU3.out.set (g := gv) (i := 0) (fun _ h => h.2.1) _).set (g := gv) (i := 1) (fun _ h => h.2.1) _).mono (fun b h => ⟨h.1, h.2.1, by rw [size_set, size_set]; exact Nat.lt_of_lt_of_le h.2.2 hz3⟩)
                    · refine ((hR3.mono (S' := fun b => b ≠ gu ∧ b ≠ gv ∧ b < y3.heap.size) (fun b h => ?_)).set (g := gv) (i := 0) (fun _ h => h.2.1) _ |>.set (g := gv) (i := 1) (fun _ h => h.2.1) _).mono (fun b h => ⟨h.1, h.2.1, by rw [size_set, size_set]; exact h.2.2⟩)
                      have hu3 := blk_lt HZu2.out
                      have hv3 := blk_lt HZv2.out
                      rcases h with h | h
                      · exact ⟨h.1, h.2.1, Nat.lt_of_lt_of_le h.2.2 hz3⟩
                      · exact ⟨fun he => by omega, fun he => by omega, h.2⟩
                  case measure => simp [intOf]; omega
                | false =>
                  go_wp2_with (first
                    | (go_at_call 8; have hq_ := HRZ; clear hq_; go_must (refine Calls.mono (push_any' Av cv Lv nv D ⟨-(k : Int), 9⟩ (fun b => b ≠ gu ∧ b ≠ gv ∧ b < (((y1.setCell ⟨gu, 0, none⟩ (.int .i64 D)).setCell ⟨gu, 1, none⟩ (.slice Au nu' cu'))).heap.size) _ (fun _ h => h.2.2) HRZ.out (by omega) (by omega) hcv HAv.out) ?_; rintro e y3 ⟨A3, c3, n3, L3, rfl, hn3, hc3, hA3, hR3, hy3⟩; have hzu3 := blk_below HZu.out hy3; have hzv3 := blk_below HZv.out hy3; have HY3 := Hd.mk (below_seq HY.out hy3); have HRU3 := Hd.mk (HRU.out.below (fun _ h => h.2.2) hy3); have hz3 := hy3.size; have hzu3c0 := blk_cell hzu3 0 _ rfl; have hzu3f0 := blk_frozen hzu3 0; have hzu3c1 := blk_cell hzu3 1 _ rfl; have hzu3f1 := blk_frozen hzu3 1; have hzu3l := blk_lt hzu3; have hzv3c0 := blk_cell hzv3 0 _ rfl; have hzv3f0 := blk_frozen hzv3 0; have hzv3c1 := blk_cell hzv3 1 _ rfl; have hzv3f1 := blk_frozen hzv3 1; have hzv3l := blk_lt hzv3))
                    | (go_at_call 9; go_must (refine Calls.mono (pop_any Au cu nu Lu D (fun b => b ≠ gu ∧ b ≠ gv ∧ b < wr.heap.size) _ (fun k hk => by rw [size_alloc]; exact Nat.lt_succ_of_lt hk.2.2) (hRu.out.below (fun _ h => h.2.2) (below_alloc (Below.refl _ _) _)) (by omega) hcu HAu.out) ?_; rintro e y1 ⟨cu', nu', Lu', p1, q1, r1, rfl, hnu', hcu', hAu', hRu', hy1⟩; have hRu' := hRu'.mono (S' := (fun b => b ≠ gu ∧ b ≠ gv ∧ b < y1.heap.size)) (fun b h => ⟨h.1, h.2.1, by have := hy1.size; rw [size_alloc] at this; omega⟩); have hyu := blk_below (blk_alloc HXu.out _) hy1; have hyv := blk_below (blk_alloc HXv.out _) hy1; have hz1 := hy1.size; rw [size_alloc] at hz1; have HRv1 := Hd.mk ((hRv.out.below (w' := y1) (fun _ h => h.2.2) (below_seq (below_alloc (Below.refl _ _) _) hy1)).mono (S' := (fun b => b ≠ gu ∧ b ≠ gv ∧ b < y1.heap.size)) (fun b h => ⟨h.1, h.2.1, by omega⟩)); have HY := Hd.mk (below_set (below_set (below_seq hb.out (below_seq (below_alloc (Below.refl _ _) _) hy1)) hgu2 0 (.int .i64 D)) hgu2 1 (.slice Au nu' cu')); have HZu := Hd.mk (blk_set (blk_set hyu 0 (.int .i64 D) _ rfl) 1 (.slice Au nu' cu') _ rfl); have HZv := Hd.mk (blk_far (blk_far hyv (p := ⟨gu, 0, none⟩) hvu (.int .i64 D)) (p := ⟨gu, 1, none⟩) hvu (.slice Au nu' cu')); have HRZ := Hd.mk (((HRv1.out.set (g := gu) (i := 0) (fun _ h => h.1) (.int .i64 D)).set (g := gu) (i := 1) (fun _ h => h.1) (.slice Au nu' cu')).mono (S' := (fun b => b ≠ gu ∧ b ≠ gv ∧ b < ((y1.setCell ⟨gu, 0, none⟩ (.int .i64 D)).setCell ⟨gu, 1, none⟩ (.slice Au nu' cu')).heap.size)) (fun b h => ⟨h.1, h.2.1, by rw [size_set, size_set]; exact h.2.2⟩)); have HRU := Hd.mk (((hRu'.set (g := gu) (i := 0) (fun _ h => h.1) (.int .i64 D)).set (g := gu) (i := 1) (fun _ h => h.1) (.slice Au nu' cu')).mono (S' := (fun b => b ≠ gu ∧ b ≠ gv ∧ b < ((y1.setCell ⟨gu, 0, none⟩ (.int .i64 D)).setCell ⟨gu, 1, none⟩ (.slice Au nu' cu')).heap.size)) (fun b h => ⟨h.1, h.2.1, by rw [size_set, size_set]; exact h.2.2⟩)); have HAV := HAv; have hcV := hcv; have hnV := hnv; have hyuc0 := blk_cell hyu 0 _ rfl; have hyuf0 := blk_frozen hyu 0; have hyuc1 := blk_cell hyu 1 _ rfl; have hyuf1 := blk_frozen hyu 1; have hyul := blk_lt hyu; have hyvc0 := blk_cell hyv 0 _ rfl; have hyvf0 := blk_frozen hyv 0; have hyvc1 := blk_cell hyv 1 _ rfl; have hyvf1 := blk_frozen hyv 1; have hyvl := blk_lt hyv
                                       ))
                    )
                  go_roundw
                  case rel =>
                    refine ⟨k + 1, by omega, by go_num, Au, cu', nu', Lu', A3, c3, n3, L3, blk_far (blk_far hzu3 (p := ⟨gv, 0, none⟩) huv _) (p := ⟨gv, 1, none⟩) huv _, blk_set (blk_set hzv3 0 _ _ rfl) 1 _ _ rfl, by omega, by omega, hcu', hc3, hAu', hA3, ⟨?_⟩, ⟨?_⟩, ⟨below_set (below_set HY3.out hgv2 _ _) hgv2 _ _⟩⟩
                    · exact ((HRU3.out.set (g := gv) (i := 0) (fun _ h => h.2.1) _).set (g := gv) (i := 1) (fun _ h => h.2.1) _).mono (fun b h => ⟨h.1, h.2.1, by rw [size_set, size_set]; exact Nat.lt_of_lt_of_le h.2.2 hz3⟩)
                    · refine ((hR3.mono (S' := fun b => b ≠ gu ∧ b ≠ gv ∧ b < y3.heap.size) (fun b h => ?_)).set (g := gv) (i := 0) (fun _ h => h.2.1) _ |>.set (g := gv) (i := 1) (fun _ h => h.2.1) _).mono (fun b h => ⟨h.1, h.2.1, by rw [size_set, size_set]; exact h.2.2⟩)
                      have hu3 := blk_lt HZu.out
                      have hv3 := blk_lt HZv.out
                      rcases h with h | h
                      · exact ⟨h.1, h.2.1, Nat.lt_of_lt_of_le h.2.2 hz3⟩
                      · exact ⟨fun he => by omega, fun he => by omega, h.2⟩
                  case measure => simp [intOf]; omega
              | false =>
                rw [hpop] at hp0
                have hpl := pushL_len Lu s.spot D
                obtain ⟨Lp, hLp⟩ : ∃ Lp, pushL Lu s.spot D = Lp := ⟨_, rfl⟩
                rw [hLp] at hpl
                have HLp := Hd.mk hLp; clear hLp
                have hnl := hRu.out.1
                cases hpar : ((k : Int) % 2 == 0) with
                | true =>
                  go_wp2_with (first
                    | (go_at_call 8; have hq_ := HRZ2; clear hq_; go_must (refine Calls.mono (push_any' Av cv' Lv' nv' D ⟨-(k : Int), 9⟩ (fun b => b ≠ gu ∧ b ≠ gv ∧ b < (((y2.setCell ⟨gv, 0, none⟩ (.int .i64 D)).setCell ⟨gv, 1, none⟩ (.slice Av nv' cv'))).heap.size) _ (fun _ h => h.2.2) HRZ2.out (by omega) (by omega) hcv' HAv2.out) ?_; rintro e y3 ⟨A3, c3, n3, L3, rfl, hn3, hc3, hA3, hR3, hy3⟩; have hzu3 := blk_below HZu2.out hy3; have hzv3 := blk_below HZv2.out hy3; have HY3 := Hd.mk (below_seq HY2.out hy3); have HRU3 := Hd.mk (HRU2.out.below (fun _ h => h.2.2) hy3); have hz3 := hy3.size; have hzu3c0 := blk_cell hzu3 0 _ rfl; have hzu3f0 := blk_frozen hzu3 0; have hzu3c1 := blk_cell hzu3 1 _ rfl; have hzu3f1 := blk_frozen hzu3 1; have hzu3l := blk_lt hzu3; have hzv3c0 := blk_cell hzv3 0 _ rfl; have hzv3f0 := blk_frozen hzv3 0; have hzv3c1 := blk_cell hzv3 1 _ rfl; have hzv3f1 := blk_frozen hzv3 1; have hzv3l := blk_lt hzv3))
                    | (go_at_call 9; have hq_ := hyu; clear hq_; go_must (refine Calls.mono (pop_any Av cv nv Lv D (fun b => b ≠ gu ∧ b ≠ gv ∧ b < ((y1.setCell ⟨gu, 0, none⟩ (.int .i64 D)).setCell ⟨gu, 1, none⟩ (.slice Au' Lp.length cu')).heap.size) _ (fun _ h => h.2.2) HRZ.out (by omega) hcv HAv.out) ?_; rintro e y2 ⟨cv', nv', Lv', p2, q2, r2, rfl, hnv', hcv', hAv', hRv', hy2⟩; have HAv2 := Hd.mk hAv'; have hzu2 := blk_below HZu.out hy2; have hzv2 := blk_below HZv.out hy2; have hz2 := hy2.size; rw [size_set, size_set] at hz2; have HY2 := Hd.mk (below_set (below_set (below_seq HY.out hy2) hgv2 0 (.int .i64 D)) hgv2 1 (.slice Av nv' cv')); have HZu2 := Hd.mk (blk_far (blk_far hzu2 (p := ⟨gv, 0, none⟩) huv (.int .i64 D)) (p := ⟨gv, 1, none⟩) huv (.slice Av nv' cv')); have HZv2 := Hd.mk (blk_set (blk_set hzv2 0 (.int .i64 D) _ rfl) 1 (.slice Av nv' cv') _ rfl); have HRZ2 := Hd.mk (((hRv'.set (g := gv) (i := 0) (fun _ h => h.2.1) (.int .i64 D)).set (g := gv) (i := 1) (fun _ h => h.2.1) (.slice Av nv' cv')).mono (S' := (fun b => b ≠ gu ∧ b ≠ gv ∧ b < ((y2.setCell ⟨gv, 0, none⟩ (.int .i64 D)).setCell ⟨gv, 1, none⟩ (.slice Av nv' cv')).heap.size)) (fun b h => ⟨h.1, h.2.1, by have h3 := h.2.2; rw [size_set, size_set] at h3; rw [size_set, size_set]; omega⟩)); have HRU2 := Hd.mk ((((HRU.out.below (fun _ h => h.2.2) hy2).set (g := gv) (i := 0) (fun _ h => h.2.1) (.int .i64 D)).set (g := gv) (i := 1) (fun _ h => h.2.1) (.slice Av nv' cv')).mono (S' := (fun b => b ≠ gu ∧ b ≠ gv ∧ b < ((y2.setCell ⟨gv, 0, none⟩ (.int .i64 D)).setCell ⟨gv, 1, none⟩ (.slice Av nv' cv')).heap.size)) (fun b h => ⟨h.1, h.2.1, by have h3 := h.2.2; rw [size_set, size_set] at h3; rw [size_set, size_set]; omega⟩)); have hzu2c0 := blk_cell hzu2 0 _ rfl; have hzu2f0 := blk_frozen hzu2 0; have hzu2c1 := blk_cell hzu2 1 _ rfl; have hzu2f1 := blk_frozen hzu2 1; have hzu2l := blk_lt hzu2; have hzv2c0 := blk_cell hzv2 0 _ rfl; have hzv2f0 := blk_frozen hzv2 0; have hzv2c1 := blk_cell hzv2 1 _ rfl; have hzv2f1 := blk_frozen hzv2 1; have hzv2l := blk_lt hzv2))
                    | (go_at_call 8; go_must (refine Calls.mono (push_to Au cu Lu nu D s.spot HLp.out rfl (fun b => b ≠ gu ∧ b ≠ gv ∧ b < wr.heap.size) _ (fun k hk => by rw [size_alloc]; exact Nat.lt_succ_of_lt hk.2.2) (hRu.out.below (fun _ h => h.2.2) (below_alloc (Below.refl _ _) _)) (by omega) (by omega) hcu HAu.out) ?_; rintro e y1 ⟨Au', cu', rfl, hcu', hAu', hRu', hy1⟩; have hRu' := hRu'.mono (S' := (fun b => b ≠ gu ∧ b ≠ gv ∧ b < y1.heap.size)) (fun b h => by have := hy1.size; rw [size_alloc] at this; rcases h with h | h; exact ⟨h.1, h.2.1, by omega⟩; rw [size_alloc] at h; exact ⟨by omega, by omega, h.2⟩); have hyu := blk_below (blk_alloc HXu.out _) hy1; have hyv := blk_below (blk_alloc HXv.out _) hy1; have hz1 := hy1.size; rw [size_alloc] at hz1; have HRv1 := Hd.mk ((hRv.out.below (w' := y1) (fun _ h => h.2.2) (below_seq (below_alloc (Below.refl _ _) _) hy1)).mono (S' := (fun b => b ≠ gu ∧ b ≠ gv ∧ b < y1.heap.size)) (fun b h => ⟨h.1, h.2.1, by omega⟩)); have HY := Hd.mk (below_set (below_set (below_seq hb.out (below_seq (below_alloc (Below.refl _ _) _) hy1)) hgu2 0 (.int .i64 D)) hgu2 1 (.slice Au' Lp.length cu')); have HZu := Hd.mk (blk_set (blk_set hyu 0 (.int .i64 D) _ rfl) 1 (.slice Au' Lp.length cu') _ rfl); have HZv := Hd.mk (blk_far (blk_far hyv (p := ⟨gu, 0, none⟩) hvu (.int .i64 D)) (p := ⟨gu, 1, none⟩) hvu (.slice Au' Lp.length cu')); have HRZ := Hd.mk (((HRv1.out.set (g := gu) (i := 0) (fun _ h => h.1) (.int .i64 D)).set (g := gu) (i := 1) (fun _ h => h.1) (.slice Au' Lp.length cu')).mono (S' := (fun b => b ≠ gu ∧ b ≠ gv ∧ b < ((y1.setCell ⟨gu, 0, none⟩ (.int .i64 D)).setCell ⟨gu, 1, none⟩ (.slice Au' Lp.length cu')).heap.size)) (fun b h => ⟨h.1, h.2.1, by rw [size_set, size_set]; exact h.2.2⟩)); have HRU := Hd.mk (((hRu'.set (g := gu) (i := 0) (fun _ h => h.1) (.int .i64 D)).set (g := gu) (i := 1) (fun _ h => h.1) (.slice Au' Lp.length cu')).mono (S' := (fun b => b ≠ gu ∧ b ≠ gv ∧ b < ((y1.setCell ⟨gu, 0, none⟩ (.int .i64 D)).setCell ⟨gu, 1, none⟩ (.slice Au' Lp.length cu')).heap.size)) (fun b h => ⟨h.1, h.2.1, by rw [size_set, size_set]; exact h.2.2⟩)); have HAV := HAv; have hcV := hcv; have hnV := hnv; have hyuc0 := blk_cell hyu 0 _ rfl; have hyuf0 := blk_frozen hyu 0; have hyuc1 := blk_cell hyu 1 _ rfl; have hyuf1 := blk_frozen hyu 1; have hyul := blk_lt hyu; have hyvc0 := blk_cell hyv 0 _ rfl; have hyvf0 := blk_frozen hyv 0; have hyvc1 := blk_cell hyv 1 _ rfl; have hyvf1 := blk_frozen hyv 1; have hyvl := blk_lt hyv
                                       ))
                    )
                  go_roundw
                  case rel =>
                    refine ⟨k + 1, by omega, by go_num, Au', cu', Lp.length, Lp, A3, c3, n3, L3, blk_far (blk_far hzu3 (p := ⟨gv, 0, none⟩) huv _) (p := ⟨gv, 1, none⟩) huv _, blk_set (blk_set hzv3 0 _ _ rfl) 1 _ _ rfl, by omega, by omega, hcu', hc3, hAu', hA3, ⟨?_⟩, ⟨?_⟩, ⟨below_set (below_set HY3.out hgv2 _ _) hgv2 _ _⟩⟩
                    · exact ((HRU3.out.set (g := gv) (i := 0) (fun _ h => h.2.1) _).set (g := gv) (i := 1) (fun _ h => h.2.1) _).mono (fun b h => ⟨h.1, h.2.1, by rw [size_set, size_set]; exact Nat.lt_of_lt_of_le h.2.2 hz3⟩)
                    · refine ((hR3.mono (S' := fun b => b ≠ gu ∧ b ≠ gv ∧ b < y3.heap.size) (fun b h => ?_)).set (g := gv) (i := 0) (fun _ h => h.2.1) _ |>.set (g := gv) (i := 1) (fun _ h => h.2.1) _).mono (fun b h => ⟨h.1, h.2.1, by rw [size_set, size_set]; exact h.2.2⟩)
                      have hu3 := blk_lt HZu2.out
                      have hv3 := blk_lt HZv2.out
                      rcases h with h | h
                      · exact ⟨h.1, h.2.1, Nat.lt_of_lt_of_le h.2.2 hz3⟩
                      · exact ⟨fun he => by omega, fun he => by omega, h.2⟩
                  case measure => simp [intOf]; omega
                | false =>
                  go_wp2_with (first
                    | (go_at_call 8; have hq_ := HRZ; clear hq_; go_must (refine Calls.mono (push_any' Av cv Lv nv D ⟨-(k : Int), 9⟩ (fun b => b ≠ gu ∧ b ≠ gv ∧ b < (((y1.setCell ⟨gu, 0, none⟩ (.int .i64 D)).setCell ⟨gu, 1, none⟩ (.slice Au' Lp.length cu'))).heap.size) _ (fun _ h => h.2.2) HRZ.out (by omega) (by omega) hcv HAv.out) ?_; rintro e y3 ⟨A3, c3, n3, L3, rfl, hn3, hc3, hA3, hR3, hy3⟩; have hzu3 := blk_below HZu.out hy3; have hzv3 := blk_below HZv.out hy3; have HY3 := Hd.mk (below_seq HY.out hy3); have HRU3 := Hd.mk (HRU.out.below (fun _ h => h.2.2) hy3); have hz3 := hy3.size; have hzu3c0 := blk_cell hzu3 0 _ rfl; have hzu3f0 := blk_frozen hzu3 0; have hzu3c1 := blk_cell hzu3 1 _ rfl; have hzu3f1 := blk_frozen hzu3 1; have hzu3l := blk_lt hzu3; have hzv3c0 := blk_cell hzv3 0 _ rfl; have hzv3f0 := blk_frozen hzv3 0; have hzv3c1 := blk_cell hzv3 1 _ rfl; have hzv3f1 := blk_frozen hzv3 1; have hzv3l := blk_lt hzv3))
                    | (go_at_call 8; go_must (refine Calls.mono (push_to Au cu Lu nu D s.spot HLp.out rfl (fun b => b ≠ gu ∧ b ≠ gv ∧ b < wr.heap.size) _ (fun k hk => by rw [size_alloc]; exact Nat.lt_succ_of_lt hk.2.2) (hRu.out.below (fun _ h => h.2.2) (below_alloc (Below.refl _ _) _)) (by omega) (by omega) hcu HAu.out) ?_; rintro e y1 ⟨Au', cu', rfl, hcu', hAu', hRu', hy1⟩; have hRu' := hRu'.mono (S' := (fun b => b ≠ gu ∧ b ≠ gv ∧ b < y1.heap.size)) (fun b h => by have := hy1.size; rw [size_alloc] at this; rcases h with h | h; exact ⟨h.1, h.2.1, by omega⟩; rw [size_alloc] at h; exact ⟨by omega, by omega, h.2⟩); have hyu := blk_below (blk_alloc HXu.out _) hy1; have hyv := blk_below (blk_alloc HXv.out _) hy1; have hz1 := hy1.size; rw [size_alloc] at hz1; have HRv1 := Hd.mk ((hRv.out.below (w' := y1) (fun _ h => h.2.2) (below_seq (below_alloc (Below.refl _ _) _) hy1)).mono (S' := (fun b => b ≠ gu ∧ b ≠ gv ∧ b < y1.heap.size)) (fun b h => ⟨h.1, h.2.1, by omega⟩)); have HY := Hd.mk (below_set (below_set (below_seq hb.out (below_seq (below_alloc (Below.refl _ _) _) hy1)) hgu2 0 (.int .i64 D)) hgu2 1 (.slice Au' Lp.length cu')); have HZu := Hd.mk (blk_set (blk_set hyu 0 (.int .i64 D) _ rfl) 1 (.slice Au' Lp.length cu') _ rfl); have HZv := Hd.mk (blk_far (blk_far hyv (p := ⟨gu, 0, none⟩) hvu (.int .i64 D)) (p := ⟨gu, 1, none⟩) hvu (.slice Au' Lp.length cu')); have HRZ := Hd.mk (((HRv1.out.set (g := gu) (i := 0) (fun _ h => h.1) (.int .i64 D)).set (g := gu) (i := 1) (fun _ h => h.1) (.slice Au' Lp.length cu')).mono (S' := (fun b => b ≠ gu ∧ b ≠ gv ∧ b < ((y1.setCell ⟨gu, 0, none⟩ (.int .i64 D)).setCell ⟨gu, 1, none⟩ (.slice Au' Lp.length cu')).heap.size)) (fun b h => ⟨h.1, h.2.1, by rw [size_set, size_set]; exact h.2.2⟩)); have HRU := Hd.mk (((hRu'.set (g := gu) (i := 0) (fun _ h => h.1) (.int .i64 D)).set (g := gu) (i := 1) (fun _ h => h.1) (.slice Au' Lp.length cu')).mono (S' := (fun b => b ≠ gu ∧ b ≠ gv ∧ b < ((y1.setCell ⟨gu, 0, none⟩ (.int .i64 D)).setCell ⟨gu, 1, none⟩ (.slice Au' Lp.length cu')).heap.size)) (fun b h => ⟨h.1, h.2.1, by rw [size_set, size_set]; exact h.2.2⟩)); have HAV := HAv; have hcV := hcv; have hnV := hnv; have hyuc0 := blk_cell hyu 0 _ rfl; have hyuf0 := blk_frozen hyu 0; have hyuc1 := blk_cell hyu 1 _ rfl; have hyuf1 := blk_frozen hyu 1; have hyul := blk_lt hyu; have hyvc0 := blk_cell hyv 0 _ rfl; have hyvf0 := blk_frozen hyv 0; have hyvc1 := blk_cell hyv 1 _ rfl; have hyvf1 := blk_frozen hyv 1; have hyvl := blk_lt hyv
                                       ))
                    )
                  go_roundw
                  case rel =>
                    refine ⟨k + 1, by omega, by go_num, Au', cu', Lp.length, Lp, A3, c3, n3, L3, blk_far (blk_far hzu3 (p := ⟨gv, 0, none⟩) huv _) (p := ⟨gv, 1, none⟩) huv _, blk_set (blk_set hzv3 0 _ _ rfl) 1 _ _ rfl, by omega, by omega, hcu', hc3, hAu', hA3, ⟨?_⟩, ⟨?_⟩, ⟨below_set (below_set HY3.out hgv2 _ _) hgv2 _ _⟩⟩
                    · exact ((HRU3.out.set (g := gv) (i := 0) (fun _ h => h.2.1) _).set (g := gv) (i := 1) (fun _ h => h.2.1) _).mono (fun b h => ⟨h.1, h.2.1, by rw [size_set, size_set]; exact Nat.lt_of_lt_of_le h.2.2 hz3⟩)
                    · refine ((hR3.mono (S' := fun b => b ≠ gu ∧ b ≠ gv ∧ b < y3.heap.size) (fun b h => ?_)).set (g := gv) (i := 0) (fun _ h => h.2.1) _ |>.set (g := gv) (i := 1) (fun _ h => h.2.1) _).mono (fun b h => ⟨h.1, h.2.1, by rw [size_set, size_set]; exact h.2.2⟩)
                      have hu3 := blk_lt HZu.out
                      have hv3 := blk_lt HZv.out
                      rcases h with h | h
                      · exact ⟨h.1, h.2.1, Nat.lt_of_lt_of_le h.2.2 hz3⟩
                      · exact ⟨fun he => by omega, fun he => by omega, h.2⟩
                  case measure => simp [intOf]; omega
            · obtain rfl : k = ys.length := by omega
              have hg1 := blk_below HV.out hb.out
              have hzr2 := hb.out.size
              obtain ⟨N, hN⟩ : ∃ N, wr.heap.size = N := ⟨_, rfl⟩
              clear hxuc0 hxuf0 hxuc1 hxuf1 hxul
              clear hxvc0 hxvf0 hxvc1 hxvf1 hxvl
              clear hvc0 hvf0 hvc1 hvf1 hvl
              have hg1c0 := blk_cell hg1 0 _ rfl; have hg1f0 := blk_frozen hg1 0; have hg1c1 := blk_cell hg1 1 _ rfl; have hg1f1 := blk_frozen hg1 1; have hg1l := blk_lt hg1
              have HG := Hd.mk hg1; clear hg1
              have HR1 := Hd.mk ((hR1'.out.below (fun _ h => h.2) hb.out).mono (S' := fun b => b < N) (fun b h => by omega))
              have HR0 := Hd.mk ((hR0'.out.below (fun _ h => h.2) hb.out).mono (S' := fun b => b < N) (fun b h => by omega))
              have HRU := Hd.mk (hRu.out.mono (S' := fun b => b < N) (fun b h => by omega))
              have HRV := Hd.mk (hRv.out.mono (S' := fun b => b < N) (fun b h => by omega))
              have hbr := Hd.mk (below_seq hbw hb.out)
              have hnl := hRu.out.1
              have hnl' := hRv.out.1
              subst hnl
              subst hnl'
              have HA0 := Hd.mk hA0
              clear hR1' hR0' hRu hRv hb hbw hA0 hlt hk
              go_wp2_with (go_at_call 15; go_must (refine Calls.mono (all_own D A1 c1 L (fun b => b < N) _ (fun _ h => by omega) HR1.out HA1.out (by omega)) ?_; rintro e w6 ⟨v6, rfl, hO6, hb6⟩; obtain ⟨A6, c6, b6, rfl, hge6, hbl6⟩ := own_block' hO6; have HB6 := Hd.mk hb6; have HBL := Hd.mk hbl6; clear hbl6 hO6 hb6))
              go_loopw [82] (fun i wz => ∃ k : Nat, k ≤ L.length ∧ i = .int .i64 k ∧ Hd (0 < L.length → ∃ cs : Array Value, wz.heap[b6]? = some (.cells cs 28 (0, 0)) ∧ L.length * 2 ≤ cs.size) ∧ Hd (Below wr.heap.size wr wz)) (fun i _ => L.length - (intOf i).toNat)
              case atStart => exact ⟨0, Nat.zero_le _, rfl, ⟨fun h => (HBL.out h).2⟩, HB6⟩
              case round =>
                obtain ⟨k, hk, rfl, hcs, hbz⟩ := hrel
                by_cases hlt : k < L.length
                · obtain ⟨cs, hcs1, hcs2⟩ := hcs.out (by omega)
                  obtain ⟨rfl, _⟩ := HBL.out (by omega)
                  have hcell := blk_cell hcs1 (k * 2 + 1) _ (Array.getElem?_eq_getElem (show k * 2 + 1 < cs.size by omega))
                  have hfro := blk_frozen hcs1 (k * 2 + 1)
                  have HCS := Hd.mk hcs1; clear hcs1
                  go_wp2
                  go_roundw
                  case rel =>
                    have hbz' := hbz.out
                    refine ⟨k + 1, by omega, by go_num, ⟨fun _ => ⟨_, blk_set HCS.out _ _ _ rfl, by simpa using hcs2⟩⟩, ⟨below_set hbz' hge6 _ _⟩⟩
                  case measure => simp [intOf]; omega
                · have hgz := blk_below HG.out hbz.out
                  have huz := blk_below HXu.out hbz.out
                  have hvz := blk_below HXv.out hbz.out
                  clear hg1c0 hg1f0 hg1c1 hg1f1 hg1l
                  clear hcs HBL HB6
                  have HZ1 := Hd.mk (HR1.out.below (fun _ h => by omega) hbz.out)
                  have HZ0 := Hd.mk (HR0.out.below (fun _ h => by omega) hbz.out)
                  have HZU := Hd.mk (HRU.out.below (fun _ h => by omega) hbz.out)
                  have HZV := Hd.mk (HRV.out.below (fun _ h => by omega) hbz.out)
                  have hzz : N ≤ wr.heap.size := by rw [← hN]; exact hbz.out.size
                  have hbt := below_seq hbr.out hbz.out
                  go_wp2
                  have hgzc0 := blk_cell hgz 0 _ rfl; have hgzf0 := blk_frozen hgz 0; have hgzc1 := blk_cell hgz 1 _ rfl; have hgzf1 := blk_frozen hgz 1; have hgzl := blk_lt hgz
                  have huzc0 := blk_cell huz 0 _ rfl; have huzf0 := blk_frozen huz 0; have huzc1 := blk_cell huz 1 _ rfl; have huzf1 := blk_frozen huz 1; have huzl := blk_lt huz
                  have hvzc0 := blk_cell hvz 0 _ rfl; have hvzf0 := blk_frozen hvz 0; have hvzc1 := blk_cell hvz 1 _ rfl; have hvzf1 := blk_frozen hvz 1; have hvzl := blk_lt hvz
                  refine wp_region_can (.q [0, 2] (.e 1 true (.e 3 true (.q [4, 5, 6] (.e 7 true (.q [8, 9, 10, 11, 13, 15] (.e 12 true (.e 14 true (.e 16 true (.e 17 true (.q [18, 19, 20] (.e 21 false (.q [22, 23] (.done)))))))))))))) (clsB _) (by kernel_rfl) (by kernel_rfl) (by intro _ _ d _ _ h; cases d <;> exact h) (clsB_drew _) ?_
                  refine can_q (l := [⟨_,_,_,_,_,_⟩, ⟨_,_,_,_,_,_⟩]) rfl ?_
                  repeat (go_big_quiet_step (fail))
                  refine wpQuiet_nil ?_
                  refine can_e (o := ⟨_,_,_,_,_,_⟩) rfl (fun K hK => ?_)
                  go_wp2_with (go_at_call 15; go_must (refine Calls.mono (all_calls D A1 c1 L (fun b => b < N) wr.drew (fun b h => Nat.lt_of_lt_of_le h hzz) (HZ1.out.move (fun _ _ => rfl)) HA1.out (by omega)) ?_; rintro e z1 ⟨B1, e1, rfl, _, _, hB1, hb1'⟩; replace hb1' := below_undrew hb1'))
                  refine onK_normal (hK _ _ ⟨clsB _, clsB_of (by first | exact (hb1') | exact below_undrew (hb1')), fun _ _ h => h, ?_⟩)
                  clear hK K
                  refine can_e (o := ⟨_,_,_,_,_,_⟩) rfl (fun K hK => ?_)
                  go_wp2_with (go_at_call 14; go_must (refine Calls.mono (refSame_calls B1 A0 e1 c0 L L (fun b => b < z1.heap.size) (fun b => b < N) z1 (fun _ h => h) (fun b h => Nat.lt_of_lt_of_le h (Nat.le_trans hzz hb1'.size)) (hB1.mono (fun _ h => h.2)) (HZ0.out.below (fun b h => Nat.lt_of_lt_of_le h hzz) hb1')) ?_; rintro e z2 ⟨he, hb2'⟩; obtain rfl : e = .returned (.bool true) := by rw [he, decide_eq_true rfl]))
                  have hc2' := below_seq hb1' hb2'
                  refine onK_normal (hK _ _ ⟨clsB _, clsB_of (by first | exact (hc2') | exact below_undrew (hc2')), fun _ _ h => h, ?_⟩)
                  clear hK K
                  refine can_q (l := [⟨_,_,_,_,_,_⟩, ⟨_,_,_,_,_,_⟩, ⟨_,_,_,_,_,_⟩]) rfl ?_
                  repeat (go_big_quiet_step (fail))
                  refine wpQuiet_nil ?_
                  refine can_e (o := ⟨_,_,_,_,_,_⟩) rfl (fun K hK => ?_)
                  go_wp2_with (go_at_call 17; go_must (refine Calls.mono (same_calls D D A1 A1 c1 c1 L L (fun b => b < N) (fun b => b < N) z2 (fun b h => Nat.lt_of_lt_of_le h (Nat.le_trans hzz hc2'.size)) (fun b h => Nat.lt_of_lt_of_le h (Nat.le_trans hzz hc2'.size)) (HZ1.out.below (fun b h => Nat.lt_of_lt_of_le h hzz) hc2') (HZ1.out.below (fun b h => Nat.lt_of_lt_of_le h hzz) hc2')) ?_; rintro e z3 ⟨he, hb3'⟩; obtain rfl : e = .returned (.bool true) := by rw [he, decide_eq_true rfl]))
                  have hc3' := below_seq hc2' hb3'
                  refine onK_normal (hK _ _ ⟨clsB _, clsB_of (by first | exact (hc3') | exact below_undrew (hc3')), fun _ _ h => h, ?_⟩)
                  clear hK K
                  refine can_q (l := [⟨_,_,_,_,_,_⟩, ⟨_,_,_,_,_,_⟩, ⟨_,_,_,_,_,_⟩, ⟨_,_,_,_,_,_⟩, ⟨_,_,_,_,_,_⟩, ⟨_,_,_,_,_,_⟩]) rfl ?_
                  repeat (go_big_quiet_step (fail))
                  refine wpQuiet_nil ?_
                  refine can_e (o := ⟨_,_,_,_,_,_⟩) rfl (fun K hK => ?_)
                  go_wp2_with (go_at_call 17; go_must (refine Calls.mono (same_calls D D Au Av cu cv Lu Lv (fun b => b < N) (fun b => b < N) z3 (fun b h => Nat.lt_of_lt_of_le h (Nat.le_trans hzz hc3'.size)) (fun b h => Nat.lt_of_lt_of_le h (Nat.le_trans hzz hc3'.size)) (HZU.out.below (fun b h => Nat.lt_of_lt_of_le h hzz) hc3') (HZV.out.below (fun b h => Nat.lt_of_lt_of_le h hzz) hc3')) ?_; rintro e z4 ⟨rfl, hb4'⟩))
                  have hc4' := below_seq hc3' hb4'
                  refine onK_normal (hK _ _ ⟨clsB _, clsB_of (by first | exact (hc4') | exact below_undrew (hc4')), fun _ _ h => h, ?_⟩)
                  clear hK K
                  refine can_e (o := ⟨_,_,_,_,_,_⟩) rfl (fun K hK => ?_)
                  go_wp2_with (go_at_call 15; go_must (refine Calls.mono (all_calls D Au cu Lu (fun b => b < N) z4 (fun b h => Nat.lt_of_lt_of_le h (Nat.le_trans hzz hc4'.size)) (HZU.out.below (fun b h => Nat.lt_of_lt_of_le h hzz) hc4') HAu.out (by omega)) ?_; rintro e z5 ⟨B5, e5, rfl, _, _, hB5, hb5'⟩))
                  have hc5' := below_seq hc4' hb5'
                  refine onK_normal (hK _ _ ⟨clsB _, clsB_of (by first | exact (hc5') | exact below_undrew (hc5')), fun _ _ h => h, ?_⟩)
                  clear hK K
                  refine can_e (o := ⟨_,_,_,_,_,_⟩) rfl (fun K hK => ?_)
                  go_wp2_with (go_at_call 15; go_must (refine Calls.mono (all_calls D Av cv Lv (fun b => b < N) z5 (fun b h => Nat.lt_of_lt_of_le h (Nat.le_trans hzz hc5'.size)) (HZV.out.below (fun b h => Nat.lt_of_lt_of_le h hzz) hc5') HAv.out (by omega)) ?_; rintro e z6 ⟨B6, e6, rfl, _, _, hB6, hb6'⟩))
                  have hc6' := below_seq hc5' hb6'
                  refine onK_normal (hK _ _ ⟨clsB _, clsB_of (by first | exact (hc6') | exact below_undrew (hc6')), fun _ _ h => h, ?_⟩)
                  clear hK K
                  refine can_e (o := ⟨_,_,_,_,_,_⟩) rfl (fun K hK => ?_)
                  go_wp2_with (go_at_call 14; go_must (refine Calls.mono (refSame_calls B5 B6 e5 e6 Lu Lv (fun b => b < z5.heap.size) (fun b => b < z6.heap.size) z6 (fun b h => Nat.lt_of_lt_of_le h hb6'.size) (fun _ h => h) ((hB5.mono (fun _ h => h.2)).below (fun _ h => h) hb6') (hB6.mono (fun _ h => h.2))) ?_; rintro e z7 ⟨rfl, hb7'⟩))
                  have hc7' := below_seq hc6' hb7'
                  refine onK_normal (hK _ _ ⟨clsB _, clsB_of (by first | exact (hc7') | exact below_undrew (hc7')), fun _ _ h => h, ?_⟩)
                  clear hK K
                  refine can_q (l := [⟨_,_,_,_,_,_⟩, ⟨_,_,_,_,_,_⟩, ⟨_,_,_,_,_,_⟩]) rfl ?_
                  repeat (go_big_quiet_step (fail))
                  refine wpQuiet_nil ?_
                  refine can_e (o := ⟨_,_,_,_,_,_⟩) rfl (fun K hK => ?_)
                  go_wp2_with (go_at_call 6; go_must (refine Calls.mono (alive_calls _) ?_; rintro e z8 ⟨rfl, hb8'⟩))
                  refine onK_normal (hK _ _ ⟨fun _ => True, trivial, (fun h => by cases h), ?_⟩)
                  clear hK K
                  refine can_q (l := [⟨_,_,_,_,_,_⟩, ⟨_,_,_,_,_,_⟩]) rfl ?_
                  repeat (go_big_quiet_step (fail))
                  refine wpQuiet_nil ?_
                  refine can_done ?_
                  go_wp2
                  go_ret
                  exact ⟨rfl, below_seq hbt (below_seq hc7' hb8')⟩
end Go.Proofs.Ytefkhjgckdphnaa.Fn
