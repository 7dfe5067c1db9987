/- TrailPlays: the walk. -/
import Derived.Test.YtefkhjgckdphnaaO1
import Derived.Test.YtefkhjgckdphnaaF7
namespace Go.Proofs.Ytefkhjgckdphnaa.Fn
open Go Go.RowKit Go.Proofs.Ytefkhjgckdphnaa.Can Go.Proofs.Ytefkhjgckdphnaa.Base
attribute [local go_sem] clsB AB.cell nil22
attribute [local go_sem high] eq28

/-- A step: pop, or push a spot. -/
structure Step where
  pop : Bool
  spot : Spot
def stepE (s : Step) : List Value := [.bool s.pop, .int .i64 s.spot.at_, .int .i64 s.spot.mode]
def stepT : Ty Step := Ty.flat 3 stepE (fun _ => rfl) (fun _ u hu => by simp [stepE] at hu; rcases hu with rfl | rfl | rfl <;> rfl)
theorem step_get {w : World} {S : Nat → Prop} {A : Option Addr} {n : Nat} {l : List Step} (h : Row stepT w S A n l) (k : Nat) (hk : k < n) :
    ∃ b off s, A = some ⟨b, off, none⟩ ∧ S b ∧ b < w.heap.size ∧ l[k]? = some s ∧ w.cell? ⟨b, off + k * 3, none⟩ = some (.bool s.pop) ∧ w.cell? ⟨b, off + k * 3 + 1, none⟩ = some (.int .i64 s.spot.at_) ∧ w.cell? ⟨b, off + k * 3 + 2, none⟩ = some (.int .i64 s.spot.mode) := by
  obtain ⟨b, off, cs, he, hs, hr, hcell⟩ := h.get k hk
  have hr' : cs = stepE _ := hr
  subst hr'
  have h0 := hcell 0 _ rfl
  exact ⟨b, off, _, he, hs, World.block_lt_of_cell? w _ h0, List.getElem?_eq_getElem _, h0, hcell 1 _ rfl, hcell 2 _ rfl⟩
theorem opens37 : Opens Try.prog 37 stepT (fun _ => True) :=
  (opens_struct2 (a := Ty.bool) (b := spotT) Try.underlying37 (opens_bool Try.underlying4) opens28 rfl rfl (by kernel_rfl) (by kernel_rfl) (by kernel_rfl)).map (fun x => ⟨x.1, x.2⟩) (fun _ _ => trivial) (by
    rintro w S x cs ⟨c0, c1, rfl, h0, h1⟩
    have h0' : c0 = [.bool x.1] := h0
    have h1' : c1 = spotE x.2 := h1
    subst h0' h1'
    rfl)
theorem opens35 : Opens Try.prog 35 (Ty.slice stepT (by decide)) (fun _ => True) :=
  (opens_slice Try.underlying35 (by kernel_rfl) (by decide) opens37).map id (fun _ _ => trivial) (fun _ _ _ _ h => h)

theorem push_eq {l : List Spot} {p : Spot} {d : Int} (hd : 0 < d) : pushL l p d = rpushL l p d := by
  unfold pushL rpushL
  rw [if_neg (by omega)]
  by_cases h : d ≤ (l.length : Int)
  · rw [if_pos h, if_pos (by simp; omega)]
    cases l with
    | nil => simp at h; omega
    | cons a l => rfl
  · rw [if_neg h, if_neg (by simp; omega)]
theorem newD_pos (n : Int) : 0 < newD n := by unfold newD; split <;> (try split) <;> omega

theorem refPush_to {l' : List Spot} (A : Option Addr) (c : Nat) (l : List Spot) (d : Int) (p : Spot) (hl : rpushL l p d = l') (S : Nat → Prop) (w : World) (hS : ∀ k, S k → k < w.heap.size) (hC : Row spotT w S A l.length l) (hn : l.length ≤ 5000) (hA : A = none → c = 0) :
    Calls Try.prog 12 #[.slice A l.length c, .agg #[.int .i64 p.at_, .int .i64 p.mode], .int .i64 d] w fun e w' =>
      ∃ A' c', e = .returned (.slice A' l'.length c') ∧ l'.length ≤ c' ∧ (A' = none → c' = 0) ∧ Row spotT w' (fun k => w.heap.size ≤ k ∧ k < w'.heap.size) A' l'.length l' ∧ Below w.heap.size w w' := by
  subst hl
  exact refPush_calls A c l d p S w hS hC hn hA
theorem pushL_len (l : List Spot) (p : Spot) (d : Int) : (pushL l p d).length ≤ l.length + 1 := by
  unfold pushL
  split
  · omega
  · split <;> simp <;> omega

theorem list_last {α : Type} {l : List α} {q : Nat} (h : l.length = q + 1) : ∃ l' p, l = l' ++ [p] := by
  rcases List.eq_nil_or_concat l with rfl | ⟨l', p, rfl⟩
  · simp at h
  · exact ⟨l', p, by simp⟩


set_option maxRecDepth 20000 in
set_option maxHeartbeats 1000000 in
theorem plays_calls (dep or : Int) (A : Option Addr) (c : Nat) (xs : List Step) (S : Nat → Prop) (w : World) (hS : ∀ k, S k → k < w.heap.size) (hC : Row stepT w S A xs.length xs) :
    Calls Try.prog 4 #[.int .i64 dep, .slice A xs.length c, .int .i64 or] w fun e w' => e = .returned (.bool true) ∧ Below w.heap.size w w' := by
  have hc := hC.le
  have HS := Hd.mk hS; clear hS
  have HC := Hd.mk hC; clear hC
  by_cases hlong : 100 < xs.length
  · go_enter Try.func4, Try.ntmps4
    go_wp2_with (go_at_call 6; refine (alive_calls _).mono ?_; rintro e w1 ⟨rfl, hb1⟩)
    go_ret
    exact ⟨rfl, hb1⟩
  · have hD0 := newD_pos dep
    have HN : ∀ w, Calls Try.prog 7 #[.int .i64 dep] w fun e w' => e = .returned (.agg #[.int .i64 (newD dep), .slice none 0 0]) ∧ Below w.heap.size w w' := new_calls dep
    have HDp : ∀ w, Calls Try.prog 13 #[.int .i64 dep] w fun e w' => e = .returned (.int .i64 (newD dep)) ∧ w = w' := depth_calls dep
    generalize newD dep = D at *
    go_enter Try.func4, Try.ntmps4
    go_wp2_with (go_at_call 7; refine (HN w).mono ?_; rintro e w1 ⟨rfl, hb1⟩)
    generalize hV : World.alloc _ _ = V
    have HBV : Below w1.heap.size w1 V := below_of hV (by repeat (first | (with_reducible assumption) | (with_reducible exact Below.refl _ _) | (with_reducible apply below_drewL) | (with_reducible apply below_alloc) | (with_reducible apply below_drew1) | (with_reducible apply below_drewN) | (refine below_set ?_ (by first | omega | (simp only [size_alloc, size_drew, size_set]; omega)) _ _)))
    have zV : Hd (V.heap.size = w1.heap.size + 1) := ⟨by rw [← hV]; simp only [size_alloc]⟩
    have V0 := at_of hV (blk_new _ _ _ rfl)
    have V0l := blk_lt V0
    clear hV
    replace HBV := below_seq hb1 HBV
    have hg : w.heap.size ≤ w1.heap.size := hb1.size
    generalize w1.heap.size = g at *
    go_loopw [8, 22] (fun v i wr => ∃ k : Nat, k ≤ xs.length ∧ i = .int .i64 k ∧ ∃ A1 c1 A2 c2 n L, v = .slice A2 n c2 ∧ wr.heap[g]? = some (.cells #[.int .i64 D, .slice A1 n c1] 25 (0, 0)) ∧ n ≤ k ∧ n ≤ c1 ∧ n ≤ c2 ∧ (A1 = none → c1 = 0) ∧ (A2 = none → c2 = 0) ∧ Hd (Row spotT wr (fun b => b ≠ g ∧ b < wr.heap.size) A1 n L) ∧ Hd (Row spotT wr (fun b => b ≠ g ∧ b < wr.heap.size) A2 n L) ∧ Hd (Below w.heap.size w wr)) (fun _ i _ => xs.length - (intOf i).toNat)
    case atStart => exact ⟨0, Nat.zero_le _, rfl, none, 0, none, 0, 0, [], rfl, V0, Nat.le_refl _, Nat.le_refl _, Nat.le_refl _, fun _ => rfl, fun _ => rfl, ⟨Row.nil _ _ _ _⟩, ⟨Row.nil _ _ _ _⟩, ⟨HBV⟩⟩
    case round =>
      clear V0 V0l zV HBV
      obtain ⟨k, hk, rfl, A1, c1, A2, c2, n, L, rfl, hx, hLk, hc1, hc2, hA1, hA2, hR1, hR2, hb⟩ := hrel
      have hxc0 := blk_cell hx 0 _ rfl; have hxf0 := blk_frozen hx 0; have hxc1 := blk_cell hx 1 _ rfl; have hxf1 := blk_frozen hx 1; have hxl := blk_lt hx
      have HX := Hd.mk hx; clear hx
      have HA1 := Hd.mk hA1; clear hA1
      have HA2 := Hd.mk hA2; clear hA2
      by_cases hlt : k < xs.length
      · obtain ⟨b, o, s, rfl, _, hb1, _, hp0, hp1, hp2⟩ := step_get (HC.out.below HS.out hb.out) k hlt
        cases hpop : s.pop with
        | true =>
          rw [hpop] at hp0
          cases n with
          | zero =>
            obtain rfl : L = [] := List.eq_nil_of_length_eq_zero hR1.out.1
            go_wp2_with (go_at_call 9; go_must (refine (pop_none A1 c1 D _).mono ?_; rintro e w2 ⟨rfl, hb2'⟩; have hv := blk_below (blk_alloc HX.out _) hb2'; replace hb2' := below_seq (a := wr) (by repeat (first | (with_reducible assumption) | (with_reducible exact Below.refl _ _) | (with_reducible apply below_drewL) | (with_reducible apply below_alloc) | (with_reducible apply below_drew1) | (with_reducible apply below_drewN) | (refine below_set ?_ (by first | omega | (simp only [size_alloc, size_drew, size_set]; omega)) _ _))) hb2'; have hvc0 := blk_cell hv 0 _ rfl; have hvf0 := blk_frozen hv 0; have hvc1 := blk_cell hv 1 _ rfl; have hvf1 := blk_frozen hv 1; have hvl := blk_lt hv))
            generalize hU : World.alloc _ _ = U
            have HBU : Below w2.heap.size w2 U := below_of hU (by repeat (first | (with_reducible assumption) | (with_reducible exact Below.refl _ _) | (with_reducible apply below_drewL) | (with_reducible apply below_alloc) | (with_reducible apply below_drew1) | (with_reducible apply below_drewN) | (refine below_set ?_ (by first | omega | (simp only [size_alloc, size_drew, size_set]; omega)) _ _)))
            have zU : Hd (U.heap.size = w2.heap.size + 1 + 1) := ⟨by rw [← hU]; simp only [size_alloc]⟩
            have U0 := at_of hU (blk_alloc (blk_new _ _ _ rfl) _)
            have U0l := blk_lt U0
            have U1 := at_of hU (blk_new _ _ _ rfl)
            simp only [size_alloc] at U1
            have U1l := blk_lt U1
            clear hU
            have hbU := below_seq hb2' HBU
            have hu := blk_below hv HBU
            have hzU := hbU.size
            have hbelow := below_seq hb.out hbU
            clear hvc0 hvf0 hvc1 hvf1 hvl
            clear hxc0 hxf0 hxc1 hxf1 hxl
            have HV := Hd.mk hu
            have huc0 := blk_cell hu 0 _ rfl; have huf0 := blk_frozen hu 0; have huc1 := blk_cell hu 1 _ rfl; have huf1 := blk_frozen hu 1; have hul := blk_lt hu
            clear hu hv HBU hbU hb2' HX
            have U0c0 := blk_cell U0 0 _ rfl
            have U0f0 := blk_frozen U0 0
            have U0c1 := blk_cell U0 1 _ rfl
            have U0f1 := blk_frozen U0 1
            have U1c0 := blk_cell U1 0 _ rfl
            have U1f0 := blk_frozen U1 0
            have U1c1 := blk_cell U1 1 _ rfl
            have U1f1 := blk_frozen U1 1
            have HV' : Hd ((((U.setCell ⟨g, 0, none⟩ (.int .i64 D)).setCell ⟨g, 1, none⟩ (.slice A1 0 c1)).drew).heap[g]? = some (.cells #[.int .i64 D, .slice A1 0 c1] 25 (0, 0))) := ⟨blk_drew (blk_set (blk_set HV.out 0 _ _ rfl) 1 _ _ rfl)⟩
            have hR1' : Hd (Row spotT (((U.setCell ⟨g, 0, none⟩ (.int .i64 D)).setCell ⟨g, 1, none⟩ (.slice A1 0 c1)).drew) (fun b => b ≠ g ∧ b < (((U.setCell ⟨g, 0, none⟩ (.int .i64 D)).setCell ⟨g, 1, none⟩ (.slice A1 0 c1)).drew).heap.size) A1 0 []) := ⟨Row.nil _ _ _ _⟩
            have hR2' : Hd (Row spotT (((U.setCell ⟨g, 0, none⟩ (.int .i64 D)).setCell ⟨g, 1, none⟩ (.slice A1 0 c1)).drew) (fun b => b ≠ g ∧ b < (((U.setCell ⟨g, 0, none⟩ (.int .i64 D)).setCell ⟨g, 1, none⟩ (.slice A1 0 c1)).drew).heap.size) A2 0 []) := ⟨Row.nil _ _ _ _⟩
            have HB' : Hd (Below w.heap.size w (((U.setCell ⟨g, 0, none⟩ (.int .i64 D)).setCell ⟨g, 1, none⟩ (.slice A1 0 c1)).drew)) := ⟨(by repeat (first | (with_reducible assumption) | (with_reducible exact Below.refl _ _) | (with_reducible apply below_drewL) | (with_reducible apply below_alloc) | (with_reducible apply below_drew1) | (with_reducible apply below_drewN) | (refine below_set ?_ (by first | omega | (simp only [size_alloc, size_drew, size_set]; omega)) _ _)))⟩
            have HA1' := HA1
            have HA2' := HA2
            clear hR1 hR2
            refine wp_region_can (.q [0, 1, 2, 3, 4, 5, 6, 7, 8, 9, 10, 11, 12, 13, 14, 15, 16, 17, 18, 19, 20, 21, 22, 23, 24, 25, 26] (.done)) (clsB _) (by kernel_rfl) (by kernel_rfl) (by intro _ _ d _ _ h; cases d <;> exact h) (clsB_drew _) ?_
            refine can_q (l := [⟨_,_,_,_,_,_⟩, ⟨_,_,_,_,_,_⟩, ⟨_,_,_,_,_,_⟩, ⟨_,_,_,_,_,_⟩, ⟨_,_,_,_,_,_⟩, ⟨_,_,_,_,_,_⟩, ⟨_,_,_,_,_,_⟩, ⟨_,_,_,_,_,_⟩, ⟨_,_,_,_,_,_⟩, ⟨_,_,_,_,_,_⟩, ⟨_,_,_,_,_,_⟩, ⟨_,_,_,_,_,_⟩, ⟨_,_,_,_,_,_⟩, ⟨_,_,_,_,_,_⟩, ⟨_,_,_,_,_,_⟩, ⟨_,_,_,_,_,_⟩, ⟨_,_,_,_,_,_⟩, ⟨_,_,_,_,_,_⟩, ⟨_,_,_,_,_,_⟩, ⟨_,_,_,_,_,_⟩, ⟨_,_,_,_,_,_⟩, ⟨_,_,_,_,_,_⟩, ⟨_,_,_,_,_,_⟩, ⟨_,_,_,_,_,_⟩, ⟨_,_,_,_,_,_⟩, ⟨_,_,_,_,_,_⟩, ⟨_,_,_,_,_,_⟩]) rfl ?_
            repeat (go_big_quiet_step (fail))
            refine wpQuiet_nil ?_
            refine can_done ?_
            go_wp2_with (first
              | (go_at_call 14; have hq_ := hv4; clear hq_; go_must (refine (refSame_calls A9 A2 c9 c2 [] [] (fun b => b ≠ g ∧ b < w4.heap.size) (fun b => b ≠ g ∧ b < ((((U.setCell ⟨g, 0, none⟩ (.int .i64 D)).setCell ⟨g, 1, none⟩ (.slice A1 0 c1)).drew)).heap.size) w4 (fun _ h => h.2) (fun _ h => Nat.lt_of_lt_of_le h.2 (below_seq hb3 hb4).size) (hR9.mono (fun b h => ⟨fun he => by have := h.1; have := blk_lt hv3; omega, h.2⟩)) (hR2'.out.below (fun _ h => h.2) (below_seq hb3 hb4))).mono ?_; rintro e w5 ⟨he, hb5⟩; obtain rfl : e = .returned (.bool true) := by rw [he, decide_eq_true rfl]))
              | (go_at_call 15; have hq_ := hv3; clear hq_; go_must (refine (all_calls _ A1 c1 [] (fun b => b ≠ g ∧ b < ((((U.setCell ⟨g, 0, none⟩ (.int .i64 D)).setCell ⟨g, 1, none⟩ (.slice A1 0 c1)).drew)).heap.size) w3 (fun _ h => Nat.lt_of_lt_of_le h.2 hb3.size) (hR1'.out.below (fun _ h => h.2) hb3) HA1'.out (by first | omega | decide)).mono ?_; rintro e w4 ⟨A9, c9, rfl, hc9, hA9, hR9, hb4⟩; have hv4 := blk_below hv3 hb4))
              | (go_at_call 10; go_must (refine (len_calls _ A1 0 c1 _ (by omega)).mono ?_; rintro e w3 ⟨rfl, hb3⟩; have hv3 := blk_below HV'.out hb3; have hv3c0 := blk_cell hv3 0 _ rfl; have hv3f0 := blk_frozen hv3 0; have hv3c1 := blk_cell hv3 1 _ rfl; have hv3f1 := blk_frozen hv3 1; have hv3l := blk_lt hv3)))
            go_roundw
            case rel =>
              have hbE := below_seq (below_seq hb3 hb4) hb5
              have hzE := hbE.size
              refine ⟨k + 1, by omega, by go_num, A1, c1, A2, c2, 0, [], rfl, blk_below HV'.out hbE, by omega, by omega, by omega, HA1'.out, HA2'.out, ⟨?_⟩, ⟨?_⟩, ⟨below_seq HB'.out hbE⟩⟩
              · exact (hR1'.out.below (fun _ h => h.2) hbE).mono (fun b h => ⟨h.1, Nat.lt_of_lt_of_le h.2 hzE⟩)
              · exact (hR2'.out.below (fun _ h => h.2) hbE).mono (fun b h => ⟨h.1, Nat.lt_of_lt_of_le h.2 hzE⟩)
            case measure => simp [intOf]; omega
          | succ q =>
            obtain ⟨L', p, rfl⟩ := list_last hR1.out.1
            have hq := hR1.out.1
            have hq' : L'.length = q := by simpa using hq
            subst hq'
            clear hq
            have hz2 := hR2.out.le
            obtain ⟨b2, o2, rfl, _, hb2, hs0, hs1⟩ := spot_get hR2.out L'.length (by omega)
            have hpp : (L' ++ [p])[L'.length]'(by simp) = p := by simp
            rw [hpp] at hs0 hs1
            go_wp2_with (go_at_call 9; go_must (refine (pop_to A1 c1 L'.length L' D p (fun b => b ≠ g ∧ b < wr.heap.size) _ (fun k hk => by simp only [size_alloc]; omega) (hR1.out.below (fun _ h => h.2) (by repeat (first | (with_reducible assumption) | (with_reducible exact Below.refl _ _) | (with_reducible apply below_drewL) | (with_reducible apply below_alloc) | (with_reducible apply below_drew1) | (with_reducible apply below_drewN) | (refine below_set ?_ (by first | omega | (simp only [size_alloc, size_drew, size_set]; omega)) _ _)))) (by omega) (by omega)).mono ?_; rintro e w2 ⟨rfl, hb2'⟩; have hv := blk_below (blk_alloc HX.out _) hb2'; replace hb2' := below_seq (a := wr) (by repeat (first | (with_reducible assumption) | (with_reducible exact Below.refl _ _) | (with_reducible apply below_drewL) | (with_reducible apply below_alloc) | (with_reducible apply below_drew1) | (with_reducible apply below_drewN) | (refine below_set ?_ (by first | omega | (simp only [size_alloc, size_drew, size_set]; omega)) _ _))) hb2'; have hvc0 := blk_cell hv 0 _ rfl; have hvf0 := blk_frozen hv 0; have hvc1 := blk_cell hv 1 _ rfl; have hvf1 := blk_frozen hv 1; have hvl := blk_lt hv))
            generalize hU : World.alloc _ _ = U
            have HBU : Below w2.heap.size w2 U := below_of hU (by repeat (first | (with_reducible assumption) | (with_reducible exact Below.refl _ _) | (with_reducible apply below_drewL) | (with_reducible apply below_alloc) | (with_reducible apply below_drew1) | (with_reducible apply below_drewN) | (refine below_set ?_ (by first | omega | (simp only [size_alloc, size_drew, size_set]; omega)) _ _)))
            have zU : Hd (U.heap.size = w2.heap.size + 1 + 1) := ⟨by rw [← hU]; simp only [size_alloc]⟩
            have U0 := at_of hU (blk_alloc (blk_new _ _ _ rfl) _)
            have U0l := blk_lt U0
            have U1 := at_of hU (blk_new _ _ _ rfl)
            simp only [size_alloc] at U1
            have U1l := blk_lt U1
            clear hU
            have hbU := below_seq hb2' HBU
            have hu := blk_below hv HBU
            replace hs0 := (hbU.cell (p := ⟨b2, o2 + L'.length * 2, none⟩) hb2).trans hs0
            replace hs1 := (hbU.cell (p := ⟨b2, o2 + L'.length * 2 + 1, none⟩) hb2).trans hs1
            have hzU := hbU.size
            have hb2U : b2 < U.heap.size := by omega
            have hRU1 := Hd.mk (hR1.out.below (fun _ h => h.2) hbU)
            have hRU2 := Hd.mk (hR2.out.below (fun _ h => h.2) hbU)
            have hbelow := below_seq hb.out hbU
            have htk : (L' ++ [p]).take L'.length = L' := by simp
            clear hvc0 hvf0 hvc1 hvf1 hvl
            clear hxc0 hxf0 hxc1 hxf1 hxl
            have HV := Hd.mk hu
            have huc0 := blk_cell hu 0 _ rfl; have huf0 := blk_frozen hu 0; have huc1 := blk_cell hu 1 _ rfl; have huf1 := blk_frozen hu 1; have hul := blk_lt hu
            clear hu hv HBU hbU hb2' HX
            have U0c0 := blk_cell U0 0 _ rfl
            have U0f0 := blk_frozen U0 0
            have U0c1 := blk_cell U0 1 _ rfl
            have U0f1 := blk_frozen U0 1
            have U1c0 := blk_cell U1 0 _ rfl
            have U1f0 := blk_frozen U1 0
            have U1c1 := blk_cell U1 1 _ rfl
            have U1f1 := blk_frozen U1 1
            have HV' : Hd ((((U.setCell ⟨g, 0, none⟩ (.int .i64 D)).setCell ⟨g, 1, none⟩ (.slice A1 L'.length L'.length)).drew).heap[g]? = some (.cells #[.int .i64 D, .slice A1 L'.length L'.length] 25 (0, 0))) := ⟨blk_drew (blk_set (blk_set HV.out 0 _ _ rfl) 1 _ _ rfl)⟩
            have hR1' : Hd (Row spotT (((U.setCell ⟨g, 0, none⟩ (.int .i64 D)).setCell ⟨g, 1, none⟩ (.slice A1 L'.length L'.length)).drew) (fun b => b ≠ g ∧ b < (((U.setCell ⟨g, 0, none⟩ (.int .i64 D)).setCell ⟨g, 1, none⟩ (.slice A1 L'.length L'.length)).drew).heap.size) A1 L'.length L') := ⟨by
              have h1 := hRU1.out.take L'.length (by omega)
              rw [htk] at h1
              exact (((h1.set (fun b hbb => hbb.1) _).set (fun b hbb => hbb.1) _).move (w' := (World.setCell _ _ _).drew) (fun b _ => rfl)).mono (fun b hbb => ⟨hbb.1, by rw [size_drew, size_set, size_set]; omega⟩)⟩
            have hR2' : Hd (Row spotT (((U.setCell ⟨g, 0, none⟩ (.int .i64 D)).setCell ⟨g, 1, none⟩ (.slice A1 L'.length L'.length)).drew) (fun b => b ≠ g ∧ b < (((U.setCell ⟨g, 0, none⟩ (.int .i64 D)).setCell ⟨g, 1, none⟩ (.slice A1 L'.length L'.length)).drew).heap.size) (some ⟨b2, o2, none⟩) L'.length L') := ⟨by
              have h1 := hRU2.out.take L'.length (by omega)
              rw [htk] at h1
              exact (((h1.set (fun b hbb => hbb.1) _).set (fun b hbb => hbb.1) _).move (w' := (World.setCell _ _ _).drew) (fun b _ => rfl)).mono (fun b hbb => ⟨hbb.1, by rw [size_drew, size_set, size_set]; omega⟩)⟩
            have HB' : Hd (Below w.heap.size w (((U.setCell ⟨g, 0, none⟩ (.int .i64 D)).setCell ⟨g, 1, none⟩ (.slice A1 L'.length L'.length)).drew)) := ⟨(by repeat (first | (with_reducible assumption) | (with_reducible exact Below.refl _ _) | (with_reducible apply below_drewL) | (with_reducible apply below_alloc) | (with_reducible apply below_drew1) | (with_reducible apply below_drewN) | (refine below_set ?_ (by first | omega | (simp only [size_alloc, size_drew, size_set]; omega)) _ _)))⟩
            have HA1' : Hd (A1 = none → L'.length = 0) := ⟨fun hn => by
              have := hR1.out.some_of (by omega)
              exact absurd hn this⟩
            have HA2' : Hd ((some ⟨b2, o2, none⟩ : Option Addr) = none → c2 = 0) := ⟨fun hn => by cases hn⟩
            clear hR1 hR2
            refine wp_region_can (.q [0, 1, 2, 3, 4, 5, 6, 7, 8, 9, 10, 11, 12, 13, 14, 15, 16, 17, 18, 19, 20, 21, 22, 23, 24, 25, 26] (.done)) (clsB _) (by kernel_rfl) (by kernel_rfl) (by intro _ _ d _ _ h; cases d <;> exact h) (clsB_drew _) ?_
            refine can_q (l := [⟨_,_,_,_,_,_⟩, ⟨_,_,_,_,_,_⟩, ⟨_,_,_,_,_,_⟩, ⟨_,_,_,_,_,_⟩, ⟨_,_,_,_,_,_⟩, ⟨_,_,_,_,_,_⟩, ⟨_,_,_,_,_,_⟩, ⟨_,_,_,_,_,_⟩, ⟨_,_,_,_,_,_⟩, ⟨_,_,_,_,_,_⟩, ⟨_,_,_,_,_,_⟩, ⟨_,_,_,_,_,_⟩, ⟨_,_,_,_,_,_⟩, ⟨_,_,_,_,_,_⟩, ⟨_,_,_,_,_,_⟩, ⟨_,_,_,_,_,_⟩, ⟨_,_,_,_,_,_⟩, ⟨_,_,_,_,_,_⟩, ⟨_,_,_,_,_,_⟩, ⟨_,_,_,_,_,_⟩, ⟨_,_,_,_,_,_⟩, ⟨_,_,_,_,_,_⟩, ⟨_,_,_,_,_,_⟩, ⟨_,_,_,_,_,_⟩, ⟨_,_,_,_,_,_⟩, ⟨_,_,_,_,_,_⟩, ⟨_,_,_,_,_,_⟩]) rfl ?_
            repeat (go_big_quiet_step (fail))
            refine wpQuiet_nil ?_
            refine can_done ?_
            go_wp2_with (first
              | (go_at_call 14; have hq_ := hv4; clear hq_; go_must (refine (refSame_calls A9 (some ⟨b2, o2, none⟩) c9 c2 L' L' (fun b => b ≠ g ∧ b < w4.heap.size) (fun b => b ≠ g ∧ b < ((((U.setCell ⟨g, 0, none⟩ (.int .i64 D)).setCell ⟨g, 1, none⟩ (.slice A1 L'.length L'.length)).drew)).heap.size) w4 (fun _ h => h.2) (fun _ h => Nat.lt_of_lt_of_le h.2 (below_seq hb3 hb4).size) (hR9.mono (fun b h => ⟨fun he => by have := h.1; have := blk_lt hv3; omega, h.2⟩)) (hR2'.out.below (fun _ h => h.2) (below_seq hb3 hb4))).mono ?_; rintro e w5 ⟨he, hb5⟩; obtain rfl : e = .returned (.bool true) := by rw [he, decide_eq_true rfl]))
              | (go_at_call 15; have hq_ := hv3; clear hq_; go_must (refine (all_calls _ A1 L'.length L' (fun b => b ≠ g ∧ b < ((((U.setCell ⟨g, 0, none⟩ (.int .i64 D)).setCell ⟨g, 1, none⟩ (.slice A1 L'.length L'.length)).drew)).heap.size) w3 (fun _ h => Nat.lt_of_lt_of_le h.2 hb3.size) (hR1'.out.below (fun _ h => h.2) hb3) HA1'.out (by first | omega | decide)).mono ?_; rintro e w4 ⟨A9, c9, rfl, hc9, hA9, hR9, hb4⟩; have hv4 := blk_below hv3 hb4))
              | (go_at_call 10; go_must (refine (len_calls _ A1 L'.length L'.length _ (by omega)).mono ?_; rintro e w3 ⟨rfl, hb3⟩; have hv3 := blk_below HV'.out hb3; have hv3c0 := blk_cell hv3 0 _ rfl; have hv3f0 := blk_frozen hv3 0; have hv3c1 := blk_cell hv3 1 _ rfl; have hv3f1 := blk_frozen hv3 1; have hv3l := blk_lt hv3)))
            go_roundw
            case rel =>
              have hbE := below_seq (below_seq hb3 hb4) hb5
              have hzE := hbE.size
              refine ⟨k + 1, by omega, by go_num, A1, L'.length, (some ⟨b2, o2, none⟩), c2, L'.length, L', rfl, blk_below HV'.out hbE, by omega, by omega, by omega, HA1'.out, HA2'.out, ⟨?_⟩, ⟨?_⟩, ⟨below_seq HB'.out hbE⟩⟩
              · exact (hR1'.out.below (fun _ h => h.2) hbE).mono (fun b h => ⟨h.1, Nat.lt_of_lt_of_le h.2 hzE⟩)
              · exact (hR2'.out.below (fun _ h => h.2) hbE).mono (fun b h => ⟨h.1, Nat.lt_of_lt_of_le h.2 hzE⟩)
            case measure => simp [intOf]; omega
        | false =>
          rw [hpop] at hp0
          have hn := hR1.out.1
          subst hn
          go_wp2
          generalize hU : World.alloc _ _ = U
          have HBU : Below wr.heap.size wr U := below_of hU (by repeat (first | (with_reducible assumption) | (with_reducible exact Below.refl _ _) | (with_reducible apply below_drewL) | (with_reducible apply below_alloc) | (with_reducible apply below_drew1) | (with_reducible apply below_drewN) | (refine below_set ?_ (by first | omega | (simp only [size_alloc, size_drew, size_set]; omega)) _ _)))
          have zU : Hd (U.heap.size = wr.heap.size + 1) := ⟨by rw [← hU]; simp only [size_alloc]⟩
          have U0 := at_of hU (blk_new _ _ _ rfl)
          have U0l := blk_lt U0
          clear hU
          have hu := blk_below HX.out HBU
          have hzU := HBU.size
          have hRU1 := Hd.mk (hR1.out.below (fun _ h => h.2) HBU)
          have hRU2 := Hd.mk (hR2.out.below (fun _ h => h.2) HBU)
          have hbelow := below_seq hb.out HBU
          clear hxc0 hxf0 hxc1 hxf1 hxl
          have HV := Hd.mk hu
          have huc0 := blk_cell hu 0 _ rfl; have huf0 := blk_frozen hu 0; have huc1 := blk_cell hu 1 _ rfl; have huf1 := blk_frozen hu 1; have hul := blk_lt hu
          clear hu HX hR1 hR2
          have U0c0 := blk_cell U0 0 _ rfl
          have U0f0 := blk_frozen U0 0
          have U0c1 := blk_cell U0 1 _ rfl
          have U0f1 := blk_frozen U0 1
          have U0c2 := blk_cell U0 2 _ rfl
          have U0f2 := blk_frozen U0 2
          have hpe := push_eq (l := L) (p := s.spot) hD0
          have hpl := pushL_len L s.spot D
          obtain ⟨Lp, hLp⟩ : ∃ Lp, pushL L s.spot D = Lp := ⟨_, rfl⟩
          rw [hLp] at hpl hpe
          have HLp := Hd.mk hLp; have HLr := Hd.mk hpe.symm; clear hLp hpe
          refine wp_region_can (.q [0, 1, 2, 4, 5, 6, 7] (.e 3 true (.e 8 true (.e 9 false (.e 10 false (.q [11] (.done))))))) (clsB _) (by kernel_rfl) (by kernel_rfl) (by intro _ _ d _ _ h; cases d <;> exact h) (clsB_drew _) ?_
          refine can_q (l := [⟨_,_,_,_,_,_⟩, ⟨_,_,_,_,_,_⟩, ⟨_,_,_,_,_,_⟩, ⟨_,_,_,_,_,_⟩, ⟨_,_,_,_,_,_⟩, ⟨_,_,_,_,_,_⟩, ⟨_,_,_,_,_,_⟩]) rfl ?_
          repeat (go_big_quiet_step (fail))
          refine wpQuiet_nil ?_
          refine can_e (o := ⟨_,_,_,_,_,_⟩) rfl (fun K hK => ?_)
          go_wp2_with (go_at_call 8; go_must (refine (push_to A1 c1 L L.length D s.spot HLp.out rfl (fun b => b ≠ g ∧ b < wr.heap.size) U.drew (fun k hk => by rw [size_drew]; omega) (hRU1.out.move (fun _ _ => rfl)) (by omega) (by omega) hc1 HA1.out).mono ?_; rintro e y2 ⟨A3, c3, rfl, hc3, hA3, hR3, hy3⟩; have hy3 := below_undrew hy3))
          refine onK_normal (hK _ _ ⟨clsB _, (by first | exact clsB_drew _ | exact clsB_self _), fun _ => clsB_next (by first | exact (hy3) | exact below_undrew (hy3)), ?_⟩)
          clear hK K
          refine can_e (o := ⟨_,_,_,_,_,_⟩) rfl (fun K hK => ?_)
          go_wp2_with (go_at_call 13; go_must (refine (HDp _).mono ?_; rintro e y3 ⟨rfl, rfl⟩))
          refine onK_normal (hK _ _ ⟨clsB _, (by first | exact clsB_drew _ | exact clsB_self _), fun _ => clsB_next (by first | exact ((by repeat (first | (with_reducible assumption) | (with_reducible exact Below.refl _ _) | (with_reducible apply below_drewL) | (with_reducible apply below_alloc) | (with_reducible apply below_drew1) | (with_reducible apply below_drewN) | (refine below_set ?_ (by first | omega | (simp only [size_alloc, size_drew, size_set]; omega)) _ _)))) | exact below_undrew ((by repeat (first | (with_reducible assumption) | (with_reducible exact Below.refl _ _) | (with_reducible apply below_drewL) | (with_reducible apply below_alloc) | (with_reducible apply below_drew1) | (with_reducible apply below_drewN) | (refine below_set ?_ (by first | omega | (simp only [size_alloc, size_drew, size_set]; omega)) _ _))))), ?_⟩)
          clear hK K
          refine can_e (o := ⟨_,_,_,_,_,_⟩) rfl (fun K hK => ?_)
          go_wp2_with (go_at_call 12; go_must (refine (refPush_to A2 c2 L D s.spot HLr.out (fun b => b ≠ g ∧ b < wr.heap.size) _ (fun k hk => by have := hy3.size; omega) (hRU2.out.below (fun k hk => by omega) hy3) (by omega) HA2.out).mono ?_; rintro e y4 ⟨A4, c4, rfl, hc4, hA4, hR4, hy4⟩))
          refine onK_normal (hK _ _ ⟨fun _ => True, trivial, (fun h => by cases h), ?_⟩)
          clear hK K
          have hzA := hy3.size
          have hzB := hy4.size
          have hgU := hul
          clear huc0 huf0 huc1 huf1 hul
          clear U0 U0c0 U0f0 U0c1 U0f1 U0c2 U0f2
          have hu4 := blk_below (blk_below HV.out hy3) hy4
          have hu4c0 := blk_cell hu4 0 _ rfl; have hu4f0 := blk_frozen hu4 0; have hu4c1 := blk_cell hu4 1 _ rfl; have hu4f1 := blk_frozen hu4 1; have hu4l := blk_lt hu4
          have HV4 := Hd.mk hu4; clear hu4 HV
          have hbelow4 := below_seq hbelow (below_seq hy3 hy4)
          refine can_e (o := ⟨_,_,_,_,_,_⟩) rfl (fun K hK => ?_)
          go_wp2_with fail
          refine onK_normal (hK _ _ ⟨fun _ => True, trivial, (fun h => by cases h), ?_⟩)
          clear hK K
          refine can_q (l := [⟨_,_,_,_,_,_⟩]) rfl ?_
          repeat (go_big_quiet_step (fail))
          refine wpQuiet_nil ?_
          refine can_done ?_
          have HV' : Hd ((((y4.setCell ⟨g, 0, none⟩ (.int .i64 D)).setCell ⟨g, 1, none⟩ (.slice A3 Lp.length c3))).heap[g]? = some (.cells #[.int .i64 D, .slice A3 Lp.length c3] 25 (0, 0))) := ⟨blk_set (blk_set HV4.out 0 _ _ rfl) 1 _ _ rfl⟩
          have hR1' : Hd (Row spotT (((y4.setCell ⟨g, 0, none⟩ (.int .i64 D)).setCell ⟨g, 1, none⟩ (.slice A3 Lp.length c3))) (fun b => b ≠ g ∧ b < (((y4.setCell ⟨g, 0, none⟩ (.int .i64 D)).setCell ⟨g, 1, none⟩ (.slice A3 Lp.length c3))).heap.size) A3 Lp.length Lp) := ⟨by
            have h1 := hR3.below (fun b hbb => by rcases hbb with hbb | hbb; omega; exact hbb.2) hy4
            have h2 := h1.mono (S' := fun b => b ≠ g ∧ b < y4.heap.size) (fun b hbb => by rcases hbb with hbb | hbb; exact ⟨hbb.1, by omega⟩; rw [size_drew] at hbb; exact ⟨by omega, by omega⟩)
            exact ((h2.set (fun b hbb => hbb.1) _).set (fun b hbb => hbb.1) _).mono (fun b hbb => ⟨hbb.1, by rw [size_set, size_set]; exact hbb.2⟩)⟩
          have hR2' : Hd (Row spotT (((y4.setCell ⟨g, 0, none⟩ (.int .i64 D)).setCell ⟨g, 1, none⟩ (.slice A3 Lp.length c3))) (fun b => b ≠ g ∧ b < (((y4.setCell ⟨g, 0, none⟩ (.int .i64 D)).setCell ⟨g, 1, none⟩ (.slice A3 Lp.length c3))).heap.size) A4 Lp.length Lp) := ⟨by
            have h2 := hR4.mono (S' := fun b => b ≠ g ∧ b < y4.heap.size) (fun b hbb => ⟨by omega, hbb.2⟩)
            exact ((h2.set (fun b hbb => hbb.1) _).set (fun b hbb => hbb.1) _).mono (fun b hbb => ⟨hbb.1, by rw [size_set, size_set]; exact hbb.2⟩)⟩
          have HB' : Hd (Below w.heap.size w (((y4.setCell ⟨g, 0, none⟩ (.int .i64 D)).setCell ⟨g, 1, none⟩ (.slice A3 Lp.length c3)))) := ⟨(by repeat (first | (with_reducible assumption) | (with_reducible exact Below.refl _ _) | (with_reducible apply below_drewL) | (with_reducible apply below_alloc) | (with_reducible apply below_drew1) | (with_reducible apply below_drewN) | (refine below_set ?_ (by first | omega | (simp only [size_alloc, size_drew, size_set]; omega)) _ _)))⟩
          have HA1' := Hd.mk hA3
          have HA2' := Hd.mk hA4
          clear hR3 hR4 hA3 hA4 hRU1 hRU2
          go_wp2_with (first
            | (go_at_call 14; have hq_ := hv4; clear hq_; go_must (refine (refSame_calls A9 A4 c9 c4 Lp Lp (fun b => b ≠ g ∧ b < w4.heap.size) (fun b => b ≠ g ∧ b < (((y4.setCell ⟨g, 0, none⟩ (.int .i64 D)).setCell ⟨g, 1, none⟩ (.slice A3 Lp.length c3))).heap.size) w4 (fun _ h => h.2) (fun _ h => Nat.lt_of_lt_of_le h.2 (below_seq hb3 hb4).size) (hR9.mono (fun b h => ⟨fun he => by have := h.1; have := blk_lt hv3; omega, h.2⟩)) (hR2'.out.below (fun _ h => h.2) (below_seq hb3 hb4))).mono ?_; rintro e w5 ⟨he, hb5⟩; obtain rfl : e = .returned (.bool true) := by rw [he, decide_eq_true rfl]))
            | (go_at_call 15; have hq_ := hv3; clear hq_; go_must (refine (all_calls _ A3 c3 Lp (fun b => b ≠ g ∧ b < (((y4.setCell ⟨g, 0, none⟩ (.int .i64 D)).setCell ⟨g, 1, none⟩ (.slice A3 Lp.length c3))).heap.size) w3 (fun _ h => Nat.lt_of_lt_of_le h.2 hb3.size) (hR1'.out.below (fun _ h => h.2) hb3) HA1'.out (by first | omega | decide)).mono ?_; rintro e w4 ⟨A9, c9, rfl, hc9, hA9, hR9, hb4⟩; have hv4 := blk_below hv3 hb4))
            | (go_at_call 10; go_must (refine (len_calls _ A3 Lp.length c3 _ (by omega)).mono ?_; rintro e w3 ⟨rfl, hb3⟩; have hv3 := blk_below HV'.out hb3; have hv3c0 := blk_cell hv3 0 _ rfl; have hv3f0 := blk_frozen hv3 0; have hv3c1 := blk_cell hv3 1 _ rfl; have hv3f1 := blk_frozen hv3 1; have hv3l := blk_lt hv3)))
          go_roundw
          case rel =>
            have hbE := below_seq (below_seq hb3 hb4) hb5
            have hzE := hbE.size
            refine ⟨k + 1, by omega, by go_num, A3, c3, A4, c4, Lp.length, Lp, rfl, blk_below HV'.out hbE, by omega, by omega, by omega, HA1'.out, HA2'.out, ⟨?_⟩, ⟨?_⟩, ⟨below_seq HB'.out hbE⟩⟩
            · exact (hR1'.out.below (fun _ h => h.2) hbE).mono (fun b h => ⟨h.1, Nat.lt_of_lt_of_le h.2 hzE⟩)
            · exact (hR2'.out.below (fun _ h => h.2) hbE).mono (fun b h => ⟨h.1, Nat.lt_of_lt_of_le h.2 hzE⟩)
          case measure => simp [intOf]; omega
      · obtain rfl : k = xs.length := by omega
        have hn := hR1.out.1
        subst hn
        have hbo := hb.out
        go_wp2_with (first
          | (go_at_call 6; go_must (refine (alive_calls _).mono ?_; rintro e w5 ⟨rfl, hb5⟩))
          | (go_at_call 16; go_must (refine (reflow_calls A2 c2 L or (fun b => b ≠ g ∧ b < wr.heap.size) w3 (fun k hk => Nat.lt_of_lt_of_le hk.2 hb3.size) (hR2.out.below (fun _ h => h.2) hb3)).mono ?_; rintro e w4 ⟨rfl, hb4⟩))
          | (go_at_call 11; go_must (refine (low_calls D A1 c1 L or (fun b => b ≠ g ∧ b < wr.heap.size) wr (fun k hk => hk.2) hR1.out).mono ?_; rintro e w3 ⟨rfl, hb3⟩)))
        go_ret
        exact ⟨rfl, below_seq hbo (below_seq (below_seq hb3 hb4) hb5)⟩
end Go.Proofs.Ytefkhjgckdphnaa.Fn
