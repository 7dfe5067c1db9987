/- RingPlays: the walk. -/
import Derived.Test.YtbdnhdecclndfaaR6
import Derived.Test.YtbdnhdecclndfaaOpens
import Derived.Deep.CutBlock
namespace Go.Proofs.Ytbdnhdecclndfaa.Fn
open Go Go.RowKit Go.Proofs.Ytbdnhdecclndfaa.Can Go.Proofs.Ytbdnhdecclndfaa.Base
attribute [local go_sem] clsB AB.cell Wv

/-- A call at a ring. -/
structure Act where
  text : ByteArray
  n : Int
def actE (s : Act) : List Value := [.string s.text, .int .i64 s.n]
def actT : Ty Act := Ty.flat 2 actE (fun _ => rfl) (fun _ u hu => by simp [actE] at hu; rcases hu with rfl | rfl <;> rfl)
theorem act_get {w : World} {S : Nat → Prop} {A : Option Addr} {n : Nat} {l : List Act} (h : Row actT w S A n l) (k : Nat) (hk : k < n) :
    ∃ b off s, A = some ⟨b, off, none⟩ ∧ b < w.heap.size ∧ l[k]? = some s ∧ w.cell? ⟨b, off + k * 2, none⟩ = some (.string s.text) ∧ w.cell? ⟨b, off + k * 2 + 1, none⟩ = some (.int .i64 s.n) := by
  obtain ⟨b, off, cs, he, hs, hr, hcell⟩ := h.get k hk
  have hr' : cs = actE _ := hr
  subst hr'
  have h0 := hcell 0 _ rfl
  exact ⟨b, off, _, he, World.block_lt_of_cell? w _ h0, List.getElem?_eq_getElem _, h0, hcell 1 _ rfl⟩
theorem opens31 : Opens Try.prog 31 actT (fun _ => True) :=
  (opens_struct2 (a := Ty.str) (b := Ty.int .i64) Try.underlying31 (opens_str Try.underlying9) (opens_int Try.underlying3) rfl rfl (by kernel_rfl) (by kernel_rfl) (by kernel_rfl)).map (fun x => ⟨x.1, x.2⟩) (fun _ _ => trivial) (by
    rintro w S x cs ⟨c0, c1, rfl, h0, h1⟩
    have h0' : c0 = [.string x.1] := h0
    have h1' : c1 = [.int .i64 x.2] := h1
    subst h0' h1'
    rfl)
theorem opens22 : Opens Try.prog 22 (Ty.slice actT (by decide)) (fun _ => True) :=
  (opens_slice Try.underlying22 (by kernel_rfl) (by decide) opens31).map id (fun _ _ => trivial) (fun _ _ _ _ h => h)

theorem bl_app (a b : ByteArray) : bl (a ++ b) = bl a ++ bl b := by simp [bl]
theorem Rg.sets {w : World} {p r m fl : Nat} {all rs : List UInt8} (h : Rg w p r m fl all rs) {g : Nat} (hp : p ≠ g) (hr : r ≠ g) (x y z : Value) : Rg (((w.setCell ⟨g, 0, none⟩ x).setCell ⟨g, 1, none⟩ y).setCell ⟨g, 2, none⟩ z) p r m fl all rs :=
  h.move ((Below.heap_setCell _ ⟨g, 2, none⟩ z p hp).trans ((Below.heap_setCell _ ⟨g, 1, none⟩ y p hp).trans (Below.heap_setCell _ ⟨g, 0, none⟩ x p hp))) ((Below.heap_setCell _ ⟨g, 2, none⟩ z r hr).trans ((Below.heap_setCell _ ⟨g, 1, none⟩ y r hr).trans (Below.heap_setCell _ ⟨g, 0, none⟩ x r hr)))
theorem one_toList (b : UInt8) : (⟨#[b]⟩ : ByteArray).toList.isEmpty = false := by
  unfold ByteArray.toList ByteArray.toList.loop
  rw [if_pos (show 0 < (⟨#[b]⟩ : ByteArray).size from Nat.zero_lt_one)]
  unfold ByteArray.toList.loop
  rw [if_neg (show ¬ 0 + 1 < (⟨#[b]⟩ : ByteArray).size from Nat.lt_irrefl 1)]
  rfl
theorem conv1 (b : UInt8) (W : World) : (convert 41 9 (.slice (some ⟨W.heap.size, 0, none⟩) 1 1)).run Try.prog (W.alloc (.cells #[.int .u8 (b.toNat : Int)] 5)) = .ok (.string ⟨#[b]⟩) (W.alloc (.cells #[.int .u8 (b.toNat : Int)] 5)) :=
  run_convert_bytes_back (P := Try.prog) _ 41 9 5 ⟨W.heap.size, 0, none⟩ 1 [b] Try.underlying41 Try.underlying5 Try.underlying9 (fun x hx => by
    obtain rfl : x = 0 := by simpa using hx
    exact blk_cell (blk_new W (.cells #[.int .u8 (b.toNat : Int)] 5) _ rfl) 0 _ rfl)
theorem textL_one {all : List UInt8} {fl n : Nat} {b : UInt8} (h1 : fl ≤ n) (h2 : all[n]? = some b) : textL all fl (n : Int) ((n : Int) + 1) = [b] := by
  have hn : n < all.length := (List.getElem?_eq_some_iff.1 h2).1
  have h3 : loN (n : Int) fl = n := by unfold loN; rw [if_neg (by omega)]; omega
  have h4 : hiN ((n : Int) + 1) all.length = n + 1 := by unfold hiN; rw [if_neg (by omega)]; omega
  unfold textL
  rw [h3, h4, List.take_add_one, h2, List.drop_append_of_le_length (by rw [List.length_take]; omega), List.drop_eq_nil_of_le (by rw [List.length_take]; omega)]
  rfl
theorem textL_none {all : List UInt8} {fl n : Nat} (h1 : n < fl) (h2 : n < all.length) : textL all fl (n : Int) ((n : Int) + 1) = [] := by
  have h3 : loN (n : Int) fl = fl := by unfold loN; rw [if_pos (by omega)]; omega
  have h4 : hiN ((n : Int) + 1) all.length = n + 1 := by unfold hiN; rw [if_neg (by omega)]; omega
  unfold textL
  rw [h3, h4, List.drop_eq_nil_of_le (by rw [List.length_take]; omega)]
set_option maxRecDepth 20000 in
set_option maxHeartbeats 4000000 in
theorem plays_calls (room q0 q1 : Int) (A : Option Addr) (c : Nat) (xs : List Act) (S : Nat → Prop) (w : World) (hS : ∀ k, S k → k < w.heap.size) (hC : Row actT w S A xs.length xs) :
    Calls Try.prog 3 #[.int .i64 room, .slice A xs.length c, .agg #[.int .i64 q0, .int .i64 q1]] w fun e w' => e = .returned (.bool true) ∧ Below w.heap.size w w' := by
  have hc := hC.le
  have HS := Hd.mk hS; clear hS
  have HC := Hd.mk hC; clear hC
  by_cases hlong : 60 < xs.length
  · go_enter Try.func3, Try.ntmps3
    go_wp2_with (go_at_call 5; refine Calls.mono (alive_calls _) ?_; rintro e w1 ⟨rfl, hb1⟩)
    go_ret
    exact ⟨rfl, below_seq (by repeat (first | (with_reducible assumption) | (with_reducible exact Below.refl _ _) | (with_reducible apply below_drewL) | (with_reducible apply below_alloc) | (with_reducible apply below_drew1) | (with_reducible apply below_drewN) | (refine below_set ?_ (by first | omega | (simp only [size_alloc, size_drew, size_set]; omega)) _ _))) hb1⟩
  · have hm1 := roomN_pos room
    go_enter Try.func3, Try.ntmps3
    go_wp2_with (first
      | (go_at_call 7; go_must (refine Calls.mono (rnew_calls room w1) ?_; rintro e w2 ⟨rfl, hb2⟩; have HD := Hd.mk (HD1.out.below hb2); have HB := Hd.mk (below_seq HB1.out hb2); have hq0 := blk_below hq1 hb2; clear hb2 hq1))
      | (go_at_call 6; go_must (refine Calls.mono (new_calls room _) ?_; rintro e w1 ⟨p, r, rs, rfl, hp, hr, h0, hb1⟩; have HD1 := Hd.mk h0; clear h0; have hq1 := blk_below (blk_new w (.cells #[.int .i64 q0, .int .i64 q1] 23) _ rfl) hb1; have HB1 : Hd (Below w.heap.size w w1) := ⟨below_seq (below_alloc (Below.refl _ _) _) hb1⟩; clear hb1)))
    generalize roomN room = m at *
    generalize hV : World.alloc _ _ = V
    have HBV : Below w2.heap.size w2 V := below_of hV (by repeat (first | (with_reducible assumption) | (with_reducible exact Below.refl _ _) | (with_reducible apply below_drewL) | (with_reducible apply below_alloc) | (with_reducible apply below_drew1) | (with_reducible apply below_drewN) | (refine below_set ?_ (by first | omega | (simp only [size_alloc, size_drew, size_set]; omega)) _ _)))
    have zV : Hd (V.heap.size = w2.heap.size + 1) := ⟨by rw [← hV]; simp only [size_alloc]⟩
    have V0 := at_of hV (blk_new _ _ _ rfl)
    have V0l := blk_lt V0
    clear hV
    have HV := Hd.mk (below_seq HB.out HBV)
    have HDV := Hd.mk (HD.out.below HBV)
    have HQ0 := Hd.mk (blk_below hq0 HBV)
    have hpg : p < w2.heap.size := blk_lt HD.out.str
    have hrg : r < w2.heap.size := HD.out.row.lt
    simp only [size_alloc] at hp hr
    clear HBV HB HD hq0 HD1 HB1 V0l zV
    have HV0 := Hd.mk V0; clear V0
    generalize w2.heap.size = g at *
    go_loopw [26] (fun i wr => ∃ (k fl : Nat) (all rs : List UInt8) (B : ByteArray), k ≤ xs.length ∧ i = .int .i64 k ∧ Hd (Rg wr p r m fl all rs) ∧ Hd (wr.heap[g]? = some (.cells #[.int .i64 m, .string B, .int .i64 fl] 28 (0, 0))) ∧ Hd (bl B = all) ∧ Hd (all.length ≤ 200 * k) ∧ Hd (wr.heap[w.heap.size]? = some (.cells #[.int .i64 q0, .int .i64 q1] 23 (0, 0))) ∧ Hd (Below w.heap.size w wr)) (fun i _ => xs.length - (intOf i).toNat)
    case atStart => exact ⟨0, 0, [], rs, ByteArray.empty, Nat.zero_le _, rfl, HDV, HV0, ⟨rfl⟩, ⟨Nat.zero_le _⟩, HQ0, HV⟩
    case round =>
      clear HDV HQ0 HV HV0
      obtain ⟨k, fl, all, rs, B, hk, rfl, HD, HG, HBA, HL, HQ0, HB⟩ := hrel
      by_cases hlt : k < xs.length
      · obtain ⟨b, off, s, rfl, hb1, _, hp0, hp1⟩ := act_get (HC.out.below HS.out HB.out) k hlt
        by_cases h200 : 200 < s.text.size
        · have h201 : (200 : Int) < s.text.size := by omega
          go_wp2_with (go_at_call 5; refine Calls.mono (alive_calls _) ?_; rintro e w1 ⟨rfl, hb1⟩)
          go_ret
          exact ⟨rfl, below_seq HB.out (below_seq (below_alloc (Below.refl _ _) _) hb1)⟩
        · have h201 : ¬ (200 : Int) < s.text.size := by omega
          have hpw : p < wr.heap.size := blk_lt HD.out.str
          have hrw : r < wr.heap.size := HD.out.row.lt
          have hgw : g < wr.heap.size := blk_lt HG.out
          have hqw : w.heap.size < wr.heap.size := blk_lt HQ0.out
          have hqg : ¬ w.heap.size = g := by omega
          have hal : all.length ≤ 12000 := by have := HL.out; omega
          have hBs : B.size = all.length := by rw [← bl_len, HBA.out]
          have hfle := HD.out.fle
          have hroom := HD.out.room
          have HBs := Hd.mk hBs; clear hBs
          go_upto_if 37 with fail
          go_cut [11, 12, 37] (fun t11 t12 _ wx => ∃ (nn fl' : Nat) (all' rs' : List UInt8) (B' : ByteArray), t11 = .int .i64 nn ∧ t12 = .int .i64 nn ∧ Hd (Rg wx p r m fl' all' rs') ∧ Hd (wx.heap[g]? = some (.cells #[.int .i64 m, .string B', .int .i64 fl'] 28 (0, 0))) ∧ Hd (bl B' = all') ∧ Hd (all'.length ≤ 200 * (k + 1)) ∧ Hd (wx.heap[w.heap.size]? = some (.cells #[.int .i64 q0, .int .i64 q1] 23 (0, 0))) ∧ Hd (Below w.heap.size w wx))
          case first =>
            cases hem : s.text.toList.isEmpty with
            | false =>
              obtain ⟨n, hn⟩ : ∃ n, min s.text.size (fl + m - all.length) = n := ⟨_, rfl⟩
              have hns : n ≤ s.text.size := by rw [← hn]; exact Nat.min_le_left _ _
              have HN := Hd.mk hn; clear hn
              go_wp2_with (first
                | (go_at_call 9; go_must (refine Calls.mono (rput_calls s.text (m := m) (fl := fl) (A := B) hm1.2 (by rw [HBs.out]; omega) (by rw [HBs.out]; omega) (by rw [HBs.out]; omega) w3) ?_; rintro e w4 ⟨he, hb4⟩; rw [HBs.out, HN.out] at he; subst he; have hg4 := blk_below hg3 hb4; clear hg3c0 hg3f0 hg3c1 hg3f1 hg3c2 hg3f2 hg3l; have hg4c0 := blk_cell hg4 0 _ rfl; have hg4f0 := blk_frozen hg4 0; have hg4c1 := blk_cell hg4 1 _ rfl; have hg4f1 := blk_frozen hg4 1; have hg4c2 := blk_cell hg4 2 _ rfl; have hg4f2 := blk_frozen hg4 2; have hg4l := blk_lt hg4))
                | (go_at_call 8; go_must (refine Calls.mono (put_calls s.text (HD.out.below (by repeat (first | (with_reducible assumption) | (with_reducible exact Below.refl _ _) | (with_reducible apply below_drewL) | (with_reducible apply below_alloc) | (with_reducible apply below_drew1) | (with_reducible apply below_drewN) | (refine below_set ?_ (by first | omega | (simp only [size_alloc, size_drew, size_set]; omega)) _ _)))) (by omega)) ?_; rintro e w3 ⟨he, ⟨rs3, h3⟩, f2⟩; rw [HN.out] at he h3; subst he; have HD3 := Hd.mk h3; clear h3; have hv := f2.blk (blk_new _ _ _ rfl) (by omega); have hvc0 := blk_cell hv 0 _ rfl; have hvf0 := blk_frozen hv 0; have hvc1 := blk_cell hv 1 _ rfl; have hvf1 := blk_frozen hv 1; have hvl := blk_lt hv; have hg3 := f2.blk (blk_alloc HG.out _) (by omega); have hg3c0 := blk_cell hg3 0 _ rfl; have hg3f0 := blk_frozen hg3 0; have hg3c1 := blk_cell hg3 1 _ rfl; have hg3f1 := blk_frozen hg3 1; have hg3c2 := blk_cell hg3 2 _ rfl; have hg3f2 := blk_frozen hg3 2; have hg3l := blk_lt hg3; have HQ3 := Hd.mk (f2.blk (blk_alloc HQ0.out _) (by omega)); have HB3 : Hd (Below w.heap.size w w3) := ⟨Fr.seq (below_seq HB.out (by repeat (first | (with_reducible assumption) | (with_reducible exact Below.refl _ _) | (with_reducible apply below_drewL) | (with_reducible apply below_alloc) | (with_reducible apply below_drew1) | (with_reducible apply below_drewN) | (refine below_set ?_ (by first | omega | (simp only [size_alloc, size_drew, size_set]; omega)) _ _)))) f2 (by simp only [size_alloc]; have := HB.out.size; omega) (fun b hb hx => by omega)⟩)))
              go_meet
              case rel => exact ⟨n, fl, _, rs3, B ++ s.text.extract 0 n, rfl, rfl, ⟨(HD3.out.below hb4).sets (by omega) (by omega) _ _ _⟩, ⟨blk_set (blk_set (blk_set hg4 0 _ _ rfl) 1 _ _ rfl) 2 _ _ rfl⟩, ⟨by rw [bl_app, HBA.out, bl_ext, List.drop_zero, Nat.sub_zero]⟩, ⟨by rw [List.length_append, List.length_take, bl_len]; have := HL.out; omega⟩, ⟨blk_far (blk_far (blk_far (blk_below HQ3.out hb4) hqg _) hqg _) hqg _⟩, ⟨by have := below_seq HB3.out hb4; exact (by repeat (first | (with_reducible assumption) | (with_reducible exact Below.refl _ _) | (with_reducible apply below_drewL) | (with_reducible apply below_alloc) | (with_reducible apply below_drew1) | (with_reducible apply below_drewN) | (refine below_set ?_ (by first | omega | (simp only [size_alloc, size_drew, size_set]; omega)) _ _)))⟩⟩
            | true =>
              obtain ⟨nf, hnf⟩ : ∃ nf, newFl s.n fl all.length = nf := ⟨_, rfl⟩
              have HNF := Hd.mk hnf; clear hnf
              go_wp2_with (first
                | (go_at_call 11; go_must (refine Calls.mono (rraise_calls s.n (m := m) (fl := fl) (A := B) (by rw [HBs.out]; omega) (by rw [HBs.out]; omega) w3) ?_; rintro e w4 ⟨he, hb4⟩; rw [HBs.out, HNF.out] at he; subst he; have hg4 := blk_below hg3 hb4; clear hg3c0 hg3f0 hg3c1 hg3f1 hg3c2 hg3f2 hg3l; have hg4c0 := blk_cell hg4 0 _ rfl; have hg4f0 := blk_frozen hg4 0; have hg4c1 := blk_cell hg4 1 _ rfl; have hg4f1 := blk_frozen hg4 1; have hg4c2 := blk_cell hg4 2 _ rfl; have hg4f2 := blk_frozen hg4 2; have hg4l := blk_lt hg4))
                | (go_at_call 10; go_must (refine Calls.mono (raise_calls s.n (HD.out.below (by repeat (first | (with_reducible assumption) | (with_reducible exact Below.refl _ _) | (with_reducible apply below_drewL) | (with_reducible apply below_alloc) | (with_reducible apply below_drew1) | (with_reducible apply below_drewN) | (refine below_set ?_ (by first | omega | (simp only [size_alloc, size_drew, size_set]; omega)) _ _)))) (by omega)) ?_; rintro e w3 ⟨he, h3, f2⟩; rw [HNF.out] at he h3; subst he; have HD3 := Hd.mk h3; clear h3; have hv := f2.blk (blk_new _ _ _ rfl) (by omega); have hvc0 := blk_cell hv 0 _ rfl; have hvf0 := blk_frozen hv 0; have hvc1 := blk_cell hv 1 _ rfl; have hvf1 := blk_frozen hv 1; have hvl := blk_lt hv; have hg3 := f2.blk (blk_alloc HG.out _) (by omega); have hg3c0 := blk_cell hg3 0 _ rfl; have hg3f0 := blk_frozen hg3 0; have hg3c1 := blk_cell hg3 1 _ rfl; have hg3f1 := blk_frozen hg3 1; have hg3c2 := blk_cell hg3 2 _ rfl; have hg3f2 := blk_frozen hg3 2; have hg3l := blk_lt hg3; have HQ3 := Hd.mk (f2.blk (blk_alloc HQ0.out _) (by omega)); have HB3 : Hd (Below w.heap.size w w3) := ⟨Fr.seq (below_seq HB.out (by repeat (first | (with_reducible assumption) | (with_reducible exact Below.refl _ _) | (with_reducible apply below_drewL) | (with_reducible apply below_alloc) | (with_reducible apply below_drew1) | (with_reducible apply below_drewN) | (refine below_set ?_ (by first | omega | (simp only [size_alloc, size_drew, size_set]; omega)) _ _)))) f2 (by simp only [size_alloc]; have := HB.out.size; omega) (fun b hb hx => by omega)⟩)))
              go_meet
              case rel => exact ⟨nf - fl, nf, all, rs, B, rfl, rfl, ⟨(HD3.out.below hb4).sets (by omega) (by omega) _ _ _⟩, ⟨blk_set (blk_set (blk_set hg4 0 _ _ rfl) 1 _ _ rfl) 2 _ _ rfl⟩, HBA, ⟨by have := HL.out; omega⟩, ⟨blk_far (blk_far (blk_far (blk_below HQ3.out hb4) hqg _) hqg _) hqg _⟩, ⟨by have := below_seq HB3.out hb4; exact (by repeat (first | (with_reducible assumption) | (with_reducible exact Below.refl _ _) | (with_reducible apply below_drewL) | (with_reducible apply below_alloc) | (with_reducible apply below_drew1) | (with_reducible apply below_drewN) | (refine below_set ?_ (by first | omega | (simp only [size_alloc, size_drew, size_set]; omega)) _ _)))⟩⟩
          case rest =>
            clear HD HG HBA HL HQ0 HB hpw hrw hgw hqw hal hfle hroom HBs
            obtain ⟨nn, fl', all', rs', B', rfl, rfl, HD, HG, HBA, HL, HQ0, HB⟩ := hcut
            have hal : all'.length ≤ 1000000000 := by have := HL.out; omega
            obtain ⟨e2, he2⟩ : ∃ e2, all'.length = e2 := ⟨_, rfl⟩
            have hbs : B'.size = e2 := by rw [← he2, ← bl_len, HBA.out]
            have hfle := HD.out.fle
            have hroom := HD.out.room
            have HAL := Hd.mk hal
            rw [he2] at hal hfle hroom
            obtain ⟨d, hd⟩ : ∃ d, e2 - fl' = d := ⟨_, rfl⟩
            obtain ⟨lf, hlf⟩ : ∃ lf, fl' + m - e2 = lf := ⟨_, rfl⟩
            have hdI : (e2 : Int) - fl' = d := by omega
            have hlI : (m : Int) - d = lf := by omega
            have hd1 : d ≤ m := by omega
            have HE2 := Hd.mk he2; have HDD := Hd.mk hd; have HLF := Hd.mk hlf
            have hg := HG.out
            have hgc0 := blk_cell hg 0 _ rfl; have hgf0 := blk_frozen hg 0; have hgc1 := blk_cell hg 1 _ rfl; have hgf1 := blk_frozen hg 1; have hgc2 := blk_cell hg 2 _ rfl; have hgf2 := blk_frozen hg 2; have hgl := blk_lt hg
            clear he2 hd hlf hg
            go_wp2
            try dsimp only [List.append]
            refine wp_region_can (.q [0, 1, 2, 3, 4, 6, 7] (.e 5 true (.q [8, 9, 10, 11, 13, 14, 15] (.e 12 true (.q [16, 17, 18, 19, 21, 22, 23, 24, 25, 26] (.e 20 true (.q [27, 28, 29, 30, 32, 33, 34] (.e 31 true (.e 35 true (.q [36, 37, 38] (.done))))))))))) (clsB _) (by kernel_rfl) (by kernel_rfl) (by intro _ _ d _ _ h; cases d <;> exact h) (clsB_drew _) ?_
            refine can_q (l := [⟨_,_,_,_,_,_⟩, ⟨_,_,_,_,_,_⟩, ⟨_,_,_,_,_,_⟩, ⟨_,_,_,_,_,_⟩, ⟨_,_,_,_,_,_⟩, ⟨_,_,_,_,_,_⟩, ⟨_,_,_,_,_,_⟩]) rfl ?_
            repeat (go_big_quiet_step (fail))
            refine wpQuiet_nil ?_
            refine can_e (o := ⟨_,_,_,_,_,_⟩) rfl (fun K hK => ?_)
            go_wp2_with (go_at_call 12; go_must (refine Calls.mono (floor_calls (HD.out.below (by repeat (first | (with_reducible assumption) | (with_reducible exact Below.refl _ _) | (with_reducible apply below_drewL) | (with_reducible apply below_alloc) | (with_reducible apply below_drew1) | (with_reducible apply below_drewN) | (refine below_set ?_ (by first | omega | (simp only [size_alloc, size_drew, size_set]; omega)) _ _))))) ?_; rintro e w2 ⟨rfl, rfl⟩))
            refine onK_normal (hK _ _ ⟨clsB _, clsB_of (by first | exact ((Below.refl _ _)) | exact below_undrew ((Below.refl _ _))), fun _ _ h => h, ?_⟩)
            clear hK K
            refine can_q (l := [⟨_,_,_,_,_,_⟩, ⟨_,_,_,_,_,_⟩, ⟨_,_,_,_,_,_⟩, ⟨_,_,_,_,_,_⟩, ⟨_,_,_,_,_,_⟩, ⟨_,_,_,_,_,_⟩, ⟨_,_,_,_,_,_⟩]) rfl ?_
            repeat (go_big_quiet_step (fail))
            refine wpQuiet_nil ?_
            refine can_e (o := ⟨_,_,_,_,_,_⟩) rfl (fun K hK => ?_)
            go_wp2_with (go_at_call 13; go_must (refine Calls.mono (end_calls (HD.out.below (by repeat (first | (with_reducible assumption) | (with_reducible exact Below.refl _ _) | (with_reducible apply below_drewL) | (with_reducible apply below_alloc) | (with_reducible apply below_drew1) | (with_reducible apply below_drewN) | (refine below_set ?_ (by first | omega | (simp only [size_alloc, size_drew, size_set]; omega)) _ _))))) ?_; rintro e w2 ⟨he, rfl⟩; rw [HE2.out] at he; subst he))
            refine onK_normal (hK _ _ ⟨clsB _, clsB_of (by first | exact ((Below.refl _ _)) | exact below_undrew ((Below.refl _ _))), fun _ _ h => h, ?_⟩)
            clear hK K
            refine can_q (l := [⟨_,_,_,_,_,_⟩, ⟨_,_,_,_,_,_⟩, ⟨_,_,_,_,_,_⟩, ⟨_,_,_,_,_,_⟩, ⟨_,_,_,_,_,_⟩, ⟨_,_,_,_,_,_⟩, ⟨_,_,_,_,_,_⟩, ⟨_,_,_,_,_,_⟩, ⟨_,_,_,_,_,_⟩, ⟨_,_,_,_,_,_⟩]) rfl ?_
            repeat (go_big_quiet_step (fail))
            refine wpQuiet_nil ?_
            refine can_e (o := ⟨_,_,_,_,_,_⟩) rfl (fun K hK => ?_)
            go_wp2_with (go_at_call 14; go_must (refine Calls.mono (len_calls (HD.out.below (by repeat (first | (with_reducible assumption) | (with_reducible exact Below.refl _ _) | (with_reducible apply below_drewL) | (with_reducible apply below_alloc) | (with_reducible apply below_drew1) | (with_reducible apply below_drewN) | (refine below_set ?_ (by first | omega | (simp only [size_alloc, size_drew, size_set]; omega)) _ _)))) HAL.out) ?_; rintro e w2 ⟨he, rfl⟩; rw [HE2.out, HDD.out] at he; subst he))
            refine onK_normal (hK _ _ ⟨clsB _, clsB_of (by first | exact ((Below.refl _ _)) | exact below_undrew ((Below.refl _ _))), fun _ _ h => h, ?_⟩)
            clear hK K
            refine can_q (l := [⟨_,_,_,_,_,_⟩, ⟨_,_,_,_,_,_⟩, ⟨_,_,_,_,_,_⟩, ⟨_,_,_,_,_,_⟩, ⟨_,_,_,_,_,_⟩, ⟨_,_,_,_,_,_⟩, ⟨_,_,_,_,_,_⟩]) rfl ?_
            repeat (go_big_quiet_step (fail))
            refine wpQuiet_nil ?_
            refine can_e (o := ⟨_,_,_,_,_,_⟩) rfl (fun K hK => ?_)
            go_wp2_with (go_at_call 15; go_must (refine Calls.mono (left_calls (HD.out.below (by repeat (first | (with_reducible assumption) | (with_reducible exact Below.refl _ _) | (with_reducible apply below_drewL) | (with_reducible apply below_alloc) | (with_reducible apply below_drew1) | (with_reducible apply below_drewN) | (refine below_set ?_ (by first | omega | (simp only [size_alloc, size_drew, size_set]; omega)) _ _)))) HAL.out) ?_; rintro e w3 ⟨he, hb3⟩; rw [HE2.out, HLF.out] at he; subst he; replace hb3 := below_undrew hb3; have HB3 := Hd.mk hb3; clear hb3))
            refine onK_normal (hK _ _ ⟨clsB _, clsB_of (by first | exact (HB3.out) | exact below_undrew (HB3.out)), fun _ _ h => h, ?_⟩)
            clear hK K
            refine can_e (o := ⟨_,_,_,_,_,_⟩) rfl (fun K hK => ?_)
            go_wp2_with (go_at_call 14; go_must (refine Calls.mono (len_calls (HD.out.below HB3.out) HAL.out) ?_; rintro e w4 ⟨he, rfl⟩; rw [HE2.out, HDD.out] at he; subst he))
            refine onK_normal (hK _ _ ⟨clsB _, clsB_of (by first | exact (HB3.out) | exact below_undrew (HB3.out)), fun _ _ h => h, ?_⟩)
            clear hK K
            refine can_q (l := [⟨_,_,_,_,_,_⟩, ⟨_,_,_,_,_,_⟩, ⟨_,_,_,_,_,_⟩]) rfl ?_
            repeat (go_big_quiet_step (fail))
            refine wpQuiet_nil ?_
            refine can_done ?_
            go_wp2
            go_roundw
            case rel => exact ⟨k + 1, fl', all', rs', B', by omega, by go_num, ⟨HD.out.below HB3.out⟩, ⟨blk_below HG.out HB3.out⟩, HBA, HL, ⟨blk_below HQ0.out HB3.out⟩, ⟨below_seq HB.out HB3.out⟩⟩
            case measure => simp [intOf]; omega
      · obtain rfl : k = xs.length := by omega
        have HAL : Hd (all.length ≤ 1000000000) := ⟨by have := HL.out; omega⟩
        have hal := HAL.out
        have hBs : B.size = all.length := by rw [← bl_len, HBA.out]
        have hfle := HD.out.fle
        obtain ⟨e2, he2⟩ : ∃ e2, all.length = e2 := ⟨_, rfl⟩
        have HBs := Hd.mk hBs
        rw [he2] at hBs hal
        obtain ⟨T, hT⟩ : ∃ T : ByteArray, (⟨(textL all fl q0 q1).toArray⟩ : ByteArray) = T := ⟨_, rfl⟩
        have HT := Hd.mk hT; have HE2 := Hd.mk he2
        have hg := HG.out
        have hqq := HQ0.out
        have hgw := blk_lt hg
        have hqw := blk_lt hqq
        clear hT
        by_cases hq0 : q0 < 0 ∨ (e2 : Int) ≤ q0
        · have hnx : (0 ≤ q0 ∧ q0 < (e2 : Int)) = False := by simp only [eq_iff_iff, iff_false]; omega
          have hno : q0 < fl ∨ (all.length : Int) ≤ q0 := by omega
          have HNO := Hd.mk hno; clear hno
          clear he2 hnx
          rcases hq0 with hq0 | hq0
          all_goals
            have hqqc0 := blk_cell hqq 0 _ rfl; have hqqf0 := blk_frozen hqq 0; have hqqc1 := blk_cell hqq 1 _ rfl; have hqqf1 := blk_frozen hqq 1; have hqql := blk_lt hqq
            have hgc0 := blk_cell hg 0 _ rfl; have hgf0 := blk_frozen hg 0; have hgc1 := blk_cell hg 1 _ rfl; have hgf1 := blk_frozen hg 1; have hgc2 := blk_cell hg 2 _ rfl; have hgf2 := blk_frozen hg 2; have hgl := blk_lt hg
            go_wp2_with (go_at_call 16; go_must (refine Calls.mono (atno_calls q0 HD.out HNO.out) ?_; rintro e w3 ⟨rfl, hb3⟩; have hg3 := blk_below hg hb3; have hq3 := blk_below hqq hb3; clear hqqc0 hqqf0 hqqc1 hqqf1 hqql; clear hgc0 hgf0 hgc1 hgf1 hgc2 hgf2 hgl; have hg3c0 := blk_cell hg3 0 _ rfl; have hg3f0 := blk_frozen hg3 0; have hg3c1 := blk_cell hg3 1 _ rfl; have hg3f1 := blk_frozen hg3 1; have hg3c2 := blk_cell hg3 2 _ rfl; have hg3f2 := blk_frozen hg3 2; have hg3l := blk_lt hg3; have hq3c0 := blk_cell hq3 0 _ rfl; have hq3f0 := blk_frozen hq3 0; have hq3c1 := blk_cell hq3 1 _ rfl; have hq3f1 := blk_frozen hq3 1; have hq3l := blk_lt hq3; have HD7 := Hd.mk (HD.out.below hb3); have HB7 := Hd.mk (below_seq HB.out hb3); clear hb3))
            refine wp_region_can (.q [0, 1, 2, 3, 4, 6, 7, 8, 9, 10] (.e 5 true (.e 11 true (.q [12, 13] (.e 14 false (.q [15, 16] (.done))))))) (clsB _) (by kernel_rfl) (by kernel_rfl) (by intro _ _ d _ _ h; cases d <;> exact h) (clsB_drew _) ?_
            refine can_q (l := [⟨_,_,_,_,_,_⟩, ⟨_,_,_,_,_,_⟩, ⟨_,_,_,_,_,_⟩, ⟨_,_,_,_,_,_⟩, ⟨_,_,_,_,_,_⟩, ⟨_,_,_,_,_,_⟩, ⟨_,_,_,_,_,_⟩, ⟨_,_,_,_,_,_⟩, ⟨_,_,_,_,_,_⟩, ⟨_,_,_,_,_,_⟩]) rfl ?_
            repeat (go_big_quiet_step (fail))
            refine wpQuiet_nil ?_
            refine can_e (o := ⟨_,_,_,_,_,_⟩) rfl (fun K hK => ?_)
            go_wp2_with (go_at_call 18; go_must (refine Calls.mono (text_calls q0 q1 (HD7.out.below (by repeat (first | (with_reducible assumption) | (with_reducible exact Below.refl _ _) | (with_reducible apply below_drewL) | (with_reducible apply below_alloc) | (with_reducible apply below_drew1) | (with_reducible apply below_drewN) | (refine below_set ?_ (by first | omega | (simp only [size_alloc, size_drew, size_set]; omega)) _ _)))) HAL.out) ?_; rintro e w5 ⟨he, hb5⟩; rw [HT.out] at he; subst he; replace hb5 := below_undrew hb5; have HB5 := Hd.mk hb5; clear hb5))
            refine onK_normal (hK _ _ ⟨clsB _, clsB_of (by first | exact (HB5.out) | exact below_undrew (HB5.out)), fun _ _ h => h, ?_⟩)
            clear hK K
            refine can_e (o := ⟨_,_,_,_,_,_⟩) rfl (fun K hK => ?_)
            go_wp2_with (go_at_call 17; go_must (refine Calls.mono (rtext_calls q0 q1 (m := m) (fl := fl) (A := B) (by rw [HBs.out]; exact HAL.out) (by rw [HBs.out]; exact hfle) w5) ?_; rintro e w6 ⟨he, hb6⟩; rw [HBA.out, HT.out] at he; subst he; have HB6 := Hd.mk (below_seq HB5.out hb6); clear hb6))
            refine onK_normal (hK _ _ ⟨clsB _, clsB_of (by first | exact (HB6.out) | exact below_undrew (HB6.out)), fun _ _ h => h, ?_⟩)
            clear hK K
            refine can_q (l := [⟨_,_,_,_,_,_⟩, ⟨_,_,_,_,_,_⟩]) rfl ?_
            repeat (go_big_quiet_step (fail))
            refine wpQuiet_nil ?_
            refine can_e (o := ⟨_,_,_,_,_,_⟩) rfl (fun K hK => ?_)
            go_wp2_with (go_at_call 5; go_must (refine Calls.mono (alive_calls _) ?_; rintro e w7 ⟨rfl, hb7⟩))
            refine onK_normal (hK _ _ ⟨fun _ => True, trivial, (fun h => by cases h), ?_⟩)
            clear hK K
            refine can_q (l := [⟨_,_,_,_,_,_⟩, ⟨_,_,_,_,_,_⟩]) rfl ?_
            repeat (go_big_quiet_step (fail))
            refine wpQuiet_nil ?_
            refine can_done ?_
            go_wp2
            go_ret
            exact ⟨rfl, below_seq HB7.out (below_seq HB6.out hb7)⟩
        · obtain ⟨n, rfl⟩ : ∃ n : Nat, q0 = n := ⟨q0.toNat, by omega⟩
          have hn2 : (n : Int) < e2 := by omega
          by_cases hnf : n < fl
          · have HNO : Hd ((n : Int) < fl ∨ (all.length : Int) ≤ n) := ⟨.inl (by omega)⟩
            have HX : Hd (textL all fl (n : Int) ((n : Int) + 1) = []) := ⟨textL_none hnf (by omega)⟩
            clear he2 hq0
            have hqqc0 := blk_cell hqq 0 _ rfl; have hqqf0 := blk_frozen hqq 0; have hqqc1 := blk_cell hqq 1 _ rfl; have hqqf1 := blk_frozen hqq 1; have hqql := blk_lt hqq
            have hgc0 := blk_cell hg 0 _ rfl; have hgf0 := blk_frozen hg 0; have hgc1 := blk_cell hg 1 _ rfl; have hgf1 := blk_frozen hg 1; have hgc2 := blk_cell hg 2 _ rfl; have hgf2 := blk_frozen hg 2; have hgl := blk_lt hg
            go_wp2_with (first
              | (go_at_call 17; go_must (refine Calls.mono (rtext_calls n ((n : Int) + 1) (m := m) (fl := fl) (A := B) (by rw [HBs.out]; exact HAL.out) (by rw [HBs.out]; exact hfle) w3) ?_; rintro e w4 ⟨he, hb4⟩; rw [HBA.out, HX.out] at he; obtain rfl : e = .returned (.string ByteArray.empty) := he; have hg4 := blk_below hg3 hb4; have hq4 := blk_below hq3 hb4; clear hg3c0 hg3f0 hg3c1 hg3f1 hg3c2 hg3f2 hg3l; clear hq3c0 hq3f0 hq3c1 hq3f1 hq3l; have hg4c0 := blk_cell hg4 0 _ rfl; have hg4f0 := blk_frozen hg4 0; have hg4c1 := blk_cell hg4 1 _ rfl; have hg4f1 := blk_frozen hg4 1; have hg4c2 := blk_cell hg4 2 _ rfl; have hg4f2 := blk_frozen hg4 2; have hg4l := blk_lt hg4; have hq4c0 := blk_cell hq4 0 _ rfl; have hq4f0 := blk_frozen hq4 0; have hq4c1 := blk_cell hq4 1 _ rfl; have hq4f1 := blk_frozen hq4 1; have hq4l := blk_lt hq4; have HD7 := Hd.mk (HD3.out.below hb4); have HB7 := Hd.mk (below_seq HB3.out hb4); clear hb4))
              | (go_at_call 16; go_must (refine Calls.mono (atno_calls n HD.out HNO.out) ?_; rintro e w3 ⟨rfl, hb3⟩; have hg3 := blk_below hg hb3; have hq3 := blk_below hqq hb3; clear hqqc0 hqqf0 hqqc1 hqqf1 hqql; clear hgc0 hgf0 hgc1 hgf1 hgc2 hgf2 hgl; have hg3c0 := blk_cell hg3 0 _ rfl; have hg3f0 := blk_frozen hg3 0; have hg3c1 := blk_cell hg3 1 _ rfl; have hg3f1 := blk_frozen hg3 1; have hg3c2 := blk_cell hg3 2 _ rfl; have hg3f2 := blk_frozen hg3 2; have hg3l := blk_lt hg3; have hq3c0 := blk_cell hq3 0 _ rfl; have hq3f0 := blk_frozen hq3 0; have hq3c1 := blk_cell hq3 1 _ rfl; have hq3f1 := blk_frozen hq3 1; have hq3l := blk_lt hq3; have HD3 := Hd.mk (HD.out.below hb3); have HB3 := Hd.mk (below_seq HB.out hb3); clear hb3)))
            refine wp_region_can (.q [0, 1, 2, 3, 4, 6, 7, 8, 9, 10] (.e 5 true (.e 11 true (.q [12, 13] (.e 14 false (.q [15, 16] (.done))))))) (clsB _) (by kernel_rfl) (by kernel_rfl) (by intro _ _ d _ _ h; cases d <;> exact h) (clsB_drew _) ?_
            refine can_q (l := [⟨_,_,_,_,_,_⟩, ⟨_,_,_,_,_,_⟩, ⟨_,_,_,_,_,_⟩, ⟨_,_,_,_,_,_⟩, ⟨_,_,_,_,_,_⟩, ⟨_,_,_,_,_,_⟩, ⟨_,_,_,_,_,_⟩, ⟨_,_,_,_,_,_⟩, ⟨_,_,_,_,_,_⟩, ⟨_,_,_,_,_,_⟩]) rfl ?_
            repeat (go_big_quiet_step (fail))
            refine wpQuiet_nil ?_
            refine can_e (o := ⟨_,_,_,_,_,_⟩) rfl (fun K hK => ?_)
            go_wp2_with (go_at_call 18; go_must (refine Calls.mono (text_calls (n : Int) q1 (HD7.out.below (by repeat (first | (with_reducible assumption) | (with_reducible exact Below.refl _ _) | (with_reducible apply below_drewL) | (with_reducible apply below_alloc) | (with_reducible apply below_drew1) | (with_reducible apply below_drewN) | (refine below_set ?_ (by first | omega | (simp only [size_alloc, size_drew, size_set]; omega)) _ _)))) HAL.out) ?_; rintro e w5 ⟨he, hb5⟩; rw [HT.out] at he; subst he; replace hb5 := below_undrew hb5; have HB5 := Hd.mk hb5; clear hb5))
            refine onK_normal (hK _ _ ⟨clsB _, clsB_of (by first | exact (HB5.out) | exact below_undrew (HB5.out)), fun _ _ h => h, ?_⟩)
            clear hK K
            refine can_e (o := ⟨_,_,_,_,_,_⟩) rfl (fun K hK => ?_)
            go_wp2_with (go_at_call 17; go_must (refine Calls.mono (rtext_calls (n : Int) q1 (m := m) (fl := fl) (A := B) (by rw [HBs.out]; exact HAL.out) (by rw [HBs.out]; exact hfle) w5) ?_; rintro e w6 ⟨he, hb6⟩; rw [HBA.out, HT.out] at he; subst he; have HB6 := Hd.mk (below_seq HB5.out hb6); clear hb6))
            refine onK_normal (hK _ _ ⟨clsB _, clsB_of (by first | exact (HB6.out) | exact below_undrew (HB6.out)), fun _ _ h => h, ?_⟩)
            clear hK K
            refine can_q (l := [⟨_,_,_,_,_,_⟩, ⟨_,_,_,_,_,_⟩]) rfl ?_
            repeat (go_big_quiet_step (fail))
            refine wpQuiet_nil ?_
            refine can_e (o := ⟨_,_,_,_,_,_⟩) rfl (fun K hK => ?_)
            go_wp2_with (go_at_call 5; go_must (refine Calls.mono (alive_calls _) ?_; rintro e w7 ⟨rfl, hb7⟩))
            refine onK_normal (hK _ _ ⟨fun _ => True, trivial, (fun h => by cases h), ?_⟩)
            clear hK K
            refine can_q (l := [⟨_,_,_,_,_,_⟩, ⟨_,_,_,_,_,_⟩]) rfl ?_
            repeat (go_big_quiet_step (fail))
            refine wpQuiet_nil ?_
            refine can_done ?_
            go_wp2
            go_ret
            exact ⟨rfl, below_seq HB7.out (below_seq HB6.out hb7)⟩
          · obtain ⟨b, hb⟩ : ∃ b, all[n]? = some b := ⟨_, List.getElem?_eq_getElem (by omega)⟩
            have HX : Hd (textL all fl (n : Int) ((n : Int) + 1) = [b]) := ⟨textL_one (by omega) hb⟩
            have HBB := Hd.mk hb
            have hnf2 : fl ≤ n := by omega
            obtain ⟨X, hX⟩ : ∃ X : ByteArray, (⟨#[b]⟩ : ByteArray) = X := ⟨_, rfl⟩
            have hne : X.toList.isEmpty = false := by rw [← hX]; exact one_toList b
            have hcv : ∀ W : World, (convert 41 9 (.slice (some ⟨W.heap.size, 0, none⟩) 1 1)).run Try.prog (W.alloc (.cells #[.int .u8 (b.toNat : Int)] 5)) = .ok (.string X) (W.alloc (.cells #[.int .u8 (b.toNat : Int)] 5)) := by rw [← hX]; exact conv1 b
            have HXX := Hd.mk hX
            clear he2 hq0 hb hX
            have hqqc0 := blk_cell hqq 0 _ rfl; have hqqf0 := blk_frozen hqq 0; have hqqc1 := blk_cell hqq 1 _ rfl; have hqqf1 := blk_frozen hqq 1; have hqql := blk_lt hqq
            have hgc0 := blk_cell hg 0 _ rfl; have hgf0 := blk_frozen hg 0; have hgc1 := blk_cell hg 1 _ rfl; have hgf1 := blk_frozen hg 1; have hgc2 := blk_cell hg 2 _ rfl; have hgf2 := blk_frozen hg 2; have hgl := blk_lt hg
            go_wp2_with (first
              | (go_at_call 17; go_must (refine Calls.mono (rtext_calls n ((n : Int) + 1) (m := m) (fl := fl) (A := B) (by rw [HBs.out]; exact HAL.out) (by rw [HBs.out]; exact hfle) w3) ?_; rintro e w4 ⟨he, hb4⟩; rw [HBA.out, HX.out] at he; obtain rfl : e = .returned (.string X) := (by rw [he, ← HXX.out]); have hg4 := blk_below hg3 hb4; have hq4 := blk_below hq3 hb4; clear hg3c0 hg3f0 hg3c1 hg3f1 hg3c2 hg3f2 hg3l; clear hq3c0 hq3f0 hq3c1 hq3f1 hq3l; have HG4 := Hd.mk hg4; have HQ4 := Hd.mk hq4; have hg4c0 := blk_cell hg4 0 _ rfl; have hg4f0 := blk_frozen hg4 0; have hg4c1 := blk_cell hg4 1 _ rfl; have hg4f1 := blk_frozen hg4 1; have hg4c2 := blk_cell hg4 2 _ rfl; have hg4f2 := blk_frozen hg4 2; have hg4l := blk_lt hg4; have hq4c0 := blk_cell hq4 0 _ rfl; have hq4f0 := blk_frozen hq4 0; have hq4c1 := blk_cell hq4 1 _ rfl; have hq4f1 := blk_frozen hq4 1; have hq4l := blk_lt hq4; have HD4 := Hd.mk (HD3.out.below hb4); have HB4 := Hd.mk (below_seq HB3.out hb4); clear hb4 hg4 hq4))
              | (go_at_call 16; go_must (refine Calls.mono (at_calls n HD.out hnf2 HBB.out) ?_; rintro e w3 ⟨rfl, hb3⟩; have hg3 := blk_below hg hb3; have hq3 := blk_below hqq hb3; clear hqqc0 hqqf0 hqqc1 hqqf1 hqql; clear hgc0 hgf0 hgc1 hgf1 hgc2 hgf2 hgl; have hg3c0 := blk_cell hg3 0 _ rfl; have hg3f0 := blk_frozen hg3 0; have hg3c1 := blk_cell hg3 1 _ rfl; have hg3f1 := blk_frozen hg3 1; have hg3c2 := blk_cell hg3 2 _ rfl; have hg3f2 := blk_frozen hg3 2; have hg3l := blk_lt hg3; have hq3c0 := blk_cell hq3 0 _ rfl; have hq3f0 := blk_frozen hq3 0; have hq3c1 := blk_cell hq3 1 _ rfl; have hq3f1 := blk_frozen hq3 1; have hq3l := blk_lt hq3; have HD3 := Hd.mk (HD.out.below hb3); have HB3 := Hd.mk (below_seq HB.out hb3); clear hb3)))
            generalize hU : World.alloc _ _ = U
            have HBU : Below w4.heap.size w4 U := below_of hU (by repeat (first | (with_reducible assumption) | (with_reducible exact Below.refl _ _) | (with_reducible apply below_drewL) | (with_reducible apply below_alloc) | (with_reducible apply below_drew1) | (with_reducible apply below_drewN) | (refine below_set ?_ (by first | omega | (simp only [size_alloc, size_drew, size_set]; omega)) _ _)))
            have zU : Hd (U.heap.size = w4.heap.size + 1) := ⟨by rw [← hU]; simp only [size_alloc]⟩
            have U0 := at_of hU (blk_new _ _ _ rfl)
            have U0l := blk_lt U0
            clear hU
            have HD7 := Hd.mk (HD4.out.below HBU); have HB7 := Hd.mk (below_seq HB4.out HBU)
            have hg7 := blk_below HG4.out HBU
            have hq7 := blk_below HQ4.out HBU
            clear U0 U0l zU HBU
            clear hg4c0 hg4f0 hg4c1 hg4f1 hg4c2 hg4f2 hg4l
            clear hq4c0 hq4f0 hq4c1 hq4f1 hq4l
            have hg7c0 := blk_cell hg7 0 _ rfl; have hg7f0 := blk_frozen hg7 0; have hg7c1 := blk_cell hg7 1 _ rfl; have hg7f1 := blk_frozen hg7 1; have hg7c2 := blk_cell hg7 2 _ rfl; have hg7f2 := blk_frozen hg7 2; have hg7l := blk_lt hg7
            have hq7c0 := blk_cell hq7 0 _ rfl; have hq7f0 := blk_frozen hq7 0; have hq7c1 := blk_cell hq7 1 _ rfl; have hq7f1 := blk_frozen hq7 1; have hq7l := blk_lt hq7
            refine wp_region_can (.q [0, 1, 2, 3, 4, 6, 7, 8, 9, 10] (.e 5 true (.e 11 true (.q [12, 13] (.e 14 false (.q [15, 16] (.done))))))) (clsB _) (by kernel_rfl) (by kernel_rfl) (by intro _ _ d _ _ h; cases d <;> exact h) (clsB_drew _) ?_
            refine can_q (l := [⟨_,_,_,_,_,_⟩, ⟨_,_,_,_,_,_⟩, ⟨_,_,_,_,_,_⟩, ⟨_,_,_,_,_,_⟩, ⟨_,_,_,_,_,_⟩, ⟨_,_,_,_,_,_⟩, ⟨_,_,_,_,_,_⟩, ⟨_,_,_,_,_,_⟩, ⟨_,_,_,_,_,_⟩, ⟨_,_,_,_,_,_⟩]) rfl ?_
            repeat (go_big_quiet_step (fail))
            refine wpQuiet_nil ?_
            refine can_e (o := ⟨_,_,_,_,_,_⟩) rfl (fun K hK => ?_)
            go_wp2_with (go_at_call 18; go_must (refine Calls.mono (text_calls (n : Int) q1 (HD7.out.below (by repeat (first | (with_reducible assumption) | (with_reducible exact Below.refl _ _) | (with_reducible apply below_drewL) | (with_reducible apply below_alloc) | (with_reducible apply below_drew1) | (with_reducible apply below_drewN) | (refine below_set ?_ (by first | omega | (simp only [size_alloc, size_drew, size_set]; omega)) _ _)))) HAL.out) ?_; rintro e w5 ⟨he, hb5⟩; rw [HT.out] at he; subst he; replace hb5 := below_undrew hb5; have HB5 := Hd.mk hb5; clear hb5))
            refine onK_normal (hK _ _ ⟨clsB _, clsB_of (by first | exact (HB5.out) | exact below_undrew (HB5.out)), fun _ _ h => h, ?_⟩)
            clear hK K
            refine can_e (o := ⟨_,_,_,_,_,_⟩) rfl (fun K hK => ?_)
            go_wp2_with (go_at_call 17; go_must (refine Calls.mono (rtext_calls (n : Int) q1 (m := m) (fl := fl) (A := B) (by rw [HBs.out]; exact HAL.out) (by rw [HBs.out]; exact hfle) w5) ?_; rintro e w6 ⟨he, hb6⟩; rw [HBA.out, HT.out] at he; subst he; have HB6 := Hd.mk (below_seq HB5.out hb6); clear hb6))
            refine onK_normal (hK _ _ ⟨clsB _, clsB_of (by first | exact (HB6.out) | exact below_undrew (HB6.out)), fun _ _ h => h, ?_⟩)
            clear hK K
            refine can_q (l := [⟨_,_,_,_,_,_⟩, ⟨_,_,_,_,_,_⟩]) rfl ?_
            repeat (go_big_quiet_step (fail))
            refine wpQuiet_nil ?_
            refine can_e (o := ⟨_,_,_,_,_,_⟩) rfl (fun K hK => ?_)
            go_wp2_with (go_at_call 5; go_must (refine Calls.mono (alive_calls _) ?_; rintro e w7 ⟨rfl, hb7⟩))
            refine onK_normal (hK _ _ ⟨fun _ => True, trivial, (fun h => by cases h), ?_⟩)
            clear hK K
            refine can_q (l := [⟨_,_,_,_,_,_⟩, ⟨_,_,_,_,_,_⟩]) rfl ?_
            repeat (go_big_quiet_step (fail))
            refine wpQuiet_nil ?_
            refine can_done ?_
            go_wp2
            go_ret
            exact ⟨rfl, below_seq HB7.out (below_seq HB6.out hb7)⟩
end Go.Proofs.Ytbdnhdecclndfaa.Fn
