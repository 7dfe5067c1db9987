/- What Of and Spot compute: their walks. -/
import Derived.Test.YtcejfnnimfpahaaS8
namespace Go.Proofs.Ytcejfnnimfpahaa.Fn
open Go Go.RowKit Go.Proofs.Ytcejfnnimfpahaa.Can Go.Proofs.Ytcejfnnimfpahaa.Base
attribute [local go_sem] clsB AB.cell

/-- What was made by the call is read: the element's type has a plain row. -/
theorem of_calls (mode : Int) (A : Option Addr) (c : Nat) (xs : List Ev) (S : Nat → Prop) (w : World) (hS : ∀ k, S k → k < w.heap.size) (hC : Row evT w S A xs.length xs) (hw : EvWf xs) (hl : xs.length ≤ 1000000) :
    Calls Try.prog 12 #[.int .i64 mode, .slice A xs.length c] w fun e w' => ∃ A' n' c', e = .returned (.slice A' n' c') ∧ Row eT w' (fun k => w.heap.size ≤ k ∧ k < w'.heap.size) A' n' (runM mode xs).s.l ∧ Below w.heap.size w w' := by
  obtain ⟨n, hn⟩ : ∃ n, xs.length = n := ⟨_, rfl⟩
  have HS := Hd.mk hS; have HC := Hd.mk hC; have HW := Hd.mk hw; have HL := Hd.mk hl
  obtain ⟨M, hM⟩ : ∃ M, (runM mode xs).s = M := ⟨_, rfl⟩
  have HLen : Hd (M.l.length ≤ 1000000) := ⟨by rw [← hM]; exact Nat.le_trans (runM_len mode xs) hl⟩
  have HN := Hd.mk hn
  have HM := Hd.mk hM
  rw [hM]
  rw [hn]
  clear hn hS hC hw hl hM
  have hfd : ∀ (x y : Int) (A : Option Addr) (n c : Nat) (w : World), (Instr.field 62 (.agg #[.int .i64 x, .int .i64 y, .slice A n c]) 1).run Try.prog w = .ok (.slice A n c) w := fun _ _ _ _ _ _ => by kernel_rfl
  go_enter Try.func12, Try.ntmps12
  go_wp2_with (first
    | (go_at_call 23; go_must (have h9 := over_calls mode A c xs S (w.alloc (.cells #[] 31)) (fun k hk => by rw [size_alloc]; have := HS.out k hk; omega) (HC.out.below HS.out (by repeat (first | (with_reducible assumption) | (with_reducible exact Below.refl _ _) | (with_reducible apply below_drewL) | (with_reducible apply below_alloc) | (with_reducible apply below_drew1) | (with_reducible apply below_drewN) | (refine below_set ?_ (by first | omega | (simp only [size_alloc, size_drew, size_set]; omega)) _ _)))) HW.out HL.out; rw [HN.out, HM.out] at h9; refine Calls.mono h9 ?_; clear h9; rintro e w1 ⟨A1, n1, c1, rfl, hn1, hA1, hr1, hb1⟩; have HA1 := Hd.mk hA1; have HR1 := Hd.mk hr1; have HB1 := Hd.mk hb1; have HE1 := Hd.mk (blk_below (blk_new w (.cells #[] 31) _ rfl) hb1); have hle1 := hr1.le; clear hA1 hr1 hb1))
    | (at_builtin; go_must (refine append_row eT e_flat rfl (.tmp 5) (.tmp 9) 22 31 _ 64 rfl Try.underlying22 info31 rfl (by decide) (by decide) w.heap.size (.slice (some ⟨w.heap.size, 0, none⟩) 0 0) [] M.l A1 n1 c1 rfl rfl HA1.out ((Mine.empty eT w rfl (Nat.le_refl _)).below HB1.out) HR1.out (fun k hk => ⟨hk.2, ownBlock_gt (by have := hk.1; rw [size_alloc] at this; omega)⟩) (by have := HB1.out.size; rw [size_alloc] at this; omega) (by have := HR1.out.1; have := HLen.out; simp only [List.length_nil]; omega) ?_; intro v2 w2 hM2 hb2 hk2 hat2; rw [List.nil_append] at hM2; obtain ⟨A2, n2, c2, rfl, hn2, hc2, hA2, hr2⟩ := hM2.formN; have HR2 := Hd.mk hr2; have HB2 : Hd (Below w.heap.size w w2) := ⟨Below.trans (below_seq (below_alloc (Below.refl _ _) _) HB1.out) hb2⟩; clear hr2 hA2 hc2 hn2 hk2 hat2 hb2 hM2)))
  go_ret
  exact ⟨A2, n2, c2, rfl, HR2.out, HB2.out⟩
theorem spot_calls (mode : Int) (A : Option Addr) (c : Nat) (xs : List Ev) (S : Nat → Prop) (w : World) (hS : ∀ k, S k → k < w.heap.size) (hC : Row evT w S A xs.length xs) (hw : EvWf xs) (hl : xs.length ≤ 1000000) :
    Calls Try.prog 17 #[.int .i64 mode, .slice A xs.length c] w fun e w' => e = .returned (spotV (runM mode xs).s.at_) ∧ Below w.heap.size w w' := by
  obtain ⟨n, hn⟩ : ∃ n, xs.length = n := ⟨_, rfl⟩
  have HS := Hd.mk hS; have HC := Hd.mk hC; have HW := Hd.mk hw; have HL := Hd.mk hl
  obtain ⟨M, hM⟩ : ∃ M, (runM mode xs).s = M := ⟨_, rfl⟩
  have HN := Hd.mk hn
  have HM := Hd.mk hM
  rw [hM]
  rw [hn]
  unfold spotV
  clear hn hS hC hw hl hM
  have hfd : ∀ (x y : Int) (A : Option Addr) (n c : Nat) (w : World), (Instr.field 62 (.agg #[.int .i64 x, .int .i64 y, .slice A n c]) 0).run Try.prog w = .ok (.agg #[.int .i64 x, .int .i64 y]) w := fun _ _ _ _ _ _ => by kernel_rfl
  go_enter Try.func17, Try.ntmps17
  go_wp2_with (go_at_call 23; go_must (have h9 := over_calls mode A c xs S (w.alloc (.cells #[.int .i64 0, .int .i64 0] 27)) (fun k hk => by rw [size_alloc]; have := HS.out k hk; omega) (HC.out.below HS.out (by repeat (first | (with_reducible assumption) | (with_reducible exact Below.refl _ _) | (with_reducible apply below_drewL) | (with_reducible apply below_alloc) | (with_reducible apply below_drew1) | (with_reducible apply below_drewN) | (refine below_set ?_ (by first | omega | (simp only [size_alloc, size_drew, size_set]; omega)) _ _)))) HW.out HL.out; rw [HN.out, HM.out] at h9; refine Calls.mono h9 ?_; clear h9; rintro e w1 ⟨A1, n1, c1, rfl, hn1, hA1, hr1, hb1⟩; have HB1 := Hd.mk hb1; have he1 := (blk_below (blk_new w (.cells #[.int .i64 0, .int .i64 0] 27) _ rfl) hb1); have he1c0 := blk_cell he1 0 _ rfl; have he1f0 := blk_frozen he1 0; have he1c1 := blk_cell he1 1 _ rfl; have he1f1 := blk_frozen he1 1; have he1l := blk_lt he1; clear hA1 hr1 hb1))
  refine bodyPost_ret (results_cell_row rfl _ _ w.heap.size 27 #[.int .i64 M.at_.at_, .int .i64 M.at_.mode] (0, 0) _ rfl (blk_set (blk_set he1 0 _ _ rfl) 1 _ _ rfl) Try.underlying27 rfl (by kernel_rfl)) rfl ?_
  exact ⟨rfl, below_set (below_set (below_seq (below_alloc (Below.refl _ _) _) HB1.out) (Nat.le_refl _) _ _) (Nat.le_refl _) _ _⟩
end Go.Proofs.Ytcejfnnimfpahaa.Fn
