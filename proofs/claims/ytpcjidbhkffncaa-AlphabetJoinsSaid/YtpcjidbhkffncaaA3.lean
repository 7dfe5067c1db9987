/- What numbers pairs; what a row has at a place; Join. -/
import Derived.Test.YtpcjidbhkffncaaA2
namespace Go.Proofs.Ytpcjidbhkffncaa.Fn
open Go Go.RowKit Go.Proofs.Ytpcjidbhkffncaa.Can Go.Proofs.Ytpcjidbhkffncaa.Base
attribute [local go_sem] clsB AB.cell

theorem of_calls {w : World} {p b : Nat} {L : List (Int × Int)} (x : Int × Int) (hx : Wf x) (hp : w.heap[p]? = some (.cells #[.map (some b)] 43 (0, 0))) (hL : Met w b L) (hl : L.length ≤ 1000000) :
    Calls Try.prog 19 #[.pointer (some ⟨p, 0, none⟩), .agg #[.int .i64 x.1, .int .i64 x.2]] w fun e w' =>
      e = .returned (.int .i64 ((if x ∈ L then L.idxOf x else L.length : Nat) : Int)) ∧ Met w' b (if x ∈ L then L else L ++ [x]) ∧ Fr (fun k => k = b) w w' := by
  obtain ⟨c, hlook, hc⟩ := hL.look hx
  obtain ⟨k, hk⟩ : ∃ k, (if x ∈ L then L.idxOf x else L.length) = k := ⟨_, rfl⟩
  obtain ⟨L2, hL2⟩ : ∃ L2, (if x ∈ L then L else L ++ [x]) = L2 := ⟨_, rfl⟩
  rw [hk, hL2]
  have HK := Hd.mk hk; have HL2 := Hd.mk hL2; clear hk hL2
  have hb := hL.lt
  have hlk : ∀ X : AB (w.alloc (.cells #[.int .i64 x.1, .int .i64 x.2] 46)), (Instr.lookup 41 (.map (some b)) (.agg #[.int .i64 x.1, .int .i64 x.2]) true).run Try.prog X.x = .ok (.tuple #[.int .i64 c, .bool (decide (x ∈ L))]) X.x := fun X => hlook X.x ((X.ok b (by rw [size_alloc]; omega)).trans (Below.heap_alloc w _ b hb))
  have hlk2 : ∀ X : AB (w.alloc (.cells #[.int .i64 x.1, .int .i64 x.2] 46)).drew, (Instr.lookup 41 (.map (some b)) (.agg #[.int .i64 x.1, .int .i64 x.2]) true).run Try.prog X.x = .ok (.tuple #[.int .i64 c, .bool (decide (x ∈ L))]) X.x := fun X => hlook X.x ((X.ok b (by rw [size_drew, size_alloc]; omega)).trans (Below.heap_alloc w _ b hb))
  have HL := Hd.mk hL; have HC := Hd.mk hc; have HLK := Hd.mk hlook
  have HP := Hd.mk hp
  have hpc0 := blk_cell hp 0 _ rfl; have hpf0 := blk_frozen hp 0; have hpl := blk_lt hp
  clear hL hc hp hlook
  by_cases hm : x ∈ L
  · have hmt : (decide (x ∈ L)) = true := by simpa using hm
    have HM := Hd.mk hm
    rw [hmt] at hlk hlk2
    clear hm hmt
    go_enter Try.func19, Try.ntmps19
    go_wp2
    refine wp_region_can (.q [0, 1, 2, 3, 4, 5, 6, 7, 8, 9, 10] (.done)) (clsB _) (by kernel_rfl) (by kernel_rfl) (by intro _ _ d _ _ h; cases d <;> exact h) (clsB_drew _) ?_
    refine can_q (l := [⟨_,_,_,_,_,_⟩, ⟨_,_,_,_,_,_⟩, ⟨_,_,_,_,_,_⟩, ⟨_,_,_,_,_,_⟩, ⟨_,_,_,_,_,_⟩, ⟨_,_,_,_,_,_⟩, ⟨_,_,_,_,_,_⟩, ⟨_,_,_,_,_,_⟩, ⟨_,_,_,_,_,_⟩, ⟨_,_,_,_,_,_⟩, ⟨_,_,_,_,_,_⟩]) rfl ?_
    repeat (go_big_quiet_step (fail))
    refine wpQuiet_nil ?_
    refine can_done ?_
    go_wp2
    go_ret
    refine ⟨ret_int ?_, ?_, Fr.of_below (by repeat (first | (with_reducible assumption) | (with_reducible exact Below.refl _ _) | (with_reducible apply below_drewL) | (with_reducible apply below_alloc) | (with_reducible apply below_drew1) | (with_reducible apply below_drewN) | (refine below_set ?_ (by first | omega | (simp only [size_alloc, size_drew, size_set]; omega)) _ _)))⟩
    · rw [← HK.out, if_pos HM.out]; exact HC.out HM.out
    · rw [← HL2.out, if_pos HM.out]; exact HL.out.below (by repeat (first | (with_reducible assumption) | (with_reducible exact Below.refl _ _) | (with_reducible apply below_drewL) | (with_reducible apply below_alloc) | (with_reducible apply below_drew1) | (with_reducible apply below_drewN) | (refine below_set ?_ (by first | omega | (simp only [size_alloc, size_drew, size_set]; omega)) _ _)))
  · have hmt : (decide (x ∈ L)) = false := by simpa using hm
    have HM := Hd.mk hm
    rw [hmt] at hlk hlk2
    obtain ⟨w', hrun, hmet, hfr⟩ := (HL.out.move (w' := (w.alloc (.cells #[.int .i64 x.1, .int .i64 x.2] 46)).drew.drew) (Below.heap_alloc w _ b hb)).store hx hm hl
    rw [show kV x = .agg #[.int .i64 x.1, .int .i64 x.2] from rfl] at hrun
    have hlen : (Builtin.len_ #[41] 3 #[.map (some b)]).run Try.prog (w.alloc (.cells #[.int .i64 x.1, .int .i64 x.2] 46)).drew = .ok (.int .i64 (L.length : Nat)) (w.alloc (.cells #[.int .i64 x.1, .int .i64 x.2] 46)).drew := HL.out.len 3 _ (Below.heap_alloc w _ b hb)
    have HMet := Hd.mk hmet; have HFr := Hd.mk hfr
    clear hm hmt hmet hfr
    go_enter Try.func19, Try.ntmps19
    go_wp2
    refine wp_region_can (.q [0, 1, 2, 3, 4, 5, 6, 7, 8, 9, 10] (.done)) (clsB _) (by kernel_rfl) (by kernel_rfl) (by intro _ _ d _ _ h; cases d <;> exact h) (clsB_drew _) ?_
    refine can_q (l := [⟨_,_,_,_,_,_⟩, ⟨_,_,_,_,_,_⟩, ⟨_,_,_,_,_,_⟩, ⟨_,_,_,_,_,_⟩, ⟨_,_,_,_,_,_⟩, ⟨_,_,_,_,_,_⟩, ⟨_,_,_,_,_,_⟩, ⟨_,_,_,_,_,_⟩, ⟨_,_,_,_,_,_⟩, ⟨_,_,_,_,_,_⟩, ⟨_,_,_,_,_,_⟩]) rfl ?_
    repeat (go_big_quiet_step (fail))
    refine wpQuiet_nil ?_
    refine can_done ?_
    go_wp2
    refine wp_region_can (.q [0, 1, 2, 3, 4, 5] (.e 6 false (.done))) (clsB _) (by kernel_rfl) (by kernel_rfl) (by intro _ _ d _ _ h; cases d <;> exact h) (clsB_drew _) ?_
    refine can_q (l := [⟨_,_,_,_,_,_⟩, ⟨_,_,_,_,_,_⟩, ⟨_,_,_,_,_,_⟩, ⟨_,_,_,_,_,_⟩, ⟨_,_,_,_,_,_⟩, ⟨_,_,_,_,_,_⟩]) rfl ?_
    repeat (go_big_quiet_step (fail))
    refine wpQuiet_nil ?_
    refine can_e (o := ⟨_,_,_,_,_,_⟩) rfl (fun K hK => ?_)
    go_wp2_with fail
    refine onK_normal (hK _ _ ⟨fun _ => True, trivial, (fun h => by cases h), ?_⟩)
    clear hK K
    refine can_done ?_
    go_wp2
    go_ret
    refine ⟨ret_int ?_, ?_, ?_⟩
    · rw [← HK.out, if_neg HM.out]
    · rw [← HL2.out, if_neg HM.out]; exact HMet.out
    · exact (((Fr.refl (fun k => k = b) w).alloc _).drew.drew).trans HFr.out
theorem at_calls (A : Option Addr) (n c : Nat) (L : List Int) (i : Nat) (S : Nat → Prop) (w : World) (h : Row (Ty.int .i64) w S A n L) (hi : i ≤ 1000) :
    Calls Try.prog 20 #[.slice A n c, .int .i64 i] w fun e w' => e = .returned (.int .i64 (atN L i)) ∧ w' = w := by
  have hn := h.le
  have hl := h.1
  by_cases hlt : i < n
  · obtain ⟨b, off, x, rfl, _, hb, hx, hcell⟩ := h.get_int i hlt
    have hv : atN L i = x := by unfold atN; rw [List.getD_eq_getElem?_getD, hx]; rfl
    rw [hv]
    clear h hl hx hv
    go_enter Try.func20, Try.ntmps20
    go_wp2
    go_ret
    exact ⟨rfl, rfl⟩
  · have hv : atN L i = -1 := by unfold atN; rw [List.getD_eq_getElem?_getD, List.getElem?_eq_none (by omega)]; rfl
    rw [hv]
    clear h hl hv
    go_enter Try.func20, Try.ntmps20
    go_wp2
    go_ret
    exact ⟨rfl, rfl⟩
end Go.Proofs.Ytpcjidbhkffncaa.Fn
