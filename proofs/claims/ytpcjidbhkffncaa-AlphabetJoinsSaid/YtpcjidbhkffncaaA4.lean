/- What Join computes. -/
import Derived.Test.YtpcjidbhkffncaaA3
import Derived.OwnWalk
import Derived.Laws.MakeOwn
namespace Go.Proofs.Ytpcjidbhkffncaa.Fn
open Go Go.RowKit Go.Proofs.Ytpcjidbhkffncaa.Can Go.Proofs.Ytpcjidbhkffncaa.Base
attribute [local go_sem] clsB AB.cell

abbrev I : Ty Int := Ty.int .i64
def iE (n : Int) : List Value := [.int .i64 n]
theorem i_len (n : Int) : (iE n).length = 1 := rfl
theorem info3 : (Try.prog.info? 3).map (fun i => (i.zero, i.size, i.bytes)) = some (some (.int .i64 0), 1, 8) := by kernel_rfl
theorem blk_rowI {w : World} {g : Nat} {xs : List Int} {S : Nat → Prop} (h : Blk iE w 3 g xs) (hS : S g) (hn : xs.length ≤ 9223372036854775807) : Row I w S (some ⟨g, 0, none⟩) xs.length xs :=
  h.row i_len (fun x u hu => by simp [iE] at hu; subst hu; rfl) hS hn
theorem atN_wf {L : List Int} (h : ∀ x ∈ L, (Lit.int .i64 x).wf = true) (i : Nat) : (Lit.int .i64 (atN L i)).wf = true := by
  unfold atN
  rw [List.getD_eq_getElem?_getD]
  cases hx : L[i]? with
  | none => rfl
  | some x => exact h x (List.mem_of_getElem? hx)
theorem fill_set (f : Nat → Int × Int) (k : Nat) (hk : k < 256) : (clsL f k ++ List.replicate (256 - k) 0).set k (cls f k) = clsL f (k + 1) ++ List.replicate (256 - (k + 1)) 0 := by
  rw [clsL_succ, List.set_append_right _ _ (by rw [clsL_len]; omega), clsL_len, Nat.sub_self, show 256 - k = (256 - (k + 1)) + 1 by omega, List.replicate_succ, List.set_cons_zero, List.append_assoc]; rfl
theorem fill_get (f : Nat → Int × Int) (k : Nat) (hk : k < 256) : (clsL f k ++ List.replicate (256 - k) (0 : Int))[k]? = some 0 := by
  rw [List.getElem?_append_right (by rw [clsL_len]; omega), clsL_len, Nat.sub_self, List.getElem?_replicate, if_pos (by omega)]
theorem of_calls' {w : World} {p b : Nat} (f : Nat → Int × Int) (k : Nat) (hx : Wf (f k)) (hp : w.heap[p]? = some (.cells #[.map (some b)] 43 (0, 0))) (hL : Met w b (met f k)) (hl : k ≤ 1000000) :
    Calls Try.prog 19 #[.pointer (some ⟨p, 0, none⟩), .agg #[.int .i64 (f k).1, .int .i64 (f k).2]] w fun e w' =>
      e = .returned (.int .i64 (cls f k : Nat)) ∧ Met w' b (met f (k + 1)) ∧ Fr (fun k => k = b) w w' :=
  of_calls (f k) hx hp hL (Nat.le_trans (met_len f k) hl)

set_option maxHeartbeats 1000000 in
set_option maxRecDepth 20000 in
theorem join_calls (A1 A2 : Option Addr) (n1 c1 n2 c2 : Nat) (L1 L2 : List Int) (S1 S2 : Nat → Prop) (w : World) (hS1 : ∀ k, S1 k → k < w.heap.size) (hS2 : ∀ k, S2 k → k < w.heap.size) (h1 : Row I w S1 A1 n1 L1) (h2 : Row I w S2 A2 n2 L2)
    (w1 : ∀ x ∈ L1, (Lit.int .i64 x).wf = true) (w2 : ∀ x ∈ L2, (Lit.int .i64 x).wf = true) :
    Calls Try.prog 12 #[.slice A1 n1 c1, .slice A2 n2 c2] w fun e w' => ∃ g, e = .returned (.tuple #[.slice (some ⟨g, 0, none⟩) 256 256, .int .i64 ((met (pairF L1 L2) 256).length : Nat)]) ∧ w.heap.size ≤ g ∧ Blk iE w' 3 g (clsL (pairF L1 L2) 256) ∧ Below w.heap.size w w' := by
  obtain ⟨i0, hi, hz, hs, hbb⟩ := info_of info3
  obtain ⟨F, hF⟩ : ∃ F, pairF L1 L2 = F := ⟨_, rfl⟩
  have HWf : Hd (∀ i, Wf (F i)) := ⟨fun i => by rw [← hF]; exact ⟨atN_wf w1 i, atN_wf w2 i⟩⟩
  rw [hF]
  have HF := Hd.mk hF; clear hF w1 w2
  have HS1 := Hd.mk hS1; have HS2 := Hd.mk hS2; have H1 := Hd.mk h1; have H2 := Hd.mk h2; have HI := Hd.mk (And.intro hi (And.intro hz (And.intro hs hbb)))
  clear hS1 hS2 h1 h2 hi hz hs hbb
  have hmk : (Instr.makeMap 41 none).run Try.prog w = .ok (.map (some w.heap.size)) (w.alloc (.map #[] 0)) := run_makeMap 41 w
  go_enter Try.func12, Try.ntmps12
  go_wp2_with (at_make; go_must (refine wpList_make_full _ rfl (.const (.int .i64 256)) (.const (.int .i64 256)) 24 rfl w.heap.size 3 i0 (.int .i64 0) 1 Try.underlying24 HI.out.1 HI.out.2.1 HI.out.2.2.1 .i64 .i64 256 256 256 rfl rfl rfl rfl (by rw [HI.out.2.2.2]; omega) (by simp only [maxLen]; omega) (by simp only [size_alloc]; omega) ?_; intro w1 ho1 hg1))
  have hz1 := hg1.size
  simp only [size_alloc] at hz1
  have hb1 : Below (w.heap.size + 2) ((w.alloc (.map #[] 0)).alloc (.cells #[.map (some w.heap.size)] 43)) w1 := (Below.refl _ _).grown hg1 (by simp only [size_alloc]; omega) (fun k hk => by cases hk)
  have hp1 : w1.heap[w.heap.size + 1]? = some (.cells #[.map (some w.heap.size)] 43 (0, 0)) := (hb1.block _ (by omega)).trans (blk_new _ _ _ (by rw [size_alloc]))
  have HM1 : Hd (Met w1 w.heap.size []) := ⟨((Met.made w).move (Below.heap_alloc _ _ _ (by rw [size_alloc]; omega))).move (hb1.block _ (by omega))⟩
  have HB1 : Hd (Below w.heap.size w w1) := ⟨Below.trans (below_alloc (below_alloc (Below.refl _ _) _) _) (hb1.mono (by omega))⟩
  have hg0 := Blk.made (enc := iE) (x := 0) i_len (by decide) rfl ho1
  simp only [size_alloc] at hg0
  have HG := Hd.mk hg0
  have HP1 := Hd.mk hp1
  clear ho1 hg1 hb1 hz1 hp1 hg0
  go_loopw [13, 8] (fun i _ wr => ∃ k : Nat, k ≤ 256 ∧ i = .int .i64 k ∧ Hd (Blk iE wr 3 (w.heap.size + 1 + 1) (clsL F k ++ List.replicate (256 - k) 0)) ∧ Hd (Met wr w.heap.size (met F k)) ∧ Hd (wr.heap[w.heap.size + 1]? = some (.cells #[.map (some w.heap.size)] 43 (0, 0))) ∧ Hd (Below w.heap.size w wr)) (fun i _ _ => 256 - (intOf i).toNat)
  case atStart => exact ⟨0, Nat.zero_le _, rfl, HG, HM1, HP1, HB1⟩
  case round =>
    clear HG HM1 HP1 HB1
    obtain ⟨k, hk, rfl, HG, HM, HP, HB⟩ := hrel
    by_cases hlt : k < 256
    · have HX : Hd ((atN L1 k, atN L2 k) = F k) := ⟨by rw [← HF.out]; rfl⟩
      obtain ⟨x1, hx1⟩ : ∃ x, atN L1 k = x := ⟨_, rfl⟩
      obtain ⟨x2, hx2⟩ : ∃ x, atN L2 k = x := ⟨_, rfl⟩
      rw [hx1, hx2] at HX
      have HX1 := Hd.mk hx1; have HX2 := Hd.mk hx2; clear hx1 hx2
      go_wp2_with (first
        | (go_at_call 19; go_must (have h9 := of_calls' F k (HWf.out k) HP.out HM.out (by omega); rw [← HX.out] at h9; refine Calls.mono h9 ?_; clear h9; rintro e w3 ⟨rfl, hm3, f3⟩; have hg3 := HG.out.fr f3 (by show ¬ w.heap.size + 1 + 1 = w.heap.size; omega); have hc3 := hg3.cell0 i_len (fill_get F k hlt) rfl; rw [Nat.mul_one] at hc3; have hf3 := hg3.frozen k; have HM3 := Hd.mk hm3; have HG3 := Hd.mk hg3; have F3 := Hd.mk f3; have hl3 := hg3.lt; clear hm3 hg3 f3))
        | (go_at_call 20; have hq_ := HQ; clear hq_; go_must (refine Calls.mono (at_calls A2 n2 c2 L2 k S2 _ (H2.out.below HS2.out HB.out) (by omega)) ?_; rintro e w2 ⟨he, rfl⟩; rw [HX2.out] at he; subst he; clear HQ))
        | (go_at_call 20; go_must (refine Calls.mono (at_calls A1 n1 c1 L1 k S1 _ (H1.out.below HS1.out HB.out) (by omega)) ?_; rintro e w2 ⟨he, rfl⟩; rw [HX1.out] at he; subst he; have HQ := Hd.mk True.intro)))
      go_roundw
      case rel => exact ⟨k + 1, by omega, by go_num, ⟨by rw [← fill_set F k hlt]; have := HG3.out.set0 i_len (y := (cls F k : Int)) (fill_get F k hlt) (by decide) rfl; rw [Nat.mul_one] at this; exact this⟩, ⟨HM3.out.move (Below.heap_setCell _ _ _ _ (by show ¬ w.heap.size = w.heap.size + 1 + 1; omega))⟩, ⟨blk_far (F3.out.blk HP.out (by omega)) (by show ¬ w.heap.size + 1 = w.heap.size + 1 + 1; omega) _⟩, ⟨below_set (Fr.seq HB.out F3.out HB.out.size (fun b hb hx => by omega)) (by omega) _ _⟩⟩
      case measure => simp [intOf]; omega
    · obtain rfl : k = 256 := by omega
      have hp := HP.out
      have hlen := HM.out.len 3 wr rfl
      have hpc0 := blk_cell hp 0 _ rfl; have hpf0 := blk_frozen hp 0; have hpl := blk_lt hp
      go_wp2
      go_ret2
      exact ⟨_, rfl, by omega, by have := HG.out; rwa [Nat.sub_self, List.replicate_zero, List.append_nil] at this, HB.out⟩
end Go.Proofs.Ytpcjidbhkffncaa.Fn
