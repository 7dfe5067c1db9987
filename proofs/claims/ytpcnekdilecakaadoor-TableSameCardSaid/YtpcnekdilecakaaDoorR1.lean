/- Bytes that are read: take. -/
import Derived.Test.YtpcnekdilecakaaDoorQ3
set_option linter.unusedVariables false
set_option linter.unusedSimpArgs false
namespace Go.Proofs.YtpcnekdilecakaaDoor.Tb
open Go Go.RowKit Go.Proofs.YtpcnekdilecakaaDoor.Can Go.Proofs.YtpcnekdilecakaaDoor.Base
attribute [local go_sem] clsB AB.cell

/-- A reader in memory: at p; its bytes lean on S. -/
structure Rs (w : World) (S : Nat → Prop) (p : Nat) (r : Rd) : Prop where
  obj : ∃ A n c, w.heap[p]? = some (.cells #[.slice A n c, .bool r.2] 64 (0, 0)) ∧ Row bT w S A n r.1 ∧ n ≤ c
  ne : ∀ k, S k → k ≠ p ∧ k < w.heap.size
theorem Rs.lt {w : World} {S : Nat → Prop} {p : Nat} {r : Rd} (h : Rs w S p r) : p < w.heap.size := by obtain ⟨A, n, c, h1, _⟩ := h.obj; exact blk_lt h1
theorem Rs.below {w w' : World} {S : Nat → Prop} {p : Nat} {r : Rd} (h : Rs w S p r) (hb : Below w.heap.size w w') : Rs w' S p r := by
  obtain ⟨A, n, c, h1, h2, h3⟩ := h.obj
  exact ⟨⟨A, n, c, blk_below h1 hb, h2.below (fun k hk => (h.ne k hk).2) hb, h3⟩, fun k hk => ⟨(h.ne k hk).1, Nat.lt_of_lt_of_le (h.ne k hk).2 hb.size⟩⟩
/-- The reader alone is turned. -/
abbrev Fp (p : Nat) (w w' : World) : Prop := Fr (fun b => b = p) w w'
theorem Rs.fr {X : Nat → Prop} {w w' : World} {S : Nat → Prop} {p : Nat} {r : Rd} (h : Rs w S p r) (hf : Fr X w w') (hX : ∀ b, b = p ∨ S b → ¬ X b) : Rs w' S p r := by
  obtain ⟨A, n, c, h1, h2, h3⟩ := h.obj
  exact ⟨⟨A, n, c, hf.blk h1 (hX p (.inl rfl)), hf.row h2 fun b hb => ⟨(h.ne b hb).2, hX b (.inr hb)⟩, h3⟩, fun k hk => ⟨(h.ne k hk).1, Nat.lt_of_lt_of_le (h.ne k hk).2 hf.size⟩⟩
theorem bytes_rep (n : Nat) : List.replicate n (0 : UInt8) = List.replicate n 0 := rfl
set_option maxRecDepth 20000 in
set_option maxHeartbeats 4000000 in
theorem take_calls (w : World) (S : Nat → Prop) (p m : Nat) (r : Rd) (hR : Rs w S p r) (hm : m ≤ 256) :
    Calls Tryd.prog 32 #[.pointer (some ⟨p, 0, none⟩), .int .i64 m] w fun e w' => ∃ A c, e = .returned (.slice A m c) ∧ Row bT w' (fun k => S k ∨ (w.heap.size ≤ k ∧ k < w'.heap.size)) A m (takeF m r).1 ∧ m ≤ c ∧ Rs w' S p (takeF m r).2 ∧ Fp p w w' := by
  obtain ⟨A, n, c, hx, hrow, hnc⟩ := hR.obj
  have HR := Hd.mk hR
  have hle := hrow.le
  have HROW := Hd.mk hrow
  have HLEN := Hd.mk hrow.1
  have HX := Hd.mk hx
  obtain ⟨i0, hi, hz, hs, hbb⟩ := info_of (P := Tryd.prog) (e := 5) (z := some (.int .u8 0)) (s := 1) (b := 1) (by kernel_rfl)
  have HI := Hd.mk (And.intro hi (And.intro hz (And.intro hs hbb)))
  clear hR hrow
  by_cases hlt : n < m
  · have HT : Hd (takeF m r = (List.replicate m 0, ([], true))) := ⟨by unfold takeF; rw [if_pos (by rw [HLEN.out]; exact hlt), Nat.min_eq_left hm]⟩
    obtain ⟨rb, rsh⟩ := r
    dsimp only at hx HX
    clear hi hz hs hbb
    have hxc0 := blk_cell hx 0 _ rfl; have hxf0 := blk_frozen hx 0; have hxc1 := blk_cell hx 1 _ rfl; have hxf1 := blk_frozen hx 1; have hxl := blk_lt hx
    go_enter Tryd.func32, Tryd.ntmps32
    go_upto_region 3 with fail
    generalize hU : World.setCell _ _ _ = U
    have hUx : U.heap[p]? = some (.cells #[.slice none 0 0, .bool true] 64 (0, 0)) := by rw [← hU]; exact blk_set (blk_set hx 1 _ _ rfl) 0 _ _ rfl
    have HF : Hd (Fp p w U) := ⟨by rw [← hU]; exact ((Fr.refl (fun b => b = p) _).set (.inl rfl) 1 _).set (.inl rfl) 0 _⟩
    clear hxc0 hxf0 hxc1 hxf1 hxl
    clear hU hx
    have hzU := HF.out.size
    go_wp2_with (first
      | (at_builtin; go_must (refine min_int rfl (.tmp 19) (.const (.int .i64 256)) _ rfl .i64 m 256 m rfl rfl (by split <;> omega) ?_))
      | (at_make; go_must (refine wpList_make_full _ rfl (.tmp 20) (.tmp 20) 29 rfl U.heap.size 5 i0 (.int .u8 0) 1 Tryd.underlying29 HI.out.1 HI.out.2.1 HI.out.2.2.1 .i64 .i64 m m m rfl rfl rfl rfl (by rw [HI.out.2.2.2]; omega) (by simp only [maxLen]; omega) (Nat.le_refl _) ?_; intro w1 ho1 hg1; have HO := Hd.mk ho1; have HB1 : Hd (Below U.heap.size U w1) := ⟨(Below.refl _ _).grown hg1 (Nat.le_refl _) (fun k hk => by cases hk)⟩; clear ho1 hg1)))
    go_ret
    have hbk : Blk uE w1 5 U.heap.size (List.replicate m (0 : UInt8)) := Blk.made (enc := uE) (x := 0) u_len (by decide) rfl HO.out
    refine ⟨_, _, rfl, ?_, Nat.le_refl _, ?_, ?_⟩
    · rw [HT.out]
      have h9 := hbk.row u_len u_one (S := fun k => S k ∨ (w.heap.size ≤ k ∧ k < w1.heap.size)) (.inr ⟨hzU, hbk.lt⟩) (by rw [List.length_replicate]; omega)
      rw [List.length_replicate] at h9
      exact h9
    · rw [HT.out]
      exact ⟨⟨none, 0, 0, blk_below hUx HB1.out, Row.nil _ _ _ _, Nat.le_refl _⟩, fun k hk => ⟨(HR.out.ne k hk).1, by have := (HR.out.ne k hk).2; have := HB1.out.size; omega⟩⟩
    · exact HF.out.trans (Fr.of_below HB1.out)
  · have HT : Hd (takeF m r = (r.1.take m, (r.1.drop m, r.2))) := ⟨by unfold takeF; rw [if_neg (by rw [HLEN.out]; exact hlt)]⟩
    obtain ⟨rb, rsh⟩ := r
    dsimp only at hx HX HT
    obtain ⟨A1, hcut1, hrow1, hnil1⟩ := cut_to bT 29 5 Tryd.underlying29 hi hs A n c m (by omega) hnc
    obtain ⟨A2, hcut2, hrow2, hnil2⟩ := cut_from bT 29 5 Tryd.underlying29 hi hs A n c m (by omega) hnc
    have HR1 := Hd.mk (hrow1 w S rb HROW.out); have HR2 := Hd.mk (hrow2 w S rb HROW.out)
    have hlt2 : m ≤ n := by omega
    clear hi hz hs hbb hrow1 hrow2 hnil1 hnil2 hlt
    have hxc0 := blk_cell hx 0 _ rfl; have hxf0 := blk_frozen hx 0; have hxc1 := blk_cell hx 1 _ rfl; have hxf1 := blk_frozen hx 1; have hxl := blk_lt hx
    go_enter Tryd.func32, Tryd.ntmps32
    go_wp2
    go_ret
    have HF : Fp p w (w.setCell ⟨p, 0, none⟩ (.slice A2 (n - m) (c - m))) := (Fr.refl (fun b => b = p) _).set (.inl rfl) 0 _
    have hS : ∀ b, S b → ¬ b = p := fun b hb => (HR.out.ne b hb).1
    refine ⟨A1, c, rfl, ?_, by omega, ?_, HF⟩
    · rw [HT.out]
      exact (HF.row HR1.out fun b hb => ⟨(HR.out.ne b hb).2, hS b hb⟩).mono fun k hk => .inl hk
    · rw [HT.out]
      refine ⟨⟨A2, n - m, c - m, blk_set hx 0 _ _ rfl, HF.row HR2.out fun b hb => ⟨(HR.out.ne b hb).2, hS b hb⟩, by omega⟩, fun k hk => ⟨(HR.out.ne k hk).1, by rw [size_set]; exact (HR.out.ne k hk).2⟩⟩
end Go.Proofs.YtpcnekdilecakaaDoor.Tb
