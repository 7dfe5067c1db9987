/- Bytes that are read: one, two, a text. -/
import Derived.Test.YtpcnekdilecakaaDoorR1
set_option linter.unusedVariables false
set_option linter.unusedSimpArgs false
namespace Go.Proofs.YtpcnekdilecakaaDoor.Tb
open Go Go.RowKit Go.Proofs.YtpcnekdilecakaaDoor.Can Go.Proofs.YtpcnekdilecakaaDoor.Base
attribute [local go_sem] clsB AB.cell

theorem or_bytes (x y : Nat) (hx : x < 256) (hy : y < 256) : bits BinOp.or IntKind.i64 ((x : Int) * 256) (y : Int) = ((x * 256 + y : Nat) : Int) := by
  show IntKind.i64.wrap ((BitVec.ofInt 64 ((x : Int) * 256) ||| BitVec.ofInt 64 (y : Int)).toNat : Int) = _
  have e1 : BitVec.ofInt 64 ((x : Int) * 256) = BitVec.ofNat 64 (x * 256) := by
    rw [show ((x : Int) * 256) = ((x * 256 : Nat) : Int) by omega, BitVec.ofInt_natCast]
  rw [e1, BitVec.ofInt_natCast, BitVec.toNat_or, BitVec.toNat_ofNat, BitVec.toNat_ofNat, Nat.mod_eq_of_lt (by omega), Nat.mod_eq_of_lt (by omega)]
  have e2 : x * 256 ||| y = x * 256 + y := by
    have := Nat.shiftLeft_add_eq_or_of_lt (i := 8) (b := y) (by omega) x
    rw [Nat.shiftLeft_eq] at this
    exact this.symm
  rw [e2]
  simp [IntKind.wrap, IntKind.signed, IntKind.bits]
  omega
theorem below_drew1F {p : Nat} {w w' : World} (h : Fp p w w') : Fp p w w'.drew := h.drew
theorem head_at {l : List UInt8} {x : UInt8} (h : l[0]? = some x) : l.headD 0 = x := by cases l <;> simp_all
theorem getD_at {l : List UInt8} {k : Nat} {x : UInt8} (h : l[k]? = some x) : l.getD k 0 = x := by rw [List.getD_eq_getElem?_getD, h]; rfl
set_option maxRecDepth 20000 in
theorem rdone_calls (w : World) (S : Nat → Prop) (p : Nat) (r : Rd) (hR : Rs w S p r) :
    Calls Tryd.prog 34 #[.pointer (some ⟨p, 0, none⟩)] w fun e w' => e = .returned (.int .i64 ((oneF r).1 : Nat)) ∧ Rs w' S p (oneF r).2 ∧ Fp p w w' := by
  have HJ := Hd.mk (take_calls w S p 1 r hR (by omega))
  clear hR
  go_enter Tryd.func34, Tryd.ntmps34
  go_wp2_with (go_at_call 32; go_must (refine Calls.mono HJ.out ?_; rintro e w1 ⟨A, c, rfl, hr, hc, hR1, hf⟩; obtain ⟨b, o, x, rfl, hb, -, hx, hcx⟩ := byte_get hr 0 (by omega); have hcx0 : w1.cell? ⟨b, o, none⟩ = some (.int .u8 (x.toNat : Int)) := hcx; have HT := Hd.mk (head_at hx); have HR1 := Hd.mk hR1; have HF := Hd.mk hf; have hxl := x.toNat_lt; clear hr hx hR1 hf))
  go_ret
  exact ⟨by unfold oneF; rw [HT.out]; rfl, HR1.out, HF.out⟩
set_option maxRecDepth 20000 in
theorem rdtwo_calls (w : World) (S : Nat → Prop) (p : Nat) (r : Rd) (hR : Rs w S p r) :
    Calls Tryd.prog 63 #[.pointer (some ⟨p, 0, none⟩)] w fun e w' => e = .returned (.int .i64 ((twoF r).1 : Nat)) ∧ Rs w' S p (twoF r).2 ∧ Fp p w w' := by
  have HJ := Hd.mk (take_calls w S p 2 r hR (by omega))
  clear hR
  go_enter Tryd.func63, Tryd.ntmps63
  go_wp2_with (go_at_call 32; go_must (refine Calls.mono HJ.out ?_; rintro e w1 ⟨A, c, rfl, hr, hc, hR1, hf⟩; obtain ⟨b, o, x, rfl, hb, -, hx, hcx⟩ := byte_get hr 0 (by omega); obtain ⟨b2, o2, y, he2, hb2, -, hy, hcy⟩ := byte_get hr 1 (by omega); obtain ⟨rfl, rfl⟩ : b = b2 ∧ o = o2 := (by simpa using he2); have hcx0 : w1.cell? ⟨b, o, none⟩ = some (.int .u8 (x.toNat : Int)) := hcx; have HT := Hd.mk (And.intro (getD_at hx) (getD_at hy)); have HR1 := Hd.mk hR1; have HF := Hd.mk hf; have hxl := x.toNat_lt; have hyl := y.toNat_lt; clear hr hx hy he2 hR1 hf))
  refine wp_region_can (.q [0, 1, 2, 3, 4, 5, 6, 7, 8, 9, 10] (.done)) (clsB _) (by kernel_rfl) (by kernel_rfl) (by intro _ _ d _ _ h; cases d <;> exact h) (clsB_drew _) ?_
  refine can_q (l := [⟨_,_,_,_,_,_⟩, ⟨_,_,_,_,_,_⟩, ⟨_,_,_,_,_,_⟩, ⟨_,_,_,_,_,_⟩, ⟨_,_,_,_,_,_⟩, ⟨_,_,_,_,_,_⟩, ⟨_,_,_,_,_,_⟩, ⟨_,_,_,_,_,_⟩, ⟨_,_,_,_,_,_⟩, ⟨_,_,_,_,_,_⟩, ⟨_,_,_,_,_,_⟩]) rfl ?_
  repeat (go_big_quiet_step (fail))
  refine wpQuiet_nil ?_
  refine can_done ?_
  go_wp2
  go_ret
  exact ⟨by unfold twoF; rw [HT.out.1, HT.out.2]; exact ret_int (or_bytes _ _ hxl hyl), HR1.out.below (below_drew1 (Below.refl _ _)), below_drew1F HF.out⟩
set_option maxRecDepth 20000 in
theorem rdtext_calls (w : World) (S : Nat → Prop) (p : Nat) (r : Rd) (hR : Rs w S p r) :
    Calls Tryd.prog 35 #[.pointer (some ⟨p, 0, none⟩)] w fun e w' => e = .returned (.string (textF r).1) ∧ Rs w' S p (textF r).2 ∧ Fp p w w' := by
  have HJ := Hd.mk (rdone_calls w S p r hR)
  have HL : Hd ((oneF r).1 < 256) := ⟨one_lt r⟩
  clear hR
  generalize ho : oneF r = o at HJ HL
  have HO := Hd.mk ho
  clear ho
  go_enter Tryd.func35, Tryd.ntmps35
  go_wp2_with (first
    | (go_at_call 32; go_must (refine Calls.mono (take_calls w1 S p o.1 o.2 HR1.out (Nat.le_of_lt HL.out)) ?_; rintro e w2 ⟨A, c, rfl, hr, hc, hR2, hf2⟩; have hcv : (convert 29 9 (.slice A o.1 c)).run Tryd.prog w2 = .ok (.string ⟨(takeF o.1 o.2).1.toArray⟩) w2 := conv_back 29 9 5 Tryd.underlying29 Tryd.underlying5 Tryd.underlying9 hr (by rw [hr.1]; have := HL.out; omega); have HR2 := Hd.mk hR2; have HF2 := Hd.mk (HF.out.trans hf2); clear hr hR2 hf2))
    | (go_at_call 34; go_must (refine Calls.mono HJ.out ?_; rintro e w1 ⟨rfl, hR1, hf⟩; have HR1 := Hd.mk hR1; have HF := Hd.mk hf; clear hR1 hf)))
  go_ret
  exact ⟨by unfold textF; rw [HO.out]; rfl, by unfold textF; rw [HO.out]; exact HR2.out, HF2.out⟩
end Go.Proofs.YtpcnekdilecakaaDoor.Tb
