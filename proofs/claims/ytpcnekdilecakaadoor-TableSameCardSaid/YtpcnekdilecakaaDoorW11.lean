/- Equal rows: names, acts, bytes, automata. -/
import Derived.Test.YtpcnekdilecakaaDoorW10
set_option linter.unusedVariables false
set_option linter.unusedSimpArgs false
namespace Go.Proofs.YtpcnekdilecakaaDoor.Tb
open Go Go.RowKit Go.Proofs.YtpcnekdilecakaaDoor.Can Go.Proofs.YtpcnekdilecakaaDoor.Base
attribute [local go_sem] clsB AB.cell

theorem eqA (d : Nat) (w : World) (s t : ByteArray) (x y : Int) :
    (Op.equalIn (d + 2) 42 (.agg #[.string s, .int .i64 x]) (.agg #[.string t, .int .i64 y])).run Tryd.prog w = .ok (s.toList == t.toList && x == y) w := by
  refine eq_struct Tryd.underlying42 (by kernel_rfl) ?_
  cases h0 : (s.toList == t.toList) <;> cases h1 : (x == y) <;> simp [Op.eqFields, go_sem, h0, h1]
attribute [local go_sem high] eqA
theorem byte_get {w : World} {S : Nat → Prop} {A : Option Addr} {n : Nat} {xs : List UInt8} (h : Row bT w S A n xs) (k : Nat) (hk : k < n) :
    ∃ b off x, A = some ⟨b, off, none⟩ ∧ b < w.heap.size ∧ S b ∧ xs[k]? = some x ∧ w.cell? ⟨b, off + k, none⟩ = some (.int .u8 (x.toNat : Int)) := by
  obtain ⟨b, off, cs, he, hs, hr, hcell⟩ := h.get k hk
  have hr' : cs = uE _ := hr
  subst hr'
  have h0 := hcell 0 _ rfl
  rw [show off + k * bT.sz + 0 = off + k by show off + k * 1 + 0 = _; omega] at h0
  exact ⟨b, off, _, he, World.block_lt_of_cell? w _ h0, hs, List.getElem?_eq_getElem _, h0⟩
theorem u8_beq (a b : UInt8) : ((a.toNat : Int) == (b.toNat : Int)) = decide (a = b) := by
  rw [Bool.eq_iff_iff, beq_iff_eq, decide_eq_true_eq]
  constructor
  · intro h; exact UInt8.toNat_inj.1 (by omega)
  · intro h; rw [h]
set_option maxHeartbeats 1000000 in
theorem EqS_calls (A1 A2 : Option Addr) (n1 n2 c1 c2 : Nat) (L1 L2 : List (ByteArray)) (b : Bool) (S1 S2 : Nat → Prop) (w : World) (hS1 : ∀ k, S1 k → k < w.heap.size) (hS2 : ∀ k, S2 k → k < w.heap.size) (h1 : Row Ty.str w S1 A1 n1 L1) (h2 : Row Ty.str w S2 A2 n2 L2) (hb : decide (L1 = L2) = b) :
    Calls Tryd.prog 45 #[.slice A1 n1 c1, .slice A2 n2 c2] w fun e w' => e = .returned (.bool b) ∧ Below w.heap.size w w' := by
  have hm1 := h1.le
  have hm2 := h2.le
  have H1 := Hd.mk h1; have H2 := Hd.mk h2; have HBb := Hd.mk hb; clear h1 h2 hb
  have HS1 := Hd.mk hS1; have HS2 := Hd.mk hS2; clear hS1 hS2
  by_cases hne : n1 = n2
  · subst hne
    go_enter Tryd.func45, Tryd.ntmps45
    go_wp2
    go_loopw [13] (fun i wr => ∃ k : Nat, k ≤ n1 ∧ i = .int .i64 k ∧ Hd (L1.take k = L2.take k) ∧ Hd (Below w.heap.size w wr)) (fun i _ => n1 - (intOf i).toNat)
    case atStart => exact ⟨0, Nat.zero_le _, rfl, ⟨rfl⟩, ⟨Below.refl _ _⟩⟩
    case round =>
      obtain ⟨k, hk, rfl, HE, HB⟩ := hrel
      by_cases hlt : k < n1
      · obtain ⟨b1, o1, x, rfl, hb1, -, hx1, hy1⟩ := str_get (H1.out.below HS1.out HB.out) k hlt; obtain ⟨b2, o2, y, rfl, hb2, -, hx2, hy2⟩ := str_get (H2.out.below HS2.out HB.out) k hlt
        have HX1 := Hd.mk hx1; have HX2 := Hd.mk hx2
        clear hx1 hx2
        by_cases hxy : x = y
        · have HE2 : Hd (L1.take (k + 1) = L2.take (k + 1)) := ⟨by rw [Df.take_snoc HX1.out, Df.take_snoc HX2.out, HE.out, hxy]⟩
          subst hxy; have h1 : (x.toList == x.toList) = true := by rw [str_beq]; exact decide_eq_true rfl
          go_wp2
          refine wp_region_can (.q [0, 1, 2, 3, 4, 5, 6, 7, 8] (.done)) (clsB _) (by kernel_rfl) (by kernel_rfl) (by intro _ _ d _ _ h; cases d <;> exact h) (clsB_drew _) ?_
          refine can_q (l := [⟨_,_,_,_,_,_⟩, ⟨_,_,_,_,_,_⟩, ⟨_,_,_,_,_,_⟩, ⟨_,_,_,_,_,_⟩, ⟨_,_,_,_,_,_⟩, ⟨_,_,_,_,_,_⟩, ⟨_,_,_,_,_,_⟩, ⟨_,_,_,_,_,_⟩, ⟨_,_,_,_,_,_⟩]) rfl ?_
          repeat (go_big_quiet_step (fail))
          refine wpQuiet_nil ?_
          refine can_done ?_
          go_wp2
          go_roundw
          case rel => exact ⟨k + 1, by omega, by go_num, HE2, ⟨below_drew1 HB.out⟩⟩
          case measure => simp [intOf]; omega
        · obtain rfl : b = false := by rw [← HBb.out]; exact decide_eq_false fun h => hxy (by have a := HX1.out; rw [h, HX2.out] at a; exact (Option.some.inj a).symm)
          have h1 : (x.toList == y.toList) = false := by rw [str_beq]; exact decide_eq_false hxy
          go_wp2
          refine wp_region_can (.q [0, 1, 2, 3, 4, 5, 6, 7, 8] (.done)) (clsB _) (by kernel_rfl) (by kernel_rfl) (by intro _ _ d _ _ h; cases d <;> exact h) (clsB_drew _) ?_
          refine can_q (l := [⟨_,_,_,_,_,_⟩, ⟨_,_,_,_,_,_⟩, ⟨_,_,_,_,_,_⟩, ⟨_,_,_,_,_,_⟩, ⟨_,_,_,_,_,_⟩, ⟨_,_,_,_,_,_⟩, ⟨_,_,_,_,_,_⟩, ⟨_,_,_,_,_,_⟩, ⟨_,_,_,_,_,_⟩]) rfl ?_
          repeat (go_big_quiet_step (fail))
          refine wpQuiet_nil ?_
          refine can_done ?_
          go_wp2
          go_ret
          exact ⟨rfl, below_drew1 HB.out⟩
      · obtain rfl : k = n1 := by omega
        obtain rfl : b = true := by rw [← HBb.out]; exact decide_eq_true (by have a := HE.out; rwa [Df.take_all H1.out.1, Df.take_all H2.out.1] at a)
        go_wp2
        go_ret
        exact ⟨rfl, HB.out⟩
  · obtain rfl : b = false := by rw [← HBb.out]; exact decide_eq_false fun h => hne (by rw [← H1.out.1, ← H2.out.1, h])
    have hz : ((n1 : Int) != (n2 : Int)) = true := by simp; omega
    go_enter Tryd.func45, Tryd.ntmps45
    go_wp2
    go_ret
    exact ⟨rfl, Below.refl _ _⟩
set_option maxHeartbeats 1000000 in
theorem EqB_calls (A1 A2 : Option Addr) (n1 n2 c1 c2 : Nat) (L1 L2 : List (UInt8)) (b : Bool) (S1 S2 : Nat → Prop) (w : World) (hS1 : ∀ k, S1 k → k < w.heap.size) (hS2 : ∀ k, S2 k → k < w.heap.size) (h1 : Row bT w S1 A1 n1 L1) (h2 : Row bT w S2 A2 n2 L2) (hb : decide (L1 = L2) = b) :
    Calls Tryd.prog 40 #[.slice A1 n1 c1, .slice A2 n2 c2] w fun e w' => e = .returned (.bool b) ∧ Below w.heap.size w w' := by
  have hm1 := h1.le
  have hm2 := h2.le
  have H1 := Hd.mk h1; have H2 := Hd.mk h2; have HBb := Hd.mk hb; clear h1 h2 hb
  have HS1 := Hd.mk hS1; have HS2 := Hd.mk hS2; clear hS1 hS2
  by_cases hne : n1 = n2
  · subst hne
    go_enter Tryd.func40, Tryd.ntmps40
    go_wp2
    go_loopw [13] (fun i wr => ∃ k : Nat, k ≤ n1 ∧ i = .int .i64 k ∧ Hd (L1.take k = L2.take k) ∧ Hd (Below w.heap.size w wr)) (fun i _ => n1 - (intOf i).toNat)
    case atStart => exact ⟨0, Nat.zero_le _, rfl, ⟨rfl⟩, ⟨Below.refl _ _⟩⟩
    case round =>
      obtain ⟨k, hk, rfl, HE, HB⟩ := hrel
      by_cases hlt : k < n1
      · obtain ⟨b1, o1, x, rfl, hb1, -, hx1, hy1⟩ := byte_get (H1.out.below HS1.out HB.out) k hlt; obtain ⟨b2, o2, y, rfl, hb2, -, hx2, hy2⟩ := byte_get (H2.out.below HS2.out HB.out) k hlt
        have HX1 := Hd.mk hx1; have HX2 := Hd.mk hx2
        clear hx1 hx2
        by_cases hxy : x = y
        · have HE2 : Hd (L1.take (k + 1) = L2.take (k + 1)) := ⟨by rw [Df.take_snoc HX1.out, Df.take_snoc HX2.out, HE.out, hxy]⟩
          subst hxy; have h1 : ((x.toNat : Int) == (x.toNat : Int)) = true := by rw [u8_beq]; exact decide_eq_true rfl
          go_wp2
          refine wp_region_can (.q [0, 1, 2, 3, 4, 5, 6, 7, 8] (.done)) (clsB _) (by kernel_rfl) (by kernel_rfl) (by intro _ _ d _ _ h; cases d <;> exact h) (clsB_drew _) ?_
          refine can_q (l := [⟨_,_,_,_,_,_⟩, ⟨_,_,_,_,_,_⟩, ⟨_,_,_,_,_,_⟩, ⟨_,_,_,_,_,_⟩, ⟨_,_,_,_,_,_⟩, ⟨_,_,_,_,_,_⟩, ⟨_,_,_,_,_,_⟩, ⟨_,_,_,_,_,_⟩, ⟨_,_,_,_,_,_⟩]) rfl ?_
          repeat (go_big_quiet_step (fail))
          refine wpQuiet_nil ?_
          refine can_done ?_
          go_wp2
          go_roundw
          case rel => exact ⟨k + 1, by omega, by go_num, HE2, ⟨below_drew1 HB.out⟩⟩
          case measure => simp [intOf]; omega
        · obtain rfl : b = false := by rw [← HBb.out]; exact decide_eq_false fun h => hxy (by have a := HX1.out; rw [h, HX2.out] at a; exact (Option.some.inj a).symm)
          have h1 : ((x.toNat : Int) == (y.toNat : Int)) = false := by rw [u8_beq]; exact decide_eq_false hxy
          go_wp2
          refine wp_region_can (.q [0, 1, 2, 3, 4, 5, 6, 7, 8] (.done)) (clsB _) (by kernel_rfl) (by kernel_rfl) (by intro _ _ d _ _ h; cases d <;> exact h) (clsB_drew _) ?_
          refine can_q (l := [⟨_,_,_,_,_,_⟩, ⟨_,_,_,_,_,_⟩, ⟨_,_,_,_,_,_⟩, ⟨_,_,_,_,_,_⟩, ⟨_,_,_,_,_,_⟩, ⟨_,_,_,_,_,_⟩, ⟨_,_,_,_,_,_⟩, ⟨_,_,_,_,_,_⟩, ⟨_,_,_,_,_,_⟩]) rfl ?_
          repeat (go_big_quiet_step (fail))
          refine wpQuiet_nil ?_
          refine can_done ?_
          go_wp2
          go_ret
          exact ⟨rfl, below_drew1 HB.out⟩
      · obtain rfl : k = n1 := by omega
        obtain rfl : b = true := by rw [← HBb.out]; exact decide_eq_true (by have a := HE.out; rwa [Df.take_all H1.out.1, Df.take_all H2.out.1] at a)
        go_wp2
        go_ret
        exact ⟨rfl, HB.out⟩
  · obtain rfl : b = false := by rw [← HBb.out]; exact decide_eq_false fun h => hne (by rw [← H1.out.1, ← H2.out.1, h])
    have hz : ((n1 : Int) != (n2 : Int)) = true := by simp; omega
    go_enter Tryd.func40, Tryd.ntmps40
    go_wp2
    go_ret
    exact ⟨rfl, Below.refl _ _⟩
set_option maxHeartbeats 1000000 in
theorem EqA_calls (A1 A2 : Option Addr) (n1 n2 c1 c2 : Nat) (L1 L2 : List (ByteArray × Int)) (b : Bool) (S1 S2 : Nat → Prop) (w : World) (hS1 : ∀ k, S1 k → k < w.heap.size) (hS2 : ∀ k, S2 k → k < w.heap.size) (h1 : Row aT w S1 A1 n1 L1) (h2 : Row aT w S2 A2 n2 L2) (hb : decide (L1 = L2) = b) :
    Calls Tryd.prog 46 #[.slice A1 n1 c1, .slice A2 n2 c2] w fun e w' => e = .returned (.bool b) ∧ Below w.heap.size w w' := by
  have hm1 := h1.le
  have hm2 := h2.le
  have H1 := Hd.mk h1; have H2 := Hd.mk h2; have HBb := Hd.mk hb; clear h1 h2 hb
  have HS1 := Hd.mk hS1; have HS2 := Hd.mk hS2; clear hS1 hS2
  by_cases hne : n1 = n2
  · subst hne
    go_enter Tryd.func46, Tryd.ntmps46
    go_wp2
    go_loopw [13] (fun i wr => ∃ k : Nat, k ≤ n1 ∧ i = .int .i64 k ∧ Hd (L1.take k = L2.take k) ∧ Hd (Below w.heap.size w wr)) (fun i _ => n1 - (intOf i).toNat)
    case atStart => exact ⟨0, Nat.zero_le _, rfl, ⟨rfl⟩, ⟨Below.refl _ _⟩⟩
    case round =>
      obtain ⟨k, hk, rfl, HE, HB⟩ := hrel
      by_cases hlt : k < n1
      · obtain ⟨b1, o1, s1, g1, rfl, hb1, -, hx1, hy1, hz1⟩ := act_get (H1.out.below HS1.out HB.out) k hlt; obtain ⟨b2, o2, s2, g2, rfl, hb2, -, hx2, hy2, hz2⟩ := act_get (H2.out.below HS2.out HB.out) k hlt; obtain ⟨x, hx⟩ : ∃ x, (s1, g1) = x := ⟨_, rfl⟩; obtain ⟨y, hy⟩ : ∃ x, (s2, g2) = x := ⟨_, rfl⟩; rw [hx] at hx1; rw [hy] at hx2
        have HX1 := Hd.mk hx1; have HX2 := Hd.mk hx2
        clear hx1 hx2
        by_cases hxy : x = y
        · have HE2 : Hd (L1.take (k + 1) = L2.take (k + 1)) := ⟨by rw [Df.take_snoc HX1.out, Df.take_snoc HX2.out, HE.out, hxy]⟩
          have hq : s1 = s2 ∧ g1 = g2 := (by rw [← hx, ← hy] at hxy; simpa using hxy); clear hx hy hxy; obtain ⟨rfl, rfl⟩ := hq; have h1 : (s1.toList == s1.toList) = true := (by rw [str_beq]; exact decide_eq_true rfl)
          go_wp2
          refine wp_region_can (.q [0, 1, 2, 3, 4, 5, 6, 7, 8] (.done)) (clsB _) (by kernel_rfl) (by kernel_rfl) (by intro _ _ d _ _ h; cases d <;> exact h) (clsB_drew _) ?_
          refine can_q (l := [⟨_,_,_,_,_,_⟩, ⟨_,_,_,_,_,_⟩, ⟨_,_,_,_,_,_⟩, ⟨_,_,_,_,_,_⟩, ⟨_,_,_,_,_,_⟩, ⟨_,_,_,_,_,_⟩, ⟨_,_,_,_,_,_⟩, ⟨_,_,_,_,_,_⟩, ⟨_,_,_,_,_,_⟩]) rfl ?_
          repeat (go_big_quiet_step (fail))
          refine wpQuiet_nil ?_
          refine can_done ?_
          go_wp2
          go_roundw
          case rel => exact ⟨k + 1, by omega, by go_num, HE2, ⟨below_drew1 HB.out⟩⟩
          case measure => simp [intOf]; omega
        · obtain rfl : b = false := by rw [← HBb.out]; exact decide_eq_false fun h => hxy (by have a := HX1.out; rw [h, HX2.out] at a; exact (Option.some.inj a).symm)
          have h1 : (s1.toList == s2.toList && g1 == g2) = false := (by rw [str_beq, Bool.eq_false_iff]; intro h; rw [Bool.and_eq_true, decide_eq_true_eq, beq_iff_eq] at h; exact hxy (by rw [← hx, ← hy, h.1, h.2])); clear hx hy hxy
          go_wp2
          refine wp_region_can (.q [0, 1, 2, 3, 4, 5, 6, 7, 8] (.done)) (clsB _) (by kernel_rfl) (by kernel_rfl) (by intro _ _ d _ _ h; cases d <;> exact h) (clsB_drew _) ?_
          refine can_q (l := [⟨_,_,_,_,_,_⟩, ⟨_,_,_,_,_,_⟩, ⟨_,_,_,_,_,_⟩, ⟨_,_,_,_,_,_⟩, ⟨_,_,_,_,_,_⟩, ⟨_,_,_,_,_,_⟩, ⟨_,_,_,_,_,_⟩, ⟨_,_,_,_,_,_⟩, ⟨_,_,_,_,_,_⟩]) rfl ?_
          repeat (go_big_quiet_step (fail))
          refine wpQuiet_nil ?_
          refine can_done ?_
          go_wp2
          go_ret
          exact ⟨rfl, below_drew1 HB.out⟩
      · obtain rfl : k = n1 := by omega
        obtain rfl : b = true := by rw [← HBb.out]; exact decide_eq_true (by have a := HE.out; rwa [Df.take_all H1.out.1, Df.take_all H2.out.1] at a)
        go_wp2
        go_ret
        exact ⟨rfl, HB.out⟩
  · obtain rfl : b = false := by rw [← HBb.out]; exact decide_eq_false fun h => hne (by rw [← H1.out.1, ← H2.out.1, h])
    have hz : ((n1 : Int) != (n2 : Int)) = true := by simp; omega
    go_enter Tryd.func46, Tryd.ntmps46
    go_wp2
    go_ret
    exact ⟨rfl, Below.refl _ _⟩
end Go.Proofs.YtpcnekdilecakaaDoor.Tb
