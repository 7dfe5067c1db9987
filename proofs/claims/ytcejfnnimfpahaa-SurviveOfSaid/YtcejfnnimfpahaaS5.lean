/- What the other operations turn. -/
import Derived.Test.YtcejfnnimfpahaaS4
namespace Go.Proofs.Ytcejfnnimfpahaa.Fn
open Go Go.RowKit Go.Proofs.Ytcejfnnimfpahaa.Can Go.Proofs.Ytcejfnnimfpahaa.Base
attribute [local go_sem] clsB AB.cell

section
variable {w w' : World} {p b base B : Nat} {F : FS}
theorem Fold.spot (h : Fold w p b base B F) (at_ : Spot) (hs : w'.heap[p]? = some (.cells #[.int .i64 at_.at_, .int .i64 at_.mode, .slice F.A F.n F.c, .map (some b)] 74 (0, 0))) (hf : Fr (fun k => k = p) w w') : Fold w' p b base B ⟨⟨at_, F.s.l⟩, F.K, F.own, F.A, F.n, F.c⟩ := by
  have hz := hf.size
  have hpb := h.pb
  have hX : ∀ k, k = p → k < base := by rintro k rfl; exact hpb
  refine ⟨hs, h.map.move (hf.same b h.map.lt (fun he => h.ne he.symm)), h.ne, h.pb, h.bb, Nat.le_trans h.size hz, (hf.row h.row (fun k hk => ⟨hk.2, by show ¬ k = p; omega⟩)).mono fun k hk => ⟨hk.1, by omega⟩, h.cap, h.nil, ?_, fun x e hx => ?_, h.lenN, h.lenK⟩
  · rcases h.tail with ht | ⟨h1, h2⟩
    · exact .inl ht
    · exact .inr ⟨h1, h2.by hf hX⟩
  · rcases h.kept x e hx with hk | hk
    · exact .inl ((hf.row hk fun k hk => ⟨hk.1.2, by show ¬ k = p; omega⟩).mono fun k hk => ⟨⟨hk.1.1, by omega⟩, hk.2⟩)
    · exact .inr hk
theorem Fold.maps (h : Fold w p b base B F) (K : Int → Option KE) (hm : VMap w' b (B + 1) (fun y => (K y).map kval)) (hf : Fr (fun k => k = b) w w')
    (hK : ∀ x e, K x = some e → F.K x = some e ∨ e = ⟨F.s.at_, F.A, F.n, F.s.l⟩) : Fold w' p b base (B + 1) ⟨F.s, K, F.own, F.A, F.n, F.c⟩ := by
  have hz := hf.size
  have hbb := h.bb
  have hX : ∀ k, k = b → k < base := by rintro k rfl; exact hbb
  refine ⟨(hf.same p (blk_lt h.str) h.ne).trans h.str, hm, h.ne, h.pb, h.bb, Nat.le_trans h.size hz, (hf.row h.row (fun k hk => ⟨hk.2, by show ¬ k = b; omega⟩)).mono fun k hk => ⟨hk.1, by omega⟩, h.cap, h.nil, ?_, fun x e hx => ?_, Nat.le_succ_of_le h.lenN, fun x e hx => ?_⟩
  · rcases h.tail with ht | ⟨h1, h2⟩
    · exact .inl ht
    · exact .inr ⟨h1, h2.by hf hX⟩
  · rcases hK x e hx with he | rfl
    · rcases h.kept x e he with hk | hk
      · exact .inl ((hf.row hk fun k hk => ⟨hk.1.2, by show ¬ k = b; omega⟩).mono fun k hk => ⟨⟨hk.1.1, by omega⟩, hk.2⟩)
      · exact .inr hk
    · exact .inr ⟨rfl, Nat.le_refl _, by rw [List.take_of_length_le (by show F.s.l.length ≤ F.n; rw [h.row.1]; exact Nat.le_refl _)]⟩
  · rcases hK x e hx with he | rfl
    · exact Nat.le_succ_of_le (h.lenK x e he)
    · exact Nat.le_succ_of_le h.lenN
end
theorem nothing_calls {w : World} {p b base B : Nat} {F : FS} (h : Fold w p b base B F) (v : Ev) : Calls Try.prog 36 #[.pointer (some ⟨p, 0, none⟩), evV v] w fun e w' =>
    e = .returned (.tuple #[]) ∧ Turned w w' p b base B F.s (kst F) := by
  unfold evV
  have HH := Hd.mk h
  clear h
  go_enter Try.func36, Try.ntmps36
  go_wp2
  go_end0
  exact ⟨rfl, Turned.same HH.out (by repeat (first | (with_reducible assumption) | (with_reducible exact Below.refl _ _) | (with_reducible apply below_drewL) | (with_reducible apply below_alloc) | (with_reducible apply below_drew1) | (with_reducible apply below_drewN) | (refine below_set ?_ (by first | omega | (simp only [size_alloc, size_drew, size_set]; omega)) _ _)))⟩
theorem mode_calls {w : World} {p b base B : Nat} {F : FS} (h : Fold w p b base B F) (v : Ev) : Calls Try.prog 35 #[.pointer (some ⟨p, 0, none⟩), evV v] w fun e w' =>
    e = .returned (.tuple #[]) ∧ Turned w w' p b base B ⟨⟨F.s.at_.at_, v.n⟩, F.s.l⟩ (kst F) := by
  unfold evV
  have hs := h.str
  have HH := Hd.mk h
  have hbs := h.size
  have hpb := h.pb
  have hbb := h.bb
  have hcap := h.cap
  obtain ⟨A, hA⟩ : ∃ A, F.A = A := ⟨_, rfl⟩
  obtain ⟨n, hn⟩ : ∃ n, F.n = n := ⟨_, rfl⟩
  obtain ⟨c, hc⟩ : ∃ c, F.c = c := ⟨_, rfl⟩
  obtain ⟨sp, hsp⟩ : ∃ sp, F.s.at_ = sp := ⟨_, rfl⟩
  rw [hn, hc] at hcap
  rw [hA, hn, hc, hsp] at hs
  have HA := Hd.mk hA; have HN := Hd.mk hn; have HC := Hd.mk hc; have HSP := Hd.mk hsp
  have HS := Hd.mk hs
  have hsc0 := blk_cell hs 0 _ rfl; have hsf0 := blk_frozen hs 0; have hsc1 := blk_cell hs 1 _ rfl; have hsf1 := blk_frozen hs 1; have hsc2 := blk_cell hs 2 _ rfl; have hsf2 := blk_frozen hs 2; have hsc3 := blk_cell hs 3 _ rfl; have hsf3 := blk_frozen hs 3; have hsl := blk_lt hs
  clear h hA hn hc hsp hs
  go_enter Try.func35, Try.ntmps35
  go_wp2
  go_end0
  have hsp := HH.out.spot (w' := w.setCell ⟨p, 1, none⟩ (.int .i64 v.n)) ⟨F.s.at_.at_, v.n⟩ (by rw [HA.out, HN.out, HC.out, HSP.out]; exact blk_set HS.out 1 _ _ rfl) (Fr.set (Fr.refl (fun k => k = p) _) (.inl rfl) _ _)
  exact ⟨rfl, _, (hsp.below (below_alloc (Below.refl _ _) _)).more (Nat.le_succ B), rfl, fun _ => rfl, (Fr.set (Fr.refl (XF p b base) _) (.inl (.inl rfl)) _ _).alloc _⟩
theorem kst_none {F : FS} {x : Int} (h : kst F x = none) : F.K x = none := by
  unfold kst at h
  cases hx : F.K x with
  | none => rfl
  | some e => rw [hx] at h; cases h
theorem release_calls {w : World} {p b base B : Nat} {F : FS} (h : Fold w p b base B F) (v : Ev) (hv : (Lit.int .i64 v.n).wf = true) : Calls Try.prog 34 #[.pointer (some ⟨p, 0, none⟩), evV v] w fun e w' =>
    e = .returned (.tuple #[]) ∧ Turned w w' p b base B F.s (fun y => if y = v.n then none else kst F y) := by
  unfold evV
  obtain ⟨w3, hrun, hmap, hfr⟩ := (h.map.move (w' := (w.alloc (.cells #[.int .i64 v.kind, .int .i64 v.id, .int .i64 v.client, .int .i64 v.op, .int .i64 v.n, .string v.data, .int .i64 v.e, .int .i64 v.rn, .int .i64 v.tok.k, .int .i64 v.tok.r, .int .i64 v.tok.f, .int .i64 v.tok.a, .int .i64 v.tok.t, .int .i64 v.tok.m] 55)).drew) (Below.heap_alloc w _ b h.map.lt)).drop hv 0
  have HM := Hd.mk hmap; have HF := Hd.mk hfr
  clear hmap hfr
  have hs := h.str
  have HH := Hd.mk h
  have hbs := h.size
  have hpb := h.pb
  have hbb := h.bb
  have hcap := h.cap
  obtain ⟨A, hA⟩ : ∃ A, F.A = A := ⟨_, rfl⟩
  obtain ⟨n, hn⟩ : ∃ n, F.n = n := ⟨_, rfl⟩
  obtain ⟨c, hc⟩ : ∃ c, F.c = c := ⟨_, rfl⟩
  obtain ⟨sp, hsp⟩ : ∃ sp, F.s.at_ = sp := ⟨_, rfl⟩
  rw [hn, hc] at hcap
  rw [hA, hn, hc, hsp] at hs
  have HA := Hd.mk hA; have HN := Hd.mk hn; have HC := Hd.mk hc; have HSP := Hd.mk hsp
  have HS := Hd.mk hs
  have hsc0 := blk_cell hs 0 _ rfl; have hsf0 := blk_frozen hs 0; have hsc1 := blk_cell hs 1 _ rfl; have hsf1 := blk_frozen hs 1; have hsc2 := blk_cell hs 2 _ rfl; have hsf2 := blk_frozen hs 2; have hsc3 := blk_cell hs 3 _ rfl; have hsf3 := blk_frozen hs 3; have hsl := blk_lt hs
  clear h hA hn hc hsp hs
  go_enter Try.func34, Try.ntmps34
  go_wp2
  refine wp_region_can (.q [0, 1, 2, 3, 4, 5, 6] (.e 7 false (.done))) (clsB _) (by kernel_rfl) (by kernel_rfl) (by intro _ _ d _ _ h; cases d <;> exact h) (clsB_drew _) ?_
  refine can_q (l := [⟨_,_,_,_,_,_⟩, ⟨_,_,_,_,_,_⟩, ⟨_,_,_,_,_,_⟩, ⟨_,_,_,_,_,_⟩, ⟨_,_,_,_,_,_⟩, ⟨_,_,_,_,_,_⟩, ⟨_,_,_,_,_,_⟩]) rfl ?_
  repeat (go_big_quiet_step (fail))
  refine wpQuiet_nil ?_
  refine can_e (o := ⟨_,_,_,_,_,_⟩) rfl (fun K hK => ?_)
  go_wp2_with fail
  refine onK_normal (hK _ _ ⟨fun _ => True, trivial, (fun h => by cases h), ?_⟩)
  clear hK K
  refine can_done ?_
  go_wp2
  go_end0
  refine ⟨rfl, _, (HH.out.below (w' := (w.alloc _).drew) (by repeat (first | (with_reducible assumption) | (with_reducible exact Below.refl _ _) | (with_reducible apply below_drewL) | (with_reducible apply below_alloc) | (with_reducible apply below_drew1) | (with_reducible apply below_drewN) | (refine below_set ?_ (by first | omega | (simp only [size_alloc, size_drew, size_set]; omega)) _ _)))).maps (fun y => if y = v.n then none else F.K y) ?_ HF.out ?_, rfl, fun y => ?_, ?_⟩
  · obtain ⟨D, h1, h2⟩ := HM.out
    refine ⟨D, h1.mono (Nat.le_succ B), fun x hx => ?_⟩
    have h3 := h2 x hx
    by_cases he : x = v.n
    · simpa [he] using h3
    · simpa [he] using h3
  · intro x e hx
    by_cases he : x = v.n
    · simp [he] at hx
    · simp [he] at hx; exact .inl hx
  · show Option.map KE.st (if y = v.n then none else F.K y) = _
    by_cases he : y = v.n
    · simp [he]
    · simp [he, kst]
  · exact ((Fr.refl (XF p b base) _).alloc _).drew.trans (HF.out.mono fun k hk => .inr (.inl hk))
end Go.Proofs.Ytcejfnnimfpahaa.Fn
