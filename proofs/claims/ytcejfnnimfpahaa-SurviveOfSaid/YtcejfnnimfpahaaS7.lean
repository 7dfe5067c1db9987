/- What the fold over a history computes. -/
import Derived.Test.YtcejfnnimfpahaaS6
namespace Go.Proofs.Ytcejfnnimfpahaa.Fn
open Go Go.RowKit Go.Proofs.Ytcejfnnimfpahaa.Can Go.Proofs.Ytcejfnnimfpahaa.Base
attribute [local go_sem] clsB AB.cell

/-- An event counts, without an error. -/
def goodB (v : Ev) : Bool := v.kind == 2 && v.e == 0
/-- The takes that survive, and those that are kept. -/
structure Mdl where
  s : St
  κ : Int → Option St
def pop (s : St) : St := match s.l.getLast? with | none => s | some x => ⟨x.at_, s.l.dropLast⟩
def turnM (m : Mdl) (v : Ev) : Mdl :=
  if v.op = 4 then (if v.tok.k = 3 then m else ⟨⟨⟨v.tok.t, v.tok.m⟩, m.s.l ++ [⟨m.s.at_, v.tok⟩]⟩, m.κ⟩)
  else if v.op = 5 then ⟨pop m.s, m.κ⟩
  else if v.op = 6 then ⟨m.s, fun y => if y = v.rn then some m.s else m.κ y⟩
  else if v.op = 7 then ⟨(m.κ v.n).getD m.s, m.κ⟩
  else if v.op = 8 then ⟨m.s, fun y => if y = v.n then none else m.κ y⟩
  else if v.op = 9 then ⟨⟨⟨m.s.at_.at_, v.n⟩, m.s.l⟩, m.κ⟩
  else m
def stepM (m : Mdl) (v : Ev) : Mdl := if goodB v then turnM m v else m
def initM (mode : Int) : Mdl := ⟨⟨⟨0, mode⟩, []⟩, fun _ => none⟩
def runM (mode : Int) (h : List Ev) : Mdl := h.foldl stepM (initM mode)
theorem runM_snoc (mode : Int) (h : List Ev) (v : Ev) : runM mode (h ++ [v]) = stepM (runM mode h) v := by simp [runM]
def turnOf (op : Int) : Nat := if op = 4 then 30 else if op = 5 then 31 else if op = 6 then 32 else if op = 7 then 33 else if op = 8 then 34 else if op = 9 then 35 else 36
theorem good_calls (v : Ev) (w : World) : Calls Try.prog 27 #[evV v] w fun e w' => e = .returned (.bool (goodB v)) ∧ Below w.heap.size w w' := by
  obtain ⟨bb, hbb⟩ : ∃ bb, goodB v = bb := ⟨_, rfl⟩
  rw [hbb]
  have HB := Hd.mk hbb; clear hbb
  unfold evV
  by_cases h1 : v.kind = 2
  · have hJ : (v.kind == 2) = true := by simpa using h1
    cases h2 : (v.e == 0) with
    | true =>
      obtain rfl : bb = true := by rw [← HB.out]; unfold goodB; rw [hJ, h2]; rfl
      clear h1
      go_enter Try.func27, Try.ntmps27
      go_wp2
      go_ret
      exact ⟨by first | rfl | exact ret_bool (by simp_all), (by repeat (first | (with_reducible assumption) | (with_reducible exact Below.refl _ _) | (with_reducible apply below_drewL) | (with_reducible apply below_alloc) | (with_reducible apply below_drew1) | (with_reducible apply below_drewN) | (refine below_set ?_ (by first | omega | (simp only [size_alloc, size_drew, size_set]; omega)) _ _)))⟩
    | false =>
      obtain rfl : bb = false := by rw [← HB.out]; unfold goodB; rw [hJ, h2]; rfl
      clear h1
      go_enter Try.func27, Try.ntmps27
      go_wp2
      go_ret
      exact ⟨by first | rfl | exact ret_bool (by simp_all), (by repeat (first | (with_reducible assumption) | (with_reducible exact Below.refl _ _) | (with_reducible apply below_drewL) | (with_reducible apply below_alloc) | (with_reducible apply below_drew1) | (with_reducible apply below_drewN) | (refine below_set ?_ (by first | omega | (simp only [size_alloc, size_drew, size_set]; omega)) _ _)))⟩
  · have hJ : (v.kind == 2) = false := by simpa using h1
    obtain rfl : bb = false := by rw [← HB.out]; unfold goodB; rw [hJ]; rfl
    clear h1
    go_enter Try.func27, Try.ntmps27
    go_wp2
    go_ret
    exact ⟨by first | rfl | exact ret_bool (by simp_all), (by repeat (first | (with_reducible assumption) | (with_reducible exact Below.refl _ _) | (with_reducible apply below_drewL) | (with_reducible apply below_alloc) | (with_reducible apply below_drew1) | (with_reducible apply below_drewN) | (refine below_set ?_ (by first | omega | (simp only [size_alloc, size_drew, size_set]; omega)) _ _)))⟩
theorem turns_calls (k : Int) (w : World) : Calls Try.prog 29 #[.int .i64 k] w fun e w' => e = .returned (.func (Fn.func (turnOf k)) #[] #[]) ∧ w' = w := by
  by_cases h4 : k = 4
  · subst h4
    go_enter Try.func29, Try.ntmps29
    go_wp2
    go_ret
    exact ⟨rfl, rfl⟩
  by_cases h5 : k = 5
  · subst h5
    go_enter Try.func29, Try.ntmps29
    go_wp2
    go_ret
    exact ⟨rfl, rfl⟩
  by_cases h6 : k = 6
  · subst h6
    go_enter Try.func29, Try.ntmps29
    go_wp2
    go_ret
    exact ⟨rfl, rfl⟩
  by_cases h7 : k = 7
  · subst h7
    go_enter Try.func29, Try.ntmps29
    go_wp2
    go_ret
    exact ⟨rfl, rfl⟩
  by_cases h8 : k = 8
  · subst h8
    go_enter Try.func29, Try.ntmps29
    go_wp2
    go_ret
    exact ⟨rfl, rfl⟩
  by_cases h9 : k = 9
  · subst h9
    go_enter Try.func29, Try.ntmps29
    go_wp2
    go_ret
    exact ⟨rfl, rfl⟩
  · have j4 : (k == 4) = false := by simpa using h4
    have j5 : (k == 5) = false := by simpa using h5
    have j6 : (k == 6) = false := by simpa using h6
    have j7 : (k == 7) = false := by simpa using h7
    have j8 : (k == 8) = false := by simpa using h8
    have j9 : (k == 9) = false := by simpa using h9
    have hT : turnOf k = 36 := by unfold turnOf; simp [*]
    rw [hT]
    clear h4 h5 h6 h7 h8 h9 hT
    go_enter Try.func29, Try.ntmps29
    go_wp2
    go_ret
    exact ⟨rfl, rfl⟩
theorem turn_calls {w : World} {p b base B : Nat} {F : FS} (h : Fold w p b base B F) (v : Ev) (hv : (Lit.int .i64 v.n).wf = true ∧ (Lit.int .i64 v.rn).wf = true) (hB : B ≤ 1000000) : Calls Try.prog (turnOf v.op) #[.pointer (some ⟨p, 0, none⟩), evV v] w fun e w' =>
    e = .returned (.tuple #[]) ∧ Turned w w' p b base B (turnM ⟨F.s, kst F⟩ v).s (turnM ⟨F.s, kst F⟩ v).κ := by
  unfold turnOf turnM
  by_cases h4 : v.op = 4
  · rw [if_pos h4, if_pos h4]
    by_cases hk : v.tok.k = 3
    · rw [if_pos hk]; exact take_end h v hk
    · rw [if_neg hk]; exact take_calls h v hk hB
  rw [if_neg h4, if_neg h4]
  by_cases h5 : v.op = 5
  · rw [if_pos h5, if_pos h5]
    rcases List.eq_nil_or_concat F.s.l with hl | ⟨l, x, hl⟩
    · have : pop F.s = F.s := by unfold pop; rw [hl]; rfl
      show Calls _ _ _ _ fun e w' => e = _ ∧ Turned w w' p b base B (pop F.s) (kst F)
      rw [this]
      exact pushBack_nil h v hl
    · rw [List.concat_eq_append] at hl
      have : pop F.s = ⟨x.at_, l⟩ := by unfold pop; rw [hl]; simp
      show Calls _ _ _ _ fun e w' => e = _ ∧ Turned w w' p b base B (pop F.s) (kst F)
      rw [this]
      exact pushBack_some h v l x hl hB
  rw [if_neg h5, if_neg h5]
  by_cases h6 : v.op = 6
  · rw [if_pos h6, if_pos h6]
    exact mark_calls h v hv.2 hB
  rw [if_neg h6, if_neg h6]
  by_cases h7 : v.op = 7
  · rw [if_pos h7, if_pos h7]
    cases hK : F.K v.n with
    | none =>
      have hk : kst F v.n = none := by unfold kst; rw [hK]; rfl
      show Calls _ _ _ _ fun e w' => e = _ ∧ Turned w w' p b base B ((kst F v.n).getD F.s) (kst F)
      rw [hk]
      exact rewind_none h v hv.1 hk
    | some e =>
      have hk : kst F v.n = some e.st := by unfold kst; rw [hK]; rfl
      show Calls _ _ _ _ fun e w' => e = _ ∧ Turned w w' p b base B ((kst F v.n).getD F.s) (kst F)
      rw [hk]
      exact rewind_some h v hv.1 hK
  rw [if_neg h7, if_neg h7]
  by_cases h8 : v.op = 8
  · rw [if_pos h8, if_pos h8]
    exact release_calls h v hv.1
  rw [if_neg h8, if_neg h8]
  by_cases h9 : v.op = 9
  · rw [if_pos h9, if_pos h9]
    exact mode_calls h v
  rw [if_neg h9, if_neg h9]
  exact nothing_calls h v
theorem turn_some (k : Int) : turnOf k = 30 ∨ turnOf k = 31 ∨ turnOf k = 32 ∨ turnOf k = 33 ∨ turnOf k = 34 ∨ turnOf k = 35 ∨ turnOf k = 36 := by
  unfold turnOf
  repeat (first | omega | split)
end Go.Proofs.Ytcejfnnimfpahaa.Fn
