/- PeekerEpochs: the plain law. -/
import Derived.Test.YtfckpppfmjllbaaP11
namespace Go.Proofs.Ytfckpppfmjllbaa.Fn
open Go Go.RowKit Go.Proofs.Ytfckpppfmjllbaa.Can Go.Proofs.Ytfckpppfmjllbaa.Base

/-- Where one comes, and what is met last, if each frame is asked behind the one ahead. -/
def chain : List Frame → Spot → Tok → Option (Spot × Tok)
  | [], a, t => some (a, t)
  | f :: fs, a, _ => match getE f.l a with
    | none => none
    | some x => chain fs ⟨x.t, x.m⟩ x
theorem chain_snoc {fs : List Frame} {a : Spot} {t : Tok} {r : Spot × Tok} {f : Frame} {x : Tok} (h : chain fs a t = some r) (hx : getE f.l r.1 = some x) : chain (fs ++ [f]) a t = some (⟨x.t, x.m⟩, x) := by
  induction fs generalizing a t with
  | nil =>
    simp only [chain, Option.some.injEq] at h
    subst h
    simp only [List.nil_append, chain, hx]
  | cons g fs ih =>
    simp only [List.cons_append, chain] at h ⊢
    cases hg : getE g.l a with
    | none => rw [hg] at h; cases h
    | some y => rw [hg] at h; exact ih h
structure Run (l : List Frame) (i : Nat) (s : PS) (j : Nat) (t' : Tok) (pre : List Frame) (f0 : Frame) (fs : List Frame) : Prop where
  tk : l.take i = pre ++ f0 :: fs
  ep : f0.epoch = s.ep
  ch : chain fs f0.spot tok0 = some (⟨s.a, s.m⟩, t')
  len : fs.length = j
def Inv (l : List Frame) (i : Nat) (s : PS) : Prop :=
  s.ho ≠ 1 ∧ (s.ho = 0 → (s.ph = 1 → ∃ t' pre f0 fs, Run l i s (s.n - s.le) t' pre f0 fs) ∧ (s.ph = 2 → ∃ pre f0 fs, Run l i s s.n s.t pre f0 fs))
theorem take_snoc {l : List Frame} {i : Nat} {f : Frame} (hf : l[i]? = some f) : l.take (i + 1) = l.take i ++ [f] := by
  rw [List.take_add_one, hf]; rfl
theorem inv0 (l : List Frame) (n r : Nat) : Inv l 0 ⟨n, r, 0, 0, 0, 0, 0, 0, 0, tok0, 0⟩ := ⟨(by intro h; have h9 : (0 : Nat) = 1 := h; omega), fun _ => ⟨(fun h => by have h9 : (0 : Nat) = 1 := h; omega), (fun h => by have h9 : (0 : Nat) = 2 := h; omega)⟩⟩
theorem failR_ne (s : PS) : failR s ≠ 1 := by unfold failR; split <;> omega
theorem inv_fail (l : List Frame) (i : Nat) (s : PS) : Inv l i { failP s with ho := failR s } := ⟨failR_ne s, fun _ => ⟨(fun h => by have h9 : (0 : Nat) = 1 := h; omega), (fun h => by have h9 : (0 : Nat) = 2 := h; omega)⟩⟩
theorem step_out {s : PS} {f : Frame} (h : s.ho ≠ 0) : stepP s f = s := by unfold stepP; rw [if_pos h]
theorem step_0 {s : PS} {f : Frame} (h : s.ho = 0) (p : s.ph = 0) : stepP s f = { s with st := s.st + 1, ep := f.epoch, a := f.spot.at_, m := f.spot.mode, le := s.n, ph := 1, ho := 0 } := by
  unfold stepP; rw [if_neg (by omega)]; simp only [p]
theorem step_1 {s : PS} {f : Frame} (h : s.ho = 0) (p : s.ph = 1) : stepP s f = { lookP { s with st := s.st + 1 } f.l with ho := lookR { s with st := s.st + 1 } f.l } := by
  unfold stepP; rw [if_neg (by omega)]; simp only [p]
theorem step_2 {s : PS} {f : Frame} (h : s.ho = 0) (p : s.ph = 2) : stepP s f = if f.epoch = s.ep then { s with st := s.st + 1, ho := 1 } else { failP { s with st := s.st + 1 } with ho := failR { s with st := s.st + 1 } } := by
  unfold stepP; rw [if_neg (by omega)]; simp only [p]
theorem step_inv {l : List Frame} {i : Nat} {s : PS} {f : Frame} (ok : Ok s) (h : Inv l i s) (hf : l[i]? = some f) (hn : (stepP s f).ho ≠ 1) : Inv l (i + 1) (stepP s f) := by
  obtain ⟨h1, h2⟩ := h
  by_cases h0 : s.ho = 0
  · obtain ⟨h3, h4⟩ := h2 h0
    by_cases p0 : s.ph = 0
    · rw [step_0 h0 p0]
      refine ⟨(by intro h; have h9 : (0 : Nat) = 1 := h; omega), fun _ => ⟨fun _ => ⟨tok0, l.take i, f, [], take_snoc hf, rfl, rfl, ?_⟩, (fun h => by have h9 : (1 : Nat) = 2 := h; omega)⟩⟩
      show 0 = s.n - s.n
      omega
    · by_cases hp : s.ph = 1
      · rw [step_1 h0 hp]
        obtain ⟨t', pre, f0, fs, hr⟩ := h3 hp
        have hl := ok.l1 hp
        unfold lookP lookR
        cases hg : getE f.l ⟨s.a, s.m⟩ with
        | none =>
          simp only [hg]
          exact inv_fail l (i + 1) { s with st := s.st + 1 }
        | some t =>
          simp only [hg]
          have hc := chain_snoc (f := f) hr.ch hg
          have htk : l.take (i + 1) = pre ++ f0 :: (fs ++ [f]) := by rw [take_snoc hf, hr.tk]; simp
          refine ⟨(by intro h; have h9 : (0 : Nat) = 1 := h; omega), fun _ => ⟨fun h => ⟨t, pre, f0, fs ++ [f], htk, hr.ep, hc, ?_⟩, fun h => ⟨pre, f0, fs ++ [f], htk, hr.ep, hc, ?_⟩⟩⟩
          · show (fs ++ [f]).length = s.n - (s.le - 1)
            rw [List.length_append, hr.len]; simp; omega
          · have h9 : (if s.le - 1 = 0 then 2 else s.ph) = 2 := h
            show (fs ++ [f]).length = s.n
            rw [List.length_append, hr.len]
            split at h9 <;> simp <;> omega
      · have hp2 : s.ph = 2 := by have := ok.ph; omega
        rw [step_2 h0 hp2] at hn ⊢
        by_cases he : f.epoch = s.ep
        · rw [if_pos he] at hn; exact absurd rfl hn
        · rw [if_neg he]
          exact inv_fail l (i + 1) { s with st := s.st + 1 }
  · rw [step_out h0]
    exact ⟨h1, fun h => absurd h h0⟩
theorem done_run {l : List Frame} {i : Nat} {s : PS} {f : Frame} (ok : Ok s) (h : Inv l i s) (hd : (stepP s f).ho = 1) :
    ∃ pre f0 fs, l.take i = pre ++ f0 :: fs ∧ f0.epoch = f.epoch ∧ fs.length = s.n ∧ chain fs f0.spot tok0 = some (⟨s.a, s.m⟩, (stepP s f).t) := by
  obtain ⟨h1, h2⟩ := h
  by_cases h0 : s.ho = 0
  · obtain ⟨h3, h4⟩ := h2 h0
    by_cases p0 : s.ph = 0
    · rw [step_0 h0 p0] at hd; have h9 : (0 : Nat) = 1 := hd; omega
    · by_cases hp : s.ph = 1
      · exfalso
        rw [step_1 h0 hp] at hd
        have hd' : lookR { s with st := s.st + 1 } f.l = 1 := hd
        unfold lookR at hd'
        split at hd'
        · exact failR_ne _ hd'
        · omega
      · have hp2 : s.ph = 2 := by have := ok.ph; omega
        rw [step_2 h0 hp2] at hd ⊢
        by_cases he : f.epoch = s.ep
        · rw [if_pos he]
          obtain ⟨pre, f0, fs, hr⟩ := h4 hp2
          exact ⟨pre, f0, fs, hr.tk, by rw [hr.ep, he], hr.len, hr.ch⟩
        · rw [if_neg he] at hd
          exact absurd hd (failR_ne _)
  · rw [step_out h0] at hd; exact absurd hd h1
theorem step_n (s : PS) (f : Frame) : (stepP s f).n = s.n := by
  unfold stepP
  split
  · rfl
  · split
    · rfl
    · unfold lookP failP
      cases getE f.l ⟨s.a, s.m⟩ <;> rfl
    · split <;> rfl
end Go.Proofs.Ytfckpppfmjllbaa.Fn
