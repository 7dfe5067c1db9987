/- Texts: K1, K2, K3. -/
import Derived.Test.YtoambcpjdcehhaaGreatGA
import Derived.Test.YtoambcpjdcehhaaGreatVC
/- A loop over an iterator whose rounds go on just while what comes is of one kind, and whose loop variable is boxed. -/
set_option linter.unusedVariables false
set_option linter.unusedSimpArgs false
namespace Go.Proofs.YtoambcpjdcehhaaGreat.Tb
open Go Go.RowKit Go.Shelf Go.Proofs.YtoambcpjdcehhaaGreat.Can Go.Proofs.YtoambcpjdcehhaaGreat.Base

/-- What a round keeps that goes on: these blocks, and whatever is cells. -/
structure KeptB (K : Nat → Prop) (W W' : World) : Prop where
  kept : Kept K W W'
  cells : ∀ (k : Nat) (o : Obj), W.heap[k]? = some o → o.isCells = true → W'.heap[k]? = some o
theorem KeptB.trans {K : Nat → Prop} {A B C : World} (h : KeptB K A B) (k : KeptB K B C) : KeptB K A C := ⟨h.kept.trans k.kept, fun b o ho hc => k.cells b o (h.cells b o ho hc) hc⟩
theorem KeptB.refl (K : Nat → Prop) (W : World) : KeptB K W W := ⟨Kept.refl K W, fun _ _ h _ => h⟩
theorem KeptB.below {K : Nat → Prop} {W W' : World} (h : Below W.heap.size W W') (hK : ∀ k, K k → k < W.heap.size) : KeptB K W W' := ⟨fun k hk => h.block k (hK k hk), fun k o ho _ => (h.block k (blk_lt ho)).trans ho⟩
/-- How a round may end. -/
def roundPost {α : Type} (B : Nat) (K : Nat → Prop) (G : α → Prop) (I : World → Prop) (Ix : α → World → Prop) (x : α) (W : World) : Exit → Act → World → Prop
  | .normal, _, W' => KeepsFrom B W W' ∧ KeptB K W W' ∧ I W' ∧ G x
  | .ret, _, W' => KeepsFrom B W W' ∧ Ix x W' ∧ ¬ G x
  | _, _, _ => False
/-- It has ended by itself, or at x. -/
def endsAs {α : Type} (J : World → Prop) (Jx : α → World → Prop) (res : Option α) (W : World) : Prop := match res with | none => J W | some x => Jx x W
/-- What an iterator owes whose rounds go on at G alone: it ends by itself (none), or at what is not of G (some x). -/
def Guarded {α : Type} (n : Nat) (P : Program) (gf : Nat) (lb : Array Value) (enc : α → Value) (K Z : Nat → Prop) (G : α → Prop) (res : Option α) (w : World) : Prop :=
  ∀ (l : Nat) (J : World → Prop) (Jx : α → World → Prop) (W : World), Below w.heap.size w W → (∀ W W', J W → Fr Z W W' → J W') →
    (∀ x W1, J W1 → YieldAt Fence.wide (n - 1) P l #[enc x] W1 fun e W' => (e = .returned (.bool true) ∧ G x ∧ J W' ∧ KeptB K W1 W') ∨ (e = .returned (.bool false) ∧ ¬ G x ∧ Jx x W')) → J W →
    CallsIn Fence.wide n P gf (#[.func (.yield l) #[] #[]] ++ lb) W fun e W' => (∃ v, e = .returned v) ∧ endsAs J Jx res W'
theorem rangeFunc_guard {P : Program} {α : Type} {g : Operand} {ps : Array Tmp} {assign body : Code} {Q : Exit → Act → World → Prop} {a : Act} {w : World} {n : Nat} (h1 : 1 ≤ n) {gf : Nat} {lb : Array Value} (hg : a.eval g = .func (.func gf) #[] lb)
    (eg : ∀ args w, (callFunc gf args).run P w = .ok (.enter gf args) w) (enc : α → Value) (hps : ps.size = 1) (K : Nat → Prop) (hK : ∀ k, K k → k < w.heap.size) (Z : Nat → Prop) (hZ : ∀ k, Z k → k < w.heap.size) (G : α → Prop) (res : Option α) (hseq : Guarded (n - 1) P gf lb enc K Z G res w)
    (I : World → Prop) (Ix : α → World → Prop) (hI : OwnFrom w.heap.size (fun (_ : Unit) => I)) (hIx : ∀ x, OwnFrom w.heap.size (fun (_ : Unit) => Ix x)) (hIZ : ∀ W W', I W → Fr Z W W' → I W') (h0 : I w) (Ax : α → Act → World → Prop) (hAx : ∀ x a', OwnFrom w.heap.size (fun (_ : Unit) W => Ax x a' W))
    (hassign : ∀ (l : Nat) (x : α) (W : World) (K' : Act → World → Prop), I W → (∀ a' W', KeepsFrom w.heap.size W W' → KeptB K W W' → I W' → Ax x a' W' → K' a' W') →
      assign.wpIn (Fence.wide.inRound l) (n - 1 - 1) P (Exit.then K' (fun _ _ _ => False)) { tmps := (ps.zip #[enc x]).foldl (fun t (p, v) => t.setIfInBounds p v) a.tmps, defers := [] } W)
    (hbody : ∀ (l : Nat) (x : α) (a' : Act) (W : World), I W → Ax x a' W → body.wpIn (Fence.wide.inRound l) (n - 1 - 1) P (roundPost w.heap.size K G I Ix x W) a' W)
    (hdone : ∀ (D : Nat) (W : World), w.heap.size ≤ D → res = none → I W → W.heap[D]? = some (.deferred (some [])) → Q .normal { a with defers := { target := .collected D, args := #[] } :: a.defers } W)
    (hstop : ∀ (D : Nat) (x : α) (W : World), w.heap.size ≤ D → res = some x → Ix x W → W.heap[D]? = some (.deferred (some [])) → Code.ret.wpIn Fence.wide n P Q { a with defers := { target := .collected D, args := #[] } :: a.defers } W) :
    (Code.rangeFunc g ps assign body).wpIn Fence.wide n P Q a w := by
  have hKb : ∀ (W : World) (l : Nat) (o o' : Obj), w.heap.size ≤ l → W.heap[l]? = some o → o.isCells = false → KeptB K W (W.putObj l o') := fun W l o o' hl ho hc => ⟨fun k hk => World.putObj_heap_other (by have := hK k hk; omega), fun k o2 h2 hc2 => by
    by_cases he : k = l
    · subst he; rw [ho] at h2; cases h2; rw [hc] at hc2; cases hc2
    · exact (World.putObj_heap_other he).trans h2⟩
  refine wpIn_rangeFunc ?_
  intro fn hfn
  show ∃ _, _
  obtain ⟨rec, hrec⟩ : ∃ rec : LoopState → Option Code → Loop, rec = fun st pe => { state := st, pending := pe, fn, tmps := a.tmps, params := ps, assign, body, defers := w.heap.size } := ⟨_, rfl⟩
  obtain ⟨W1, hW1⟩ : ∃ W1, (w.alloc (.deferred (some []))).alloc (.loop (rec .ready none)) = W1 := ⟨_, rfl⟩
  have hL1 : W1.heap[w.heap.size + 1]? = some (.loop (rec .ready none)) := by
    rw [← hW1]; have := World.alloc_heap_new (w.alloc (.deferred (some []))) (.loop (rec .ready none)); rwa [World.size_alloc] at this
  have hD1 : W1.heap[w.heap.size]? = some (.deferred (some [])) := by rw [← hW1]; exact (Below.heap_alloc _ _ _ (by simp)).trans (World.alloc_heap_new w _)
  have hI1 : I W1 := by rw [← hW1]; exact hI.alloc (s := ()) _ (hI.alloc (s := ()) _ h0)
  have hb1 : Below w.heap.size w W1 := by rw [← hW1]; exact ((Below.refl _ w).alloc (Nat.le_refl _) _).alloc (by simp) _
  have hz1 : W1.heap.size = w.heap.size + 2 := by rw [← hW1]; simp
  have keep : ∀ {A B : World} {row : Option Nat} {k : Nat} {o : Obj}, A.grownBy B row → (∀ r, row = some r → W1.heap.size ≤ r ∧ ∃ o : Obj, A.heap[r]? = some o ∧ o.isWalk = true) → k < W1.heap.size → A.heap[k]? = some o → B.heap[k]? = some o := fun hg hr hk ho =>
    (hg.block _ (Array.getElem?_eq_some_iff.1 ho).1 (fun e => by have := (hr _ e.symm).1; omega)).trans ho
  have own : ∀ {A : World} {row : Option Nat}, (∀ r, row = some r → W1.heap.size ≤ r ∧ ∃ o : Obj, A.heap[r]? = some o ∧ o.isWalk = true) → (∀ r, row = some r → w.heap.size ≤ r ∧ ∃ o : Obj, A.heap[r]? = some o ∧ o.isCells = false) := fun hr r e => by
    obtain ⟨hB, o, ho, hw⟩ := hr r e; exact ⟨by omega, o, ho, Obj.not_cells_of_walk hw⟩
  refine ⟨w.heap.size + 1, [{ target := .collected w.heap.size, args := #[] }], W1, { target := .fn (.func gf) lb, args := #[.func (.yield (w.heap.size + 1)) #[] #[]] }, W1, gf, #[.func (.yield (w.heap.size + 1)) #[] #[]] ++ lb, W1, ?_, ?_, ?_, ?_, fun _ => h1, ?_⟩
  · rw [← hW1, hrec]; exact run_enterLoop_outer _ _ _ _ _
  · simp only [resolve, hg]; simp [go_sem]
  · intro f' _; trivial
  · simp [invoke, go_sem, eg]
  refine (hseq (w.heap.size + 1)
    (fun W => I W ∧ W.heap[w.heap.size + 1]? = some (.loop (rec .ready none)) ∧ W.heap[w.heap.size]? = some (.deferred (some [])))
    (fun x W => Ix x W ∧ W.heap[w.heap.size + 1]? = some (.loop (rec .done (some .ret))) ∧ W.heap[w.heap.size]? = some (.deferred (some [])))
    W1 hb1 (fun A B hs hf => ⟨hIZ A B hs.1 hf, hf.blk hs.2.1 (fun h => by have := hZ _ h; omega), hf.blk hs.2.2 (fun h => by have := hZ _ h; omega)⟩) ?_ ⟨hI1, hL1, hD1⟩).mono ?_
  · rintro x W ⟨hi, hl, hk⟩
    have hy := run_yield (P := P) (args := #[enc x]) hl (by rw [hrec]; exact hps.symm)
    rw [hrec] at hy
    refine ⟨fn, _, assign, body, hy, roundIn_of_wpIn hfn (hassign _ x W _ hi ?_)⟩
    intro a' V hkf hkp hiV hax
    have hlV := hkf.same _ _ (by omega) hl rfl
    have hkV := hkf.same _ _ (Nat.le_refl _) hk rfl
    have hlt : w.heap.size + 1 < V.heap.size := (Array.getElem?_eq_some_iff.1 hlV).1
    refine ⟨_, run_beginRound hlV (by rw [hrec]), ?_⟩
    have hl2 : (V.putObj (w.heap.size + 1) (.loop { rec .ready none with state := .busy })).heap[w.heap.size + 1]? = some (.loop { rec .ready none with state := .busy }) := World.putObj_heap_same hlt
    have hk2 : (V.putObj (w.heap.size + 1) (.loop { rec .ready none with state := .busy })).heap[w.heap.size]? = some (.deferred (some [])) := (World.putObj_heap_other (by omega)).trans hkV
    refine wpIn_mono (hbody _ x a' _ (hI.putObj (s := ()) _ hiV (by omega) hlV rfl) ((hAx x a').putObj (s := ()) _ hax (by omega) hlV rfl)) ?_
    have fin : ∀ (jump : Option Code) (W3 : World), KeepsFrom w.heap.size (V.putObj (w.heap.size + 1) (.loop { rec .ready none with state := .busy })) W3 →
        (Instr.endRound (w.heap.size + 1) jump).run P W3 = .ok (.bool jump.isNone) (W3.putObj (w.heap.size + 1) (.loop (rec (if jump.isNone then .ready else .done) jump))) ∧
        W3.heap[w.heap.size + 1]? = some (.loop { rec .ready none with state := .busy }) ∧
        (W3.putObj (w.heap.size + 1) (.loop (rec (if jump.isNone then .ready else .done) jump))).heap[w.heap.size + 1]? = some (.loop (rec (if jump.isNone then .ready else .done) jump)) ∧
        (W3.putObj (w.heap.size + 1) (.loop (rec (if jump.isNone then .ready else .done) jump))).heap[w.heap.size]? = some (.deferred (some [])) := fun jump W3 hk3 => by
      have hl3 := hk3.same _ _ (by omega) hl2 rfl
      have := run_endRound (P := P) jump hl3
      rw [hrec] at this ⊢
      exact ⟨this, by rw [hrec] at hl3; exact hl3, World.putObj_heap_same (Array.getElem?_eq_some_iff.1 hl3).1, (World.putObj_heap_other (by omega)).trans (hk3.same _ _ (Nat.le_refl _) hk2 rfl)⟩
    rintro e a3 W3 hp
    cases e with
    | normal =>
      obtain ⟨hk3, hkp3, hi3, hG⟩ := hp
      obtain ⟨hr, hl3, hl4, hk4⟩ := fin none W3 hk3
      exact ⟨_, _, hr, .inl ⟨rfl, hG, ⟨hI.putObj (s := ()) _ hi3 (by omega) hl3 rfl, hl4, hk4⟩, ((hkp.trans (hKb _ _ _ _ (by omega) hlV rfl)).trans hkp3).trans (hKb _ _ _ _ (by omega) hl3 rfl)⟩⟩
    | ret =>
      obtain ⟨hk3, hi3, hG⟩ := hp
      obtain ⟨hr, hl3, hl4, hk4⟩ := fin (some .ret) W3 hk3
      exact ⟨_, _, hr, .inr ⟨rfl, hG, (hIx x).putObj (s := ()) _ hi3 (by omega) hl3 rfl, hl4, hk4⟩⟩
    | exit id => exact hp.elim
    | goto t => exact hp.elim
    | panic ch => exact hp.elim
    | outgrown => exact hp.elim
  · rintro e W2 ⟨⟨v, rfl⟩, hm⟩
    cases hres : res with
    | none =>
      rw [hres] at hm
      obtain ⟨hi, hl, hk⟩ := hm
      exact ⟨none, _, by have := run_endLoop (P := P) hl (by rw [hrec]; simp); rw [hrec] at this; exact this, hdone _ _ (Nat.le_refl _) hres (hI.putObj (s := ()) _ hi (by omega) hl rfl) ((World.putObj_heap_other (by omega)).trans hk)⟩
    | some x =>
      rw [hres] at hm
      obtain ⟨hi, hl, hk⟩ := hm
      exact ⟨some .ret, _, by have := run_endLoop (P := P) hl (by rw [hrec]; simp); rw [hrec] at this; exact this, hstop _ x _ (Nat.le_refl _) hres ((hIx x).putObj (s := ()) _ hi (by omega) hl rfl) ((World.putObj_heap_other (by omega)).trans hk)⟩
end Go.Proofs.YtoambcpjdcehhaaGreat.Tb

/- What comes next: the plain law; what one computes. -/
set_option linter.unusedVariables false
set_option linter.unusedSimpArgs false
namespace Go.Proofs.YtoambcpjdcehhaaGreat.Tb
open Go Go.RowKit Go.Proofs.YtoambcpjdcehhaaGreat.Can Go.Proofs.YtoambcpjdcehhaaGreat.Base Go.Proofs.YtoambcpjdcehhaaGreat.Al
open Go.Proofs.YtoambcpjdcehhaaGreat.Df hiding bl bl_len
open Go.Proofs.YtoambcpjdcehhaaGreat.Fn (Spot Tok tokV spotV tokE spotE tok0 cell_tmp_row)
attribute [local go_sem] clsB AB.cell

def dfaAt (L : Lx) (mode : Int) : Df := L.dfas.getD mode.toNat ⟨[], 0, [], [], -1⟩
def actAt (L : Lx) (rule : Int) : ByteArray × Int := L.acts.getD rule.toNat (ByteArray.empty, -1)
def goM (L : Lx) (rule mode : Int) : Int := if 0 ≤ (actAt L rule).2 then (actAt L rule).2 else mode
def kindM (L : Lx) (rule : Int) : Int := if (actAt L rule).1.size = 0 then 0 else 1
/-- A token, or what is skipped (its kind 0); false: it is not known. -/
def oneM (L : Lx) (s : List UInt8) (c : Bool) (p : Spot) : Tok × Bool :=
  if p.at_ = s.length then (⟨3, -1, p.at_, p.at_, p.at_, p.mode⟩, c)
  else if (c || !(longM (dfaAt L p.mode) s p.at_.toNat).opn) = false then (⟨0, -1, p.at_, p.at_, p.at_, p.mode⟩, false)
  else if (longM (dfaAt L p.mode) s p.at_.toNat).rule < 0 then (⟨2, -1, p.at_, p.at_, p.at_ + 1, p.mode⟩, true)
  else (⟨kindM L (longM (dfaAt L p.mode) s p.at_.toNat).rule, (longM (dfaAt L p.mode) s p.at_.toNat).rule, p.at_, p.at_, (longM (dfaAt L p.mode) s p.at_.toNat).to_, goM L (longM (dfaAt L p.mode) s p.at_.toNat).rule p.mode⟩, true)
/-- A spot that there is. -/
def Pin (L : Lx) (len : Nat) (p : Spot) : Prop := 0 ≤ p.at_ ∧ p.at_ ≤ len ∧ 0 ≤ p.mode ∧ p.mode < L.modes.length
theorem dfa_in {L : Lx} (h : rightB L = true) {len : Nat} {p : Spot} (hp : Pin L len p) : ∃ k : Nat, p.mode = k ∧ L.dfas[k]? = some (dfaAt L p.mode) := by
  obtain ⟨_, _, h3, h4⟩ := hp
  refine ⟨p.mode.toNat, by omega, ?_⟩
  have hl := (right_parts h).1
  have hlt : p.mode.toNat < L.dfas.length := by omega
  rw [List.getElem?_eq_getElem hlt]
  unfold dfaAt
  rw [List.getD_eq_getElem?_getD, List.getElem?_eq_getElem hlt]; rfl
theorem fold_in {d : Df} {n : Int} (ht : ∀ t ∈ d.tag, t < n) : ∀ (l : List UInt8) (i s : Int) (m : Int × Int), (walkL d l i s).foldl (hitM d) m = m ∨ ∃ r j, (walkL d l i s).foldl (hitM d) m = (r, j) ∧ 0 ≤ r ∧ r < n ∧ i ≤ j ∧ j ≤ i + l.length := by
  have hone : ∀ (i s : Int) (m : Int × Int), hitM d m (i, s) = m ∨ ∃ r, hitM d m (i, s) = (r, i) ∧ 0 ≤ r ∧ r < n := by
    intro i s m
    unfold hitM
    by_cases h : 0 ≤ s ∧ 0 ≤ tagD d s
    · rw [if_pos h]
      refine .inr ⟨tagD d s, rfl, h.2, ?_⟩
      have h1 : tagD d s = d.tag.getD s.toNat (-1) := by unfold tagD; rw [if_neg (by omega)]
      rw [h1]
      rw [List.getD_eq_getElem?_getD]
      cases hx : d.tag[s.toNat]? with
      | none => rw [h1, List.getD_eq_getElem?_getD, hx] at h; have := h.2; simp at this
      | some x => exact ht x (List.mem_of_getElem? hx)
    · rw [if_neg h]; exact .inl rfl
  intro l
  induction l with
  | nil =>
    intro i s m
    rw [walkL_nil]
    rcases hone i s m with h | ⟨r, h, h0, h1⟩
    · exact .inl h
    · exact .inr ⟨r, i, h, h0, h1, Int.le_refl _, by simp⟩
  | cons b l ih =>
    intro i s m
    by_cases hs : s < 0
    · rw [walkL_neg _ _ _ _ hs]
      rcases hone i s m with h | ⟨r, h, h0, h1⟩
      · exact .inl h
      · exact .inr ⟨r, i, h, h0, h1, Int.le_refl _, by simp; omega⟩
    · rw [walkL_cons _ _ _ _ _ hs, List.foldl_cons]
      rcases ih (i + 1) (nextD d s b.toNat) (hitM d m (i, s)) with h | ⟨r, j, h, h0, h1, h2, h3⟩
      · rw [h]
        rcases hone i s m with h | ⟨r, h, h0, h1⟩
        · exact .inl h
        · exact .inr ⟨r, i, h, h0, h1, Int.le_refl _, by simp; omega⟩
      · exact .inr ⟨r, j, h, h0, h1, by omega, by simp; omega⟩
/-- A match has a rule that there is, and is not empty. -/
theorem long_in {L : Lx} (h : rightB L = true) {d : Df} (hd : d ∈ L.dfas) (s : List UInt8) (at_ : Nat) (hat : at_ ≤ s.length) : (longM d s at_).rule < 0 ∨ (0 ≤ (longM d s at_).rule ∧ (longM d s at_).rule < L.acts.length ∧ (at_ : Int) < (longM d s at_).to_ ∧ (longM d s at_).to_ ≤ s.length) := by
  obtain ⟨hok, hst, htg⟩ := (right_parts h).2.1 d hd
  unfold longM matchM
  simp only
  have hhit : ∀ m, hitM d m ((at_ : Int), d.st) = m := fun m => by unfold hitM; rw [if_neg (by rintro ⟨_, h⟩; have h' : 0 ≤ tagD d d.st := h; omega)]
  cases hl : s.drop at_ with
  | nil => rw [walkL_nil]; left; show (hitM d (-1, (at_ : Int)) ((at_ : Int), d.st)).1 < 0; rw [hhit]; show (-1 : Int) < 0; decide
  | cons b l =>
    have hlen : l.length + 1 = s.length - at_ := by have := congrArg List.length hl; simp at this; omega
    by_cases hs : d.st < 0
    · rw [walkL_neg _ _ _ _ hs]; left; show (hitM d (-1, (at_ : Int)) ((at_ : Int), d.st)).1 < 0; rw [hhit]; show (-1 : Int) < 0; decide
    · rw [walkL_cons _ _ _ _ _ hs, List.foldl_cons, hhit]
      rcases fold_in htg l ((at_ : Int) + 1) (nextD d d.st b.toNat) (-1, (at_ : Int)) with h | ⟨r, j, h, h0, h1, h2, h3⟩
      · rw [h]; left; show (-1 : Int) < 0; decide
      · rw [h]; right; exact ⟨h0, h1, by show (at_ : Int) < j; omega, by show j ≤ _; omega⟩
/-- Behind what is known there is a spot, further on. -/
theorem one_in {L : Lx} (h : rightB L = true) {s : List UInt8} {c : Bool} {p : Spot} (hp : Pin L s.length p) (hk : (oneM L s c p).2 = true) : Pin L s.length ⟨(oneM L s c p).1.t, (oneM L s c p).1.m⟩ ∧ ((oneM L s c p).1.k = 3 ∨ p.at_ < (oneM L s c p).1.t) ∧ (oneM L s c p).1.f = p.at_ ∧ (oneM L s c p).1.a = p.at_ := by
  obtain ⟨k, hk1, hk2⟩ := dfa_in h hp
  obtain ⟨h1, h2, h3, h4⟩ := hp
  have hl := long_in h (List.mem_of_getElem? hk2) s p.at_.toNat (by omega)
  unfold oneM at hk ⊢
  split
  · exact ⟨⟨h1, h2, h3, h4⟩, .inl rfl, rfl, rfl⟩
  · rename_i e1
    rw [if_neg e1] at hk
    split
    · rename_i e2; rw [if_pos e2] at hk; cases hk
    · rename_i e2
      split
      · exact ⟨⟨by show 0 ≤ p.at_ + 1; omega, by show p.at_ + 1 ≤ _; omega, h3, h4⟩, .inr (by show p.at_ < p.at_ + 1; omega), rfl, rfl⟩
      · rename_i e3
        rcases hl with hl | ⟨l1, l2, l3, l4⟩
        · exact absurd hl e3
        · refine ⟨⟨?_, l4, ?_, ?_⟩, .inr (by show p.at_ < (longM _ _ _).to_; omega), rfl, rfl⟩
          · show 0 ≤ (longM _ _ _).to_; omega
          · show 0 ≤ goM L _ _; unfold goM; split <;> assumption
          · show goM L _ _ < _
            unfold goM
            split
            · unfold actAt at *
              have hlt : (longM (dfaAt L p.mode) s p.at_.toNat).rule.toNat < L.acts.length := by omega
              rw [List.getD_eq_getElem?_getD, List.getElem?_eq_getElem hlt]
              exact ((right_parts h).2.2.1 _ (List.getElem_mem hlt)).2
            · exact h4
end Go.Proofs.YtoambcpjdcehhaaGreat.Tb

/- What one computes. -/
set_option linter.unusedVariables false
set_option linter.unusedSimpArgs false
namespace Go.Proofs.YtoambcpjdcehhaaGreat.Tb
open Go Go.RowKit Go.Proofs.YtoambcpjdcehhaaGreat.Can Go.Proofs.YtoambcpjdcehhaaGreat.Base Go.Proofs.YtoambcpjdcehhaaGreat.Al
open Go.Proofs.YtoambcpjdcehhaaGreat.Df hiding bl bl_len
open Go.Proofs.YtoambcpjdcehhaaGreat.Fn (Spot Tok tokV spotV tokE spotE tok0 cell_tmp_row)
attribute [local go_sem] clsB AB.cell clsX AX.cell

theorem act_at {L : Lx} {k : Nat} {s : ByteArray} {g : Int} (h : L.acts[k]? = some (s, g)) : actAt L k = (s, g) := by unfold actAt; rw [Int.toNat_natCast, List.getD_eq_getElem?_getD, h]; rfl
theorem kbehind_calls (A1 A2 A3 : Option Addr) (n1 n2 n3 c1 c2 c3 : Nat) (l : Lx) (S : Nat → Prop) (t : ByteArray) (cl : Bool) (k : Nat) (mode : Int) (hk : k < n3) (w : World) (hL : LX w S A1 A2 A3 n1 n2 n3 l) :
    Calls Tryz.prog 119 #[.agg #[.slice A1 n1 c1, .slice A2 n2 c2, .slice A3 n3 c3, .string t, .bool cl], .int .i64 k, .int .i64 mode] w fun e w' => e = .returned (.int .i64 (goM l k mode)) ∧ Below w.heap.size w w' := by
  have hm3 := hL.acts.le
  obtain ⟨b, o, s, g, rfl, hb, -, hx, hy0, hy1⟩ := act_get hL.acts k hk
  have hgo : goM l k mode = if 0 ≤ g then g else mode := by unfold goM; rw [act_at hx]
  rw [hgo]
  clear hgo hx hL
  by_cases h : 0 ≤ g
  · rw [if_pos h]
    go_enter Tryz.func119, Tryz.ntmps119
    go_wp2
    go_ret
    exact ⟨rfl, (by repeat (first | (with_reducible assumption) | (with_reducible exact Below.refl _ _) | (with_reducible apply below_drewL) | (with_reducible apply below_alloc) | (with_reducible apply below_drew1) | (with_reducible apply below_drewN) | (refine below_set ?_ (by first | omega | (simp only [size_alloc, size_drew, size_set]; omega)) _ _)))⟩
  · rw [if_neg h]
    go_enter Tryz.func119, Tryz.ntmps119
    go_wp2
    go_ret
    exact ⟨rfl, (by repeat (first | (with_reducible assumption) | (with_reducible exact Below.refl _ _) | (with_reducible apply below_drewL) | (with_reducible apply below_alloc) | (with_reducible apply below_drew1) | (with_reducible apply below_drewN) | (refine below_set ?_ (by first | omega | (simp only [size_alloc, size_drew, size_set]; omega)) _ _)))⟩
theorem blk_six {w : World} {g : Nat} {t : TypeId} {fr : Nat × Nat} {a0 a1 a2 a3 a4 a5 : Value} (h : w.heap[g]? = some (.cells #[a0, a1, a2, a3, a4, a5] t fr)) (b0 b1 b2 b3 b4 b5 : Value) :
    ((((((w.setCell ⟨g, 0, none⟩ b0).setCell ⟨g, 1, none⟩ b1).setCell ⟨g, 2, none⟩ b2).setCell ⟨g, 3, none⟩ b3).setCell ⟨g, 4, none⟩ b4).setCell ⟨g, 5, none⟩ b5).heap[g]? = some (.cells #[b0, b1, b2, b3, b4, b5] t fr) := by
  have h0 := blk_set h 0 b0 #[b0, a1, a2, a3, a4, a5] rfl
  have h1 := blk_set h0 1 b1 #[b0, b1, a2, a3, a4, a5] rfl
  have h2 := blk_set h1 2 b2 #[b0, b1, b2, a3, a4, a5] rfl
  have h3 := blk_set h2 3 b3 #[b0, b1, b2, b3, a4, a5] rfl
  have h4 := blk_set h3 4 b4 #[b0, b1, b2, b3, b4, a5] rfl
  exact blk_set h4 5 b5 #[b0, b1, b2, b3, b4, b5] rfl
set_option maxRecDepth 20000 in
set_option maxHeartbeats 4000000 in
theorem kone_calls (A1 A2 A3 : Option Addr) (n1 n2 n3 c1 c2 c3 : Nat) (l : Lx) (hr : rightB l = true) (S : Nat → Prop) (t : ByteArray) (cl : Bool) (p : Spot) (hp : Pin l (bl t).length p) (ht : t.size ≤ 140737488351232) (w : World) (hL : LX w S A1 A2 A3 n1 n2 n3 l) :
    Calls Tryz.prog 109 #[.agg #[.slice A1 n1 c1, .slice A2 n2 c2, .slice A3 n3 c3, .string t, .bool cl], spotV p] w fun e w' => e = .returned (.tuple #[tokV (oneM l (bl t) cl p).1, .bool (oneM l (bl t) cl p).2]) ∧ Below w.heap.size w w' := by
  have hz1 := hL.modes.le; have hz2 := hL.dfas.le; have hz3 := hL.acts.le
  obtain ⟨k, hk1, hk2⟩ := dfa_in hr hp
  obtain ⟨at_, hat⟩ : ∃ a : Nat, p.at_ = a := ⟨p.at_.toNat, by have := hp.1; omega⟩
  have hle : at_ ≤ t.size := by have := hp.2.1; rw [bl_len] at this; omega
  obtain ⟨hx, hm⟩ : ∃ x, p = x := ⟨_, rfl⟩
  have hone : oneM l (bl t) cl p = if at_ = t.size then (⟨3, -1, at_, at_, at_, k⟩, cl) else if (cl || !(longM (dfaAt l k) (bl t) at_).opn) = false then (⟨0, -1, at_, at_, at_, k⟩, false)
      else if (longM (dfaAt l k) (bl t) at_).rule < 0 then (⟨2, -1, at_, at_, at_ + 1, k⟩, true)
      else (⟨kindM l (longM (dfaAt l k) (bl t) at_).rule, (longM (dfaAt l k) (bl t) at_).rule, at_, at_, (longM (dfaAt l k) (bl t) at_).to_, goM l (longM (dfaAt l k) (bl t) at_).rule k⟩, true) := by
    unfold oneM
    rw [hat, hk1, Int.toNat_natCast, bl_len]
    by_cases h : at_ = t.size
    · rw [if_pos h, if_pos (by omega)]
    · rw [if_neg h, if_neg (by omega)]
  have hin := long_in hr (List.mem_of_getElem? hk2) (bl t) at_ (by rw [bl_len]; exact hle)
  rw [hk1] at hk2 hin
  unfold spotV tokV
  rw [hone, hat, hk1]
  have HLG := Hd.mk (fun W hW => longest_calls A1 A2 A3 n1 n2 n3 c1 c2 c3 l hr S k _ hk2 t at_ W hW hle ht)
  generalize longM (dfaAt l k) (bl t) at_ = M at hin HLG ⊢
  obtain ⟨mr, mt, mo⟩ := M
  unfold mtV at HLG
  simp only [] at hin HLG ⊢
  have HL := Hd.mk hL
  have HIN := Hd.mk hin
  clear hone hp hat hk1 hk2 hm hin hL
  by_cases hend : at_ = t.size
  · have HE := Hd.mk hend
    rw [if_pos hend]
    clear hend
    have hJ : ((at_ : Int) == (t.size : Int)) = true := by have := HE.out; simp; omega
    go_enter Tryz.func109, Tryz.ntmps109
    go_wp2
    generalize hV : World.alloc _ _ = V
    have HBV : Below w.heap.size w V := below_of hV (by repeat (first | (with_reducible assumption) | (with_reducible exact Below.refl _ _) | (with_reducible apply below_drewL) | (with_reducible apply below_alloc) | (with_reducible apply below_drew1) | (with_reducible apply below_drewN) | (refine below_set ?_ (by first | omega | (simp only [size_alloc, size_drew, size_set]; omega)) _ _)))
    have zV : Hd (V.heap.size = w.heap.size + 1 + 1 + 1 + 1) := ⟨by rw [← hV]; simp only [size_alloc]⟩
    have V0 := at_of hV (blk_alloc (blk_alloc (blk_alloc (blk_new _ _ _ rfl) _) _) _)
    have V0l := blk_lt V0
    have V1 := at_of hV (blk_alloc (blk_alloc (blk_new _ _ _ rfl) _) _)
    simp only [size_alloc] at V1
    have V1l := blk_lt V1
    have V2 := at_of hV (blk_alloc (blk_new _ _ _ rfl) _)
    simp only [size_alloc] at V2
    have V2l := blk_lt V2
    have V3 := at_of hV (blk_new _ _ _ rfl)
    simp only [size_alloc] at V3
    have V3l := blk_lt V3
    clear hV
    have V0c0 := blk_cell V0 0 _ rfl
    have V0f0 := blk_frozen V0 0
    have V0c1 := blk_cell V0 1 _ rfl
    have V0f1 := blk_frozen V0 1
    have V0c2 := blk_cell V0 2 _ rfl
    have V0f2 := blk_frozen V0 2
    have V0c3 := blk_cell V0 3 _ rfl
    have V0f3 := blk_frozen V0 3
    have V0c4 := blk_cell V0 4 _ rfl
    have V0f4 := blk_frozen V0 4
    have V1c0 := blk_cell V1 0 _ rfl
    have V1f0 := blk_frozen V1 0
    have V1c1 := blk_cell V1 1 _ rfl
    have V1f1 := blk_frozen V1 1
    have V2c0 := blk_cell V2 0 _ rfl
    have V2f0 := blk_frozen V2 0
    have V2c1 := blk_cell V2 1 _ rfl
    have V2f1 := blk_frozen V2 1
    have V2c2 := blk_cell V2 2 _ rfl
    have V2f2 := blk_frozen V2 2
    have V2c3 := blk_cell V2 3 _ rfl
    have V2f3 := blk_frozen V2 3
    have V2c4 := blk_cell V2 4 _ rfl
    have V2f4 := blk_frozen V2 4
    have V2c5 := blk_cell V2 5 _ rfl
    have V2f5 := blk_frozen V2 5
    have V3c0 := blk_cell V3 0 _ rfl
    have V3f0 := blk_frozen V3 0
    have V3c1 := blk_cell V3 1 _ rfl
    have V3f1 := blk_frozen V3 1
    have V3c2 := blk_cell V3 2 _ rfl
    have V3f2 := blk_frozen V3 2
    have V3c3 := blk_cell V3 3 _ rfl
    have V3f3 := blk_frozen V3 3
    have V3c4 := blk_cell V3 4 _ rfl
    have V3f4 := blk_frozen V3 4
    have V3c5 := blk_cell V3 5 _ rfl
    have V3f5 := blk_frozen V3 5
    have hn0 : ¬ w.heap.size = w.heap.size + 1 + 1 := by omega
    have hn1 : ¬ w.heap.size + 1 = w.heap.size + 1 + 1 := by omega
    refine wp_region_can (.q [0, 1, 2] (.e 3 true (.q [4] (.done)))) (clsX (fun b => b = w.heap.size + 1 + 1) _) (by kernel_rfl) (by kernel_rfl) (by intro _ _ d _ _ h; cases d <;> exact h) (clsX_drew _ _) ?_
    refine can_q (l := [⟨_,_,_,_,_,_⟩, ⟨_,_,_,_,_,_⟩, ⟨_,_,_,_,_,_⟩]) rfl ?_
    repeat (go_big_quiet_step (fail))
    refine wpQuiet_nil ?_
    refine can_e (o := ⟨_,_,_,_,_,_⟩) rfl (fun K hK => ?_)
    go_wp2_with fail
    first | refine onK_normal (hK _ _ ⟨clsX _ _, clsX_drew _ _, fun _ => clsX_next ?_ ?_, ?_⟩) | refine onK_normal (hK _ _ ⟨clsX _ _, clsX_self _ _, fun _ => clsX_next ?_ ?_, ?_⟩)
    · simp only [size_alloc, size_drew, size_set]; omega
    · intro b_ hb_ hW_; repeat (first | (rw [Below.heap_setCell _ _ _ _ (by intro he_; exact hW_ (by first | exact he_ | exact .inl he_ | exact .inr he_))]) | (rw [Below.heap_alloc _ _ _ (by simp only [size_alloc, size_drew, size_set]; omega)]) | rfl)
    clear hK K
    refine can_q (l := [⟨_,_,_,_,_,_⟩]) rfl ?_
    repeat (go_big_quiet_step (fail))
    refine wpQuiet_nil ?_
    refine can_done ?_
    go_wp2
    refine bodyPost_ret (cell_tmp_row rfl _ _ (w.heap.size + 1 + 1) 43 #[.int .i64 3, .int .i64 (-1), .int .i64 at_, .int .i64 at_, .int .i64 at_, .int .i64 k] (0, 0) _ rfl (blk_drew (blk_six V2 _ _ _ _ _ _)) Tryz.underlying43 rfl (by kernel_rfl)) rfl ⟨rfl, ?_⟩
    exact (by repeat (first | (with_reducible assumption) | (with_reducible exact Below.refl _ _) | (with_reducible apply below_drewL) | (with_reducible apply below_alloc) | (with_reducible apply below_drew1) | (with_reducible apply below_drewN) | (refine below_set ?_ (by first | omega | (simp only [size_alloc, size_drew, size_set]; omega)) _ _)))
  · rw [if_neg hend]
    have hJ : ((at_ : Int) == (t.size : Int)) = false := by simp; omega
    cases hs : (cl || !mo) with
    | false =>
      have HSU := Hd.mk (fun w => msure_calls ⟨mr, mt, mo⟩ cl w)
      unfold mtV at HSU
      simp only [hs] at HSU
      rw [if_pos rfl]
      clear hs
      go_enter Tryz.func109, Tryz.ntmps109
      go_upto_region 2 with fail
      generalize hV : World.alloc _ _ = V
      have HBV : Below w.heap.size w V := below_of hV (by repeat (first | (with_reducible assumption) | (with_reducible exact Below.refl _ _) | (with_reducible apply below_drewL) | (with_reducible apply below_alloc) | (with_reducible apply below_drew1) | (with_reducible apply below_drewN) | (refine below_set ?_ (by first | omega | (simp only [size_alloc, size_drew, size_set]; omega)) _ _)))
      have zV : Hd (V.heap.size = w.heap.size + 1 + 1 + 1 + 1) := ⟨by rw [← hV]; simp only [size_alloc]⟩
      have V0 := at_of hV (blk_alloc (blk_alloc (blk_alloc (blk_new _ _ _ rfl) _) _) _)
      have V0l := blk_lt V0
      have V1 := at_of hV (blk_alloc (blk_alloc (blk_new _ _ _ rfl) _) _)
      simp only [size_alloc] at V1
      have V1l := blk_lt V1
      have V2 := at_of hV (blk_alloc (blk_new _ _ _ rfl) _)
      simp only [size_alloc] at V2
      have V2l := blk_lt V2
      have V3 := at_of hV (blk_new _ _ _ rfl)
      simp only [size_alloc] at V3
      have V3l := blk_lt V3
      clear hV
      have HV0 := Hd.mk V0; have HV1 := Hd.mk V1; have HV2 := Hd.mk V2; have HV3 := Hd.mk V3
      have HBVd := Hd.mk HBV
      have V0c0 := blk_cell V0 0 _ rfl
      have V0f0 := blk_frozen V0 0
      have V0c1 := blk_cell V0 1 _ rfl
      have V0f1 := blk_frozen V0 1
      have V0c2 := blk_cell V0 2 _ rfl
      have V0f2 := blk_frozen V0 2
      have V0c3 := blk_cell V0 3 _ rfl
      have V0f3 := blk_frozen V0 3
      have V0c4 := blk_cell V0 4 _ rfl
      have V0f4 := blk_frozen V0 4
      have V1c0 := blk_cell V1 0 _ rfl
      have V1f0 := blk_frozen V1 0
      have V1c1 := blk_cell V1 1 _ rfl
      have V1f1 := blk_frozen V1 1
      clear V0 V1 V2 V3
      go_wp2_with (first
        | (go_at_call 118; go_must (refine Calls.mono (HSU.out _) ?_; rintro e w2 ⟨rfl, hb2⟩; have HB2 := Hd.mk (below_seq (below_alloc HB1.out _) hb2); have hy2 := blk_below (blk_alloc hu2 _) hb2; have hy3 := blk_below (blk_alloc hu3 _) hb2; clear hu0c0 hu0f0 hu0c1 hu0f1 hu0c2 hu0f2 hu0c3 hu0f3 hu0c4 hu0f4 hu0l; clear hu1c0 hu1f0 hu1c1 hu1f1 hu1l; clear hu2c0 hu2f0 hu2c1 hu2f1 hu2c2 hu2f2 hu2c3 hu2f3 hu2c4 hu2f4 hu2c5 hu2f5 hu2l; clear hu3c0 hu3f0 hu3c1 hu3f1 hu3c2 hu3f2 hu3c3 hu3f3 hu3c4 hu3f4 hu3c5 hu3f5 hu3l; have hy2c0 := blk_cell hy2 0 _ rfl; have hy2f0 := blk_frozen hy2 0; have hy2c1 := blk_cell hy2 1 _ rfl; have hy2f1 := blk_frozen hy2 1; have hy2c2 := blk_cell hy2 2 _ rfl; have hy2f2 := blk_frozen hy2 2; have hy2c3 := blk_cell hy2 3 _ rfl; have hy2f3 := blk_frozen hy2 3; have hy2c4 := blk_cell hy2 4 _ rfl; have hy2f4 := blk_frozen hy2 4; have hy2c5 := blk_cell hy2 5 _ rfl; have hy2f5 := blk_frozen hy2 5; have hy2l := blk_lt hy2; have hy3c0 := blk_cell hy3 0 _ rfl; have hy3f0 := blk_frozen hy3 0; have hy3c1 := blk_cell hy3 1 _ rfl; have hy3f1 := blk_frozen hy3 1; have hy3c2 := blk_cell hy3 2 _ rfl; have hy3f2 := blk_frozen hy3 2; have hy3c3 := blk_cell hy3 3 _ rfl; have hy3f3 := blk_frozen hy3 3; have hy3c4 := blk_cell hy3 4 _ rfl; have hy3f4 := blk_frozen hy3 4; have hy3c5 := blk_cell hy3 5 _ rfl; have hy3f5 := blk_frozen hy3 5; have hy3l := blk_lt hy3))
        | (go_at_call 117; go_must (refine Calls.mono (HLG.out _ (HL.out.below HBVd.out)) ?_; rintro e w1 ⟨rfl, hb1⟩; have HB1 := Hd.mk (below_seq HBVd.out hb1); have hu0 := blk_below HV0.out hb1; have hu1 := blk_below HV1.out hb1; have hu2 := blk_below HV2.out hb1; have hu3 := blk_below HV3.out hb1; clear V0c0 V0f0 V0c1 V0f1 V0c2 V0f2 V0c3 V0f3 V0c4 V0f4 V0l; clear V1c0 V1f0 V1c1 V1f1 V1l; clear hb1; have hu0c0 := blk_cell hu0 0 _ rfl; have hu0f0 := blk_frozen hu0 0; have hu0c1 := blk_cell hu0 1 _ rfl; have hu0f1 := blk_frozen hu0 1; have hu0c2 := blk_cell hu0 2 _ rfl; have hu0f2 := blk_frozen hu0 2; have hu0c3 := blk_cell hu0 3 _ rfl; have hu0f3 := blk_frozen hu0 3; have hu0c4 := blk_cell hu0 4 _ rfl; have hu0f4 := blk_frozen hu0 4; have hu0l := blk_lt hu0; have hu1c0 := blk_cell hu1 0 _ rfl; have hu1f0 := blk_frozen hu1 0; have hu1c1 := blk_cell hu1 1 _ rfl; have hu1f1 := blk_frozen hu1 1; have hu1l := blk_lt hu1; have hu2c0 := blk_cell hu2 0 _ rfl; have hu2f0 := blk_frozen hu2 0; have hu2c1 := blk_cell hu2 1 _ rfl; have hu2f1 := blk_frozen hu2 1; have hu2c2 := blk_cell hu2 2 _ rfl; have hu2f2 := blk_frozen hu2 2; have hu2c3 := blk_cell hu2 3 _ rfl; have hu2f3 := blk_frozen hu2 3; have hu2c4 := blk_cell hu2 4 _ rfl; have hu2f4 := blk_frozen hu2 4; have hu2c5 := blk_cell hu2 5 _ rfl; have hu2f5 := blk_frozen hu2 5; have hu2l := blk_lt hu2; have hu3c0 := blk_cell hu3 0 _ rfl; have hu3f0 := blk_frozen hu3 0; have hu3c1 := blk_cell hu3 1 _ rfl; have hu3f1 := blk_frozen hu3 1; have hu3c2 := blk_cell hu3 2 _ rfl; have hu3f2 := blk_frozen hu3 2; have hu3c3 := blk_cell hu3 3 _ rfl; have hu3f3 := blk_frozen hu3 3; have hu3c4 := blk_cell hu3 4 _ rfl; have hu3f4 := blk_frozen hu3 4; have hu3c5 := blk_cell hu3 5 _ rfl; have hu3f5 := blk_frozen hu3 5; have hu3l := blk_lt hu3)))
      refine bodyPost_ret (cell_tmp_row rfl _ _ (w.heap.size + 1 + 1) 43 #[.int .i64 0, .int .i64 (-1), .int .i64 at_, .int .i64 at_, .int .i64 at_, .int .i64 k] (0, 0) _ rfl (blk_six hy2 _ _ _ _ _ _) Tryz.underlying43 rfl (by kernel_rfl)) rfl ⟨rfl, ?_⟩
      have hB2 := HB2.out
      exact (by repeat (first | (with_reducible assumption) | (with_reducible exact Below.refl _ _) | (with_reducible apply below_drewL) | (with_reducible apply below_alloc) | (with_reducible apply below_drew1) | (with_reducible apply below_drewN) | (refine below_set ?_ (by first | omega | (simp only [size_alloc, size_drew, size_set]; omega)) _ _)))
    | true =>
      have HSU := Hd.mk (fun w => msure_calls ⟨mr, mt, mo⟩ cl w)
      unfold mtV at HSU
      simp only [hs] at HSU
      rw [if_neg (by decide)]
      clear hs
      by_cases h0 : mr < 0
      · rw [if_pos h0]
        have hJ2 : ((t.size : Int)) = (t.size : Int) := rfl
        go_enter Tryz.func109, Tryz.ntmps109
        go_upto_region 2 with fail
        generalize hV : World.alloc _ _ = V
        have HBV : Below w.heap.size w V := below_of hV (by repeat (first | (with_reducible assumption) | (with_reducible exact Below.refl _ _) | (with_reducible apply below_drewL) | (with_reducible apply below_alloc) | (with_reducible apply below_drew1) | (with_reducible apply below_drewN) | (refine below_set ?_ (by first | omega | (simp only [size_alloc, size_drew, size_set]; omega)) _ _)))
        have zV : Hd (V.heap.size = w.heap.size + 1 + 1 + 1 + 1) := ⟨by rw [← hV]; simp only [size_alloc]⟩
        have V0 := at_of hV (blk_alloc (blk_alloc (blk_alloc (blk_new _ _ _ rfl) _) _) _)
        have V0l := blk_lt V0
        have V1 := at_of hV (blk_alloc (blk_alloc (blk_new _ _ _ rfl) _) _)
        simp only [size_alloc] at V1
        have V1l := blk_lt V1
        have V2 := at_of hV (blk_alloc (blk_new _ _ _ rfl) _)
        simp only [size_alloc] at V2
        have V2l := blk_lt V2
        have V3 := at_of hV (blk_new _ _ _ rfl)
        simp only [size_alloc] at V3
        have V3l := blk_lt V3
        clear hV
        have HV0 := Hd.mk V0; have HV1 := Hd.mk V1; have HV2 := Hd.mk V2; have HV3 := Hd.mk V3
        have HBVd := Hd.mk HBV
        have V0c0 := blk_cell V0 0 _ rfl
        have V0f0 := blk_frozen V0 0
        have V0c1 := blk_cell V0 1 _ rfl
        have V0f1 := blk_frozen V0 1
        have V0c2 := blk_cell V0 2 _ rfl
        have V0f2 := blk_frozen V0 2
        have V0c3 := blk_cell V0 3 _ rfl
        have V0f3 := blk_frozen V0 3
        have V0c4 := blk_cell V0 4 _ rfl
        have V0f4 := blk_frozen V0 4
        have V1c0 := blk_cell V1 0 _ rfl
        have V1f0 := blk_frozen V1 0
        have V1c1 := blk_cell V1 1 _ rfl
        have V1f1 := blk_frozen V1 1
        clear V0 V1 V2 V3
        go_wp2_with (first
          | (go_at_call 118; go_must (refine Calls.mono (HSU.out _) ?_; rintro e w2 ⟨rfl, hb2⟩; have HB2 := Hd.mk (below_seq (below_alloc HB1.out _) hb2); have hy1 := blk_below (blk_alloc hu1 _) hb2; have hy2 := blk_below (blk_alloc hu2 _) hb2; have hy3 := blk_below (blk_alloc hu3 _) hb2; clear hu0c0 hu0f0 hu0c1 hu0f1 hu0c2 hu0f2 hu0c3 hu0f3 hu0c4 hu0f4 hu0l; clear hu1c0 hu1f0 hu1c1 hu1f1 hu1l; clear hu2c0 hu2f0 hu2c1 hu2f1 hu2c2 hu2f2 hu2c3 hu2f3 hu2c4 hu2f4 hu2c5 hu2f5 hu2l; clear hu3c0 hu3f0 hu3c1 hu3f1 hu3c2 hu3f2 hu3c3 hu3f3 hu3c4 hu3f4 hu3c5 hu3f5 hu3l; have hm2 := blk_below (blk_new w1 (.cells #[.int .i64 mr, .int .i64 mt, .bool mo] 166) _ rfl) hb2; have hm2c0 := blk_cell hm2 0 _ rfl; have hm2f0 := blk_frozen hm2 0; have hm2c1 := blk_cell hm2 1 _ rfl; have hm2f1 := blk_frozen hm2 1; have hm2c2 := blk_cell hm2 2 _ rfl; have hm2f2 := blk_frozen hm2 2; have hm2l := blk_lt hm2; have hy1c0 := blk_cell hy1 0 _ rfl; have hy1f0 := blk_frozen hy1 0; have hy1c1 := blk_cell hy1 1 _ rfl; have hy1f1 := blk_frozen hy1 1; have hy1l := blk_lt hy1; have hy2c0 := blk_cell hy2 0 _ rfl; have hy2f0 := blk_frozen hy2 0; have hy2c1 := blk_cell hy2 1 _ rfl; have hy2f1 := blk_frozen hy2 1; have hy2c2 := blk_cell hy2 2 _ rfl; have hy2f2 := blk_frozen hy2 2; have hy2c3 := blk_cell hy2 3 _ rfl; have hy2f3 := blk_frozen hy2 3; have hy2c4 := blk_cell hy2 4 _ rfl; have hy2f4 := blk_frozen hy2 4; have hy2c5 := blk_cell hy2 5 _ rfl; have hy2f5 := blk_frozen hy2 5; have hy2l := blk_lt hy2; have hy3c0 := blk_cell hy3 0 _ rfl; have hy3f0 := blk_frozen hy3 0; have hy3c1 := blk_cell hy3 1 _ rfl; have hy3f1 := blk_frozen hy3 1; have hy3c2 := blk_cell hy3 2 _ rfl; have hy3f2 := blk_frozen hy3 2; have hy3c3 := blk_cell hy3 3 _ rfl; have hy3f3 := blk_frozen hy3 3; have hy3c4 := blk_cell hy3 4 _ rfl; have hy3f4 := blk_frozen hy3 4; have hy3c5 := blk_cell hy3 5 _ rfl; have hy3f5 := blk_frozen hy3 5; have hy3l := blk_lt hy3))
          | (go_at_call 117; go_must (refine Calls.mono (HLG.out _ (HL.out.below HBVd.out)) ?_; rintro e w1 ⟨rfl, hb1⟩; have HB1 := Hd.mk (below_seq HBVd.out hb1); have hu0 := blk_below HV0.out hb1; have hu1 := blk_below HV1.out hb1; have hu2 := blk_below HV2.out hb1; have hu3 := blk_below HV3.out hb1; clear V0c0 V0f0 V0c1 V0f1 V0c2 V0f2 V0c3 V0f3 V0c4 V0f4 V0l; clear V1c0 V1f0 V1c1 V1f1 V1l; clear hb1; have hu0c0 := blk_cell hu0 0 _ rfl; have hu0f0 := blk_frozen hu0 0; have hu0c1 := blk_cell hu0 1 _ rfl; have hu0f1 := blk_frozen hu0 1; have hu0c2 := blk_cell hu0 2 _ rfl; have hu0f2 := blk_frozen hu0 2; have hu0c3 := blk_cell hu0 3 _ rfl; have hu0f3 := blk_frozen hu0 3; have hu0c4 := blk_cell hu0 4 _ rfl; have hu0f4 := blk_frozen hu0 4; have hu0l := blk_lt hu0; have hu1c0 := blk_cell hu1 0 _ rfl; have hu1f0 := blk_frozen hu1 0; have hu1c1 := blk_cell hu1 1 _ rfl; have hu1f1 := blk_frozen hu1 1; have hu1l := blk_lt hu1; have hu2c0 := blk_cell hu2 0 _ rfl; have hu2f0 := blk_frozen hu2 0; have hu2c1 := blk_cell hu2 1 _ rfl; have hu2f1 := blk_frozen hu2 1; have hu2c2 := blk_cell hu2 2 _ rfl; have hu2f2 := blk_frozen hu2 2; have hu2c3 := blk_cell hu2 3 _ rfl; have hu2f3 := blk_frozen hu2 3; have hu2c4 := blk_cell hu2 4 _ rfl; have hu2f4 := blk_frozen hu2 4; have hu2c5 := blk_cell hu2 5 _ rfl; have hu2f5 := blk_frozen hu2 5; have hu2l := blk_lt hu2; have hu3c0 := blk_cell hu3 0 _ rfl; have hu3f0 := blk_frozen hu3 0; have hu3c1 := blk_cell hu3 1 _ rfl; have hu3f1 := blk_frozen hu3 1; have hu3c2 := blk_cell hu3 2 _ rfl; have hu3f2 := blk_frozen hu3 2; have hu3c3 := blk_cell hu3 3 _ rfl; have hu3f3 := blk_frozen hu3 3; have hu3c4 := blk_cell hu3 4 _ rfl; have hu3f4 := blk_frozen hu3 4; have hu3c5 := blk_cell hu3 5 _ rfl; have hu3f5 := blk_frozen hu3 5; have hu3l := blk_lt hu3)))
        have hn1 : ¬ w.heap.size + 1 = w.heap.size + 1 + 1 + 1 := by omega
        have hn2 : ¬ w.heap.size + 1 + 1 = w.heap.size + 1 + 1 + 1 := by omega
        refine wp_region_can (.q [0, 1, 2, 3] (.e 4 true (.q [5] (.e 6 false (.done))))) (clsX (fun b => b = w.heap.size + 1 + 1 + 1) _) (by kernel_rfl) (by kernel_rfl) (by intro _ _ d _ _ h; cases d <;> exact h) (clsX_drew _ _) ?_
        refine can_q (l := [⟨_,_,_,_,_,_⟩, ⟨_,_,_,_,_,_⟩, ⟨_,_,_,_,_,_⟩, ⟨_,_,_,_,_,_⟩]) rfl ?_
        repeat (go_big_quiet_step (fail))
        refine wpQuiet_nil ?_
        refine can_e (o := ⟨_,_,_,_,_,_⟩) rfl (fun K hK => ?_)
        go_wp2_with fail
        first | refine onK_normal (hK _ _ ⟨clsX _ _, clsX_drew _ _, fun _ => clsX_next ?_ ?_, ?_⟩) | refine onK_normal (hK _ _ ⟨clsX _ _, clsX_self _ _, fun _ => clsX_next ?_ ?_, ?_⟩)
        · simp only [size_alloc, size_drew, size_set]; omega
        · intro b_ hb_ hW_; repeat (first | (rw [Below.heap_setCell _ _ _ _ (by intro he_; exact hW_ (by first | exact he_ | exact .inl he_ | exact .inr he_))]) | (rw [Below.heap_alloc _ _ _ (by simp only [size_alloc, size_drew, size_set]; omega)]) | rfl)
        clear hK K
        refine can_q (l := [⟨_,_,_,_,_,_⟩]) rfl ?_
        repeat (go_big_quiet_step (fail))
        refine wpQuiet_nil ?_
        refine can_e (o := ⟨_,_,_,_,_,_⟩) rfl (fun K hK => ?_)
        go_wp2_with fail
        refine onK_normal (hK _ _ ⟨fun _ => True, trivial, (fun h => by cases h), ?_⟩)
        clear hK K
        refine can_done ?_
        have hw3 := blk_drew (blk_set (blk_set hy3 0 (.int .i64 2) _ rfl) 4 (.int .i64 ((at_ : Int) + 1)) _ rfl)
        have hw2 := blk_drew (blk_far (p := ⟨w.heap.size + 1 + 1 + 1, 4, none⟩) (blk_far (p := ⟨w.heap.size + 1 + 1 + 1, 0, none⟩) hy2 hn2 (.int .i64 2)) hn2 (.int .i64 ((at_ : Int) + 1)))
        have hBU : Below w.heap.size w (World.drew (World.setCell (World.setCell w2 ⟨w.heap.size + 1 + 1 + 1, 0, none⟩ (.int .i64 2)) ⟨w.heap.size + 1 + 1 + 1, 4, none⟩ (.int .i64 ((at_ : Int) + 1)))) := by have hB2 := HB2.out; exact (by repeat (first | (with_reducible assumption) | (with_reducible exact Below.refl _ _) | (with_reducible apply below_drewL) | (with_reducible apply below_alloc) | (with_reducible apply below_drew1) | (with_reducible apply below_drewN) | (refine below_set ?_ (by first | omega | (simp only [size_alloc, size_drew, size_set]; omega)) _ _)))
        generalize hU : World.drew (World.setCell (World.setCell w2 ⟨w.heap.size + 1 + 1 + 1, 0, none⟩ (.int .i64 2)) ⟨w.heap.size + 1 + 1 + 1, 4, none⟩ (.int .i64 ((at_ : Int) + 1))) = U at hw3 hw2 hBU ⊢
        have HBU := Hd.mk hBU
        clear hy1c0 hy1f0 hy1c1 hy1f1 hy1l
        clear hy2c0 hy2f0 hy2c1 hy2f1 hy2c2 hy2f2 hy2c3 hy2f3 hy2c4 hy2f4 hy2c5 hy2f5 hy2l
        clear hy3c0 hy3f0 hy3c1 hy3f1 hy3c2 hy3f2 hy3c3 hy3f3 hy3c4 hy3f4 hy3c5 hy3f5 hy3l
        clear hm2c0 hm2f0 hm2c1 hm2f1 hm2c2 hm2f2 hm2l
        clear hy1 hy2 hy3 hm2 hBU hU
        have hw3c0 := blk_cell hw3 0 _ rfl; have hw3f0 := blk_frozen hw3 0; have hw3c1 := blk_cell hw3 1 _ rfl; have hw3f1 := blk_frozen hw3 1; have hw3c2 := blk_cell hw3 2 _ rfl; have hw3f2 := blk_frozen hw3 2; have hw3c3 := blk_cell hw3 3 _ rfl; have hw3f3 := blk_frozen hw3 3; have hw3c4 := blk_cell hw3 4 _ rfl; have hw3f4 := blk_frozen hw3 4; have hw3c5 := blk_cell hw3 5 _ rfl; have hw3f5 := blk_frozen hw3 5; have hw3l := blk_lt hw3
        have hw2c0 := blk_cell hw2 0 _ rfl; have hw2f0 := blk_frozen hw2 0; have hw2c1 := blk_cell hw2 1 _ rfl; have hw2f1 := blk_frozen hw2 1; have hw2c2 := blk_cell hw2 2 _ rfl; have hw2f2 := blk_frozen hw2 2; have hw2c3 := blk_cell hw2 3 _ rfl; have hw2f3 := blk_frozen hw2 3; have hw2c4 := blk_cell hw2 4 _ rfl; have hw2f4 := blk_frozen hw2 4; have hw2c5 := blk_cell hw2 5 _ rfl; have hw2f5 := blk_frozen hw2 5; have hw2l := blk_lt hw2
        go_wp2
        refine bodyPost_ret (cell_tmp_row rfl _ _ (w.heap.size + 1 + 1) 43 #[.int .i64 2, .int .i64 (-1), .int .i64 at_, .int .i64 at_, .int .i64 ((at_ : Int) + 1), .int .i64 k] (0, 0) _ rfl (blk_six hw2 _ _ _ _ _ _) Tryz.underlying43 rfl (by kernel_rfl)) rfl ⟨rfl, ?_⟩
        have hB2 := HBU.out
        exact (by repeat (first | (with_reducible assumption) | (with_reducible exact Below.refl _ _) | (with_reducible apply below_drewL) | (with_reducible apply below_alloc) | (with_reducible apply below_drew1) | (with_reducible apply below_drewN) | (refine below_set ?_ (by first | omega | (simp only [size_alloc, size_drew, size_set]; omega)) _ _)))
      · rw [if_neg h0]
        obtain ⟨q, rfl⟩ : ∃ q : Nat, mr = q := ⟨mr.toNat, by omega⟩
        have hq : q < n3 := by have h1 := HIN.out; have h2 := HL.out.acts.1; omega
        obtain ⟨b3, o3, sE, gE, hA3, hb3, -, hx3, hy30, hy31⟩ := act_get HL.out.acts q hq
        have hkind : kindM l q = if sE.size = 0 then 0 else 1 := by unfold kindM; rw [act_at hx3]
        have HBH := fun W hW => kbehind_calls A1 A2 A3 n1 n2 n3 c1 c2 c3 l S t cl q k hq W hW
        obtain ⟨gm, hgm⟩ : ∃ x, goM l q k = x := ⟨_, rfl⟩
        rw [hgm] at HBH ⊢
        rw [hkind]
        have HBH := Hd.mk HBH
        have HY30 := Hd.mk hy30
        clear hkind hx3 hgm hy30 hy31
        subst hA3
        by_cases hE : sE.size = 0
        · rw [if_pos hE]
          have he : sE.toList.isEmpty = true := (empty_is sE).2 hE
          clear hE
          go_enter Tryz.func109, Tryz.ntmps109
          go_upto_region 2 with fail
          generalize hV : World.alloc _ _ = V
          have HBV : Below w.heap.size w V := below_of hV (by repeat (first | (with_reducible assumption) | (with_reducible exact Below.refl _ _) | (with_reducible apply below_drewL) | (with_reducible apply below_alloc) | (with_reducible apply below_drew1) | (with_reducible apply below_drewN) | (refine below_set ?_ (by first | omega | (simp only [size_alloc, size_drew, size_set]; omega)) _ _)))
          have zV : Hd (V.heap.size = w.heap.size + 1 + 1 + 1 + 1) := ⟨by rw [← hV]; simp only [size_alloc]⟩
          have V0 := at_of hV (blk_alloc (blk_alloc (blk_alloc (blk_new _ _ _ rfl) _) _) _)
          have V0l := blk_lt V0
          have V1 := at_of hV (blk_alloc (blk_alloc (blk_new _ _ _ rfl) _) _)
          simp only [size_alloc] at V1
          have V1l := blk_lt V1
          have V2 := at_of hV (blk_alloc (blk_new _ _ _ rfl) _)
          simp only [size_alloc] at V2
          have V2l := blk_lt V2
          have V3 := at_of hV (blk_new _ _ _ rfl)
          simp only [size_alloc] at V3
          have V3l := blk_lt V3
          clear hV
          have HV0 := Hd.mk V0; have HV1 := Hd.mk V1; have HV2 := Hd.mk V2; have HV3 := Hd.mk V3
          have HBVd := Hd.mk HBV
          have V0c0 := blk_cell V0 0 _ rfl
          have V0f0 := blk_frozen V0 0
          have V0c1 := blk_cell V0 1 _ rfl
          have V0f1 := blk_frozen V0 1
          have V0c2 := blk_cell V0 2 _ rfl
          have V0f2 := blk_frozen V0 2
          have V0c3 := blk_cell V0 3 _ rfl
          have V0f3 := blk_frozen V0 3
          have V0c4 := blk_cell V0 4 _ rfl
          have V0f4 := blk_frozen V0 4
          have V1c0 := blk_cell V1 0 _ rfl
          have V1f0 := blk_frozen V1 0
          have V1c1 := blk_cell V1 1 _ rfl
          have V1f1 := blk_frozen V1 1
          clear V0 V1 V2 V3
          go_wp2_with (first
            | (go_at_call 118; go_must (refine Calls.mono (HSU.out _) ?_; rintro e w2 ⟨rfl, hb2⟩; have HB2 := Hd.mk (below_seq (below_alloc HB1.out _) hb2); have hy0 := blk_below (blk_alloc hu0 _) hb2; have hy1 := blk_below (blk_alloc hu1 _) hb2; have hy2 := blk_below (blk_alloc hu2 _) hb2; have hy3 := blk_below (blk_alloc hu3 _) hb2; clear hu0c0 hu0f0 hu0c1 hu0f1 hu0c2 hu0f2 hu0c3 hu0f3 hu0c4 hu0f4 hu0l; clear hu1c0 hu1f0 hu1c1 hu1f1 hu1l; clear hu2c0 hu2f0 hu2c1 hu2f1 hu2c2 hu2f2 hu2c3 hu2f3 hu2c4 hu2f4 hu2c5 hu2f5 hu2l; clear hu3c0 hu3f0 hu3c1 hu3f1 hu3c2 hu3f2 hu3c3 hu3f3 hu3c4 hu3f4 hu3c5 hu3f5 hu3l; have hm2 := blk_below (blk_new w1 (.cells #[.int .i64 q, .int .i64 mt, .bool mo] 166) _ rfl) hb2; have hm2c0 := blk_cell hm2 0 _ rfl; have hm2f0 := blk_frozen hm2 0; have hm2c1 := blk_cell hm2 1 _ rfl; have hm2f1 := blk_frozen hm2 1; have hm2c2 := blk_cell hm2 2 _ rfl; have hm2f2 := blk_frozen hm2 2; have hm2l := blk_lt hm2; have hy0c0 := blk_cell hy0 0 _ rfl; have hy0f0 := blk_frozen hy0 0; have hy0c1 := blk_cell hy0 1 _ rfl; have hy0f1 := blk_frozen hy0 1; have hy0c2 := blk_cell hy0 2 _ rfl; have hy0f2 := blk_frozen hy0 2; have hy0c3 := blk_cell hy0 3 _ rfl; have hy0f3 := blk_frozen hy0 3; have hy0c4 := blk_cell hy0 4 _ rfl; have hy0f4 := blk_frozen hy0 4; have hy0l := blk_lt hy0; have hy1c0 := blk_cell hy1 0 _ rfl; have hy1f0 := blk_frozen hy1 0; have hy1c1 := blk_cell hy1 1 _ rfl; have hy1f1 := blk_frozen hy1 1; have hy1l := blk_lt hy1; have hy2c0 := blk_cell hy2 0 _ rfl; have hy2f0 := blk_frozen hy2 0; have hy2c1 := blk_cell hy2 1 _ rfl; have hy2f1 := blk_frozen hy2 1; have hy2c2 := blk_cell hy2 2 _ rfl; have hy2f2 := blk_frozen hy2 2; have hy2c3 := blk_cell hy2 3 _ rfl; have hy2f3 := blk_frozen hy2 3; have hy2c4 := blk_cell hy2 4 _ rfl; have hy2f4 := blk_frozen hy2 4; have hy2c5 := blk_cell hy2 5 _ rfl; have hy2f5 := blk_frozen hy2 5; have hy2l := blk_lt hy2; have hy3c0 := blk_cell hy3 0 _ rfl; have hy3f0 := blk_frozen hy3 0; have hy3c1 := blk_cell hy3 1 _ rfl; have hy3f1 := blk_frozen hy3 1; have hy3c2 := blk_cell hy3 2 _ rfl; have hy3f2 := blk_frozen hy3 2; have hy3c3 := blk_cell hy3 3 _ rfl; have hy3f3 := blk_frozen hy3 3; have hy3c4 := blk_cell hy3 4 _ rfl; have hy3f4 := blk_frozen hy3 4; have hy3c5 := blk_cell hy3 5 _ rfl; have hy3f5 := blk_frozen hy3 5; have hy3l := blk_lt hy3))
            | (go_at_call 117; go_must (refine Calls.mono (HLG.out _ (HL.out.below HBVd.out)) ?_; rintro e w1 ⟨rfl, hb1⟩; have HB1 := Hd.mk (below_seq HBVd.out hb1); have hu0 := blk_below HV0.out hb1; have hu1 := blk_below HV1.out hb1; have hu2 := blk_below HV2.out hb1; have hu3 := blk_below HV3.out hb1; clear V0c0 V0f0 V0c1 V0f1 V0c2 V0f2 V0c3 V0f3 V0c4 V0f4 V0l; clear V1c0 V1f0 V1c1 V1f1 V1l; clear hb1; have hu0c0 := blk_cell hu0 0 _ rfl; have hu0f0 := blk_frozen hu0 0; have hu0c1 := blk_cell hu0 1 _ rfl; have hu0f1 := blk_frozen hu0 1; have hu0c2 := blk_cell hu0 2 _ rfl; have hu0f2 := blk_frozen hu0 2; have hu0c3 := blk_cell hu0 3 _ rfl; have hu0f3 := blk_frozen hu0 3; have hu0c4 := blk_cell hu0 4 _ rfl; have hu0f4 := blk_frozen hu0 4; have hu0l := blk_lt hu0; have hu1c0 := blk_cell hu1 0 _ rfl; have hu1f0 := blk_frozen hu1 0; have hu1c1 := blk_cell hu1 1 _ rfl; have hu1f1 := blk_frozen hu1 1; have hu1l := blk_lt hu1; have hu2c0 := blk_cell hu2 0 _ rfl; have hu2f0 := blk_frozen hu2 0; have hu2c1 := blk_cell hu2 1 _ rfl; have hu2f1 := blk_frozen hu2 1; have hu2c2 := blk_cell hu2 2 _ rfl; have hu2f2 := blk_frozen hu2 2; have hu2c3 := blk_cell hu2 3 _ rfl; have hu2f3 := blk_frozen hu2 3; have hu2c4 := blk_cell hu2 4 _ rfl; have hu2f4 := blk_frozen hu2 4; have hu2c5 := blk_cell hu2 5 _ rfl; have hu2f5 := blk_frozen hu2 5; have hu2l := blk_lt hu2; have hu3c0 := blk_cell hu3 0 _ rfl; have hu3f0 := blk_frozen hu3 0; have hu3c1 := blk_cell hu3 1 _ rfl; have hu3f1 := blk_frozen hu3 1; have hu3c2 := blk_cell hu3 2 _ rfl; have hu3f2 := blk_frozen hu3 2; have hu3c3 := blk_cell hu3 3 _ rfl; have hu3f3 := blk_frozen hu3 3; have hu3c4 := blk_cell hu3 4 _ rfl; have hu3f4 := blk_frozen hu3 4; have hu3c5 := blk_cell hu3 5 _ rfl; have hu3f5 := blk_frozen hu3 5; have hu3l := blk_lt hu3; have HU3L : Hd (w.heap.size + 1 + 1 + 1 < w1.heap.size) := ⟨blk_lt hu3⟩)))
          have hn0 : ¬ w.heap.size = w.heap.size + 1 + 1 + 1 := by omega
          have hn1 : ¬ w.heap.size + 1 = w.heap.size + 1 + 1 + 1 := by omega
          have hn2 : ¬ w.heap.size + 1 + 1 = w.heap.size + 1 + 1 + 1 := by omega
          have hn4 : ¬ w1.heap.size = w.heap.size + 1 + 1 + 1 := by have h8 := HB1.out.size; have h9 := blk_lt HV3.out; have h7 := HU3L.out; omega
          refine wp_region_can (.q [0, 1, 2, 3, 4, 5, 6, 7, 8, 10] (.e 9 true (.e 11 true (.q [12] (.e 13 false (.q [14] (.e 15 false (.done)))))))) (clsX (fun b => b = w.heap.size + 1 + 1 + 1) _) (by kernel_rfl) (by kernel_rfl) (by intro _ _ d _ _ h; cases d <;> exact h) (clsX_drew _ _) ?_
          refine can_q (l := [⟨_,_,_,_,_,_⟩, ⟨_,_,_,_,_,_⟩, ⟨_,_,_,_,_,_⟩, ⟨_,_,_,_,_,_⟩, ⟨_,_,_,_,_,_⟩, ⟨_,_,_,_,_,_⟩, ⟨_,_,_,_,_,_⟩, ⟨_,_,_,_,_,_⟩, ⟨_,_,_,_,_,_⟩, ⟨_,_,_,_,_,_⟩]) rfl ?_
          repeat (go_big_quiet_step (fail))
          refine wpQuiet_nil ?_
          refine can_e (o := ⟨_,_,_,_,_,_⟩) rfl (fun K hK => ?_)
          go_wp2_with (go_at_call 119; go_must (refine Calls.mono (HBH.out _ ((HL.out.below HB2.out).below (by repeat (first | (with_reducible assumption) | (with_reducible exact Below.refl _ _) | (with_reducible apply below_drewL) | (with_reducible apply below_alloc) | (with_reducible apply below_drew1) | (with_reducible apply below_drewN) | (refine below_set ?_ (by first | omega | (simp only [size_alloc, size_drew, size_set]; omega)) _ _))))) ?_; rintro e w3 ⟨rfl, hb3x⟩; have hz3 := blk_below (blk_drew hy3) hb3x; have hz2 := blk_below (blk_drew hy2) hb3x; have hz0 := blk_below (blk_drew hy0) hb3x; have hzm := blk_below (blk_drew hm2) hb3x; have hz3c0 := blk_cell hz3 0 _ rfl; have hz3f0 := blk_frozen hz3 0; have hz3c1 := blk_cell hz3 1 _ rfl; have hz3f1 := blk_frozen hz3 1; have hz3c2 := blk_cell hz3 2 _ rfl; have hz3f2 := blk_frozen hz3 2; have hz3c3 := blk_cell hz3 3 _ rfl; have hz3f3 := blk_frozen hz3 3; have hz3c4 := blk_cell hz3 4 _ rfl; have hz3f4 := blk_frozen hz3 4; have hz3c5 := blk_cell hz3 5 _ rfl; have hz3f5 := blk_frozen hz3 5; have hz3l := blk_lt hz3))
          refine onK_normal (hK _ _ ⟨clsX _ _, clsX_self _ _, fun _ => clsX_next hb3x.size (fun b hb _ => hb3x.block b hb), ?_⟩)
          clear hK K
          refine can_e (o := ⟨_,_,_,_,_,_⟩) rfl (fun K hK => ?_)
          go_wp2_with fail
          first | refine onK_normal (hK _ _ ⟨clsX _ _, clsX_drew _ _, fun _ => clsX_next ?_ ?_, ?_⟩) | refine onK_normal (hK _ _ ⟨clsX _ _, clsX_self _ _, fun _ => clsX_next ?_ ?_, ?_⟩)
          · simp only [size_alloc, size_drew, size_set]; omega
          · intro b_ hb_ hW_; repeat (first | (rw [Below.heap_setCell _ _ _ _ (by intro he_; exact hW_ (by first | exact he_ | exact .inl he_ | exact .inr he_))]) | (rw [Below.heap_alloc _ _ _ (by simp only [size_alloc, size_drew, size_set]; omega)]) | rfl)
          clear hK K
          refine can_q (l := [⟨_,_,_,_,_,_⟩]) rfl ?_
          repeat (go_big_quiet_step (fail))
          refine wpQuiet_nil ?_
          refine can_e (o := ⟨_,_,_,_,_,_⟩) rfl (fun K hK => ?_)
          go_wp2_with fail
          first | refine onK_normal (hK _ _ ⟨clsX _ _, clsX_drew _ _, fun _ => clsX_next ?_ ?_, ?_⟩) | refine onK_normal (hK _ _ ⟨clsX _ _, clsX_self _ _, fun _ => clsX_next ?_ ?_, ?_⟩)
          · simp only [size_alloc, size_drew, size_set]; omega
          · intro b_ hb_ hW_; repeat (first | (rw [Below.heap_setCell _ _ _ _ (by intro he_; exact hW_ (by first | exact he_ | exact .inl he_ | exact .inr he_))]) | (rw [Below.heap_alloc _ _ _ (by simp only [size_alloc, size_drew, size_set]; omega)]) | rfl)
          clear hK K
          refine can_q (l := [⟨_,_,_,_,_,_⟩]) rfl ?_
          repeat (go_big_quiet_step (fail))
          refine wpQuiet_nil ?_
          refine can_e (o := ⟨_,_,_,_,_,_⟩) rfl (fun K hK => ?_)
          go_wp2_with fail
          refine onK_normal (hK _ _ ⟨fun _ => True, trivial, (fun h => by cases h), ?_⟩)
          clear hK K
          refine can_done ?_
          generalize hU1 : World.setCell w3 _ _ = U1
          generalize hU2 : World.setCell U1 _ _ = U2
          generalize hU3 : World.setCell U2 _ _ = U
          have hUs : ∀ b, ¬ b = w.heap.size + 1 + 1 + 1 → U.heap[b]? = w3.heap[b]? := fun b hb => by
            rw [← hU3, ← hU2, ← hU1]
            exact (Below.heap_setCell _ _ _ b hb).trans ((Below.heap_setCell _ _ _ b hb).trans (Below.heap_setCell _ _ _ b hb))
          have x3 : U.heap[w.heap.size + 1 + 1 + 1]? = some (.cells #[.int .i64 0, .int .i64 q, .int .i64 at_, .int .i64 at_, .int .i64 mt, .int .i64 gm] 43 (0, 0)) := by
            rw [← hU3, ← hU2, ← hU1]
            exact blk_set (blk_set (blk_set hz3 1 _ _ rfl) 4 _ _ rfl) 5 _ _ rfl
          have x2 := (hUs _ hn2).trans hz2
          have x0 := (hUs _ hn0).trans hz0
          have xm := (hUs _ hn4).trans hzm
          have hBU : Below w.heap.size w U := by
            have hB2 := HB2.out
            have hB3 : Below w.heap.size w w3 := below_seq (by repeat (first | (with_reducible assumption) | (with_reducible exact Below.refl _ _) | (with_reducible apply below_drewL) | (with_reducible apply below_alloc) | (with_reducible apply below_drew1) | (with_reducible apply below_drewN) | (refine below_set ?_ (by first | omega | (simp only [size_alloc, size_drew, size_set]; omega)) _ _))) hb3x
            rw [← hU3, ← hU2, ← hU1]
            exact (by repeat (first | (with_reducible assumption) | (with_reducible exact Below.refl _ _) | (with_reducible apply below_drewL) | (with_reducible apply below_alloc) | (with_reducible apply below_drew1) | (with_reducible apply below_drewN) | (refine below_set ?_ (by first | omega | (simp only [size_alloc, size_drew, size_set]; omega)) _ _)))
          have hyE : U.cell? ⟨b3, o3 + q * 2, none⟩ = some (.string sE) := (hBU.cell (p := ⟨b3, o3 + q * 2, none⟩) hb3).trans HY30.out
          have hb3U : b3 < U.heap.size := by have := hBU.size; omega
          have HBU := Hd.mk hBU
          clear hy0c0 hy0f0 hy0c1 hy0f1 hy0c2 hy0f2 hy0c3 hy0f3 hy0c4 hy0f4 hy0l
          clear hy1c0 hy1f0 hy1c1 hy1f1 hy1l
          clear hy2c0 hy2f0 hy2c1 hy2f1 hy2c2 hy2f2 hy2c3 hy2f3 hy2c4 hy2f4 hy2c5 hy2f5 hy2l
          clear hy3c0 hy3f0 hy3c1 hy3f1 hy3c2 hy3f2 hy3c3 hy3f3 hy3c4 hy3f4 hy3c5 hy3f5 hy3l
          clear hm2c0 hm2f0 hm2c1 hm2f1 hm2c2 hm2f2 hm2l
          clear hz3c0 hz3f0 hz3c1 hz3f1 hz3c2 hz3f2 hz3c3 hz3f3 hz3c4 hz3f4 hz3c5 hz3f5 hz3l
          clear hy0 hy1 hy2 hy3 hm2 hz0 hz2 hz3 hzm hb3x hU1 hU2 hU3 hUs hBU
          have x3c0 := blk_cell x3 0 _ rfl; have x3f0 := blk_frozen x3 0; have x3c1 := blk_cell x3 1 _ rfl; have x3f1 := blk_frozen x3 1; have x3c2 := blk_cell x3 2 _ rfl; have x3f2 := blk_frozen x3 2; have x3c3 := blk_cell x3 3 _ rfl; have x3f3 := blk_frozen x3 3; have x3c4 := blk_cell x3 4 _ rfl; have x3f4 := blk_frozen x3 4; have x3c5 := blk_cell x3 5 _ rfl; have x3f5 := blk_frozen x3 5; have x3l := blk_lt x3
          have x2c0 := blk_cell x2 0 _ rfl; have x2f0 := blk_frozen x2 0; have x2c1 := blk_cell x2 1 _ rfl; have x2f1 := blk_frozen x2 1; have x2c2 := blk_cell x2 2 _ rfl; have x2f2 := blk_frozen x2 2; have x2c3 := blk_cell x2 3 _ rfl; have x2f3 := blk_frozen x2 3; have x2c4 := blk_cell x2 4 _ rfl; have x2f4 := blk_frozen x2 4; have x2c5 := blk_cell x2 5 _ rfl; have x2f5 := blk_frozen x2 5; have x2l := blk_lt x2
          have x0c0 := blk_cell x0 0 _ rfl; have x0f0 := blk_frozen x0 0; have x0c1 := blk_cell x0 1 _ rfl; have x0f1 := blk_frozen x0 1; have x0c2 := blk_cell x0 2 _ rfl; have x0f2 := blk_frozen x0 2; have x0c3 := blk_cell x0 3 _ rfl; have x0f3 := blk_frozen x0 3; have x0c4 := blk_cell x0 4 _ rfl; have x0f4 := blk_frozen x0 4; have x0l := blk_lt x0
          have xmc0 := blk_cell xm 0 _ rfl; have xmf0 := blk_frozen xm 0; have xmc1 := blk_cell xm 1 _ rfl; have xmf1 := blk_frozen xm 1; have xmc2 := blk_cell xm 2 _ rfl; have xmf2 := blk_frozen xm 2; have xml := blk_lt xm
          go_wp2
          have hB2 := HBU.out
          refine bodyPost_ret (cell_tmp_row rfl _ _ (w.heap.size + 1 + 1) 43 #[.int .i64 0, .int .i64 q, .int .i64 at_, .int .i64 at_, .int .i64 mt, .int .i64 gm] (0, 0) _ rfl (blk_six x2 _ _ _ _ _ _) Tryz.underlying43 rfl (by kernel_rfl)) rfl ⟨rfl, ?_⟩
          exact (by repeat (first | (with_reducible assumption) | (with_reducible exact Below.refl _ _) | (with_reducible apply below_drewL) | (with_reducible apply below_alloc) | (with_reducible apply below_drew1) | (with_reducible apply below_drewN) | (refine below_set ?_ (by first | omega | (simp only [size_alloc, size_drew, size_set]; omega)) _ _)))
        · rw [if_neg hE]
          have he : sE.toList.isEmpty = false := by rw [Bool.eq_false_iff]; exact fun h => hE ((empty_is sE).1 h)
          clear hE
          go_enter Tryz.func109, Tryz.ntmps109
          go_upto_region 2 with fail
          generalize hV : World.alloc _ _ = V
          have HBV : Below w.heap.size w V := below_of hV (by repeat (first | (with_reducible assumption) | (with_reducible exact Below.refl _ _) | (with_reducible apply below_drewL) | (with_reducible apply below_alloc) | (with_reducible apply below_drew1) | (with_reducible apply below_drewN) | (refine below_set ?_ (by first | omega | (simp only [size_alloc, size_drew, size_set]; omega)) _ _)))
          have zV : Hd (V.heap.size = w.heap.size + 1 + 1 + 1 + 1) := ⟨by rw [← hV]; simp only [size_alloc]⟩
          have V0 := at_of hV (blk_alloc (blk_alloc (blk_alloc (blk_new _ _ _ rfl) _) _) _)
          have V0l := blk_lt V0
          have V1 := at_of hV (blk_alloc (blk_alloc (blk_new _ _ _ rfl) _) _)
          simp only [size_alloc] at V1
          have V1l := blk_lt V1
          have V2 := at_of hV (blk_alloc (blk_new _ _ _ rfl) _)
          simp only [size_alloc] at V2
          have V2l := blk_lt V2
          have V3 := at_of hV (blk_new _ _ _ rfl)
          simp only [size_alloc] at V3
          have V3l := blk_lt V3
          clear hV
          have HV0 := Hd.mk V0; have HV1 := Hd.mk V1; have HV2 := Hd.mk V2; have HV3 := Hd.mk V3
          have HBVd := Hd.mk HBV
          have V0c0 := blk_cell V0 0 _ rfl
          have V0f0 := blk_frozen V0 0
          have V0c1 := blk_cell V0 1 _ rfl
          have V0f1 := blk_frozen V0 1
          have V0c2 := blk_cell V0 2 _ rfl
          have V0f2 := blk_frozen V0 2
          have V0c3 := blk_cell V0 3 _ rfl
          have V0f3 := blk_frozen V0 3
          have V0c4 := blk_cell V0 4 _ rfl
          have V0f4 := blk_frozen V0 4
          have V1c0 := blk_cell V1 0 _ rfl
          have V1f0 := blk_frozen V1 0
          have V1c1 := blk_cell V1 1 _ rfl
          have V1f1 := blk_frozen V1 1
          clear V0 V1 V2 V3
          go_wp2_with (first
            | (go_at_call 118; go_must (refine Calls.mono (HSU.out _) ?_; rintro e w2 ⟨rfl, hb2⟩; have HB2 := Hd.mk (below_seq (below_alloc HB1.out _) hb2); have hy0 := blk_below (blk_alloc hu0 _) hb2; have hy1 := blk_below (blk_alloc hu1 _) hb2; have hy2 := blk_below (blk_alloc hu2 _) hb2; have hy3 := blk_below (blk_alloc hu3 _) hb2; clear hu0c0 hu0f0 hu0c1 hu0f1 hu0c2 hu0f2 hu0c3 hu0f3 hu0c4 hu0f4 hu0l; clear hu1c0 hu1f0 hu1c1 hu1f1 hu1l; clear hu2c0 hu2f0 hu2c1 hu2f1 hu2c2 hu2f2 hu2c3 hu2f3 hu2c4 hu2f4 hu2c5 hu2f5 hu2l; clear hu3c0 hu3f0 hu3c1 hu3f1 hu3c2 hu3f2 hu3c3 hu3f3 hu3c4 hu3f4 hu3c5 hu3f5 hu3l; have hm2 := blk_below (blk_new w1 (.cells #[.int .i64 q, .int .i64 mt, .bool mo] 166) _ rfl) hb2; have hm2c0 := blk_cell hm2 0 _ rfl; have hm2f0 := blk_frozen hm2 0; have hm2c1 := blk_cell hm2 1 _ rfl; have hm2f1 := blk_frozen hm2 1; have hm2c2 := blk_cell hm2 2 _ rfl; have hm2f2 := blk_frozen hm2 2; have hm2l := blk_lt hm2; have hy0c0 := blk_cell hy0 0 _ rfl; have hy0f0 := blk_frozen hy0 0; have hy0c1 := blk_cell hy0 1 _ rfl; have hy0f1 := blk_frozen hy0 1; have hy0c2 := blk_cell hy0 2 _ rfl; have hy0f2 := blk_frozen hy0 2; have hy0c3 := blk_cell hy0 3 _ rfl; have hy0f3 := blk_frozen hy0 3; have hy0c4 := blk_cell hy0 4 _ rfl; have hy0f4 := blk_frozen hy0 4; have hy0l := blk_lt hy0; have hy1c0 := blk_cell hy1 0 _ rfl; have hy1f0 := blk_frozen hy1 0; have hy1c1 := blk_cell hy1 1 _ rfl; have hy1f1 := blk_frozen hy1 1; have hy1l := blk_lt hy1; have hy2c0 := blk_cell hy2 0 _ rfl; have hy2f0 := blk_frozen hy2 0; have hy2c1 := blk_cell hy2 1 _ rfl; have hy2f1 := blk_frozen hy2 1; have hy2c2 := blk_cell hy2 2 _ rfl; have hy2f2 := blk_frozen hy2 2; have hy2c3 := blk_cell hy2 3 _ rfl; have hy2f3 := blk_frozen hy2 3; have hy2c4 := blk_cell hy2 4 _ rfl; have hy2f4 := blk_frozen hy2 4; have hy2c5 := blk_cell hy2 5 _ rfl; have hy2f5 := blk_frozen hy2 5; have hy2l := blk_lt hy2; have hy3c0 := blk_cell hy3 0 _ rfl; have hy3f0 := blk_frozen hy3 0; have hy3c1 := blk_cell hy3 1 _ rfl; have hy3f1 := blk_frozen hy3 1; have hy3c2 := blk_cell hy3 2 _ rfl; have hy3f2 := blk_frozen hy3 2; have hy3c3 := blk_cell hy3 3 _ rfl; have hy3f3 := blk_frozen hy3 3; have hy3c4 := blk_cell hy3 4 _ rfl; have hy3f4 := blk_frozen hy3 4; have hy3c5 := blk_cell hy3 5 _ rfl; have hy3f5 := blk_frozen hy3 5; have hy3l := blk_lt hy3))
            | (go_at_call 117; go_must (refine Calls.mono (HLG.out _ (HL.out.below HBVd.out)) ?_; rintro e w1 ⟨rfl, hb1⟩; have HB1 := Hd.mk (below_seq HBVd.out hb1); have hu0 := blk_below HV0.out hb1; have hu1 := blk_below HV1.out hb1; have hu2 := blk_below HV2.out hb1; have hu3 := blk_below HV3.out hb1; clear V0c0 V0f0 V0c1 V0f1 V0c2 V0f2 V0c3 V0f3 V0c4 V0f4 V0l; clear V1c0 V1f0 V1c1 V1f1 V1l; clear hb1; have hu0c0 := blk_cell hu0 0 _ rfl; have hu0f0 := blk_frozen hu0 0; have hu0c1 := blk_cell hu0 1 _ rfl; have hu0f1 := blk_frozen hu0 1; have hu0c2 := blk_cell hu0 2 _ rfl; have hu0f2 := blk_frozen hu0 2; have hu0c3 := blk_cell hu0 3 _ rfl; have hu0f3 := blk_frozen hu0 3; have hu0c4 := blk_cell hu0 4 _ rfl; have hu0f4 := blk_frozen hu0 4; have hu0l := blk_lt hu0; have hu1c0 := blk_cell hu1 0 _ rfl; have hu1f0 := blk_frozen hu1 0; have hu1c1 := blk_cell hu1 1 _ rfl; have hu1f1 := blk_frozen hu1 1; have hu1l := blk_lt hu1; have hu2c0 := blk_cell hu2 0 _ rfl; have hu2f0 := blk_frozen hu2 0; have hu2c1 := blk_cell hu2 1 _ rfl; have hu2f1 := blk_frozen hu2 1; have hu2c2 := blk_cell hu2 2 _ rfl; have hu2f2 := blk_frozen hu2 2; have hu2c3 := blk_cell hu2 3 _ rfl; have hu2f3 := blk_frozen hu2 3; have hu2c4 := blk_cell hu2 4 _ rfl; have hu2f4 := blk_frozen hu2 4; have hu2c5 := blk_cell hu2 5 _ rfl; have hu2f5 := blk_frozen hu2 5; have hu2l := blk_lt hu2; have hu3c0 := blk_cell hu3 0 _ rfl; have hu3f0 := blk_frozen hu3 0; have hu3c1 := blk_cell hu3 1 _ rfl; have hu3f1 := blk_frozen hu3 1; have hu3c2 := blk_cell hu3 2 _ rfl; have hu3f2 := blk_frozen hu3 2; have hu3c3 := blk_cell hu3 3 _ rfl; have hu3f3 := blk_frozen hu3 3; have hu3c4 := blk_cell hu3 4 _ rfl; have hu3f4 := blk_frozen hu3 4; have hu3c5 := blk_cell hu3 5 _ rfl; have hu3f5 := blk_frozen hu3 5; have hu3l := blk_lt hu3; have HU3L : Hd (w.heap.size + 1 + 1 + 1 < w1.heap.size) := ⟨blk_lt hu3⟩)))
          have hn0 : ¬ w.heap.size = w.heap.size + 1 + 1 + 1 := by omega
          have hn1 : ¬ w.heap.size + 1 = w.heap.size + 1 + 1 + 1 := by omega
          have hn2 : ¬ w.heap.size + 1 + 1 = w.heap.size + 1 + 1 + 1 := by omega
          have hn4 : ¬ w1.heap.size = w.heap.size + 1 + 1 + 1 := by have h8 := HB1.out.size; have h9 := blk_lt HV3.out; have h7 := HU3L.out; omega
          refine wp_region_can (.q [0, 1, 2, 3, 4, 5, 6, 7, 8, 10] (.e 9 true (.e 11 true (.q [12] (.e 13 false (.q [14] (.e 15 false (.done)))))))) (clsX (fun b => b = w.heap.size + 1 + 1 + 1) _) (by kernel_rfl) (by kernel_rfl) (by intro _ _ d _ _ h; cases d <;> exact h) (clsX_drew _ _) ?_
          refine can_q (l := [⟨_,_,_,_,_,_⟩, ⟨_,_,_,_,_,_⟩, ⟨_,_,_,_,_,_⟩, ⟨_,_,_,_,_,_⟩, ⟨_,_,_,_,_,_⟩, ⟨_,_,_,_,_,_⟩, ⟨_,_,_,_,_,_⟩, ⟨_,_,_,_,_,_⟩, ⟨_,_,_,_,_,_⟩, ⟨_,_,_,_,_,_⟩]) rfl ?_
          repeat (go_big_quiet_step (fail))
          refine wpQuiet_nil ?_
          refine can_e (o := ⟨_,_,_,_,_,_⟩) rfl (fun K hK => ?_)
          go_wp2_with (go_at_call 119; go_must (refine Calls.mono (HBH.out _ ((HL.out.below HB2.out).below (by repeat (first | (with_reducible assumption) | (with_reducible exact Below.refl _ _) | (with_reducible apply below_drewL) | (with_reducible apply below_alloc) | (with_reducible apply below_drew1) | (with_reducible apply below_drewN) | (refine below_set ?_ (by first | omega | (simp only [size_alloc, size_drew, size_set]; omega)) _ _))))) ?_; rintro e w3 ⟨rfl, hb3x⟩; have hz3 := blk_below (blk_drew hy3) hb3x; have hz2 := blk_below (blk_drew hy2) hb3x; have hz0 := blk_below (blk_drew hy0) hb3x; have hzm := blk_below (blk_drew hm2) hb3x; have hz3c0 := blk_cell hz3 0 _ rfl; have hz3f0 := blk_frozen hz3 0; have hz3c1 := blk_cell hz3 1 _ rfl; have hz3f1 := blk_frozen hz3 1; have hz3c2 := blk_cell hz3 2 _ rfl; have hz3f2 := blk_frozen hz3 2; have hz3c3 := blk_cell hz3 3 _ rfl; have hz3f3 := blk_frozen hz3 3; have hz3c4 := blk_cell hz3 4 _ rfl; have hz3f4 := blk_frozen hz3 4; have hz3c5 := blk_cell hz3 5 _ rfl; have hz3f5 := blk_frozen hz3 5; have hz3l := blk_lt hz3))
          refine onK_normal (hK _ _ ⟨clsX _ _, clsX_self _ _, fun _ => clsX_next hb3x.size (fun b hb _ => hb3x.block b hb), ?_⟩)
          clear hK K
          refine can_e (o := ⟨_,_,_,_,_,_⟩) rfl (fun K hK => ?_)
          go_wp2_with fail
          first | refine onK_normal (hK _ _ ⟨clsX _ _, clsX_drew _ _, fun _ => clsX_next ?_ ?_, ?_⟩) | refine onK_normal (hK _ _ ⟨clsX _ _, clsX_self _ _, fun _ => clsX_next ?_ ?_, ?_⟩)
          · simp only [size_alloc, size_drew, size_set]; omega
          · intro b_ hb_ hW_; repeat (first | (rw [Below.heap_setCell _ _ _ _ (by intro he_; exact hW_ (by first | exact he_ | exact .inl he_ | exact .inr he_))]) | (rw [Below.heap_alloc _ _ _ (by simp only [size_alloc, size_drew, size_set]; omega)]) | rfl)
          clear hK K
          refine can_q (l := [⟨_,_,_,_,_,_⟩]) rfl ?_
          repeat (go_big_quiet_step (fail))
          refine wpQuiet_nil ?_
          refine can_e (o := ⟨_,_,_,_,_,_⟩) rfl (fun K hK => ?_)
          go_wp2_with fail
          first | refine onK_normal (hK _ _ ⟨clsX _ _, clsX_drew _ _, fun _ => clsX_next ?_ ?_, ?_⟩) | refine onK_normal (hK _ _ ⟨clsX _ _, clsX_self _ _, fun _ => clsX_next ?_ ?_, ?_⟩)
          · simp only [size_alloc, size_drew, size_set]; omega
          · intro b_ hb_ hW_; repeat (first | (rw [Below.heap_setCell _ _ _ _ (by intro he_; exact hW_ (by first | exact he_ | exact .inl he_ | exact .inr he_))]) | (rw [Below.heap_alloc _ _ _ (by simp only [size_alloc, size_drew, size_set]; omega)]) | rfl)
          clear hK K
          refine can_q (l := [⟨_,_,_,_,_,_⟩]) rfl ?_
          repeat (go_big_quiet_step (fail))
          refine wpQuiet_nil ?_
          refine can_e (o := ⟨_,_,_,_,_,_⟩) rfl (fun K hK => ?_)
          go_wp2_with fail
          refine onK_normal (hK _ _ ⟨fun _ => True, trivial, (fun h => by cases h), ?_⟩)
          clear hK K
          refine can_done ?_
          generalize hU1 : World.setCell w3 _ _ = U1
          generalize hU2 : World.setCell U1 _ _ = U2
          generalize hU3 : World.setCell U2 _ _ = U
          have hUs : ∀ b, ¬ b = w.heap.size + 1 + 1 + 1 → U.heap[b]? = w3.heap[b]? := fun b hb => by
            rw [← hU3, ← hU2, ← hU1]
            exact (Below.heap_setCell _ _ _ b hb).trans ((Below.heap_setCell _ _ _ b hb).trans (Below.heap_setCell _ _ _ b hb))
          have x3 : U.heap[w.heap.size + 1 + 1 + 1]? = some (.cells #[.int .i64 0, .int .i64 q, .int .i64 at_, .int .i64 at_, .int .i64 mt, .int .i64 gm] 43 (0, 0)) := by
            rw [← hU3, ← hU2, ← hU1]
            exact blk_set (blk_set (blk_set hz3 1 _ _ rfl) 4 _ _ rfl) 5 _ _ rfl
          have x2 := (hUs _ hn2).trans hz2
          have x0 := (hUs _ hn0).trans hz0
          have xm := (hUs _ hn4).trans hzm
          have hBU : Below w.heap.size w U := by
            have hB2 := HB2.out
            have hB3 : Below w.heap.size w w3 := below_seq (by repeat (first | (with_reducible assumption) | (with_reducible exact Below.refl _ _) | (with_reducible apply below_drewL) | (with_reducible apply below_alloc) | (with_reducible apply below_drew1) | (with_reducible apply below_drewN) | (refine below_set ?_ (by first | omega | (simp only [size_alloc, size_drew, size_set]; omega)) _ _))) hb3x
            rw [← hU3, ← hU2, ← hU1]
            exact (by repeat (first | (with_reducible assumption) | (with_reducible exact Below.refl _ _) | (with_reducible apply below_drewL) | (with_reducible apply below_alloc) | (with_reducible apply below_drew1) | (with_reducible apply below_drewN) | (refine below_set ?_ (by first | omega | (simp only [size_alloc, size_drew, size_set]; omega)) _ _)))
          have hyE : U.cell? ⟨b3, o3 + q * 2, none⟩ = some (.string sE) := (hBU.cell (p := ⟨b3, o3 + q * 2, none⟩) hb3).trans HY30.out
          have hb3U : b3 < U.heap.size := by have := hBU.size; omega
          have HBU := Hd.mk hBU
          clear hy0c0 hy0f0 hy0c1 hy0f1 hy0c2 hy0f2 hy0c3 hy0f3 hy0c4 hy0f4 hy0l
          clear hy1c0 hy1f0 hy1c1 hy1f1 hy1l
          clear hy2c0 hy2f0 hy2c1 hy2f1 hy2c2 hy2f2 hy2c3 hy2f3 hy2c4 hy2f4 hy2c5 hy2f5 hy2l
          clear hy3c0 hy3f0 hy3c1 hy3f1 hy3c2 hy3f2 hy3c3 hy3f3 hy3c4 hy3f4 hy3c5 hy3f5 hy3l
          clear hm2c0 hm2f0 hm2c1 hm2f1 hm2c2 hm2f2 hm2l
          clear hz3c0 hz3f0 hz3c1 hz3f1 hz3c2 hz3f2 hz3c3 hz3f3 hz3c4 hz3f4 hz3c5 hz3f5 hz3l
          clear hy0 hy1 hy2 hy3 hm2 hz0 hz2 hz3 hzm hb3x hU1 hU2 hU3 hUs hBU
          have x3c0 := blk_cell x3 0 _ rfl; have x3f0 := blk_frozen x3 0; have x3c1 := blk_cell x3 1 _ rfl; have x3f1 := blk_frozen x3 1; have x3c2 := blk_cell x3 2 _ rfl; have x3f2 := blk_frozen x3 2; have x3c3 := blk_cell x3 3 _ rfl; have x3f3 := blk_frozen x3 3; have x3c4 := blk_cell x3 4 _ rfl; have x3f4 := blk_frozen x3 4; have x3c5 := blk_cell x3 5 _ rfl; have x3f5 := blk_frozen x3 5; have x3l := blk_lt x3
          have x2c0 := blk_cell x2 0 _ rfl; have x2f0 := blk_frozen x2 0; have x2c1 := blk_cell x2 1 _ rfl; have x2f1 := blk_frozen x2 1; have x2c2 := blk_cell x2 2 _ rfl; have x2f2 := blk_frozen x2 2; have x2c3 := blk_cell x2 3 _ rfl; have x2f3 := blk_frozen x2 3; have x2c4 := blk_cell x2 4 _ rfl; have x2f4 := blk_frozen x2 4; have x2c5 := blk_cell x2 5 _ rfl; have x2f5 := blk_frozen x2 5; have x2l := blk_lt x2
          have x0c0 := blk_cell x0 0 _ rfl; have x0f0 := blk_frozen x0 0; have x0c1 := blk_cell x0 1 _ rfl; have x0f1 := blk_frozen x0 1; have x0c2 := blk_cell x0 2 _ rfl; have x0f2 := blk_frozen x0 2; have x0c3 := blk_cell x0 3 _ rfl; have x0f3 := blk_frozen x0 3; have x0c4 := blk_cell x0 4 _ rfl; have x0f4 := blk_frozen x0 4; have x0l := blk_lt x0
          have xmc0 := blk_cell xm 0 _ rfl; have xmf0 := blk_frozen xm 0; have xmc1 := blk_cell xm 1 _ rfl; have xmf1 := blk_frozen xm 1; have xmc2 := blk_cell xm 2 _ rfl; have xmf2 := blk_frozen xm 2; have xml := blk_lt xm
          go_wp2
          have hB2 := HBU.out
          refine bodyPost_ret (cell_tmp_row rfl _ _ (w.heap.size + 1 + 1) 43 #[.int .i64 1, .int .i64 q, .int .i64 at_, .int .i64 at_, .int .i64 mt, .int .i64 gm] (0, 0) _ rfl (blk_six (blk_far (p := ⟨w.heap.size + 1 + 1 + 1, 0, none⟩) x2 hn2 (.int .i64 1)) _ _ _ _ _ _) Tryz.underlying43 rfl (by kernel_rfl)) rfl ⟨rfl, ?_⟩
          exact (by repeat (first | (with_reducible assumption) | (with_reducible exact Below.refl _ _) | (with_reducible apply below_drewL) | (with_reducible apply below_alloc) | (with_reducible apply below_drew1) | (with_reducible apply below_drewN) | (refine below_set ?_ (by first | omega | (simp only [size_alloc, size_drew, size_set]; omega)) _ _)))
end Go.Proofs.YtoambcpjdcehhaaGreat.Tb
