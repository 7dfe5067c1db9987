/- Texts: J1, J2, J3, J4. -/
import Derived.Test.YtoambcpjdcehhaaGreatIC
import Derived.Test.YtoambcpjdcehhaaGreatVC
/- The takes that survive, and the cursor: the plain law. -/
set_option linter.unusedVariables false
set_option linter.unusedSimpArgs false
namespace Go.Proofs.YtoambcpjdcehhaaGreat.Id
open Go Go.RowKit Go.Proofs.YtoambcpjdcehhaaGreat.Can Go.Proofs.YtoambcpjdcehhaaGreat.Base Go.Proofs.YtoambcpjdcehhaaGreat.Tb
open Go.Proofs.YtoambcpjdcehhaaGreat.Fn hiding get_calls

/-- Takes lie one behind the other, from a to b. -/
def Jn : Int → List E → Int → Prop
  | a, [], b => a = b
  | a, x :: l, b => x.at_.at_ = a ∧ Jn x.tok.t l b
/-- Each take was from where the one ahead came to. -/
def Ch : Spot → List E → Spot → Prop
  | p, [], q => p = q
  | p, x :: l, q => x.at_ = p ∧ Ch ⟨x.tok.t, x.tok.m⟩ l q
theorem Jn.snoc {x : E} : ∀ {l : List E} {a b : Int}, Jn a l b → x.at_.at_ = b → Jn a (l ++ [x]) x.tok.t
  | [], a, b, h, hx => ⟨hx.trans h.symm, rfl⟩
  | y :: l, a, b, h, hx => ⟨h.1, Jn.snoc h.2 hx⟩
theorem Jn.init {x : E} : ∀ {l : List E} {a b : Int}, Jn a (l ++ [x]) b → Jn a l x.at_.at_
  | [], a, b, h => h.1.symm
  | y :: l, a, b, h => ⟨h.1, Jn.init h.2⟩
theorem Ch.snoc {x : E} : ∀ {l : List E} {a b : Spot}, Ch a l b → x.at_ = b → Ch a (l ++ [x]) ⟨x.tok.t, x.tok.m⟩
  | [], a, b, h, hx => ⟨hx.trans h.symm, rfl⟩
  | y :: l, a, b, h, hx => ⟨h.1, Ch.snoc h.2 hx⟩
theorem Ch.init {x : E} : ∀ {l : List E} {a b : Spot}, Ch a (l ++ [x]) b → Ch a l x.at_
  | [], a, b, h => h.1.symm
  | y :: l, a, b, h => ⟨h.1, Ch.init h.2⟩
/-- A spot and a trail, and what the fold has. -/
structure Fit (L : Lx) (text : List UInt8) (cl : Bool) (mode : Int) (pure : Bool) (at_ : Spot) (tr : List Spot) (st : St) : Prop where
  eq : st.at_ = at_
  suf : ∃ pre, st.l.map (·.at_) = pre ++ tr
  join : Jn 0 st.l at_.at_
  tok : ∀ x ∈ st.l, nextM L text cl x.at_ = some x.tok ∧ x.tok.k ≠ 3 ∧ Pin L text.length x.at_
  pin : Pin L text.length at_
  chain : pure = true → Ch ⟨0, mode⟩ st.l at_
theorem Fit.more {L : Lx} (hr : rightB L = true) {s u : List UInt8} {c c' : Bool} {mode : Int} {p : Bool} {at_ : Spot} {tr : List Spot} {st : St} (hc : c = true → u = [] ∧ c' = true) (h : Fit L s c mode p at_ tr st) : Fit L (s ++ u) c' mode p at_ tr st := by
  have hl : s.length ≤ (s ++ u).length := by rw [List.length_append]; omega
  have hp : ∀ q, Pin L s.length q → Pin L (s ++ u).length q := fun q hq => ⟨hq.1, by have := hq.2.1; omega, hq.2.2⟩
  exact ⟨h.eq, h.suf, h.join, fun x hx => ⟨next_more hr hc (h.tok x hx).2.2 (h.tok x hx).1, (h.tok x hx).2.1, hp _ (h.tok x hx).2.2⟩, hp _ h.pin, h.chain⟩
theorem Fit.mono {L : Lx} {s : List UInt8} {c : Bool} {mode : Int} {p p' : Bool} {at_ : Spot} {tr : List Spot} {st : St} (h : Fit L s c mode p at_ tr st) (hp : p' = true → p = true) : Fit L s c mode p' at_ tr st := ⟨h.eq, h.suf, h.join, h.tok, h.pin, fun hh => h.chain (hp hh)⟩
/-- What an operation and its answer make an event. -/
def evO (o : Opn) (r : Res) : Ev := ⟨2, 0, 0, o.k, o.n, o.data, r.e, r.n, r.tok⟩
theorem evO_good (o : Opn) (r : Res) : goodB (evO o r) = decide (r.e = 0) := by
  unfold goodB evO
  simp only [beq_self_eq_true, Bool.true_and]
  by_cases h : r.e = 0
  · simp [h]
  · rw [decide_eq_false h]; simpa using h
theorem pureL_snoc (h : List Ev) (v : Ev) : pureL (h ++ [v]) = (pureL h && !(goodB v && v.op == 9)) := by unfold pureL; rw [List.all_append]; simp
theorem le_lowL {a or : Int} {l : List Spot} : a ≤ lowL or l ↔ a ≤ or ∧ ∀ x ∈ l, a ≤ x.at_ := by
  induction l generalizing or with
  | nil => exact ⟨fun h => ⟨h, fun x hx => by cases hx⟩, fun h => h.1⟩
  | cons b l ih =>
    unfold lowL
    rw [ih]
    constructor
    · rintro ⟨h1, h2⟩
      have h3 : a ≤ or ∧ a ≤ b.at_ := by split at h1 <;> omega
      exact ⟨h3.1, fun x hx => by rcases List.mem_cons.1 hx with rfl | hx; exact h3.2; exact h2 x hx⟩
    · rintro ⟨h1, h2⟩
      have h3 := h2 b List.mem_cons_self
      exact ⟨by split <;> omega, fun x hx => h2 x (List.mem_cons_of_mem _ hx)⟩
theorem le_lowUpto {a or : Int} {L : List Slot} : ∀ {k : Nat}, a ≤ lowUpto L or k ↔ a ≤ or ∧ ∀ j, j < k → ∀ q : Slot, L[j]? = some q → q.taken = true → a ≤ q.low
  | 0 => ⟨fun h => ⟨h, fun j hj => absurd hj (Nat.not_lt_zero j)⟩, fun h => h.1⟩
  | k + 1 => by
    have ih := le_lowUpto (a := a) (or := or) (L := L) (k := k)
    unfold lowUpto
    cases hx : L[k]? with
    | none =>
      simp only
      rw [ih]
      refine and_congr_right fun _ => ⟨fun h j hj q hq ht => ?_, fun h j hj => h j (by omega)⟩
      rcases Nat.lt_or_ge j k with hjk | hjk
      · exact h j hjk q hq ht
      · have : j = k := by omega
        subst this; rw [hx] at hq; cases hq
    | some s =>
      simp only
      constructor
      · intro h
        have h1 : a ≤ lowUpto L or k ∧ (s.taken = true → a ≤ s.low) := by
          split at h
          · split at h
            · exact ⟨by omega, fun _ => h⟩
            · exact ⟨h, fun _ => by omega⟩
          · rename_i ht; exact ⟨h, fun h' => absurd h' ht⟩
        refine ⟨(ih.1 h1.1).1, fun j hj q hq ht => ?_⟩
        rcases Nat.lt_or_ge j k with hjk | hjk
        · exact (ih.1 h1.1).2 j hjk q hq ht
        · have : j = k := by omega
          subst this; rw [hx] at hq; cases hq; exact h1.2 ht
      · rintro ⟨h1, h2⟩
        have h3 : a ≤ lowUpto L or k := ih.2 ⟨h1, fun j hj => h2 j (by omega)⟩
        split
        · rename_i ht
          have := h2 k (by omega) s hx ht
          split <;> omega
        · exact h3
theorem le_lowC {a : Int} {s : Cu} : a ≤ lowC s ↔ a ≤ lowS s ∧ ∀ (j : Nat) (q : Slot × List Spot), s.ls[j]? = some q → q.1.taken = true → a ≤ q.1.low := by
  unfold lowC
  rw [le_lowUpto]
  refine and_congr_right fun _ => ⟨fun h j q hq ht => ?_, fun h j hj q hq ht => ?_⟩
  · have hlt := (List.getElem?_eq_some_iff.1 hq).1
    refine h j (by unfold Cu.L; rw [List.length_map]; exact hlt) q.1 ?_ ht
    unfold Cu.L; rw [List.getElem?_map, hq]; rfl
  · unfold Cu.L at hq
    rw [List.getElem?_map] at hq
    obtain ⟨q', h1, h2⟩ := Option.map_eq_some_iff.1 hq
    subst h2
    exact h j q' h1 ht
theorem numb_inj {m i j : Nat} {a b : Slot} (hi : i < m) (hj : j < m) (h : numb m i a = numb m j b) : i = j := by
  unfold numb at h
  have h1 : (i + m * a.times) % m = i := by rw [Nat.add_mul_mod_self_left, Nat.mod_eq_of_lt hi]
  have h2 : (j + m * b.times) % m = j := by rw [Nat.add_mul_mod_self_left, Nat.mod_eq_of_lt hj]
  rw [← h1, ← h2, h]
/-- What is kept from operation to operation. -/
structure Inv (C : Cf) (L : Lx) (mode : Int) (s : Cu) (h : List Ev) : Prop where
  now : Fit L s.text s.cl mode (pureL h) s.now.at_ s.tr (runM mode h).s
  kept : ∀ i (q : Slot × List Spot), s.ls[i]? = some q → q.1.taken = true → ∃ st, (runM mode h).κ (numb s.ls.length i q.1 : Nat) = some st ∧ Fit L s.text s.cl mode (pureL h) q.1.v.at_ q.2 st ∧ q.1.low = lowL q.1.v.at_.at_ q.2
  room : (s.text.length : Int) ≤ lowC s + C.P.bytes
  size : s.text.length ≤ 40 * h.length
end Go.Proofs.YtoambcpjdcehhaaGreat.Id

/- What an operation keeps: the plain law. -/
set_option linter.unusedVariables false
set_option linter.unusedSimpArgs false
namespace Go.Proofs.YtoambcpjdcehhaaGreat.Id
open Go Go.RowKit Go.Proofs.YtoambcpjdcehhaaGreat.Can Go.Proofs.YtoambcpjdcehhaaGreat.Base Go.Proofs.YtoambcpjdcehhaaGreat.Tb
open Go.Proofs.YtoambcpjdcehhaaGreat.Fn hiding get_calls

section
variable {C : Cf} {L : Lx} {mode : Int} {s s' : Cu} {h : List Ev} {o : Opn} {r : Res}
theorem pure_same (h : List Ev) (o : Opn) (r : Res) (hk : o.k ≠ 9) : pureL (h ++ [evO o r]) = pureL h := by
  rw [pureL_snoc]
  have : ((evO o r).op == 9) = false := by show (o.k == 9) = false; simpa using hk
  rw [this]; simp
theorem pure_le (h : List Ev) (v : Ev) : pureL (h ++ [v]) = true → pureL h = true := by rw [pureL_snoc]; intro hh; simp only [Bool.and_eq_true] at hh; exact hh.1
theorem run_good (hr0 : r.e = 0) : runM mode (h ++ [evO o r]) = turnM (runM mode h) (evO o r) := by
  rw [runM_snoc]; unfold stepM; rw [evO_good, if_pos (by simpa using hr0)]
theorem run_bad (hr0 : r.e ≠ 0) : runM mode (h ++ [evO o r]) = runM mode h := by
  rw [runM_snoc]; unfold stepM; rw [evO_good, if_neg (by simpa using hr0)]
theorem turn_other {m : Mdl} {v : Ev} (h : v.op = 1 ∨ v.op = 2 ∨ v.op = 3) : turnM m v = m := by
  unfold turnM
  rw [if_neg (by omega), if_neg (by omega), if_neg (by omega), if_neg (by omega), if_neg (by omega), if_neg (by omega)]
/-- What neither moves nor marks. -/
theorem Inv.still (hr : rightB L = true) (hi : Inv C L mode s h) {u : List UInt8} {c' : Bool} {v : Ev} (hc : s.cl = true → u = [] ∧ c' = true) (hm : runM mode (h ++ [v]) = runM mode h) (hroom : ((s.text ++ u).length : Int) ≤ lowC s + C.P.bytes) (hu : u.length ≤ 40) :
    Inv C L mode { s with text := s.text ++ u, cl := c' } (h ++ [v]) := by
  refine ⟨?_, fun i q hq ht => ?_, hroom, ?_⟩
  · rw [hm]; exact (hi.now.more hr hc).mono (pure_le h v)
  · rw [hm]
    obtain ⟨st, h1, h2, h3⟩ := hi.kept i q hq ht
    exact ⟨st, h1, (h2.more hr hc).mono (pure_le h v), h3⟩
  · have := hi.size
    simp only [List.length_append, List.length_cons, List.length_nil]; omega
theorem Inv.same (hr : rightB L = true) (hi : Inv C L mode s h) {v : Ev} (hm : runM mode (h ++ [v]) = runM mode h) : Inv C L mode s (h ++ [v]) := by
  have := Inv.still hr hi (u := []) (c' := s.cl) (v := v) (fun h => ⟨rfl, h⟩) hm (by rw [List.append_nil]; exact hi.room) (by simp)
  rw [List.append_nil] at this
  exact this
/-- What moves, and keeps the marks. -/
theorem Inv.move (hi : Inv C L mode s h) {now : Sv} {tr : List Spot} {v : Ev} (hκ : (runM mode (h ++ [v])).κ = (runM mode h).κ) (hf : Fit L s.text s.cl mode (pureL (h ++ [v])) now.at_ tr (runM mode (h ++ [v])).s) (hl : lowC s ≤ lowL now.at_.at_ tr) : Inv C L mode { s with now := now, tr := tr } (h ++ [v]) := by
  refine ⟨hf, fun i q hq ht => ?_, ?_, ?_⟩
  · rw [hκ]
    obtain ⟨st, h1, h2, h3⟩ := hi.kept i q hq ht
    exact ⟨st, h1, h2.mono (pure_le h v), h3⟩
  · have h0 := hi.room
    have : lowC s ≤ lowC { s with now := now, tr := tr } := le_lowC.2 ⟨hl, (le_lowC.1 (Int.le_refl (lowC s))).2⟩
    show (s.text.length : Int) ≤ _
    omega
  · have := hi.size
    simp only [List.length_append, List.length_cons, List.length_nil]; omega
/-- What marks. -/
theorem Inv.slot (hi : Inv C L mode s h) {i : Nat} {q q' : Slot × List Spot} {v : Ev} (hq : s.ls[i]? = some q) (hs : (runM mode (h ++ [v])).s = (runM mode h).s)
    (hκ : ∀ j (x : Slot × List Spot), j ≠ i → s.ls[j]? = some x → x.1.taken = true → (runM mode (h ++ [v])).κ (numb s.ls.length j x.1 : Nat) = (runM mode h).κ (numb s.ls.length j x.1 : Nat))
    (hn : q'.1.taken = true → ∃ st, (runM mode (h ++ [v])).κ (numb s.ls.length i q'.1 : Nat) = some st ∧ Fit L s.text s.cl mode (pureL (h ++ [v])) q'.1.v.at_ q'.2 st ∧ q'.1.low = lowL q'.1.v.at_.at_ q'.2 ∧ lowC s ≤ q'.1.low) : Inv C L mode { s with ls := s.ls.set i q' } (h ++ [v]) := by
  have hil := (List.getElem?_eq_some_iff.1 hq).1
  refine ⟨?_, fun j x hx ht => ?_, ?_, ?_⟩
  · rw [hs]; exact hi.now.mono (pure_le h v)
  · have hlen : ({ s with ls := s.ls.set i q' } : Cu).ls.length = s.ls.length := List.length_set
    rw [hlen]
    by_cases hj : j = i
    · subst hj
      have hx' : (s.ls.set j q')[j]? = some x := hx
      rw [List.getElem?_set_self hil] at hx'
      obtain rfl := Option.some.inj hx'
      obtain ⟨st, h1, h2, h3, _⟩ := hn ht
      exact ⟨st, h1, h2, h3⟩
    · have hx' : (s.ls.set i q')[j]? = some x := hx
      rw [List.getElem?_set_ne (fun e => hj e.symm)] at hx'
      rw [hκ j x hj hx' ht]
      obtain ⟨st, h1, h2, h3⟩ := hi.kept j x hx' ht
      exact ⟨st, h1, h2.mono (pure_le h v), h3⟩
  · have h0 := hi.room
    have : lowC s ≤ lowC { s with ls := s.ls.set i q' } := by
      have hb := le_lowC.1 (Int.le_refl (lowC s))
      refine le_lowC.2 ⟨hb.1, fun j x hx ht => ?_⟩
      by_cases hj : j = i
      · subst hj
        have hx' : (s.ls.set j q')[j]? = some x := hx
        rw [List.getElem?_set_self hil] at hx'
        obtain rfl := Option.some.inj hx'
        obtain ⟨st, _, _, _, h4⟩ := hn ht
        exact h4
      · have hx' : (s.ls.set i q')[j]? = some x := hx
        rw [List.getElem?_set_ne (fun e => hj e.symm)] at hx'
        exact hb.2 j x hx' ht
    show (s.text.length : Int) ≤ _
    omega
  · have := hi.size
    simp only [List.length_append, List.length_cons, List.length_nil]; omega
theorem suf_snoc {l pre tr : List Spot} (h : l = pre ++ tr) (p : Spot) {d : Int} (hd : 1 ≤ d) : ∃ pre', l ++ [p] = pre' ++ pushL tr p d := by
  subst h
  unfold pushL
  rw [if_neg (by omega)]
  split
  · refine ⟨pre ++ tr.take 1, ?_⟩
    rw [List.append_assoc, List.append_assoc, ← List.append_assoc (tr.take 1), List.take_append_drop]
  · exact ⟨pre, by rw [List.append_assoc]⟩
theorem mem_pushL {x p : Spot} {tr : List Spot} {d : Int} (hx : x ∈ pushL tr p d) : x ∈ tr ∨ x = p ∨ d = 0 := by
  unfold pushL at hx
  split at hx
  · exact .inr (.inr (by assumption))
  · split at hx
    · rcases List.mem_append.1 hx with hx | hx
      · exact .inl (List.mem_of_mem_drop hx)
      · exact .inr (.inl (by simpa using hx))
    · rcases List.mem_append.1 hx with hx | hx
      · exact .inl hx
      · exact .inr (.inl (by simpa using hx))
theorem last_of {l : List E} {pre tr : List Spot} {y : Spot} (h : l.map (·.at_) = pre ++ (tr ++ [y])) : ∃ l0 x, l = l0 ++ [x] ∧ x.at_ = y ∧ l0.map (·.at_) = pre ++ tr := by
  rcases List.eq_nil_or_concat l with rfl | ⟨l0, x, rfl⟩
  · simp at h
  · rw [List.concat_eq_append] at *
    rw [List.map_append, ← List.append_assoc] at h
    obtain ⟨h1, h2⟩ := List.append_inj' h rfl
    exact ⟨l0, x, rfl, by simpa using h2, h1⟩
theorem Inv.step (hr : rightB L = true) (hdp : 1 ≤ depthOf C) (hi : Inv C L mode s h) (hst : Step C L s o r s') (hd : o.data.size ≤ 40) : Inv C L mode s' (h ++ [evO o r]) := by
  cases hst with
  | fail _ he => exact hi.same hr (run_bad he)
  | feed j x hk hcl hj hjs =>
    have hlen : ((bl o.data).take j).length ≤ j := by rw [List.length_take]; omega
    refine Inv.still hr hi (u := (bl o.data).take j) (c' := s.cl) (fun hc => by rw [hcl] at hc; cases hc) ((run_good rfl).trans (turn_other (.inl hk))) ?_ (by omega)
    rw [List.length_append]; omega
  | shut n x hk hcl =>
    have := Inv.still hr hi (u := []) (c' := true) (v := evO o ⟨0, n, x⟩) (fun _ => ⟨rfl, rfl⟩) ((run_good rfl).trans (turn_other (.inr (.inl hk)))) (by rw [List.append_nil]; exact hi.room) (by simp)
    rw [List.append_nil] at this
    exact this
  | peek n x hk => exact hi.same hr ((run_good rfl).trans (turn_other (.inr (.inr hk))))
  | last n x hk hx =>
    refine hi.same hr ((run_good rfl).trans ?_)
    have h4 : (evO o ⟨0, n, x⟩).op = 4 := hk
    have h3 : (evO o ⟨0, n, x⟩).tok.k = 3 := hx
    unfold turnM
    rw [if_pos h4, if_pos h3]
  | take n x y hk hx hn hy =>
    have hrun : runM mode (h ++ [evO o ⟨0, n, x⟩]) = ⟨⟨⟨x.t, x.m⟩, (runM mode h).s.l ++ [⟨(runM mode h).s.at_, x⟩]⟩, (runM mode h).κ⟩ := by
      rw [run_good rfl]
      have h4 : (evO o ⟨0, n, x⟩).op = 4 := hk
      have h3 : ¬ (evO o ⟨0, n, x⟩).tok.k = 3 := hx
      unfold turnM
      rw [if_pos h4, if_neg h3]
      rfl
    have hf := hi.now
    obtain ⟨hin, hff, hfa, hat, hpr, -⟩ := next_in hr hf.pin hn
    refine hi.move (by rw [hrun]) ?_ ?_
    · rw [hrun, pure_same h o _ (by omega), hy]
      obtain ⟨pre, hpre⟩ := hf.suf
      have heq := hf.eq
      refine ⟨rfl, ?_, ?_, ?_, hin, fun hp => ?_⟩
      · simp only [List.map_append, List.map_cons, List.map_nil]
        rw [heq]
        exact suf_snoc hpre _ hdp
      · exact Jn.snoc (x := ⟨(runM mode h).s.at_, x⟩) hf.join (by rw [heq])
      · intro z hz
        rcases List.mem_append.1 hz with hz | hz
        · exact hf.tok z hz
        · obtain rfl : z = ⟨(runM mode h).s.at_, x⟩ := by simpa using hz
          simp only
          rw [heq]
          exact ⟨hn, hx, hf.pin⟩
      · exact Ch.snoc (x := ⟨(runM mode h).s.at_, x⟩) (hf.chain hp) heq
    · have hb := le_lowC.1 (Int.le_refl (lowC s))
      have hb1 := le_lowL.1 hb.1
      rw [hy]
      refine le_lowL.2 ⟨?_, fun z hz => ?_⟩
      · show lowC s ≤ x.t
        have := hb1.1
        omega
      · rcases mem_pushL hz with hz | hz | hz
        · exact hb1.2 z hz
        · rw [hz]; exact hb1.1
        · omega
  | back n x y tr hk htr =>
    have hf := hi.now
    obtain ⟨pre, hpre⟩ := hf.suf
    rw [htr] at hpre
    obtain ⟨l0, z, hl, hz, hl0⟩ := last_of hpre
    have hrun : runM mode (h ++ [evO o ⟨0, n, x⟩]) = ⟨⟨z.at_, l0⟩, (runM mode h).κ⟩ := by
      rw [run_good rfl]
      have h5 : (evO o ⟨0, n, x⟩).op = 5 := hk
      unfold turnM pop
      rw [if_neg (by omega), if_pos h5, hl]
      simp
    refine hi.move (by rw [hrun]) ?_ ?_
    · rw [hrun, pure_same h o _ (by omega), ← hz]
      have hj := hf.join
      rw [hl] at hj
      refine ⟨rfl, ⟨pre, hl0⟩, hj.init, fun a ha => hf.tok a (by rw [hl]; exact List.mem_append_left _ ha), (hf.tok z (by rw [hl]; simp)).2.2, fun hp => ?_⟩
      have hc := hf.chain hp
      rw [hl] at hc
      exact hc.init
    · have hb := le_lowC.1 (Int.le_refl (lowC s))
      have hb1 := le_lowL.1 hb.1
      exact le_lowL.2 ⟨hb1.2 y.at_ (by rw [htr]; simp), fun a ha => hb1.2 a (by rw [htr]; exact List.mem_append_left _ ha)⟩
  | mark i q x hk hq hf =>
    have hrun : runM mode (h ++ [evO o ⟨0, (numb s.ls.length i q.1 : Nat), x⟩]) = ⟨(runM mode h).s, fun y => if y = (numb s.ls.length i q.1 : Nat) then some (runM mode h).s else (runM mode h).κ y⟩ := by
      rw [run_good rfl]
      have h6 : (evO o ⟨0, (numb s.ls.length i q.1 : Nat), x⟩).op = 6 := hk
      unfold turnM
      rw [if_neg (by omega), if_neg (by omega), if_pos h6]
      rfl
    have hil := (List.getElem?_eq_some_iff.1 hq).1
    refine hi.slot hq (by rw [hrun]) (fun j z hj hz ht => ?_) (fun _ => ⟨(runM mode h).s, ?_, ?_, rfl, ?_⟩)
    · rw [hrun]
      have hjl := (List.getElem?_eq_some_iff.1 hz).1
      simp only
      rw [if_neg (fun e => hj (numb_inj (a := z.1) (b := q.1) hjl hil (by omega)))]
    · rw [hrun]
      exact if_pos rfl
    · exact hi.now.mono (pure_le h _)
    · exact (le_lowC.1 (Int.le_refl (lowC s))).1
  | rewind i q n x hk hfl hq ht =>
    obtain ⟨q1, hq1, -, hnb⟩ := findL_slot hfl
    have hq1' : q1 = q.1 := by
      unfold Cu.L at hq1
      rw [List.getElem?_map, hq] at hq1
      exact (Option.some.inj hq1).symm
    subst hq1'
    have hLl : s.L.length = s.ls.length := by unfold Cu.L; rw [List.length_map]
    rw [hLl] at hnb
    obtain ⟨st, hst, hfit, hlow⟩ := hi.kept i q hq ht
    have hrun : runM mode (h ++ [evO o ⟨0, n, x⟩]) = ⟨st, (runM mode h).κ⟩ := by
      rw [run_good rfl]
      have h7 : (evO o ⟨0, n, x⟩).op = 7 := hk
      unfold turnM
      rw [if_neg (by omega), if_neg (by omega), if_neg (by omega), if_pos h7]
      have : (evO o ⟨0, n, x⟩).n = (numb s.ls.length i q.1 : Nat) := hnb.symm
      rw [this, hst]
      rfl
    refine hi.move (by rw [hrun]) ?_ ?_
    · rw [hrun, pure_same h o _ (by omega)]; exact hfit
    · rw [← hlow]; exact (le_lowC.1 (Int.le_refl (lowC s))).2 i q hq ht
  | release i q n x hk hfl hq ht =>
    obtain ⟨q1, hq1, -, hnb⟩ := findL_slot hfl
    have hq1' : q1 = q.1 := by
      unfold Cu.L at hq1
      rw [List.getElem?_map, hq] at hq1
      exact (Option.some.inj hq1).symm
    subst hq1'
    have hLl : s.L.length = s.ls.length := by unfold Cu.L; rw [List.length_map]
    rw [hLl] at hnb
    have hil := (List.getElem?_eq_some_iff.1 hq).1
    have hrun : runM mode (h ++ [evO o ⟨0, n, x⟩]) = ⟨(runM mode h).s, fun y => if y = (numb s.ls.length i q.1 : Nat) then none else (runM mode h).κ y⟩ := by
      rw [run_good rfl]
      have h8 : (evO o ⟨0, n, x⟩).op = 8 := hk
      unfold turnM
      rw [if_neg (by omega), if_neg (by omega), if_neg (by omega), if_neg (by omega), if_pos h8]
      have : (evO o ⟨0, n, x⟩).n = (numb s.ls.length i q.1 : Nat) := hnb.symm
      rw [this]
    refine hi.slot hq (by rw [hrun]) (fun j z hj hz ht2 => ?_) (fun h9 => by cases h9)
    rw [hrun]
    have hjl := (List.getElem?_eq_some_iff.1 hz).1
    simp only
    rw [if_neg (fun e => hj (numb_inj (a := z.1) (b := q.1) hjl hil (by omega)))]
  | mode n x y hk h0 h1 hy =>
    have hf := hi.now
    have hrun : runM mode (h ++ [evO o ⟨0, n, x⟩]) = ⟨⟨⟨(runM mode h).s.at_.at_, o.n⟩, (runM mode h).s.l⟩, (runM mode h).κ⟩ := by
      rw [run_good rfl]
      have h9 : (evO o ⟨0, n, x⟩).op = 9 := hk
      unfold turnM
      rw [if_neg (by omega), if_neg (by omega), if_neg (by omega), if_neg (by omega), if_neg (by omega), if_pos h9]
      rfl
    have hpf : pureL (h ++ [evO o ⟨0, n, x⟩]) = false := by
      rw [pureL_snoc, evO_good]
      have : ((evO o ⟨0, n, x⟩).op == 9) = true := by show (o.k == 9) = true; simpa using hk
      rw [this]; simp
    refine hi.move (by rw [hrun]) ?_ ?_
    · rw [hrun, hpf, hy]
      have heq := hf.eq
      exact ⟨by rw [heq], hf.suf, hf.join, hf.tok, ⟨hf.pin.1, hf.pin.2.1, h0, h1⟩, fun h => by cases h⟩
    · rw [hy]; exact (le_lowC.1 (Int.le_refl (lowC s))).1
end
end Go.Proofs.YtoambcpjdcehhaaGreat.Id

/- What of a cursor the law asks: the plain law. -/
set_option linter.unusedVariables false
set_option linter.unusedSimpArgs false
namespace Go.Proofs.YtoambcpjdcehhaaGreat.Id
open Go Go.RowKit Go.Proofs.YtoambcpjdcehhaaGreat.Can Go.Proofs.YtoambcpjdcehhaaGreat.Base Go.Proofs.YtoambcpjdcehhaaGreat.Tb
open Go.Proofs.YtoambcpjdcehhaaGreat.Fn hiding get_calls

section
variable {L : Lx} {text : List UInt8} {cl p : Bool} {mode : Int} {at_ : Spot} {tr : List Spot} {st : St}
theorem Fit.lies (hr : rightB L = true) (hf : Fit L text cl mode p at_ tr st) : ∀ x ∈ st.l, x.tok.f = x.at_.at_ ∧ 0 ≤ x.at_.at_ ∧ x.at_.at_ ≤ x.tok.a ∧ x.tok.a ≤ x.tok.t ∧ x.tok.t ≤ text.length ∧ x.at_.at_ < x.tok.t := fun x hx => by
  obtain ⟨h1, h2, h3⟩ := hf.tok x hx
  obtain ⟨g1, g2, g3, g4, g5, -⟩ := next_in hr h3 h1
  exact ⟨g2, h3.1, g3, g4, g1.2.1, g5.resolve_left h2⟩
theorem join_of {dst : Int} : ∀ {l : List E} {a : Int}, (∀ x ∈ l, x.tok.f = x.at_.at_ ∧ x.at_.at_ ≤ x.tok.a ∧ x.tok.a ≤ x.tok.t) → Jn a l dst → joinF dst a (l.map (·.tok)) = true
  | [], a, _, h => by have h' : a = dst := h; subst h'; exact beq_self_eq_true a
  | x :: l, a, hl, h => by
    obtain ⟨h1, h2, h3⟩ := hl x List.mem_cons_self
    rw [List.map_cons]
    unfold joinF
    rw [if_neg (by unfold badT; have := h.1; omega)]
    exact join_of (fun y hy => hl y (List.mem_cons_of_mem _ hy)) h.2
theorem Fit.joined (hr : rightB L = true) (hf : Fit L text cl mode p at_ tr st) : joinF at_.at_ 0 (st.l.map (·.tok)) = true :=
  join_of (fun x hx => ⟨(hf.lies hr x hx).1, (hf.lies hr x hx).2.2.1, (hf.lies hr x hx).2.2.2.1⟩) hf.join
theorem cut_is (text : List UInt8) {f t : Int} (h0 : 0 ≤ f) (h1 : f ≤ t) (h2 : t ≤ text.length) : bl (cutB ⟨text.toArray⟩ f t) = (text.take t.toNat).drop f.toNat := by
  have hs : (ByteArray.mk text.toArray).size = text.length := by show text.toArray.size = _; exact List.size_toArray
  have hlo : loI f = f := by unfold loI; rw [if_neg (by omega)]
  have hhi : hiI ⟨text.toArray⟩ t = t := by unfold hiI; rw [hs, if_neg (by omega)]
  unfold cutB
  rw [hlo, hhi]
  split
  · have : t = f := by omega
    subst this
    rw [List.drop_eq_nil_of_le (by rw [List.length_take]; omega)]
    rfl
  · unfold bl
    rw [ByteArray.data_extract]
    simp [List.extract_eq_take_drop, List.drop_take]
theorem take_cut (text : List UInt8) {f t : Nat} (h : f ≤ t) : text.take f ++ (text.take t).drop f = text.take t := by
  have := List.take_append_drop f (text.take t)
  rwa [List.take_take, Nat.min_eq_left h] at this
theorem bytes_of {text : List UInt8} {dst : Int} : ∀ {l : List E} {a : Int}, 0 ≤ a → (∀ x ∈ l, x.tok.f = x.at_.at_ ∧ x.at_.at_ ≤ x.tok.a ∧ x.tok.a ≤ x.tok.t ∧ x.tok.t ≤ text.length) → Jn a l dst → text.take a.toNat ++ bytesU ⟨text.toArray⟩ (l.map (·.tok)) = text.take dst.toNat
  | [], a, _, _, h => by
    have h' : a = dst := h
    subst h'
    show text.take a.toNat ++ [] = _
    rw [List.append_nil]
  | x :: l, a, h0, hl, h => by
    obtain ⟨h1, h2, h3, h4⟩ := hl x List.mem_cons_self
    have ha := h.1
    have hb : bytesU ⟨text.toArray⟩ ((x :: l).map (·.tok)) = (bl (cutB ⟨text.toArray⟩ x.tok.f x.tok.a) ++ bl (cutB ⟨text.toArray⟩ x.tok.a x.tok.t)) ++ bytesU ⟨text.toArray⟩ (l.map (·.tok)) := by
      rw [List.map_cons]; unfold bytesU; rw [List.flatMap_cons]
    rw [hb, cut_is text (by omega) (by omega) (by omega), cut_is text (by omega) h3 h4, ← List.append_assoc, ← List.append_assoc]
    have e1 : a.toNat = x.tok.f.toNat := by omega
    rw [e1, take_cut text (by omega), take_cut text (by omega)]
    exact bytes_of (by omega) (fun y hy => hl y (List.mem_cons_of_mem _ hy)) h.2
theorem Fit.bytes (hr : rightB L = true) (hf : Fit L text cl mode p at_ tr st) : bytesU ⟨text.toArray⟩ (st.l.map (·.tok)) = text.take at_.at_.toNat := by
  have := bytes_of (text := text) (Int.le_refl 0) (fun x hx => ⟨(hf.lies hr x hx).1, (hf.lies hr x hx).2.2.1, (hf.lies hr x hx).2.2.2.1, (hf.lies hr x hx).2.2.2.2.1⟩) hf.join
  simpa using this
theorem Fit.tail (hf : Fit L text cl mode p at_ tr st) : tr.length ≤ st.l.length ∧ (st.l.drop (st.l.length - tr.length)).map (·.at_) = tr := by
  obtain ⟨pre, hpre⟩ := hf.suf
  have hlen : st.l.length = pre.length + tr.length := by rw [← List.length_map (f := (·.at_)), hpre, List.length_append]
  refine ⟨by omega, ?_⟩
  rw [List.map_drop, hpre, show st.l.length - tr.length = pre.length by omega, List.drop_left]
theorem len_of {a b : Int} : ∀ {l : List E}, (∀ x ∈ l, x.at_.at_ < x.tok.t) → ∀ {a : Int}, Jn a l b → a + l.length ≤ b
  | [], _, a, h => by have h' : a = b := h; simp; omega
  | x :: l, hl, a, h => by
    have h1 := hl x List.mem_cons_self
    have h2 := len_of (a := a) (fun y hy => hl y (List.mem_cons_of_mem _ hy)) h.2
    have h3 := h.1
    rw [List.length_cons]; omega
theorem Fit.len (hr : rightB L = true) (hf : Fit L text cl mode p at_ tr st) : (st.l.length : Int) ≤ at_.at_ := by
  have := len_of (a := 0) (fun x hx => (hf.lies hr x hx).2.2.2.2.2) hf.join
  omega
theorem all_of {L : Lx} {text : List UInt8} {q : Spot} : ∀ {l : List E} {p : Spot} {n : Nat}, (∀ x ∈ l, nextM L text true x.at_ = some x.tok ∧ x.tok.k ≠ 3) → Ch p l q → l.length ≤ n → allM L text n p = l.map (·.tok) ++ allM L text (n - l.length) q
  | [], p, n, _, h, _ => by have h' : p = q := h; subst h'; simp
  | x :: l, p, n, hl, h, hn => by
    obtain ⟨h1, h2⟩ := hl x List.mem_cons_self
    obtain ⟨m, rfl⟩ : ∃ m, n = m + 1 := ⟨n - 1, by rw [List.length_cons] at hn; omega⟩
    rw [h.1] at h1
    rw [allM, h1]
    simp only
    rw [if_neg h2, all_of (fun y hy => hl y (List.mem_cons_of_mem _ hy)) h.2 (by rw [List.length_cons] at hn; omega), List.map_cons, List.cons_append]
    rw [List.length_cons, show m + 1 - (l.length + 1) = m - l.length by omega]
theorem Fit.first (hr : rightB L = true) (hf : Fit L text cl mode true at_ tr st) : st.l.length < (allM L text (text.length + 1) ⟨0, mode⟩).length ∧ st.l.map (·.tok) = (allM L text (text.length + 1) ⟨0, mode⟩).take st.l.length := by
  have hlen := hf.len hr
  have hpin := hf.pin.2.1
  have hall := all_of (L := L) (text := text) (n := text.length + 1) (fun x hx => by
    obtain ⟨h1, h2, h3⟩ := hf.tok x hx
    have := next_more hr (u := []) (c' := true) (fun _ => ⟨rfl, rfl⟩) h3 h1
    rw [List.append_nil] at this
    exact ⟨this, h2⟩) (hf.chain rfl) (by omega)
  obtain ⟨t, ht⟩ := next_closed hr hf.pin
  obtain ⟨m, hm⟩ : ∃ m, text.length + 1 - st.l.length = m + 1 := ⟨text.length - st.l.length, by omega⟩
  have h1 : 0 < (allM L text (text.length + 1 - st.l.length) at_).length := by
    rw [hm, allM, ht]; simp
  rw [hall]
  have hml : (st.l.map (·.tok)).length = st.l.length := List.length_map _
  refine ⟨by rw [List.length_append, hml]; omega, ?_⟩
  rw [← hml, List.take_left]
end
end Go.Proofs.YtoambcpjdcehhaaGreat.Id

/- Whether two rows of tokens are the same. -/
set_option linter.unusedVariables false
set_option linter.unusedSimpArgs false
namespace Go.Proofs.YtoambcpjdcehhaaGreat.Fn
open Go Go.RowKit Go.Proofs.YtoambcpjdcehhaaGreat.Can Go.Proofs.YtoambcpjdcehhaaGreat.Base
attribute [local go_sem] clsB AB.cell
attribute [local go_sem high] eq29_same

set_option maxHeartbeats 1000000 in
theorem same33 (A1 A2 : Option Addr) (n c1 c2 : Nat) (l : List Tok) (S1 S2 : Nat → Prop) (w : World) (hS1 : ∀ k, S1 k → k < w.heap.size) (hS2 : ∀ k, S2 k → k < w.heap.size) (h1 : Row tokT w S1 A1 n l) (h2 : Row tokT w S2 A2 n l) :
    Calls Tryz.prog 33 #[.slice A1 n c1, .slice A2 n c2] w fun e w' => e = .returned (.bool true) ∧ Below w.heap.size w w' := by
  have hm1 := h1.le
  have H1 := Hd.mk h1; have H2 := Hd.mk h2; have HS1 := Hd.mk hS1; have HS2 := Hd.mk hS2
  clear h1 h2 hS1 hS2
  go_enter Tryz.func33, Tryz.ntmps33
  go_wp2
  go_loopw [5] (fun i wr => ∃ k : Nat, k ≤ n ∧ i = .int .i64 k ∧ Hd (Below w.heap.size w wr)) (fun i _ => n - (intOf i).toNat)
  case atStart => exact ⟨0, Nat.zero_le _, rfl, ⟨Below.refl _ _⟩⟩
  case round =>
    obtain ⟨k, hk, rfl, hb⟩ := hrel
    by_cases hlt : k < n
    · obtain ⟨b1, o1, t, rfl, hb1, hx1, p0, p1, p2, p3, p4, p5⟩ := tok_get (H1.out.below HS1.out hb.out) k hlt
      obtain ⟨b2, o2, t', rfl, hb2, hx2, q0, q1, q2, q3, q4, q5⟩ := tok_get (H2.out.below HS2.out hb.out) k hlt
      obtain rfl : t = t' := Option.some.inj (hx1.symm.trans hx2)
      clear hx1 hx2
      go_wp2
      refine wp_region_can (.q [0, 1, 2, 3, 4, 5, 6, 7, 8] (.done)) (clsB _) (by kernel_rfl) (by kernel_rfl) (by intro _ _ d _ _ h; cases d <;> exact h) (clsB_drew _) ?_
      refine can_q (l := [⟨_,_,_,_,_,_⟩, ⟨_,_,_,_,_,_⟩, ⟨_,_,_,_,_,_⟩, ⟨_,_,_,_,_,_⟩, ⟨_,_,_,_,_,_⟩, ⟨_,_,_,_,_,_⟩, ⟨_,_,_,_,_,_⟩, ⟨_,_,_,_,_,_⟩, ⟨_,_,_,_,_,_⟩]) rfl ?_
      repeat (go_big_quiet_step (fail))
      refine wpQuiet_nil ?_
      refine can_done ?_
      go_wp2
      go_roundw
      case rel => exact ⟨k + 1, by omega, by go_num, ⟨by have := hb.out; exact (by repeat (first | (with_reducible assumption) | (with_reducible exact Below.refl _ _) | (with_reducible apply below_drewL) | (with_reducible apply below_alloc) | (with_reducible apply below_drew1) | (with_reducible apply below_drewN) | (refine below_set ?_ (by first | omega | (simp only [size_alloc, size_drew, size_set]; omega)) _ _)))⟩⟩
      case measure => simp [intOf]; omega
    · go_wp2
      go_ret
      exact ⟨rfl, hb.out⟩
theorem of_calls2 (mode : Int) (A : Option Addr) (c : Nat) (xs : List Ev) (S : Nat → Prop) (w : World) (hS : ∀ k, S k → k < w.heap.size) (hC : Row evT w S A xs.length xs) (hw : EvWf xs) (hl : xs.length ≤ 1000000) :
    Calls Tryz.prog 14 #[.int .i64 mode, .slice A xs.length c] w fun e w' => ∃ A' n' c', e = .returned (.slice A' n' c') ∧ n' ≤ c' ∧ Row eT w' (fun k => w.heap.size ≤ k ∧ k < w'.heap.size) A' n' (runM mode xs).s.l ∧ Below w.heap.size w w' := by
  obtain ⟨n, hn⟩ : ∃ n, xs.length = n := ⟨_, rfl⟩
  have HS := Hd.mk hS; have HC := Hd.mk hC; have HW := Hd.mk hw; have HL := Hd.mk hl
  obtain ⟨M, hM⟩ : ∃ M, (runM mode xs).s = M := ⟨_, rfl⟩
  have HLen : Hd (M.l.length ≤ 1000000) := ⟨by rw [← hM]; exact Nat.le_trans (runM_len mode xs) hl⟩
  have HN := Hd.mk hn
  have HM := Hd.mk hM
  rw [hM]
  rw [hn]
  clear hn hS hC hw hl hM
  have hfd : ∀ (x y : Int) (A : Option Addr) (n c : Nat) (w : World), (Instr.field 100 (.agg #[.int .i64 x, .int .i64 y, .slice A n c]) 1).run Tryz.prog w = .ok (.slice A n c) w := fun _ _ _ _ _ _ => by kernel_rfl
  go_enter Tryz.func14, Tryz.ntmps14
  go_wp2_with (first
    | (go_at_call 39; go_must (have h9 := over_calls mode A c xs S (w.alloc (.cells #[] 59)) (fun k hk => by rw [size_alloc]; have := HS.out k hk; omega) (HC.out.below HS.out (by repeat (first | (with_reducible assumption) | (with_reducible exact Below.refl _ _) | (with_reducible apply below_drewL) | (with_reducible apply below_alloc) | (with_reducible apply below_drew1) | (with_reducible apply below_drewN) | (refine below_set ?_ (by first | omega | (simp only [size_alloc, size_drew, size_set]; omega)) _ _)))) HW.out HL.out; rw [HN.out, HM.out] at h9; refine Calls.mono h9 ?_; clear h9; rintro e w1 ⟨A1, n1, c1, rfl, hn1, hA1, hr1, hb1⟩; have HA1 := Hd.mk hA1; have HR1 := Hd.mk hr1; have HB1 := Hd.mk hb1; have HE1 := Hd.mk (blk_below (blk_new w (.cells #[] 59) _ rfl) hb1); have hle1 := hr1.le; clear hA1 hr1 hb1))
    | (at_builtin; go_must (refine append_row eT e_flat rfl (.tmp 5) (.tmp 9) 54 59 _ 64 rfl Tryz.underlying54 info31 rfl (by decide) (by decide) w.heap.size (.slice (some ⟨w.heap.size, 0, none⟩) 0 0) [] M.l A1 n1 c1 rfl rfl HA1.out ((Mine.empty eT w rfl (Nat.le_refl _)).below HB1.out) HR1.out (fun k hk => ⟨hk.2, ownBlock_gt (by have := hk.1; rw [size_alloc] at this; omega)⟩) (by have := HB1.out.size; rw [size_alloc] at this; omega) (by have := HR1.out.1; have := HLen.out; simp only [List.length_nil]; omega) ?_; intro v2 w2 hM2 hb2 hk2 hat2; rw [List.nil_append] at hM2; obtain ⟨A2, n2, c2, rfl, hn2, hc2, hA2, hr2⟩ := hM2.formN; have HR2 := Hd.mk hr2; have HB2 : Hd (Below w.heap.size w w2) := ⟨Below.trans (below_seq (below_alloc (Below.refl _ _) _) HB1.out) hb2⟩; have HC2 := Hd.mk hc2; clear hr2 hA2 hc2 hn2 hk2 hat2 hb2 hM2)))
  go_ret
  exact ⟨A2, n2, c2, rfl, HC2.out, HR2.out, HB2.out⟩
end Go.Proofs.YtoambcpjdcehhaaGreat.Fn
