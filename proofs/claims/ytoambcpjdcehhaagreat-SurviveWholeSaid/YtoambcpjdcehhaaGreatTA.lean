/- Texts: T1, T2, T3, T4. -/
import Derived.Test.YtoambcpjdcehhaaGreatDB
import Derived.Test.YtoambcpjdcehhaaGreatStr
/- A lexer's bytes: the plain law. -/
set_option linter.unusedVariables false
set_option linter.unusedSimpArgs false
namespace Go.Proofs.YtoambcpjdcehhaaGreat.Tb
open Go Go.RowKit Go.Proofs.YtoambcpjdcehhaaGreat.Base

/-! ### Bytes that are written -/
def by8 (n : Int) : UInt8 := UInt8.ofNat (n % 256).toNat
def w1 (n : Int) : List UInt8 := [by8 n]
def w2 (n : Int) : List UInt8 := [by8 (n / 256), by8 n]
def wtext (s : ByteArray) : List UInt8 := w1 s.size ++ bl s
/-- Classes, behind so many that are the first one's. -/
def wcl : Nat → List Int → List UInt8
  | _, [] => []
  | k, [x] => w1 k ++ w1 x
  | k, x :: y :: l => if y = x then wcl (k + 1) (y :: l) else w1 k ++ w1 x ++ wcl 0 (y :: l)
def wrow (r : List Int) : List UInt8 := r.flatMap fun x => w2 (x + 1)
def wstate (p : Int × List Int) : List UInt8 := w1 (p.1 + 1) ++ wrow p.2
def wdfa (d : Df.Df) : List UInt8 := wcl 0 d.cls ++ w2 d.nxt.length ++ w2 (d.st + 1) ++ (d.tag.zip d.nxt).flatMap wstate
structure Lx where
  modes : List ByteArray
  dfas : List Df.Df
  acts : List (ByteArray × Int)
def wact (a : ByteArray × Int) : List UInt8 := wtext a.1 ++ w1 (a.2 + 1)
def putL (l : Lx) : List UInt8 := w1 83 ++ w1 80 ++ w1 1 ++ w1 l.modes.length ++ l.modes.flatMap wtext ++ w1 l.acts.length ++ l.acts.flatMap wact ++ l.dfas.flatMap wdfa
/-! ### Which may be -/
def letB (c : UInt8) : Bool := (97 ≤ c.toNat && c.toNat ≤ 122) || (65 ≤ c.toNat && c.toNat ≤ 90) || c.toNat == 95
def partB (c : UInt8) : Bool := letB c || (48 ≤ c.toNat && c.toNat ≤ 57)
def nameB (s : ByteArray) : Bool := match bl s with
  | [] => false
  | c :: l => decide (s.size ≤ 32) && letB c && l.all partB
def modesB (l : List ByteArray) : Bool := l.all nameB && decide l.Nodup
def actB (n : Nat) (a : ByteArray × Int) : Bool := (decide (a.1.size = 0) || nameB a.1) && decide (-1 ≤ a.2) && decide (a.2 < n)
def dfaB (n : Nat) (d : Df.Df) : Bool := decide (Df.okD d) && decide (Df.tagD d d.st < 0) && d.tag.all fun t => decide (t < n)
def rightB (l : Lx) : Bool := decide (1 ≤ l.modes.length) && decide (l.modes.length ≤ 16) && modesB l.modes && decide (l.acts.length ≤ 128) && decide (l.dfas.length = l.modes.length) && l.acts.all (actB l.modes.length) && l.dfas.all (dfaB l.acts.length)
/-! ### Bytes that are read -/
/-- The bytes that are left, and whether they were too few. -/
abbrev Rd := List UInt8 × Bool
def takeF (n : Nat) (r : Rd) : List UInt8 × Rd := if r.1.length < n then (List.replicate (min n 256) 0, ([], true)) else (r.1.take n, (r.1.drop n, r.2))
def oneF (r : Rd) : Nat × Rd := (((takeF 1 r).1.headD 0).toNat, (takeF 1 r).2)
def twoF (r : Rd) : Nat × Rd := (((takeF 2 r).1.getD 0 0).toNat * 256 + ((takeF 2 r).1.getD 1 0).toNat, (takeF 2 r).2)
def textF (r : Rd) : ByteArray × Rd := (⟨(takeF (oneF r).1 (oneF r).2).1.toArray⟩, (takeF (oneF r).1 (oneF r).2).2)
def actF (r : Rd) : (ByteArray × Int) × Rd := (((textF r).1, ((oneF (textF r).2).1 : Int) - 1), (oneF (textF r).2).2)
def manyF {α : Type} (f : Rd → α × Rd) : Nat → Rd → List α × Rd
  | 0, r => ([], r)
  | n + 1, r => if r.2 then ([], r) else ((f r).1 :: (manyF f n (f r).2).1, (manyF f n (f r).2).2)
def lessF (r : Rd) : Int × Rd := (((twoF r).1 : Int) - 1, (twoF r).2)
/-- Classes: so many more may still be read. -/
def clsF (c : List Int) (w : Int) (r : Rd) : List Int × Int × Rd :=
  if c.length < 256 ∧ r.2 = false then
    clsF (c ++ List.replicate ((oneF r).1 + 1) ((oneF (oneF r).2).1 : Int)) (max w ((oneF (oneF r).2).1 + 1)) (oneF (oneF r).2).2
  else (c, w, r)
termination_by 256 - c.length
decreasing_by simp only [List.length_append, List.length_replicate]; omega
def stateF (wid : Nat) (r : Rd) : (Int × List Int) × Rd := ((((oneF r).1 : Int) - 1, (manyF lessF wid (oneF r).2).1), (manyF lessF wid (oneF r).2).2)
def dfaF (r : Rd) : Df.Df × Rd :=
  let c := clsF [] 0 r
  let n := twoF c.2.2
  let s := twoF n.2
  let m := manyF (stateF c.2.1.toNat) n.1 s.2
  (⟨c.1, c.2.1, m.1.map Prod.snd, m.1.map Prod.fst, (s.1 : Int) - 1⟩, m.2)
def readF (b : List UInt8) : Lx × Rd :=
  let r0 := (takeF 3 (b, false)).2
  let n := oneF r0
  let ms := manyF textF n.1 n.2
  let k := oneF ms.2
  let ac := manyF actF k.1 k.2
  let ds := manyF dfaF ms.1.length ac.2
  (⟨ms.1, ds.1, ac.1⟩, ds.2)
def getF (b : List UInt8) : Option Lx := if (readF b).2.2 = true then none else if rightB (readF b).1 = true ∧ putL (readF b).1 = b then some (readF b).1 else none
/-! ### What is read is what was written -/
theorem by8_nat {n : Int} (h0 : 0 ≤ n) (h1 : n < 256) : (by8 n).toNat = n.toNat := by
  unfold by8
  rw [UInt8.toNat_ofNat']
  omega
theorem take_some {n : Nat} {a b : List UInt8} {s : Bool} (h : a.length = n) : takeF n (a ++ b, s) = (a, (b, s)) := by
  unfold takeF
  rw [if_neg (by simp; omega)]
  simp [← h]
theorem one_w1 {n : Int} (h0 : 0 ≤ n) (h1 : n < 256) (b : List UInt8) (s : Bool) : oneF (w1 n ++ b, s) = (n.toNat, (b, s)) := by
  unfold oneF
  rw [take_some (n := 1) (a := w1 n) rfl]
  show ((by8 n).toNat, _) = _
  rw [by8_nat h0 h1]
theorem two_w2 {n : Int} (h0 : 0 ≤ n) (h1 : n < 65536) (b : List UInt8) (s : Bool) : twoF (w2 n ++ b, s) = (n.toNat, (b, s)) := by
  unfold twoF
  rw [take_some (n := 2) (a := w2 n) rfl]
  show ((by8 (n / 256)).toNat * 256 + (by8 n).toNat, _) = _
  have e : (by8 n).toNat = (n % 256).toNat := by unfold by8; rw [UInt8.toNat_ofNat']; omega
  rw [by8_nat (by omega) (by omega), e]
  congr 1
  omega
theorem text_w {s : ByteArray} (h : s.size < 256) (b : List UInt8) (t : Bool) : textF (wtext s ++ b, t) = (s, (b, t)) := by
  unfold textF wtext
  rw [List.append_assoc, one_w1 (by omega) (by omega)]
  dsimp only
  rw [take_some (by rw [bl_len]; omega)]
  rfl
theorem many_w {α : Type} {f : Rd → α × Rd} {e : α → List UInt8} : ∀ (l : List α) (b : List UInt8), (∀ x ∈ l, ∀ b, f (e x ++ b, false) = (x, (b, false))) → manyF f l.length (l.flatMap e ++ b, false) = (l, (b, false))
  | [], b, _ => rfl
  | x :: l, b, h => by
    rw [List.flatMap_cons, List.append_assoc]
    show (if false = true then _ else _) = _
    rw [if_neg (by decide), h x (List.mem_cons_self ..), many_w l b fun y hy => h y (List.mem_cons_of_mem _ hy)]
theorem act_w {n : Nat} {a : ByteArray × Int} (hs : a.1.size < 256) (h0 : -1 ≤ a.2) (h1 : a.2 < 255) (b : List UInt8) : actF (wact a ++ b, false) = (a, (b, false)) := by
  unfold actF wact
  rw [List.append_assoc, text_w hs]
  dsimp only
  rw [one_w1 (by omega) (by omega)]
  dsimp only
  rw [show ((a.2 + 1).toNat : Int) - 1 = a.2 by omega]
theorem less_w {x : Int} (h0 : -1 ≤ x) (h1 : x < 65535) (b : List UInt8) : lessF (w2 (x + 1) ++ b, false) = (x, (b, false)) := by
  unfold lessF
  rw [two_w2 (by omega) (by omega)]
  dsimp only
  rw [show ((x + 1).toNat : Int) - 1 = x by omega]
theorem state_w {wid : Nat} {p : Int × List Int} (hl : p.2.length = wid) (hp : ∀ x ∈ p.2, -1 ≤ x ∧ x < 65535) (h0 : -1 ≤ p.1) (h1 : p.1 < 255) (b : List UInt8) : stateF wid (wstate p ++ b, false) = (p, (b, false)) := by
  unfold stateF wstate wrow
  rw [List.append_assoc, one_w1 (by omega) (by omega)]
  dsimp only
  subst hl
  rw [many_w p.2 b fun x hx b => less_w (hp x hx).1 (hp x hx).2 b]
  dsimp only
  rw [show ((p.1 + 1).toNat : Int) - 1 = p.1 by omega]
/-- The classes: of what is left, behind some that were read. -/
theorem cls_w : ∀ (l : List Int) (k : Nat) (c : List Int) (w : Int) (b : List UInt8), l ≠ [] → (∀ x ∈ l, 0 ≤ x ∧ x < 256) → c.length + k + l.length = 256 →
    clsF c w (wcl k l ++ b, false) = clsF (c ++ List.replicate k (l.headD 0) ++ l) (l.foldl (fun a x => max a (x + 1)) w) (b, false)
  | [], _, _, _, _, h, _, _ => absurd rfl h
  | [x], k, c, w, b, _, hx, hl => by
    have h9 := hx x (List.mem_singleton.2 rfl)
    rw [clsF, if_pos ⟨by simp at hl; omega, rfl⟩]
    show clsF (c ++ List.replicate ((oneF (w1 k ++ w1 x ++ b, false)).1 + 1) ((oneF (oneF (w1 k ++ w1 x ++ b, false)).2).1 : Int)) (max w ((oneF (oneF (w1 k ++ w1 x ++ b, false)).2).1 + 1)) (oneF (oneF (w1 k ++ w1 x ++ b, false)).2).2 = _
    rw [List.append_assoc, one_w1 (by omega) (by simp at hl; omega)]
    dsimp only
    rw [one_w1 h9.1 h9.2]
    dsimp only
    rw [show ((k : Int)).toNat = k by omega, show ((x.toNat : Nat) : Int) = x by omega]
    simp [List.replicate_succ', List.append_assoc]
  | x :: y :: l, k, c, w, b, _, hx, hl => by
    have h9 := hx x (List.mem_cons_self ..)
    unfold wcl
    by_cases hy : y = x
    · rw [if_pos hy]
      subst hy
      rw [cls_w (y :: l) (k + 1) c w b (by simp) (fun z hz => hx z (List.mem_cons_of_mem _ hz)) (by simp at hl ⊢; omega)]
      have e1 : c ++ List.replicate (k + 1) ((y :: l).headD 0) ++ y :: l = c ++ List.replicate k ((y :: y :: l).headD 0) ++ y :: y :: l := by
        simp [List.replicate_succ', List.append_assoc]
      have e2 : List.foldl (fun a x => max a (x + 1)) w (y :: y :: l) = List.foldl (fun a x => max a (x + 1)) w (y :: l) := by
        simp only [List.foldl_cons]
        congr 1
        omega
      rw [e1, e2]
    · rw [if_neg hy, clsF, if_pos ⟨by simp at hl; omega, rfl⟩]
      rw [List.append_assoc, List.append_assoc, one_w1 (by omega) (by simp at hl; omega)]
      dsimp only
      rw [one_w1 h9.1 h9.2]
      dsimp only
      rw [show ((k : Int)).toNat = k by omega, show ((x.toNat : Nat) : Int) = x by omega]
      rw [cls_w (y :: l) 0 _ _ b (by simp) (fun z hz => hx z (List.mem_cons_of_mem _ hz)) (by simp at hl ⊢; omega)]
      simp [List.replicate_succ', List.append_assoc]
theorem fold_max : ∀ (l : List Int) (w : Int), w ≤ l.foldl (fun a x => max a (x + 1)) w ∧ (∀ x ∈ l, x + 1 ≤ l.foldl (fun a x => max a (x + 1)) w) ∧ (l.foldl (fun a x => max a (x + 1)) w = w ∨ ∃ x ∈ l, l.foldl (fun a x => max a (x + 1)) w = x + 1)
  | [], w => ⟨Int.le_refl _, fun x hx => by simp at hx, .inl rfl⟩
  | y :: l, w => by
    obtain ⟨h1, h2, h3⟩ := fold_max l (max w (y + 1))
    simp only [List.foldl_cons]
    refine ⟨by omega, fun x hx => ?_, ?_⟩
    · rcases List.mem_cons.1 hx with rfl | hx
      · omega
      · exact h2 x hx
    · rcases h3 with h3 | ⟨x, hx, h3⟩
      · rcases Int.le_total w (y + 1) with h | h
        · exact .inr ⟨y, List.mem_cons_self .., by omega⟩
        · exact .inl (by omega)
      · exact .inr ⟨x, List.mem_cons_of_mem _ hx, h3⟩
theorem cls_facts {d : Df.Df} (h : Df.okD d) : d.cls ≠ [] ∧ d.cls.length = 256 ∧ (∀ x ∈ d.cls, 0 ≤ x ∧ x < 256) ∧ d.cls.foldl (fun a x => max a (x + 1)) 0 = d.wid ∧ 0 ≤ d.wid := by
  have hr := h.1.2.2.2.2.1
  obtain ⟨h1, h2, h3, h4⟩ := Df.max_first hr
  have hne : d.cls ≠ [] := fun h0 => by rw [h0] at h2; cases h2
  obtain ⟨h5, h6⟩ := Df.maxOf_is hne
  have h0 : ∀ x ∈ d.cls, 0 ≤ x := fun x hx => by
    unfold Al.rightB at hr
    rw [decide_eq_true_eq] at hr
    rw [hr] at hx
    unfold Al.clsL at hx
    obtain ⟨j, _, rfl⟩ := List.mem_map.1 hx
    omega
  have hw := h.1.2.2.2.2.2
  obtain ⟨f1, f2, f3⟩ := fold_max d.cls 0
  have e : d.cls.foldl (fun a x => max a (x + 1)) 0 = Df.maxOf d.cls + 1 := by
    have := f2 _ h5
    rcases f3 with f3 | ⟨x, hx, f3⟩
    · have := h0 _ h5; omega
    · have := h6 x hx; omega
  exact ⟨hne, h2, fun x hx => ⟨h0 x hx, by have := h6 x hx; omega⟩, by rw [e, h1, hw], by omega⟩
theorem dfa_w {n : Nat} {d : Df.Df} (h : dfaB n d = true) (hn : n ≤ 128) (b : List UInt8) : dfaF (wdfa d ++ b, false) = (d, (b, false)) := by
  unfold dfaB at h
  simp only [Bool.and_eq_true, decide_eq_true_eq, List.all_eq_true] at h
  obtain ⟨⟨hok, _⟩, htg⟩ := h
  obtain ⟨hne, hl, hc, hw, hw0⟩ := cls_facts hok
  obtain ⟨⟨a1, a2, a3, a4, a5, a6⟩, a7, a8⟩ := hok
  have e1 : clsF [] 0 (wdfa d ++ b, false) = (d.cls, d.wid, (w2 d.nxt.length ++ (w2 (d.st + 1) ++ ((d.tag.zip d.nxt).flatMap wstate ++ b)), false)) := by
    unfold wdfa
    simp only [List.append_assoc]
    rw [cls_w d.cls 0 [] 0 _ hne hc (by simp [hl])]
    rw [hw, clsF, if_neg (by simp [hl])]
    simp
  unfold dfaF
  rw [e1]
  dsimp only
  rw [two_w2 (by omega) (by omega)]
  dsimp only
  rw [two_w2 (by omega) (by omega)]
  dsimp only
  have hz : (d.tag.zip d.nxt).length = d.nxt.length := by rw [List.length_zip, a2]; omega
  rw [show ((d.nxt.length : Nat) : Int).toNat = (d.tag.zip d.nxt).length by rw [hz]; omega]
  rw [many_w (d.tag.zip d.nxt) b fun p hp b => by
    have hp1 := List.of_mem_zip hp
    obtain ⟨r1, r2⟩ := a7 p.2 hp1.2
    exact state_w (by omega) (fun x hx => by have := r2 x hx; omega) (a8 p.1 hp1.1) (by have := htg p.1 hp1.1; omega) b]
  dsimp only
  rw [List.map_snd_zip (by omega), List.map_fst_zip (by omega), show ((d.st + 1).toNat : Int) - 1 = d.st by omega]
theorem name_size {s : ByteArray} (h : nameB s = true) : s.size ≤ 32 := by
  unfold nameB at h
  split at h
  · cases h
  · simp only [Bool.and_eq_true, decide_eq_true_eq] at h
    exact h.1.1
/-- What was written is read. -/
theorem read_put {l : Lx} (h : rightB l = true) : readF (putL l) = (l, ([], false)) := by
  unfold rightB at h
  simp only [Bool.and_eq_true, decide_eq_true_eq, List.all_eq_true] at h
  obtain ⟨⟨⟨⟨⟨⟨h1, h2⟩, h3⟩, h4⟩, h5⟩, h6⟩, h7⟩ := h
  unfold modesB at h3
  simp only [Bool.and_eq_true, decide_eq_true_eq, List.all_eq_true] at h3
  have e0 : (takeF 3 (putL l, false)).2 = (w1 l.modes.length ++ (l.modes.flatMap wtext ++ (w1 l.acts.length ++ (l.acts.flatMap wact ++ (l.dfas.flatMap wdfa ++ [])))), false) := by
    have : putL l = [by8 83, by8 80, by8 1] ++ (w1 l.modes.length ++ (l.modes.flatMap wtext ++ (w1 l.acts.length ++ (l.acts.flatMap wact ++ (l.dfas.flatMap wdfa ++ []))))) := by
      unfold putL w1
      simp only [List.append_assoc, List.append_nil]
      rfl
    rw [this, take_some (n := 3) rfl]
  unfold readF
  dsimp only
  rw [e0, one_w1 (by omega) (by omega)]
  dsimp only
  rw [Int.toNat_natCast, many_w l.modes _ fun s hs b => text_w (by have := name_size (h3.1 s hs); omega) b false]
  dsimp only
  rw [one_w1 (by omega) (by omega)]
  dsimp only
  rw [Int.toNat_natCast, many_w l.acts _ fun a ha b => by
    have h9 := h6 a ha
    unfold actB at h9
    simp only [Bool.and_eq_true, Bool.or_eq_true, decide_eq_true_eq] at h9
    obtain ⟨⟨h8, h10⟩, h11⟩ := h9
    exact act_w (n := 0) (by rcases h8 with h8 | h8; omega; have := name_size h8; omega) h10 (by omega) b]
  dsimp only
  rw [← h5, many_w l.dfas _ fun d hd b => dfa_w (h7 d hd) h4 b]
theorem get_put {l : Lx} (h : rightB l = true) : getF (putL l) = some l := by
  unfold getF
  rw [read_put h]
  dsimp only
  rw [if_neg (by decide), if_pos ⟨h, rfl⟩]
theorem get_some {b : List UInt8} {l : Lx} (h : getF b = some l) : rightB l = true ∧ putL l = b := by
  unfold getF at h
  split at h
  · cases h
  · split at h
    · rename_i h9
      cases h
      exact h9
    · cases h
end Go.Proofs.YtoambcpjdcehhaaGreat.Tb

/- A lexer's bytes: names, and which may be, as the code asks. -/
set_option linter.unusedVariables false
set_option linter.unusedSimpArgs false
namespace Go.Proofs.YtoambcpjdcehhaaGreat.Tb
open Go Go.RowKit Go.Proofs.YtoambcpjdcehhaaGreat.Base

instance : LawfulBEq ByteArray where
  eq_of_beq {a b} h := by
    obtain ⟨a⟩ := a; obtain ⟨b⟩ := b
    have h' : (a == b) = true := h
    rw [eq_of_beq h']
  rfl {a} := by
    obtain ⟨a⟩ := a
    show (a == a) = true
    exact beq_self_eq_true a
/-- So many bytes of a name a text begins with. -/
def leadN (s : ByteArray) : Nat := match bl s with
  | [] => 0
  | c :: l => if letB c then ((c :: l).takeWhile partB).length else 0
theorem takeWhile_all {α : Type} (p : α → Bool) : ∀ l : List α, (l.takeWhile p).length = l.length ↔ l.all p = true
  | [] => by simp
  | x :: l => by
    rw [List.takeWhile_cons]
    cases hx : p x with
    | false => simp [hx]
    | true =>
      simp only [if_true, List.length_cons, List.all_cons, hx, Bool.true_and]
      rw [← takeWhile_all p l]
      omega
theorem let_part {c : UInt8} (h : letB c = true) : partB c = true := by unfold partB; rw [h]; rfl
theorem lead_nil {s : ByteArray} (h : bl s = []) : leadN s = 0 := by unfold leadN; rw [h]
theorem lead_no {s : ByteArray} {c : UInt8} {l : List UInt8} (h : bl s = c :: l) (hc : ¬ letB c = true) : leadN s = 0 := by unfold leadN; rw [h]; exact if_neg hc
theorem lead_yes {s : ByteArray} {c : UInt8} {l : List UInt8} (h : bl s = c :: l) (hc : letB c = true) : leadN s = ((bl s).takeWhile partB).length := by unfold leadN; rw [h]; exact if_pos hc
theorem name_cons {s : ByteArray} {c : UInt8} {l : List UInt8} (h : bl s = c :: l) : nameB s = (decide (s.size ≤ 32) && letB c && l.all partB) := by unfold nameB; rw [h]
theorem name_is (s : ByteArray) : nameB s = (decide (s.size ≠ 0) && decide (s.size ≤ 32) && decide (leadN s = s.size)) := by
  have hs : s.size = (bl s).length := (bl_len s).symm
  cases hb : bl s with
  | nil =>
    have h1 : nameB s = false := by unfold nameB; rw [hb]
    rw [h1, lead_nil hb, hs, hb]; rfl
  | cons c l =>
    have h0 : s.size ≠ 0 := by rw [hs, hb]; simp
    rw [name_cons hb, decide_eq_true h0, Bool.true_and]
    cases h2 : decide (s.size ≤ 32) with
    | false => simp
    | true =>
      rw [Bool.true_and, Bool.true_and]
      by_cases hc : letB c = true
      · have h3 := takeWhile_all partB (c :: l)
        rw [List.all_cons, let_part hc, Bool.true_and] at h3
        rw [lead_yes hb hc, hs, hb, hc, Bool.true_and]
        cases hl : l.all partB with
        | true => exact (decide_eq_true (h3.2 hl)).symm
        | false => exact (decide_eq_false fun h => by rw [h3.1 h] at hl; cases hl).symm
      · rw [lead_no hb hc, Bool.eq_false_iff.2 hc, Bool.false_and]
        exact (decide_eq_false (Ne.symm h0)).symm
/-- A text's bytes, so many of which are so. -/
theorem span_more {p : UInt8 → Bool} {l : List UInt8} {k : Nat} {c : UInt8} (hk : k ≤ (l.takeWhile p).length) (hc : l[k]? = some c) : (p c = true → k + 1 ≤ (l.takeWhile p).length) ∧ (p c = false → (l.takeWhile p).length = k) := by
  induction l generalizing k with
  | nil => simp at hc
  | cons x l ih =>
    rw [List.takeWhile_cons] at hk ⊢
    cases k with
    | zero =>
      obtain rfl : x = c := by simpa using hc
      cases hx : p x <;> simp [hx]
    | succ k =>
      cases hx : p x with
      | false => rw [hx] at hk; simp at hk
      | true =>
        rw [hx] at hk
        simp only [if_true, List.length_cons] at hk ⊢
        have := ih (k := k) (by omega) (by simpa using hc)
        exact ⟨fun h => by have := this.1 h; omega, fun h => by have := this.2 h; omega⟩
theorem span_all {p : UInt8 → Bool} {l : List UInt8} {k : Nat} (hk : k ≤ (l.takeWhile p).length) (hl : l.length ≤ k) : (l.takeWhile p).length = k := by
  have := (List.takeWhile_sublist p (l := l)).length_le
  omega
/-! ### Names, all unlike -/
section
variable {α : Type} [BEq α] [LawfulBEq α]
theorem idx_get {l : List α} {x : α} (h : x ∈ l) : l[l.idxOf x]? = some x := by
  have hl := List.idxOf_lt_length_of_mem h
  rw [List.getElem?_eq_getElem hl, List.getElem_idxOf]
theorem idx_not {l : List α} {x y : α} {i : Nat} (h : i < l.idxOf x) (hy : l[i]? = some y) : y ≠ x := fun e => by
  obtain ⟨hl, rfl⟩ := List.getElem?_eq_some_iff.1 hy
  have := List.not_of_lt_findIdx (p := fun z => z == x) h
  rw [e] at this
  simp at this
theorem idx_le {l : List α} {i : Nat} {x : α} (h : l[i]? = some x) : l.idxOf x ≤ i := by
  rcases Nat.lt_or_ge i (l.idxOf x) with h1 | h1
  · exact absurd rfl (idx_not h1 h)
  · exact h1
theorem nodup_iff (l : List α) : l.Nodup ↔ ∀ (i : Nat) (x : α), l[i]? = some x → l.idxOf x = i := by
  unfold List.Nodup
  rw [List.pairwise_iff_getElem]
  constructor
  · intro h i x hx
    obtain ⟨hi, rfl⟩ := List.getElem?_eq_some_iff.1 hx
    have h1 := idx_le hx
    have h2 := idx_get (l := l) (x := l[i]) (List.getElem_mem _)
    rcases Nat.lt_or_ge (l.idxOf l[i]) i with h3 | h3
    · obtain ⟨h4, h5⟩ := List.getElem?_eq_some_iff.1 h2
      exact absurd h5 (h _ _ h4 hi h3)
    · omega
  · intro h i j hi hj hij e
    have h1 := h i _ (List.getElem?_eq_getElem hi)
    have h2 := h j _ (List.getElem?_eq_getElem hj)
    rw [e] at h1
    omega
/-- As a loop looks for it: not among the first ones. -/
theorem idx_at {l : List α} {i : Nat} {x : α} (h : x ∉ l.take i) (hx : l[i]? = some x) : l.idxOf x = i := by
  have h1 := idx_le hx
  rcases Nat.lt_or_ge (l.idxOf x) i with h2 | h2
  · exfalso
    apply h
    have h3 := idx_get (l := l) (x := x) (List.mem_of_getElem? hx)
    obtain ⟨h4, h5⟩ := List.getElem?_eq_some_iff.1 h3
    rw [← h5]
    exact List.mem_take_iff_getElem.2 ⟨l.idxOf x, by omega, rfl⟩
  · omega
end
/-- So many names may be. -/
def modesK (l : List ByteArray) (k : Nat) : Prop := ∀ (i : Nat) (x : ByteArray), i < k → l[i]? = some x → nameB x = true ∧ l.idxOf x = i
theorem modesK_zero (l : List ByteArray) : modesK l 0 := fun _ _ h => absurd h (Nat.not_lt_zero _)
theorem modesK_succ {l : List ByteArray} {k : Nat} {x : ByteArray} (h : modesK l k) (hx : l[k]? = some x) (h1 : nameB x = true) (h2 : l.idxOf x = k) : modesK l (k + 1) := fun i y hi hy => by
  rcases Nat.lt_or_ge i k with h3 | h3
  · exact h i y h3 hy
  · obtain rfl : i = k := by omega
    obtain rfl : x = y := Option.some.inj (hx.symm.trans hy)
    exact ⟨h1, h2⟩
theorem modes_iff (l : List ByteArray) : modesB l = true ↔ modesK l l.length := by
  unfold modesB
  rw [Bool.and_eq_true, decide_eq_true_eq, List.all_eq_true, nodup_iff]
  constructor
  · rintro ⟨h1, h2⟩ i x _ hx
    exact ⟨h1 x (List.mem_of_getElem? hx), h2 i x hx⟩
  · intro h
    refine ⟨fun x hx => ?_, fun i x hx => (h i x (List.getElem?_eq_some_iff.1 hx).1 hx).2⟩
    obtain ⟨i, hi⟩ := List.getElem?_of_mem hx
    exact (h i x (List.getElem?_eq_some_iff.1 hi).1 hi).1
theorem modes_no {l : List ByteArray} {k : Nat} {x : ByteArray} (hx : l[k]? = some x) (h : ¬ (nameB x = true ∧ l.idxOf x = k)) : modesB l = false := by
  rw [Bool.eq_false_iff]
  exact fun h1 => h ((modes_iff l).1 h1 k x (List.getElem?_eq_some_iff.1 hx).1 hx)
end Go.Proofs.YtoambcpjdcehhaaGreat.Tb

/- A lexer's bytes: as loops write and read them. -/
set_option linter.unusedVariables false
set_option linter.unusedSimpArgs false
namespace Go.Proofs.YtoambcpjdcehhaaGreat.Tb
open Go Go.RowKit Go.Proofs.YtoambcpjdcehhaaGreat.Base

theorem drop_cons {α : Type} {l : List α} {k : Nat} {x : α} (h : l[k]? = some x) : l.drop k = x :: l.drop (k + 1) := by
  obtain ⟨hk, rfl⟩ := List.getElem?_eq_some_iff.1 h
  exact List.drop_eq_getElem_cons hk
theorem wcl_same {l : List Int} {m : Nat} {x : Int} (k : Nat) (h : l[m]? = some x) (h2 : l[m + 1]? = some x) : wcl k (l.drop m) = wcl (k + 1) (l.drop (m + 1)) := by
  rw [drop_cons h, drop_cons h2]
  show (if x = x then _ else _) = _
  rw [if_pos rfl]
theorem wcl_turn {l : List Int} {m : Nat} {x y : Int} (k : Nat) (h : l[m]? = some x) (h2 : l[m + 1]? = some y) (hy : y ≠ x) : wcl k (l.drop m) = w1 k ++ w1 x ++ wcl 0 (l.drop (m + 1)) := by
  rw [drop_cons h, drop_cons h2]
  show (if y = x then _ else _) = _
  rw [if_neg hy]
theorem wcl_last {l : List Int} {m : Nat} {x : Int} (k : Nat) (h : l[m]? = some x) (hl : l.length = m + 1) : wcl k (l.drop m) = w1 k ++ w1 x ++ wcl 0 (l.drop (m + 1)) := by
  rw [drop_cons h, List.drop_eq_nil_of_le (by omega)]
  show w1 k ++ w1 x = _ ++ []
  rw [List.append_nil]
theorem wcl_end (l : List Int) : wcl 0 (l.drop l.length) = [] := by rw [List.drop_length]; rfl
theorem zip_get {α β : Type} {a : List α} {b : List β} {k : Nat} {x : α} {y : β} (hx : a[k]? = some x) (hy : b[k]? = some y) : (a.zip b)[k]? = some (x, y) := by
  rw [List.getElem?_zip_eq_some]
  exact ⟨hx, hy⟩
theorem flat_snoc {α : Type} {l : List α} {k : Nat} {x : α} (e : α → List UInt8) (h : l[k]? = some x) : (l.take (k + 1)).flatMap e = (l.take k).flatMap e ++ e x := by
  rw [Df.take_snoc h, List.flatMap_append]
  simp
/-- How long what is written is. -/
theorem wcl_len : ∀ (k : Nat) (l : List Int), (wcl k l).length ≤ 2 * l.length
  | _, [] => by simp [wcl]
  | k, [x] => by simp [wcl, w1]
  | k, x :: y :: l => by
    unfold wcl
    split
    · have := wcl_len (k + 1) (y :: l)
      simp only [List.length_cons] at this ⊢
      omega
    · have := wcl_len 0 (y :: l)
      simp only [List.length_cons, List.length_append, w1, List.length_nil] at this ⊢
      omega
theorem flat_le {α : Type} (e : α → List UInt8) (m : Nat) : ∀ l : List α, (∀ x ∈ l, (e x).length ≤ m) → (l.flatMap e).length ≤ l.length * m
  | [], _ => by simp
  | x :: l, h => by
    rw [List.flatMap_cons, List.length_append, List.length_cons, Nat.succ_mul]
    have h1 := h x (List.mem_cons_self ..)
    have h2 := flat_le e m l fun y hy => h y (List.mem_cons_of_mem _ hy)
    omega
/-- As loops read it: some are read, others are left. -/
theorem many_stop {α : Type} (f : Rd → α × Rd) (n : Nat) {r : Rd} (h : r.2 = true) : manyF f n r = ([], r) := by
  cases n with
  | zero => rfl
  | succ n => show (if r.2 = true then _ else _) = _; rw [if_pos h]
theorem many_go {α : Type} (f : Rd → α × Rd) (n : Nat) {r : Rd} (h : r.2 = false) : manyF f (n + 1) r = ((f r).1 :: (manyF f n (f r).2).1, (manyF f n (f r).2).2) := by
  show (if r.2 = true then _ else _) = _
  rw [if_neg (by rw [h]; decide)]
theorem many_len {α : Type} (f : Rd → α × Rd) : ∀ (n : Nat) (r : Rd), (manyF f n r).1.length ≤ n
  | 0, _ => Nat.le_refl _
  | n + 1, r => by
    cases h : r.2 with
    | true => rw [many_stop f _ h]; exact Nat.zero_le _
    | false =>
      rw [many_go f n h]
      have := many_len f n (f r).2
      simp only [List.length_cons]
      omega
theorem cls_stop {c : List Int} {w : Int} {r : Rd} (h : ¬ (c.length < 256 ∧ r.2 = false)) : clsF c w r = (c, w, r) := by rw [clsF, if_neg h]
theorem cls_go {c : List Int} {w : Int} {r : Rd} (h : c.length < 256 ∧ r.2 = false) : clsF c w r = clsF (c ++ List.replicate ((oneF r).1 + 1) ((oneF (oneF r).2).1 : Int)) (max w ((oneF (oneF r).2).1 + 1)) (oneF (oneF r).2).2 := by rw [clsF, if_pos h]
/-! ### What is left grows never -/
theorem take_le (n : Nat) (r : Rd) : (takeF n r).2.1.length ≤ r.1.length := by
  unfold takeF
  split
  · exact Nat.zero_le _
  · simp
theorem take_got (n : Nat) (r : Rd) (h : (takeF n r).2.2 = false) : (takeF n r).2.1.length + n = r.1.length ∧ r.2 = false := by
  unfold takeF at h ⊢
  split at h
  · cases h
  · rename_i hn
    rw [if_neg hn]
    refine ⟨?_, h⟩
    show (r.1.drop n).length + n = _
    rw [List.length_drop]
    omega
theorem take_short (n : Nat) (r : Rd) (h : r.2 = true) : (takeF n r).2.2 = true := by
  unfold takeF
  split
  · rfl
  · exact h
theorem one_lt (r : Rd) : (oneF r).1 < 256 := UInt8.toNat_lt _
theorem two_lt (r : Rd) : (twoF r).1 < 65536 := by
  have h1 := UInt8.toNat_lt ((takeF 2 r).1.getD 0 0)
  have h2 := UInt8.toNat_lt ((takeF 2 r).1.getD 1 0)
  show _ * 256 + _ < _
  omega
theorem take_len {n : Nat} (r : Rd) (hn : n ≤ 256) : (takeF n r).1.length = n := by
  unfold takeF
  split
  · rw [List.length_replicate]; omega
  · rw [List.length_take]; omega
end Go.Proofs.YtoambcpjdcehhaaGreat.Tb

/- A lexer in memory. -/
set_option linter.unusedVariables false
set_option linter.unusedSimpArgs false
namespace Go.Proofs.YtoambcpjdcehhaaGreat.Tb
open Go Go.RowKit Go.Proofs.YtoambcpjdcehhaaGreat.Base

abbrev I : Ty Int := Ty.int .i64
/-- An automaton's five cells. -/
def dT : Ty Df.Df := Ty.iso (Ty.pair (Ty.slice I (by decide)) (Ty.pair I (Ty.pair (Ty.slice Df.II (by decide)) (Ty.pair (Ty.slice I (by decide)) I)))) (fun d : Df.Df => (d.cls, d.wid, d.nxt, d.tag, d.st))
theorem d_get {w : World} {S : Nat → Prop} {A : Option Addr} {n : Nat} {l : List Df.Df} (hS : ∀ k, S k → k < w.heap.size) (h : Row dT w S A n l) (k : Nat) (hk : k < n) :
    ∃ b off d A1 A2 A3 c1 c2 c3, A = some ⟨b, off, none⟩ ∧ b < w.heap.size ∧ l[k]? = some d ∧ w.cell? ⟨b, off + k * 5, none⟩ = some (.slice A1 d.cls.length c1) ∧ w.cell? ⟨b, off + k * 5 + 1, none⟩ = some (.int .i64 d.wid) ∧ w.cell? ⟨b, off + k * 5 + 2, none⟩ = some (.slice A2 d.nxt.length c2) ∧ w.cell? ⟨b, off + k * 5 + 3, none⟩ = some (.slice A3 d.tag.length c3) ∧ w.cell? ⟨b, off + k * 5 + 4, none⟩ = some (.int .i64 d.st) ∧ Df.DF w S A1 A2 A3 d.cls.length d.nxt.length d.tag.length d := by
  obtain ⟨b, off, cs, he, hs, ⟨c0, r0, rfl, ⟨A1, c1, rfl, _, _, h0⟩, d1, r1, rfl, h1, c2, r2, rfl, ⟨A2, c2', rfl, _, _, h2⟩, c3, c4, rfl, ⟨A3, c3', rfl, _, _, h3⟩, h4⟩, hcell⟩ := h.get k hk
  have h1' : d1 = [.int .i64 _] := h1
  have h4' : c4 = [.int .i64 _] := h4
  subst h1' h4'
  have q0 := hcell 0 _ rfl
  exact ⟨b, off, _, A1, A2, A3, c1, c2', c3', he, World.block_lt_of_cell? w _ q0, List.getElem?_eq_getElem _, q0, hcell 1 _ rfl, hcell 2 _ rfl, hcell 3 _ rfl, hcell 4 _ rfl, h0, h2, h3, hS⟩
abbrev aT : Ty (ByteArray × Int) := Ty.pair Ty.str I
/-- A lexer in memory. -/
structure LX (w : World) (S : Nat → Prop) (A1 A2 A3 : Option Addr) (n1 n2 n3 : Nat) (l : Lx) : Prop where
  modes : Row Ty.str w S A1 n1 l.modes
  dfas : Row dT w S A2 n2 l.dfas
  acts : Row aT w S A3 n3 l.acts
  lt : ∀ k, S k → k < w.heap.size
  szm : ∀ s ∈ l.modes, s.size ≤ 9223372036854775807
  sza : ∀ x ∈ l.acts, x.1.size ≤ 9223372036854775807
theorem LX.below {w w' : World} {S : Nat → Prop} {A1 A2 A3 : Option Addr} {n1 n2 n3 : Nat} {l : Lx} (h : LX w S A1 A2 A3 n1 n2 n3 l) (hb : Below w.heap.size w w') : LX w' S A1 A2 A3 n1 n2 n3 l :=
  ⟨h.modes.below h.lt hb, h.dfas.below h.lt hb, h.acts.below h.lt hb, fun k hk => Nat.lt_of_lt_of_le (h.lt k hk) hb.size, h.szm, h.sza⟩
end Go.Proofs.YtoambcpjdcehhaaGreat.Tb
