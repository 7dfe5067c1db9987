/- Plans and operations, handed in. -/
import Derived.Test.YtoambcpjdcehhaaGreatRows
import Derived.Test.YtoambcpjdcehhaaGreatJB
import Derived.Test.YtoambcpjdcehhaaGreatOpens
import Derived.ProofKit
import Derived.OpenShut
set_option linter.unusedVariables false
set_option linter.unusedSimpArgs false
namespace Go.Proofs.YtoambcpjdcehhaaGreat.Tb
open Go Go.RowKit Go.ChangeShapes Go.WideShapes Go.ChangeAt Go.Proofs.YtoambcpjdcehhaaGreat.Can Go.Proofs.YtoambcpjdcehhaaGreat.Base

theorem opens_struct5 {α β γ δ ε : Type} {P : Program} {t : TypeId} {a : Ty α} {b : Ty β} {c : Ty γ} {d : Ty δ} {e : Ty ε} {f0 f1 f2 f3 f4 : Field} {wa : α → Prop} {wb : β → Prop} {wc : γ → Prop} {wd : δ → Prop} {we : ε → Prop} (ht : P.underlying t = some (.struct #[f0, f1, f2, f3, f4]))
    (h0 : Opens P f0.type a wa) (h1 : Opens P f1.type b wb) (h2 : Opens P f2.type c wc) (h3 : Opens P f3.type d wd) (h4 : Opens P f4.type e we)
    (o0 : f0.offset = 0) (o1 : f1.offset = a.sz) (o2 : f2.offset = a.sz + b.sz) (o3 : f3.offset = a.sz + b.sz + c.sz) (o4 : f4.offset = a.sz + b.sz + c.sz + d.sz)
    (c0 : P.cellsOf f0.type = a.sz) (c1 : P.cellsOf f1.type = b.sz) (c2 : P.cellsOf f2.type = c.sz) (c3 : P.cellsOf f3.type = d.sz) (c4 : P.cellsOf f4.type = e.sz) (hs : P.cellsOf t = a.sz + b.sz + c.sz + d.sz + e.sz) :
    Opens P t (Ty.pair (Ty.pair (Ty.pair (Ty.pair a b) c) d) e) (fun x => wa x.1.1.1.1 ∧ wb x.1.1.1.2 ∧ wc x.1.1.2 ∧ wd x.1.2 ∧ we x.2) := by
  refine ⟨fun {H enc w fuel cs x} hd => ?_⟩
  obtain ⟨xs, n, _, _, hl, hn, hf⟩ := DataW.trod_struct ht hd
  have e0 := hf 0 f0 rfl
  have e1 := hf 1 f1 rfl
  have e2 := hf 2 f2 rfl
  have e3 := hf 3 f3 rfl
  have e4 := hf 4 f4 rfl
  rw [List.getElem?_eq_getElem (by simp [hn]), o0, c0, List.drop_zero] at e0
  rw [List.getElem?_eq_getElem (by simp [hn]), o1, c1] at e1
  rw [List.getElem?_eq_getElem (by simp [hn]), o2, c2] at e2
  rw [List.getElem?_eq_getElem (by simp [hn]), o3, c3] at e3
  rw [List.getElem?_eq_getElem (by simp [hn]), o4, c4] at e4
  obtain ⟨y0, w0, r0⟩ := h0.out e0
  obtain ⟨y1, w1, r1⟩ := h1.out e1
  obtain ⟨y2, w2, r2⟩ := h2.out e2
  obtain ⟨y3, w3, r3⟩ := h3.out e3
  obtain ⟨y4, w4, r4⟩ := h4.out e4
  rw [List.take_of_length_le (by rw [List.length_drop]; omega)] at r4
  have key : ∀ (m k : Nat), cs.take (m + k) = cs.take m ++ (cs.drop m).take k := fun m k => by rw [List.take_add]
  refine ⟨((((y0, y1), y2), y3), y4), ⟨w0, w1, w2, w3, w4⟩, cs.take (a.sz + b.sz + c.sz + d.sz), cs.drop (a.sz + b.sz + c.sz + d.sz), (List.take_append_drop _ _).symm, ⟨cs.take (a.sz + b.sz + c.sz), _, key _ _, ⟨cs.take (a.sz + b.sz), _, key _ _, ⟨cs.take a.sz, _, key _ _, r0, r1⟩, r2⟩, r3⟩, r4⟩
theorem opensI : Opens Tryz.prog 3 I (fun n => (Lit.int .i64 n).wf = true) := opens_int Tryz.underlying3
theorem opensInts : Opens Tryz.prog 95 (Ty.slice I (by decide)) (fun xs => ∀ x ∈ xs, (Lit.int .i64 x).wf = true) := opens_slice Tryz.underlying95 (by kernel_rfl) (by decide) opensI
theorem opensRows : Opens Tryz.prog 96 (Ty.slice Df.II (by decide)) (fun xs => ∀ x ∈ xs, ∀ y ∈ x, (Lit.int .i64 y).wf = true) := opens_slice Tryz.underlying96 (by kernel_rfl) (by decide) opensInts
theorem opensDfa : Opens Tryz.prog 98 dT (fun _ => True) :=
  (opens_struct5 (a := Ty.slice I (by decide)) (b := I) (c := Ty.slice Df.II (by decide)) (d := Ty.slice I (by decide)) (e := I) Tryz.underlying98 opensInts opensI opensRows opensInts opensI (by kernel_rfl) (by kernel_rfl) (by kernel_rfl) (by kernel_rfl) (by kernel_rfl) (by kernel_rfl) (by kernel_rfl) (by kernel_rfl) (by kernel_rfl) (by kernel_rfl) (by kernel_rfl)).map (fun x => (⟨x.1.1.1.1, x.1.1.1.2, x.1.1.2, x.1.2, x.2⟩ : Df.Df)) (fun _ _ => trivial) (by
    rintro w S x cs ⟨_, c4, rfl, ⟨_, c3, rfl, ⟨_, c2, rfl, ⟨c0, c1, rfl, h0, h1⟩, h2⟩, h3⟩, h4⟩
    exact ⟨c0, c1 ++ (c2 ++ (c3 ++ c4)), by simp only [List.append_assoc], h0, c1, c2 ++ (c3 ++ c4), rfl, h1, c2, c3 ++ c4, rfl, h2, c3, c4, rfl, h3, h4⟩)
theorem opensDfas : Opens Tryz.prog 23 (Ty.slice dT (by decide)) (fun _ => True) := (opens_slice Tryz.underlying23 (by kernel_rfl) (by decide) opensDfa).map id (fun _ _ => trivial) (fun _ _ _ _ h => h)
theorem opensStr : Opens Tryz.prog 9 Ty.str (fun s => s.size ≤ maxLen) := opens_str Tryz.underlying9
theorem opensStrs : Opens Tryz.prog 22 (Ty.slice Ty.str (by decide)) (fun xs => ∀ s ∈ xs, s.size ≤ maxLen) := opens_slice Tryz.underlying22 (by kernel_rfl) (by decide) opensStr
theorem opensAct : Opens Tryz.prog 93 aT (fun x => x.1.size ≤ maxLen) :=
  (opens_struct2 (a := Ty.str) (b := I) Tryz.underlying93 opensStr opensI (by kernel_rfl) (by kernel_rfl) (by kernel_rfl) (by kernel_rfl) (by kernel_rfl)).map id (fun _ h => h.1) (fun _ _ _ _ h => h)
theorem opensActs : Opens Tryz.prog 24 (Ty.slice aT (by decide)) (fun xs => ∀ x ∈ xs, x.1.size ≤ maxLen) := opens_slice Tryz.underlying24 (by kernel_rfl) (by decide) opensAct
abbrev lxT : Ty (List ByteArray × (List Df.Df × List (ByteArray × Int))) := Ty.pair (Ty.slice Ty.str (by decide)) (Ty.pair (Ty.slice dT (by decide)) (Ty.slice aT (by decide)))
theorem opensLexer : Opens Tryz.prog 26 lxT (fun x => (∀ s ∈ x.1, s.size ≤ maxLen) ∧ ∀ a ∈ x.2.2, a.1.size ≤ maxLen) :=
  (opens_struct3 (a := Ty.slice Ty.str (by decide)) (b := Ty.slice dT (by decide)) (c := Ty.slice aT (by decide)) Tryz.underlying26 opensStrs opensDfas opensActs (by kernel_rfl) (by kernel_rfl) (by kernel_rfl) (by kernel_rfl) (by kernel_rfl) (by kernel_rfl) (by kernel_rfl)).map (fun x => x) (fun _ h => ⟨h.1, h.2.2⟩) (fun _ _ _ _ h => h)
theorem lexer_of {w : World} {S : Nat → Prop} {y : List ByteArray × (List Df.Df × List (ByteArray × Int))} {z : Array Value} (hS : ∀ k, S k → k < w.heap.size) (h : lxT.rel w S y z.toList) (hw : (∀ s ∈ y.1, s.size ≤ maxLen) ∧ ∀ a ∈ y.2.2, a.1.size ≤ maxLen) :
    ∃ (A1 A2 A3 : Option Addr) (n1 n2 n3 c1 c2 c3 : Nat) (l : Lx), z = #[.slice A1 n1 c1, .slice A2 n2 c2, .slice A3 n3 c3] ∧ LX w S A1 A2 A3 n1 n2 n3 l := by
  obtain ⟨e0, _, hz, ⟨A1, c1, rfl, _, _, h1⟩, ⟨e1, e2, rfl, ⟨A2, c2, rfl, _, _, h2⟩, ⟨A3, c3, rfl, _, _, h3⟩⟩⟩ := h
  exact ⟨A1, A2, A3, _, _, _, c1, c2, c3, ⟨y.1, y.2.1, y.2.2⟩, Array.toList_inj.1 hz, h1, h2, h3, hS, fun s hs => hw.1 s hs, fun a ha => hw.2 a ha⟩
end Go.Proofs.YtoambcpjdcehhaaGreat.Tb
namespace Go.Proofs.YtoambcpjdcehhaaGreat.Id
open Go Go.RowKit Go.ChangeShapes Go.WideShapes Go.ChangeAt Go.Proofs.YtoambcpjdcehhaaGreat.Can Go.Proofs.YtoambcpjdcehhaaGreat.Base Go.Proofs.YtoambcpjdcehhaaGreat.Tb
open Go.Proofs.YtoambcpjdcehhaaGreat.Fn hiding get_calls

def parE (p : Par) : List Value := [.int .i64 p.bytes, .int .i64 p.trail, .int .i64 p.marks, .int .i64 p.ahead, .int .i64 p.tickets, .int .i64 p.retries, .int .i64 p.step]
theorem par_len (p : Par) : (parE p).length = 7 := rfl
theorem par_one (p : Par) : ∀ u ∈ parE p, u.oneCell' = true := ints_one fun u hu => by simp [parE] at hu; rcases hu with h | h | h | h | h | h | h <;> exact ⟨_, h⟩
abbrev parT : Ty Par := Ty.flat 7 parE par_len par_one
theorem opens_ints7 {P : Program} {t : TypeId} {f0 f1 f2 f3 f4 f5 f6 : Field} {wf : Int → Prop} (ht : P.underlying t = some (.struct #[f0, f1, f2, f3, f4, f5, f6]))
    (h0 : Opens P f0.type (Ty.int .i64) wf) (h1 : Opens P f1.type (Ty.int .i64) wf) (h2 : Opens P f2.type (Ty.int .i64) wf) (h3 : Opens P f3.type (Ty.int .i64) wf) (h4 : Opens P f4.type (Ty.int .i64) wf) (h5 : Opens P f5.type (Ty.int .i64) wf) (h6 : Opens P f6.type (Ty.int .i64) wf)
    (o0 : f0.offset = 0) (o1 : f1.offset = 1) (o2 : f2.offset = 2) (o3 : f3.offset = 3) (o4 : f4.offset = 4) (o5 : f5.offset = 5) (o6 : f6.offset = 6)
    (c0 : P.cellsOf f0.type = 1) (c1 : P.cellsOf f1.type = 1) (c2 : P.cellsOf f2.type = 1) (c3 : P.cellsOf f3.type = 1) (c4 : P.cellsOf f4.type = 1) (c5 : P.cellsOf f5.type = 1) (c6 : P.cellsOf f6.type = 1) (hs : P.cellsOf t = 7) : Opens P t parT (fun _ => True) := by
  refine ⟨fun {H enc w fuel cs x} hd => ?_⟩
  obtain ⟨xs, n, _, _, hl, hn, hf⟩ := DataW.trod_struct ht hd
  have e0 := hf 0 f0 rfl
  have e1 := hf 1 f1 rfl
  have e2 := hf 2 f2 rfl
  have e3 := hf 3 f3 rfl
  have e4 := hf 4 f4 rfl
  have e5 := hf 5 f5 rfl
  have e6 := hf 6 f6 rfl
  rw [List.getElem?_eq_getElem (by simp [hn]), o0, c0] at e0
  rw [List.getElem?_eq_getElem (by simp [hn]), o1, c1] at e1
  rw [List.getElem?_eq_getElem (by simp [hn]), o2, c2] at e2
  rw [List.getElem?_eq_getElem (by simp [hn]), o3, c3] at e3
  rw [List.getElem?_eq_getElem (by simp [hn]), o4, c4] at e4
  rw [List.getElem?_eq_getElem (by simp [hn]), o5, c5] at e5
  rw [List.getElem?_eq_getElem (by simp [hn]), o6, c6] at e6
  obtain ⟨y0, w0, r0⟩ := h0.out e0
  obtain ⟨y1, w1, r1⟩ := h1.out e1
  obtain ⟨y2, w2, r2⟩ := h2.out e2
  obtain ⟨y3, w3, r3⟩ := h3.out e3
  obtain ⟨y4, w4, r4⟩ := h4.out e4
  obtain ⟨y5, w5, r5⟩ := h5.out e5
  obtain ⟨y6, w6, r6⟩ := h6.out e6
  have hlen : cs.length = 7 := by omega
  clear e0 e1 e2 e3 e4 e5 e6 hf hl hd hn
  obtain ⟨x0, cs, rfl⟩ := List.exists_cons_of_length_eq_add_one hlen
  rw [List.length_cons] at hlen
  replace hlen : cs.length = 6 := by omega
  obtain ⟨x1, cs, rfl⟩ := List.exists_cons_of_length_eq_add_one hlen
  rw [List.length_cons] at hlen
  replace hlen : cs.length = 5 := by omega
  obtain ⟨x2, cs, rfl⟩ := List.exists_cons_of_length_eq_add_one hlen
  rw [List.length_cons] at hlen
  replace hlen : cs.length = 4 := by omega
  obtain ⟨x3, cs, rfl⟩ := List.exists_cons_of_length_eq_add_one hlen
  rw [List.length_cons] at hlen
  replace hlen : cs.length = 3 := by omega
  obtain ⟨x4, cs, rfl⟩ := List.exists_cons_of_length_eq_add_one hlen
  rw [List.length_cons] at hlen
  replace hlen : cs.length = 2 := by omega
  obtain ⟨x5, cs, rfl⟩ := List.exists_cons_of_length_eq_add_one hlen
  rw [List.length_cons] at hlen
  replace hlen : cs.length = 1 := by omega
  obtain ⟨x6, cs, rfl⟩ := List.exists_cons_of_length_eq_add_one hlen
  rw [List.length_cons] at hlen
  replace hlen : cs.length = 0 := by omega
  obtain rfl : cs = [] := List.eq_nil_of_length_eq_zero hlen
  have q0 : [x0] = [.int .i64 y0] := r0
  have q1 : [x1] = [.int .i64 y1] := r1
  have q2 : [x2] = [.int .i64 y2] := r2
  have q3 : [x3] = [.int .i64 y3] := r3
  have q4 : [x4] = [.int .i64 y4] := r4
  have q5 : [x5] = [.int .i64 y5] := r5
  have q6 : [x6] = [.int .i64 y6] := r6
  simp only [List.cons.injEq, and_true] at q0 q1 q2 q3 q4 q5 q6
  subst q0 q1 q2 q3 q4 q5 q6
  exact ⟨⟨y0, y1, y2, y3, y4, y5, y6⟩, trivial, rfl⟩
theorem opensPar : Opens Tryz.prog 28 parT (fun _ => True) :=
  opens_ints7 Tryz.underlying28 opensI opensI opensI opensI opensI opensI opensI (by kernel_rfl) (by kernel_rfl) (by kernel_rfl) (by kernel_rfl) (by kernel_rfl) (by kernel_rfl) (by kernel_rfl) (by kernel_rfl) (by kernel_rfl) (by kernel_rfl) (by kernel_rfl) (by kernel_rfl) (by kernel_rfl) (by kernel_rfl) (by kernel_rfl)
abbrev plT : Ty ((List ByteArray × (List Df.Df × List (ByteArray × Int))) × (Int × Par)) := Ty.pair lxT (Ty.pair I parT)
theorem opensPlan : Opens Tryz.prog 30 plT (fun x => ((∀ s ∈ x.1.1, s.size ≤ maxLen) ∧ ∀ a ∈ x.1.2.2, a.1.size ≤ maxLen)) :=
  (opens_struct3 (a := lxT) (b := I) (c := parT) Tryz.underlying30 opensLexer opensI opensPar (by kernel_rfl) (by kernel_rfl) (by kernel_rfl) (by kernel_rfl) (by kernel_rfl) (by kernel_rfl) (by kernel_rfl)).map (fun x => x) (fun _ h => h.1) (fun _ _ _ _ h => h)
theorem plan_of {w : World} {S : Nat → Prop} {y : (List ByteArray × (List Df.Df × List (ByteArray × Int))) × (Int × Par)} {z : Array Value} (hS : ∀ k, S k → k < w.heap.size) (h : plT.rel w S y z.toList) (hw : (∀ s ∈ y.1.1, s.size ≤ maxLen) ∧ ∀ a ∈ y.1.2.2, a.1.size ≤ maxLen) :
    ∃ (A1 A2 A3 : Option Addr) (n1 n2 n3 c1 c2 c3 : Nat) (l : Lx) (mode : Int) (p : Par), z = #[.slice A1 n1 c1, .slice A2 n2 c2, .slice A3 n3 c3, .int .i64 mode, .int .i64 p.bytes, .int .i64 p.trail, .int .i64 p.marks, .int .i64 p.ahead, .int .i64 p.tickets, .int .i64 p.retries, .int .i64 p.step] ∧ LX w S A1 A2 A3 n1 n2 n3 l := by
  obtain ⟨z0, z1, hz, h0, ⟨z2, z3, rfl, h2, h3⟩⟩ := h
  have h2' : z2 = [.int .i64 y.2.1] := h2
  have h3' : z3 = parE y.2.2 := h3
  subst h2' h3'
  have h0' : lxT.rel w S y.1 z0.toArray.toList := by rw [List.toList_toArray]; exact h0
  obtain ⟨A1, A2, A3, n1, n2, n3, c1, c2, c3, l, hz0, hL⟩ := lexer_of hS h0' hw
  refine ⟨A1, A2, A3, n1, n2, n3, c1, c2, c3, l, y.2.1, y.2.2, ?_, hL⟩
  apply Array.toList_inj.1
  rw [hz]
  have hz0' : z0 = [.slice A1 n1 c1, .slice A2 n2 c2, .slice A3 n3 c3] := by have := congrArg Array.toList hz0; simpa using this
  rw [hz0']
  rfl
theorem opensOp : Opens Tryz.prog 41 opT (fun x => (Lit.int .i64 x.n).wf = true ∧ x.data.size ≤ maxLen) :=
  (opens_struct3 (a := Ty.int .i64) (b := Ty.int .i64) (c := Ty.str) Tryz.underlying41 (opens_int Tryz.underlying3) (opens_int Tryz.underlying3) (opens_str Tryz.underlying9) (by kernel_rfl) (by kernel_rfl) (by kernel_rfl) (by kernel_rfl) (by kernel_rfl) (by kernel_rfl) (by kernel_rfl)).map (fun x => ⟨x.1, x.2.1, x.2.2⟩) (fun _ h => ⟨h.2.1, h.2.2⟩) (by
    rintro w S x cs ⟨c0, c1, rfl, h0, ⟨c2, c3, rfl, h2, h3⟩⟩
    have h0' : c0 = [.int .i64 x.1] := h0
    have h2' : c2 = [.int .i64 x.2.1] := h2
    have h3' : c3 = [.string x.2.2] := h3
    subst h0' h2' h3'
    rfl)
theorem opensOps : Opens Tryz.prog 31 (Ty.slice opT (by decide)) (fun xs => ∀ x ∈ xs, (Lit.int .i64 x.n).wf = true ∧ x.data.size ≤ maxLen) := opens_slice Tryz.underlying31 (by kernel_rfl) (by decide) opensOp
end Go.Proofs.YtoambcpjdcehhaaGreat.Id
