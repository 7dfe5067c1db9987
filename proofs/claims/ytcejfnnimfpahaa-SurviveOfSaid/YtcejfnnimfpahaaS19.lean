/- What the law of SurviveOf is given: events. -/
import Derived.Test.YtcejfnnimfpahaaS18
import Derived.Test.YtcejfnnimfpahaaL1
namespace Go.Proofs.Ytcejfnnimfpahaa.Fn
open Go Go.RowKit Go.Proofs.Ytcejfnnimfpahaa.Can Go.Proofs.Ytcejfnnimfpahaa.Base

theorem opens_struct5 {α β γ δ ε : Type} {P : Program} {t : TypeId} {a : Ty α} {b : Ty β} {c : Ty γ} {d : Ty δ} {e : Ty ε} {f0 f1 f2 f3 f4 : Field} {wa : α → Prop} {wb : β → Prop} {wc : γ → Prop} {wd : δ → Prop} {we : ε → Prop} (ht : P.underlying t = some (.struct #[f0, f1, f2, f3, f4]))
    (h0 : Opens P f0.type a wa) (h1 : Opens P f1.type b wb) (h2 : Opens P f2.type c wc) (h3 : Opens P f3.type d wd) (h4 : Opens P f4.type e we)
    (o0 : f0.offset = 0) (o1 : f1.offset = a.sz) (o2 : f2.offset = a.sz + b.sz) (o3 : f3.offset = a.sz + b.sz + c.sz) (o4 : f4.offset = a.sz + b.sz + c.sz + d.sz)
    (c0 : P.cellsOf f0.type = a.sz) (c1 : P.cellsOf f1.type = b.sz) (c2 : P.cellsOf f2.type = c.sz) (c3 : P.cellsOf f3.type = d.sz) (c4 : P.cellsOf f4.type = e.sz) (hs : P.cellsOf t = a.sz + b.sz + c.sz + d.sz + e.sz) :
    Opens P t (Ty.pair (Ty.pair (Ty.pair (Ty.pair a b) c) d) e) (fun x => wa x.1.1.1.1 ∧ wb x.1.1.1.2 ∧ wc x.1.1.2 ∧ wd x.1.2 ∧ we x.2) := by
  refine ⟨fun {H enc w fuel cs x} hd => ?_⟩
  obtain ⟨xs, n, _, _, hl, hn, hf⟩ := DataW.trod_struct ht hd
  have e0 := hf 0 f0 rfl
  have e1 := hf 1 f1 rfl
  have e2 := hf 2 f2 rfl
  have e3 := hf 3 f3 rfl
  have e4 := hf 4 f4 rfl
  rw [List.getElem?_eq_getElem (by simp [hn]), o0, c0, List.drop_zero] at e0
  rw [List.getElem?_eq_getElem (by simp [hn]), o1, c1] at e1
  rw [List.getElem?_eq_getElem (by simp [hn]), o2, c2] at e2
  rw [List.getElem?_eq_getElem (by simp [hn]), o3, c3] at e3
  rw [List.getElem?_eq_getElem (by simp [hn]), o4, c4] at e4
  obtain ⟨y0, w0, r0⟩ := h0.out e0
  obtain ⟨y1, w1, r1⟩ := h1.out e1
  obtain ⟨y2, w2, r2⟩ := h2.out e2
  obtain ⟨y3, w3, r3⟩ := h3.out e3
  obtain ⟨y4, w4, r4⟩ := h4.out e4
  rw [List.take_of_length_le (by rw [List.length_drop]; omega)] at r4
  have key : ∀ (m k : Nat), cs.take (m + k) = cs.take m ++ (cs.drop m).take k := fun m k => by rw [List.take_add]
  refine ⟨((((y0, y1), y2), y3), y4), ⟨w0, w1, w2, w3, w4⟩, cs.take (a.sz + b.sz + c.sz + d.sz), cs.drop (a.sz + b.sz + c.sz + d.sz), (List.take_append_drop _ _).symm, ⟨cs.take (a.sz + b.sz + c.sz), _, key _ _, ⟨cs.take (a.sz + b.sz), _, key _ _, ⟨cs.take a.sz, _, key _ _, r0, r1⟩, r2⟩, r3⟩, r4⟩

structure Op3 where
  k : Int
  n : Int
  d : ByteArray
structure Rs3 where
  e : Int
  n : Int
  t : Tok
def opE (o : Op3) : List Value := [.int .i64 o.k, .int .i64 o.n, .string o.d]
def rsE (o : Rs3) : List Value := .int .i64 o.e :: .int .i64 o.n :: tokE o.t
theorem op_one (o : Op3) : ∀ u ∈ opE o, u.oneCell' = true := fun u hu => by simp [opE] at hu; rcases hu with h | h | h <;> subst h <;> rfl
theorem rs_one (o : Rs3) : ∀ u ∈ rsE o, u.oneCell' = true := ints_one fun u hu => by simp [rsE, tokE] at hu; rcases hu with h | h | h | h | h | h | h | h <;> exact ⟨_, h⟩
abbrev opT : Ty Op3 := Ty.flat 3 opE (fun _ => rfl) op_one
abbrev rsT : Ty Rs3 := Ty.flat 8 rsE (fun _ => rfl) rs_one
theorem opens50 : Opens Try.prog 50 opT (fun x => (Lit.int .i64 x.n).wf = true) :=
  (opens_struct3 (a := Ty.int .i64) (b := Ty.int .i64) (c := Ty.str) Try.underlying50 (opens_int Try.underlying3) (opens_int Try.underlying3) (opens_str Try.underlying9) rfl rfl rfl (by kernel_rfl) (by kernel_rfl) (by kernel_rfl) (by kernel_rfl)).map (fun x => ⟨x.1, x.2.1, x.2.2⟩) (fun _ h => h.2.1) (by
    rintro w S x cs ⟨c0, c1, rfl, h0, ⟨c2, c3, rfl, h2, h3⟩⟩
    have h0' : c0 = [.int .i64 x.1] := h0
    have h2' : c2 = [.int .i64 x.2.1] := h2
    have h3' : c3 = [.string x.2.2] := h3
    subst h0' h2' h3'
    rfl)
theorem opens53 : Opens Try.prog 53 rsT (fun x => (Lit.int .i64 x.n).wf = true) :=
  (opens_struct3 (a := Ty.int .i64) (b := Ty.int .i64) (c := tokT) Try.underlying53 (opens_int Try.underlying51) (opens_int Try.underlying3) opens29 rfl rfl rfl (by kernel_rfl) (by kernel_rfl) (by kernel_rfl) (by kernel_rfl)).map (fun x => ⟨x.1, x.2.1, x.2.2⟩) (fun _ h => h.2.1) (by
    rintro w S x cs ⟨c0, c1, rfl, h0, ⟨c2, c3, rfl, h2, h3⟩⟩
    have h0' : c0 = [.int .i64 x.1] := h0
    have h2' : c2 = [.int .i64 x.2.1] := h2
    have h3' : c3 = tokE x.2.2 := h3
    subst h0' h2' h3'
    rfl)
theorem opens55 : Opens Try.prog 55 evT (fun v => (Lit.int .i64 v.n).wf = true ∧ (Lit.int .i64 v.rn).wf = true) :=
  (opens_struct5 (a := Ty.int .i64) (b := Ty.int .i64) (c := Ty.int .i64) (d := opT) (e := rsT) Try.underlying55 (opens_int Try.underlying3) (opens_int Try.underlying3) (opens_int Try.underlying3) opens50 opens53 rfl rfl rfl rfl rfl (by kernel_rfl) (by kernel_rfl) (by kernel_rfl) (by kernel_rfl) (by kernel_rfl) (by kernel_rfl)).map
    (fun x => (⟨x.1.1.1.1, x.1.1.1.2, x.1.1.2, x.1.2.k, x.1.2.n, x.1.2.d, x.2.e, x.2.n, x.2.t⟩ : Ev)) (fun _ h => ⟨h.2.2.2.1, h.2.2.2.2⟩) (by
    rintro w S x cs ⟨c0, c1, rfl, ⟨c2, c3, rfl, ⟨c4, c5, rfl, ⟨c6, c7, rfl, h6, h7⟩, h5⟩, h3⟩, h1⟩
    have h6' : c6 = [.int .i64 x.1.1.1.1] := h6
    have h7' : c7 = [.int .i64 x.1.1.1.2] := h7
    have h5' : c5 = [.int .i64 x.1.1.2] := h5
    have h3' : c3 = opE x.1.2 := h3
    have h1' : c1 = rsE x.2 := h1
    subst h6' h7' h5' h3' h1'
    rfl)
theorem opens37 : Opens Try.prog 37 (Ty.slice evT (by decide)) EvWf :=
  (opens_slice Try.underlying37 (by kernel_rfl) (by decide) opens55).map id (fun _ h => h) (fun _ _ _ _ h => h)
end Go.Proofs.Ytcejfnnimfpahaa.Fn
