/- Lexers, handed in; the laid beginning. -/
import Derived.Test.YtpcnekdilecakaaDoorRows
import Derived.Test.YtpcnekdilecakaaDoorXA
import Derived.Test.YtpcnekdilecakaaDoorOpens
import Derived.LaidMore
import Derived.ProofKit
import Derived.OpenShut
set_option linter.unusedVariables false
set_option linter.unusedSimpArgs false
namespace Go.Proofs.YtpcnekdilecakaaDoor.Tb
open Go Go.RowKit Go.ChangeShapes Go.WideShapes Go.ChangeAt Go.Proofs.YtpcnekdilecakaaDoor.Can Go.Proofs.YtpcnekdilecakaaDoor.Base

theorem opens_struct5 {α β γ δ ε : Type} {P : Program} {t : TypeId} {a : Ty α} {b : Ty β} {c : Ty γ} {d : Ty δ} {e : Ty ε} {f0 f1 f2 f3 f4 : Field} {wa : α → Prop} {wb : β → Prop} {wc : γ → Prop} {wd : δ → Prop} {we : ε → Prop} (ht : P.underlying t = some (.struct #[f0, f1, f2, f3, f4]))
    (h0 : Opens P f0.type a wa) (h1 : Opens P f1.type b wb) (h2 : Opens P f2.type c wc) (h3 : Opens P f3.type d wd) (h4 : Opens P f4.type e we)
    (o0 : f0.offset = 0) (o1 : f1.offset = a.sz) (o2 : f2.offset = a.sz + b.sz) (o3 : f3.offset = a.sz + b.sz + c.sz) (o4 : f4.offset = a.sz + b.sz + c.sz + d.sz)
    (c0 : P.cellsOf f0.type = a.sz) (c1 : P.cellsOf f1.type = b.sz) (c2 : P.cellsOf f2.type = c.sz) (c3 : P.cellsOf f3.type = d.sz) (c4 : P.cellsOf f4.type = e.sz) (hs : P.cellsOf t = a.sz + b.sz + c.sz + d.sz + e.sz) :
    Opens P t (Ty.pair (Ty.pair (Ty.pair (Ty.pair a b) c) d) e) (fun x => wa x.1.1.1.1 ∧ wb x.1.1.1.2 ∧ wc x.1.1.2 ∧ wd x.1.2 ∧ we x.2) := by
  refine ⟨fun {H enc w fuel cs x} hd => ?_⟩
  obtain ⟨xs, n, _, _, hl, hn, hf⟩ := DataW.trod_struct ht hd
  have e0 := hf 0 f0 rfl
  have e1 := hf 1 f1 rfl
  have e2 := hf 2 f2 rfl
  have e3 := hf 3 f3 rfl
  have e4 := hf 4 f4 rfl
  rw [List.getElem?_eq_getElem (by simp [hn]), o0, c0, List.drop_zero] at e0
  rw [List.getElem?_eq_getElem (by simp [hn]), o1, c1] at e1
  rw [List.getElem?_eq_getElem (by simp [hn]), o2, c2] at e2
  rw [List.getElem?_eq_getElem (by simp [hn]), o3, c3] at e3
  rw [List.getElem?_eq_getElem (by simp [hn]), o4, c4] at e4
  obtain ⟨y0, w0, r0⟩ := h0.out e0
  obtain ⟨y1, w1, r1⟩ := h1.out e1
  obtain ⟨y2, w2, r2⟩ := h2.out e2
  obtain ⟨y3, w3, r3⟩ := h3.out e3
  obtain ⟨y4, w4, r4⟩ := h4.out e4
  rw [List.take_of_length_le (by rw [List.length_drop]; omega)] at r4
  have key : ∀ (m k : Nat), cs.take (m + k) = cs.take m ++ (cs.drop m).take k := fun m k => by rw [List.take_add]
  refine ⟨((((y0, y1), y2), y3), y4), ⟨w0, w1, w2, w3, w4⟩, cs.take (a.sz + b.sz + c.sz + d.sz), cs.drop (a.sz + b.sz + c.sz + d.sz), (List.take_append_drop _ _).symm, ⟨cs.take (a.sz + b.sz + c.sz), _, key _ _, ⟨cs.take (a.sz + b.sz), _, key _ _, ⟨cs.take a.sz, _, key _ _, r0, r1⟩, r2⟩, r3⟩, r4⟩
theorem opensI : Opens Tryd.prog 3 I (fun n => (Lit.int .i64 n).wf = true) := opens_int Tryd.underlying3
theorem opensInts : Opens Tryd.prog 44 (Ty.slice I (by decide)) (fun xs => ∀ x ∈ xs, (Lit.int .i64 x).wf = true) := opens_slice Tryd.underlying44 (by kernel_rfl) (by decide) opensI
theorem opensRows : Opens Tryd.prog 45 (Ty.slice Df.II (by decide)) (fun xs => ∀ x ∈ xs, ∀ y ∈ x, (Lit.int .i64 y).wf = true) := opens_slice Tryd.underlying45 (by kernel_rfl) (by decide) opensInts
theorem opensDfa : Opens Tryd.prog 47 dT (fun _ => True) :=
  (opens_struct5 (a := Ty.slice I (by decide)) (b := I) (c := Ty.slice Df.II (by decide)) (d := Ty.slice I (by decide)) (e := I) Tryd.underlying47 opensInts opensI opensRows opensInts opensI (by kernel_rfl) (by kernel_rfl) (by kernel_rfl) (by kernel_rfl) (by kernel_rfl) (by kernel_rfl) (by kernel_rfl) (by kernel_rfl) (by kernel_rfl) (by kernel_rfl) (by kernel_rfl)).map (fun x => (⟨x.1.1.1.1, x.1.1.1.2, x.1.1.2, x.1.2, x.2⟩ : Df.Df)) (fun _ _ => trivial) (by
    rintro w S x cs ⟨_, c4, rfl, ⟨_, c3, rfl, ⟨_, c2, rfl, ⟨c0, c1, rfl, h0, h1⟩, h2⟩, h3⟩, h4⟩
    exact ⟨c0, c1 ++ (c2 ++ (c3 ++ c4)), by simp only [List.append_assoc], h0, c1, c2 ++ (c3 ++ c4), rfl, h1, c2, c3 ++ c4, rfl, h2, c3, c4, rfl, h3, h4⟩)
theorem opensDfas : Opens Tryd.prog 23 (Ty.slice dT (by decide)) (fun _ => True) := (opens_slice Tryd.underlying23 (by kernel_rfl) (by decide) opensDfa).map id (fun _ _ => trivial) (fun _ _ _ _ h => h)
theorem opensStr : Opens Tryd.prog 9 Ty.str (fun s => s.size ≤ maxLen) := opens_str Tryd.underlying9
theorem opensStrs : Opens Tryd.prog 22 (Ty.slice Ty.str (by decide)) (fun xs => ∀ s ∈ xs, s.size ≤ maxLen) := opens_slice Tryd.underlying22 (by kernel_rfl) (by decide) opensStr
theorem opensAct : Opens Tryd.prog 42 aT (fun x => x.1.size ≤ maxLen) :=
  (opens_struct2 (a := Ty.str) (b := I) Tryd.underlying42 opensStr opensI (by kernel_rfl) (by kernel_rfl) (by kernel_rfl) (by kernel_rfl) (by kernel_rfl)).map id (fun _ h => h.1) (fun _ _ _ _ h => h)
theorem opensActs : Opens Tryd.prog 24 (Ty.slice aT (by decide)) (fun xs => ∀ x ∈ xs, x.1.size ≤ maxLen) := opens_slice Tryd.underlying24 (by kernel_rfl) (by decide) opensAct
abbrev lxT : Ty (List ByteArray × (List Df.Df × List (ByteArray × Int))) := Ty.pair (Ty.slice Ty.str (by decide)) (Ty.pair (Ty.slice dT (by decide)) (Ty.slice aT (by decide)))
theorem opensLexer : Opens Tryd.prog 26 lxT (fun x => (∀ s ∈ x.1, s.size ≤ maxLen) ∧ ∀ a ∈ x.2.2, a.1.size ≤ maxLen) :=
  (opens_struct3 (a := Ty.slice Ty.str (by decide)) (b := Ty.slice dT (by decide)) (c := Ty.slice aT (by decide)) Tryd.underlying26 opensStrs opensDfas opensActs (by kernel_rfl) (by kernel_rfl) (by kernel_rfl) (by kernel_rfl) (by kernel_rfl) (by kernel_rfl) (by kernel_rfl)).map (fun x => x) (fun _ h => ⟨h.1, h.2.2⟩) (fun _ _ _ _ h => h)
theorem lexer_of {w : World} {S : Nat → Prop} {y : List ByteArray × (List Df.Df × List (ByteArray × Int))} {z : Array Value} (hS : ∀ k, S k → k < w.heap.size) (h : lxT.rel w S y z.toList) (hw : (∀ s ∈ y.1, s.size ≤ maxLen) ∧ ∀ a ∈ y.2.2, a.1.size ≤ maxLen) :
    ∃ (A1 A2 A3 : Option Addr) (n1 n2 n3 c1 c2 c3 : Nat) (l : Lx), z = #[.slice A1 n1 c1, .slice A2 n2 c2, .slice A3 n3 c3] ∧ LX w S A1 A2 A3 n1 n2 n3 l := by
  obtain ⟨e0, _, hz, ⟨A1, c1, rfl, _, _, h1⟩, ⟨e1, e2, rfl, ⟨A2, c2, rfl, _, _, h2⟩, ⟨A3, c3, rfl, _, _, h3⟩⟩⟩ := h
  exact ⟨A1, A2, A3, _, _, _, c1, c2, c3, ⟨y.1, y.2.1, y.2.2⟩, Array.toList_inj.1 hz, h1, h2, h3, hS, fun s hs => hw.1 s hs, fun a ha => hw.2 a ha⟩
theorem opensBytes : Opens Tryd.prog 29 (Ty.slice (Ty.int .u8) (by decide)) (fun xs => ∀ x ∈ xs, (Lit.int .u8 x).wf = true) := opens_slice Tryd.underlying29 (by kernel_rfl) (by decide) (opens_int Tryd.underlying5)
def u8s (l : List Int) : List UInt8 := l.map fun x => UInt8.ofNat x.toNat
theorem row_u8 {w : World} {S : Nat → Prop} {A : Option Addr} {n : Nat} {xs : List Int} (h : Row (Ty.int .u8) w S A n xs) (hw : ∀ x ∈ xs, (Lit.int .u8 x).wf = true) : Row bT w S A n (u8s xs) := by
  refine ⟨by unfold u8s; rw [List.length_map]; exact h.1, h.2.1, fun hn => ?_⟩
  obtain ⟨b, off, e, hs, hc⟩ := h.2.2 hn
  refine ⟨b, off, e, hs, fun j p hj => ?_⟩
  unfold u8s at hj
  rw [List.getElem?_map] at hj
  obtain ⟨x, hx, rfl⟩ := Option.map_eq_some_iff.1 hj
  obtain ⟨c, hr, hcell⟩ := hc j x hx
  have hx9 := hw x (List.mem_of_getElem? hx)
  have hr' : c = [.int .u8 x] := hr
  have hb : 0 ≤ x ∧ x ≤ 255 := by
    simp only [Lit.wf, IntKind.min, IntKind.max, IntKind.signed, IntKind.bits, Bool.and_eq_true, decide_eq_true_eq] at hx9
    simp at hx9
    omega
  refine ⟨c, ?_, hcell⟩
  show c = uE _
  unfold uE
  rw [hr', UInt8.toNat_ofNat']
  congr 2
  omega
theorem gBegin : Tryd.prog.globalNamed "spool/table.begin" = some 0 := by kernel_rfl
theorem tBegin : (Tryd.prog.globals[0]?).map (·.type) = some 52 := by kernel_rfl
theorem bg_of_laid {W : World} (h : laidMetH Tryd.prog [("spool/table.begin", Rows.laid_spool_table_begin)] W) : Bg W := by
  rw [MakeChecks.laidMetH_plain _ _ _ (by kernel_rfl)] at h
  obtain ⟨ps, ⟨g0, t0, cs0, f0, p0, q0, hg0, ht0, hv0, hd0, _, _⟩, _, _⟩ := h
  obtain rfl := Option.some.inj (gBegin.symm.trans hg0)
  obtain rfl := Option.some.inj (tBegin.symm.trans ht0)
  obtain ⟨xs, m1, rfl, hx1, hlen, hn3, hel⟩ := DataW.trod_array Tryd.underlying52 hd0
  have c5 : Tryd.prog.cellsOf 5 = 1 := by kernel_rfl
  have key : ∀ j, j < 3 → ∃ k : Int, W.cell? ⟨0, j, none⟩ = some (.int .u8 k) ∧ ([83, 80, 1] : List Int)[j]? = some k := by
    intro j hj
    have hE := hel j hj
    have hv := World.var?_cell hg0 hv0 j
    unfold Rows.laid_spool_table_begin at hx1
    simp only [Prod.mk.injEq, DataW.agg.injEq] at hx1
    obtain ⟨x, hx⟩ : ∃ x, xs[j]? = some x := ⟨_, List.getElem?_eq_getElem (by rw [hn3]; exact hj)⟩
    rw [hx, c5] at hE
    obtain ⟨k, e1, e2, _⟩ := DataW.trod_int Tryd.underlying5 hE
    have hL := congrArg (·[j]?) hx1.1
    simp only [List.getElem?_map, hx, Option.map_some] at hL
    refine ⟨k, ?_, ?_⟩
    · rw [hv]
      have h9 := congrArg (·[0]?) e1
      simpa using h9
    · rw [e2] at hL
      rcases (by omega : j = 0 ∨ j = 1 ∨ j = 2) with rfl | rfl | rfl <;> (simp at hL; simp [hL])
  obtain ⟨k0, h0, e0⟩ := key 0 (by omega)
  obtain ⟨k1, h1, e1⟩ := key 1 (by omega)
  obtain ⟨k2, h2, e2⟩ := key 2 (by omega)
  cases e0; cases e1; cases e2
  exact ⟨h0, h1, h2, World.block_lt_of_cell? W _ h0⟩
end Go.Proofs.YtpcnekdilecakaaDoor.Tb
