/- A lexer's bytes: how many they are; what the table's begin is. -/
import Derived.Test.YtpcnekdilecakaaDoorP4
set_option linter.unusedVariables false
set_option linter.unusedSimpArgs false
namespace Go.Proofs.YtpcnekdilecakaaDoor.Tb
open Go Go.RowKit Go.Proofs.YtpcnekdilecakaaDoor.Can Go.Proofs.YtpcnekdilecakaaDoor.Base

structure RB (l : Lx) : Prop where
  ml : l.modes.length ≤ 16
  al : l.acts.length ≤ 128
  dl : l.dfas.length = l.modes.length
  ms : ∀ s ∈ l.modes, s.size ≤ 32
  ac : ∀ a ∈ l.acts, a.1.size ≤ 32 ∧ -1 ≤ a.2 ∧ a.2 < 16
  ds : ∀ d ∈ l.dfas, DB l.acts.length d
theorem RB.of {l : Lx} (h : rightB l = true) : RB l := by
  unfold rightB at h
  simp only [Bool.and_eq_true, decide_eq_true_eq, List.all_eq_true] at h
  obtain ⟨⟨⟨⟨⟨⟨h1, h2⟩, h3⟩, h4⟩, h5⟩, h6⟩, h7⟩ := h
  unfold modesB at h3
  simp only [Bool.and_eq_true, decide_eq_true_eq, List.all_eq_true] at h3
  refine ⟨h2, h4, h5, fun s hs => name_size (h3.1 s hs), fun a ha => ?_, fun d hd => DB.of (h7 d hd)⟩
  have h9 := h6 a ha
  unfold actB at h9
  simp only [Bool.and_eq_true, Bool.or_eq_true, decide_eq_true_eq] at h9
  obtain ⟨⟨h8, h10⟩, h11⟩ := h9
  exact ⟨by rcases h8 with h8 | h8; omega; exact name_size h8, h10, by omega⟩
theorem wtext_len (s : ByteArray) : (wtext s).length = s.size + 1 := by unfold wtext; rw [List.length_append, bl_len]; show 1 + _ = _; omega
theorem wdfa_len {m : Nat} {d : Df.Df} (h : DB m d) : (wdfa d).length ≤ 600000 := by
  unfold wdfa
  have h1 := wcl_len 0 d.cls
  have h2 := states_len h (d.tag.zip d.nxt).length
  rw [List.take_length] at h2
  have h3 : (d.tag.zip d.nxt).length ≤ 1024 := by rw [List.length_zip]; have := h.nl; omega
  have h4 := h.cl
  simp only [List.length_append, w2_len]
  have := Nat.mul_le_mul_right 513 h3
  omega
theorem flat_take_le {α : Type} {e : α → List UInt8} {m n : Nat} {l : List α} (h : ∀ x ∈ l, (e x).length ≤ m) (hn : l.length ≤ n) (k : Nat) : ((l.take k).flatMap e).length ≤ n * m := by
  have h1 := flat_le e m (l.take k) fun x hx => h x (List.mem_of_mem_take hx)
  have h2 : (l.take k).length ≤ n := by rw [List.length_take]; omega
  exact Nat.le_trans h1 (Nat.mul_le_mul_right _ h2)
theorem RB.modes_len {l : Lx} (h : RB l) (k : Nat) : ((l.modes.take k).flatMap wtext).length ≤ 1000 :=
  Nat.le_trans (flat_take_le (m := 33) (n := 16) (fun s hs => by rw [wtext_len]; have := h.ms s hs; omega) h.ml k) (by decide)
theorem RB.acts_len {l : Lx} (h : RB l) (k : Nat) : ((l.acts.take k).flatMap wact).length ≤ 10000 :=
  Nat.le_trans (flat_take_le (m := 34) (n := 128) (fun a ha => by unfold wact; rw [List.length_append, wtext_len, w1_len]; have := (h.ac a ha).1; omega) h.al k) (by decide)
theorem RB.dfas_len {l : Lx} (h : RB l) (k : Nat) : ((l.dfas.take k).flatMap wdfa).length ≤ 10000000 :=
  Nat.le_trans (flat_take_le (m := 600000) (n := 16) (fun d hd => wdfa_len (h.ds d hd)) (by rw [h.dl]; exact h.ml) k) (by decide)
theorem RB.put_len {l : Lx} (h : RB l) : (putL l).length ≤ 20000000 := by
  have h1 := h.modes_len l.modes.length; have h2 := h.acts_len l.acts.length; have h3 := h.dfas_len l.dfas.length
  rw [List.take_length] at h1 h2 h3
  unfold putL
  simp only [List.length_append, w1_len]
  omega
theorem lx_fr {X : Nat → Prop} {w w' : World} {S : Nat → Prop} {A1 A2 A3 : Option Addr} {n1 n2 n3 : Nat} {l : Lx} (h : LX w S A1 A2 A3 n1 n2 n3 l) (hf : Fr X w w') (hX : ∀ b, S b → ¬ X b) : LX w' S A1 A2 A3 n1 n2 n3 l :=
  ⟨hf.row h.modes fun b hb => ⟨h.lt b hb, hX b hb⟩, hf.row h.dfas fun b hb => ⟨h.lt b hb, hX b hb⟩, hf.row h.acts fun b hb => ⟨h.lt b hb, hX b hb⟩, fun b hb => Nat.lt_of_lt_of_le (h.lt b hb) hf.size, h.szm, h.sza⟩
/-- How a lexer's bytes begin, laid. -/
structure Bg (w : World) : Prop where
  c0 : w.cell? ⟨0, 0, none⟩ = some (.int .u8 83)
  c1 : w.cell? ⟨0, 1, none⟩ = some (.int .u8 80)
  c2 : w.cell? ⟨0, 2, none⟩ = some (.int .u8 1)
  lt : 0 < w.heap.size
theorem Bg.same {w w' : World} (h : Bg w) (hb : w'.heap[0]? = w.heap[0]?) (hl : w.heap.size ≤ w'.heap.size) : Bg w' := by
  have e : ∀ o, w'.cell? ⟨0, o, none⟩ = w.cell? ⟨0, o, none⟩ := fun o => World.cell?_of_block (w := w) hb
  exact ⟨(e 0).trans h.c0, (e 1).trans h.c1, (e 2).trans h.c2, Nat.lt_of_lt_of_le h.lt hl⟩
theorem Bg.below {w w' : World} (h : Bg w) (hb : Below w.heap.size w w') : Bg w' := h.same (hb.block 0 h.lt) hb.size
end Go.Proofs.YtpcnekdilecakaaDoor.Tb
