/- What the fold is in memory: the takes that survive now, and those that are kept. -/
import Derived.Test.YtcejfnnimfpahaaS2
import Derived.Deep.DeepAppendRoom
namespace Go.Proofs.Ytcejfnnimfpahaa.Fn
open Go Go.RowKit Go.Proofs.Ytcejfnnimfpahaa.Can Go.Proofs.Ytcejfnnimfpahaa.Base

/-- Where the cursor stands, and the takes that survive. -/
structure St where
  at_ : Spot
  l : List E
/-- What is kept: its list as it lies in memory. -/
structure KE where
  at_ : Spot
  A : Option Addr
  n : Nat
  l : List E
def KE.st (e : KE) : St := ⟨e.at_, e.l⟩
def kval (e : KE) : Value := .agg #[.int .i64 e.at_.at_, .int .i64 e.at_.mode, .slice e.A e.n e.n]
/-- All of a fold. -/
structure FS where
  s : St
  K : Int → Option KE
  own : Option Nat
  A : Option Addr
  n : Nat
  c : Nat
def KR (w : World) (base : Nat) (own : Option Nat) (A : Option Addr) (n : Nat) (l : List E) (e : KE) : Prop :=
  Row eT w (fun k => (base ≤ k ∧ k < w.heap.size) ∧ own ≠ some k) e.A e.n e.l ∨ (e.A = A ∧ e.n ≤ n ∧ e.l = l.take e.n)
structure Fold (w : World) (p b base B : Nat) (F : FS) : Prop where
  str : w.heap[p]? = some (.cells #[.int .i64 F.s.at_.at_, .int .i64 F.s.at_.mode, .slice F.A F.n F.c, .map (some b)] 74 (0, 0))
  map : VMap w b B (fun x => (F.K x).map kval)
  ne : p ≠ b
  pb : p < base
  bb : b < base
  size : base ≤ w.heap.size
  row : Row eT w (fun k => base ≤ k ∧ k < w.heap.size) F.A F.n F.s.l
  cap : F.n ≤ F.c
  nil : F.A = none → F.c = 0
  tail : (F.own = none ∧ F.c = F.n) ∨ (F.own = (Value.slice F.A F.n F.c).ownBlock ∧ Mine eT w base 31 (.slice F.A F.n F.c) F.s.l)
  kept : ∀ x e, F.K x = some e → KR w base F.own F.A F.n F.s.l e
  lenN : F.s.l.length ≤ B
  lenK : ∀ x e, F.K x = some e → e.l.length ≤ B
section
variable {w w' : World} {p b base B : Nat} {F : FS}
theorem KR.row {own : Option Nat} {A : Option Addr} {n : Nat} {l : List E} {e : KE} (h : KR w base own A n l e) (hr : Row eT w (fun k => base ≤ k ∧ k < w.heap.size) A n l) : Row eT w (fun k => base ≤ k ∧ k < w.heap.size) e.A e.n e.l := by
  rcases h with h | ⟨h1, h2, h3⟩
  · exact h.mono fun k hk => hk.1
  · rw [h1, h3]; exact hr.take _ h2
theorem Fold.below (h : Fold w p b base B F) (hb : Below w.heap.size w w') : Fold w' p b base B F := by
  have hz := hb.size
  refine ⟨(hb.block p (blk_lt h.str)).trans h.str, h.map.below hb, h.ne, h.pb, h.bb, Nat.le_trans h.size hz, (h.row.below (fun _ hk => hk.2) hb).mono (fun k hk => ⟨hk.1, by omega⟩), h.cap, h.nil, ?_, fun x e hx => ?_, h.lenN, h.lenK⟩
  · rcases h.tail with ht | ⟨h1, h2⟩
    · exact .inl ht
    · exact .inr ⟨h1, h2.below hb⟩
  · rcases h.kept x e hx with hk | hk
    · exact .inl ((hk.below (fun _ hk => hk.1.2) hb).mono fun k hk => ⟨⟨hk.1.1, by omega⟩, hk.2⟩)
    · exact .inr hk
theorem Fold.more (h : Fold w p b base B F) {B' : Nat} (hB : B ≤ B') : Fold w p b base B' F :=
  ⟨h.str, by obtain ⟨D, h1, h2⟩ := h.map; exact ⟨D, h1.mono hB, h2⟩, h.ne, h.pb, h.bb, h.size, h.row, h.cap, h.nil, h.tail, h.kept, Nat.le_trans h.lenN hB, fun x e hx => Nat.le_trans (h.lenK x e hx) hB⟩
/-- All rows, with nothing that may grow in place. -/
theorem Fold.keptRow (h : Fold w p b base B F) {x : Int} {e : KE} (hx : F.K x = some e) : Row eT w (fun k => base ≤ k ∧ k < w.heap.size) e.A e.n e.l := (h.kept x e hx).row h.row
/-- The struct is written: a list that may not grow in place. -/
theorem Fold.capped (h : Fold w p b base B F) (at_ : Spot) (A : Option Addr) (n : Nat) (l : List E) (hs : w'.heap[p]? = some (.cells #[.int .i64 at_.at_, .int .i64 at_.mode, .slice A n n, .map (some b)] 74 (0, 0)))
    (hf : Fr (fun k => k = p) w w') (hr : Row eT w (fun k => base ≤ k ∧ k < w.heap.size) A n l) (hA : A = none → n = 0) (hl : l.length ≤ B) : Fold w' p b base B ⟨⟨at_, l⟩, F.K, none, A, n, n⟩ := by
  have hz := hf.size
  have hpb := h.pb
  have mv : ∀ {A : Option Addr} {n : Nat} {l : List E}, Row eT w (fun k => base ≤ k ∧ k < w.heap.size) A n l → Row eT w' (fun k => base ≤ k ∧ k < w'.heap.size) A n l := fun hr => (hf.row hr (fun k hk => ⟨hk.2, by show ¬ k = p; omega⟩)).mono fun k hk => ⟨hk.1, by omega⟩
  refine ⟨hs, h.map.move (hf.same b h.map.lt (fun he => h.ne he.symm)), h.ne, h.pb, h.bb, Nat.le_trans h.size hz, mv hr, Nat.le_refl _, hA, .inl ⟨rfl, rfl⟩, fun x e hx => .inl ((mv (h.keptRow hx)).mono fun k hk => ⟨hk, by simp⟩), hl, h.lenK⟩
end

section
variable {P : Program} {ops : Array Oper} {rest : List Oper} {o : Oper} {a : Act} {Q : Exit → Act → World → Prop}
/-- append(l, x), of the fold's list: the lists that are kept stay as they are. -/
theorem fold_append {w U : World} {p b base B : Nat} {F : FS} (h : Fold w p b base B F) (hb : Below w.heap.size w U) (hgd : o.guard = none) (s x : Operand)
    (ho : o.op = .call { callee := .builtin .append, args := #[s, x], argTypes := #[22, 22] })
    (ht : P.underlying 22 = some (.slice 31)) (z : Value) (hinfo : (P.info? 31).map (fun i => (i.zero, i.size, i.bytes)) = some (some z, 8, 64)) (hz : z.cells.size = 8)
    (y : E) (g : Nat) (hs : a.eval s = .slice F.A F.n F.c) (hx : a.eval x = .slice (some ⟨g, 0, none⟩) 1 1) (hg : w.heap.size ≤ g) (hbox : U.heap[g]? = some (.cells (eE y).toArray 31 (0, 0))) (hB : B ≤ 1000000)
    (hK : ∀ A' n' c' own' W, (∀ at_ : Spot, ∀ W', W'.heap[p]? = some (.cells #[.int .i64 at_.at_, .int .i64 at_.mode, .slice A' n' c', .map (some b)] 74 (0, 0)) → Fr (fun k => k = p) W W' → Fold W' p b base (B + 1) ⟨⟨at_, F.s.l ++ [y]⟩, F.K, own', A', n', c'⟩) →
      Below base U W → W.heap[p]? = U.heap[p]? → wpList P ops Q rest (a.put o.dst (.slice A' n' c')) W) :
    wpList P ops Q (o :: rest) a U := by
  obtain ⟨i0, hi, hzz⟩ := Option.map_eq_some_iff.1 hinfo
  simp only [Prod.mk.injEq] at hzz
  obtain ⟨hz0, hz1, hz2⟩ := hzz
  have hU := h.below hb
  have hbs := h.size
  have hbz := hb.size
  have hnl : F.s.l.length = F.n := h.row.1
  have hn1 : F.n ≤ B := by rw [← hnl]; exact h.lenN
  have hone : ∀ u ∈ eE y, u.oneCell' = true := e_one y
  have hnews : ∀ (j : Nat) (u : Value), (eE y)[j]? = some u → U.cell? ((⟨g, 0, none⟩ : Addr).add j) = some u := news_at hbox
  have hgl := blk_lt hbox
  have hpb := h.pb
  have hbb := h.bb
  have fin : ∀ (A' : Option Addr) (n' c' : Nat) (W : World), Mine eT W base 31 (.slice A' n' c') (F.s.l ++ [y]) → Below base U W →
      (∀ x e, F.K x = some e → KR W base (Value.slice A' n' c').ownBlock A' n' (F.s.l ++ [y]) e) → wpList P ops Q rest (a.put o.dst (.slice A' n' c')) W := fun A' n' c' W hM hbW hk => by
    refine hK A' n' c' (Value.slice A' n' c').ownBlock W (fun at_ W' hs' hf => ?_) hbW (hbW.block p hpb)
    have hzW := hf.size
    have hzW2 := hbW.size
    have hM' : Mine eT W' base 31 (.slice A' n' c') (F.s.l ++ [y]) := hM.by hf (by rintro k rfl; exact hpb)
    obtain ⟨A2, n2, c2, he2, hn2, hc2, hA2, hr2⟩ := hM'.formN
    simp only [Value.slice.injEq] at he2
    obtain ⟨rfl, rfl, rfl⟩ := he2
    refine ⟨hs', (hU.more (Nat.le_succ B)).map.move ((hf.same b (by omega) (fun he => h.ne he.symm)).trans (hbW.block b hbb)), h.ne, hpb, hbb, by omega, hr2, hc2, hA2, .inr ⟨rfl, hM'⟩, fun x e hx => ?_, by show (F.s.l ++ [y]).length ≤ B + 1; rw [List.length_append, hnl]; simp; omega, fun x e hx => Nat.le_succ_of_le (h.lenK x e hx)⟩
    rcases hk x e hx with hr | hr
    · exact .inl ((hf.row hr fun k hk => ⟨hk.1.2, by show ¬ k = p; omega⟩).mono fun k hk => ⟨⟨hk.1.1, by omega⟩, hk.2⟩)
    · exact .inr hr
  have grows : F.c = F.n → wpList P ops Q (o :: rest) a U := fun hc => by
    have hs' : a.eval s = .slice F.A F.n F.n := by rw [hs, hc]
    refine append_mine eT e_flat hgd s x 22 31 z 64 ho ht hinfo hz (by decide) (by decide) F.A F.n F.s.l y (eE y) g hs' hx hbox hU.row rfl (by omega) ?_
    intro v1 w1 hM hb1
    have hM0 := hM.lower (b := base) (by omega)
    obtain ⟨A2, n2, c2, rfl, hn2, hc2, hA2, hr2⟩ := hM0.formN
    have hz1 := hb1.size
    refine fin A2 n2 c2 w1 hM0 (hb1.mono (by omega)) fun x e hx => .inl ?_
    refine ((hU.keptRow hx).below (fun _ hk => hk.2) hb1).mono fun k hk => ⟨⟨hk.1, by omega⟩, fun he => ?_⟩
    have := (hM.lt he).2
    omega
  rcases h.tail with ⟨_, hc⟩ | ⟨ho', hM⟩
  · exact grows hc
  · rcases Nat.lt_or_ge F.n F.c with hlt | hge
    · have hM' := hM.below hb
      obtain ⟨g0, hA⟩ : ∃ g0, F.A = some ⟨g0, 0, none⟩ := by
        obtain ⟨inner, hown, _⟩ := hM
        rcases hown.2 with ⟨h0, _⟩ | ⟨g', cap, cur, he, _⟩
        · simp only [Value.slice.injEq] at h0; omega
        · simp only [Value.slice.injEq] at he; exact ⟨g', he.1⟩
      rw [hA] at hM' hs ho'
      have hg0 := hM'.lt (k := g0) rfl
      refine append_room eT e_flat hgd s x 22 31 z 64 ho ht hinfo base g0 F.n F.c F.s.l y (eE y) g hs hx hbox rfl hM' hnl hlt ?_
      intro w1 hM1 hb1 hk1
      have hz1 := hb1.size
      refine fin _ _ _ w1 hM1 hb1 fun x e hx => ?_
      rcases hU.kept x e hx with hr | ⟨r1, r2, r3⟩
      · rw [ho'] at hr
        refine .inl ((hr.move fun k hk => hk1 k hk.1.2 (fun he => hk.2 (by rw [he]; rfl))).mono fun k hk => ⟨⟨hk.1.1, by omega⟩, hk.2⟩)
      · exact .inr ⟨by rw [r1, hA], by omega, by rw [r3, List.take_append_of_le_length (by omega)]⟩
    · exact grows (by have := h.cap; omega)
end
end Go.Proofs.Ytcejfnnimfpahaa.Fn
