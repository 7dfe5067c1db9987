/- Bytes that are written: one, two, a text. -/
import Derived.Test.YtpcnekdilecakaaDoorP0
set_option linter.unusedVariables false
set_option linter.unusedSimpArgs false
namespace Go.Proofs.YtpcnekdilecakaaDoor.Tb
open Go Go.RowKit Go.Proofs.YtpcnekdilecakaaDoor.Can Go.Proofs.YtpcnekdilecakaaDoor.Base
attribute [local go_sem] clsB AB.cell

/-- A writer in memory: at p; v: its bytes. -/
structure Wr (w : World) (base p : Nat) (v : Value) (xs : List UInt8) : Prop where
  obj : w.heap[p]? = some (.cells #[v] 51 (0, 0))
  own : Mine bT w base 5 v xs
  ne : v.ownBlock ≠ some p
  pb : base ≤ p
/-- What a step of it touches. -/
structure Gs (p : Nat) (v : Value) (w : World) (v' : Value) (w' : World) : Prop where
  fr : Fr (fun b => b = p ∨ v.ownBlock = some b) w w'
  at' : v'.ownBlock = v.ownBlock ∨ ∃ g, v'.ownBlock = some g ∧ w.heap.size ≤ g
theorem Wr.bs {w : World} {base p : Nat} {v : Value} {xs : List UInt8} (h : Wr w base p v xs) : base ≤ w.heap.size := Nat.le_trans h.pb (Nat.le_of_lt (blk_lt h.obj))
theorem Gs.refl (p : Nat) (v : Value) (w : World) : Gs p v w v w := ⟨Fr.refl _ _, .inl rfl⟩
theorem Gs.trans {p : Nat} {v v' v'' : Value} {w w' w'' : World} (h : Gs p v w v' w') (k : Gs p v' w' v'' w'') : Gs p v w v'' w'' := by
  have hz := h.fr.size
  refine ⟨⟨h.fr.zero.trans k.fr.zero, fun b hb hx => ?_⟩, ?_⟩
  · refine (k.fr.same b (Nat.lt_of_lt_of_le hb hz) fun hy => ?_).trans (h.fr.same b hb hx)
    rcases hy with hy | hy
    · exact hx (.inl hy)
    · rcases h.at' with h1 | ⟨g, h1, h2⟩
      · exact hx (.inr (h1 ▸ hy))
      · rw [h1] at hy; cases hy; omega
  · rcases k.at' with k1 | ⟨g, k1, k2⟩
    · rw [k1]; exact h.at'
    · exact .inr ⟨g, k1, by omega⟩
theorem Gs.ne {p u : Nat} {v v' : Value} {w w' : World} (h : Gs p v w v' w') (hu : u < w.heap.size) (hv : v.ownBlock ≠ some u) : v'.ownBlock ≠ some u := by
  rcases h.at' with h1 | ⟨g, h1, h2⟩
  · rw [h1]; exact hv
  · rw [h1]; intro e; cases e; omega
theorem Gs.blk {p u : Nat} {v v' : Value} {w w' : World} {o : Obj} (h : Gs p v w v' w') (hu : w.heap[u]? = some o) (hp : u ≠ p) (hv : v.ownBlock ≠ some u) : w'.heap[u]? = some o :=
  h.fr.blk hu fun e => by rcases e with e | e; exact hp e; exact hv e
theorem Gs.below {p base : Nat} {v v' : Value} {w w' : World} {xs : List UInt8} (h : Gs p v w v' w') (hw : Wr w base p v xs) : Below base w w' :=
  h.fr.below hw.bs fun b hb e => by
    rcases e with e | e
    · have := hw.pb; omega
    · have := (hw.own.lt e).2; omega
theorem Wr.below {w w' : World} {base p : Nat} {v : Value} {xs : List UInt8} (h : Wr w base p v xs) (hb : Below w.heap.size w w') : Wr w' base p v xs := ⟨blk_below h.obj hb, h.own.below hb, h.ne, h.pb⟩
theorem Wr.gs {w w' : World} {base p : Nat} {v : Value} {xs : List UInt8} (h : Wr w base p v xs) (hb : Below w.heap.size w w') : Gs p v w v w' := ⟨Fr.of_below hb, .inl rfl⟩
theorem by8_val (n : Int) : (((by8 n).toNat : Nat) : Int) = n % 256 := by
  unfold by8
  rw [UInt8.toNat_ofNat']
  omega
theorem wr_obj {w U w1 : World} {base p : Nat} {v : Value} {xs : List UInt8} (hw : Wr w base p v xs) (hU : Below w.heap.size w U) (hk : ∀ k, k < U.heap.size → v.ownBlock ≠ some k → w1.heap[k]? = U.heap[k]?) : w1.heap[p]? = some (.cells #[v] 51 (0, 0)) :=
  (hk p (Nat.lt_of_lt_of_le (blk_lt hw.obj) hU.size) hw.ne).trans (blk_below hw.obj hU)
theorem wr_store {w U w1 : World} {base p : Nat} {v v1 : Value} {xs ys : List UInt8} (hw : Wr w base p v xs) (hU : Below w.heap.size w U) (hM : Mine bT w1 base 5 v1 ys) (hb : Below base U w1) (hk : ∀ k, k < U.heap.size → v.ownBlock ≠ some k → w1.heap[k]? = U.heap[k]?) (hat : v1.ownBlock = v.ownBlock ∨ v1.ownBlock = some U.heap.size) :
    Wr (w1.setCell ⟨p, 0, none⟩ v1) base p v1 ys ∧ Gs p v w v1 (w1.setCell ⟨p, 0, none⟩ v1) := by
  have hp := blk_lt hw.obj
  have hne : v1.ownBlock ≠ some p := by
    rcases hat with h | h
    · rw [h]; exact hw.ne
    · rw [h]; intro e; cases e; exact absurd hp (Nat.not_lt.2 hU.size)
  have hf : Fr (fun b => b = p ∨ v.ownBlock = some b) w w1 := ⟨(hU.mono (Nat.zero_le _)).trans (hb.mono (Nat.zero_le _)), fun b hb9 hx => (hk b (Nat.lt_of_lt_of_le hb9 hU.size) fun e => hx (.inr e)).trans (hU.block b hb9)⟩
  refine ⟨⟨?_, hM.set (fun k hk e => hne (by rw [← e]; exact hk)) _, hne, hw.pb⟩, ⟨hf.set (.inl (.inl rfl)) 0 v1, ?_⟩⟩
  · exact blk_set (wr_obj hw hU hk) 0 v1 _ rfl
  · rcases hat with h | h
    · exact .inl h
    · exact .inr ⟨_, h, hU.size⟩
theorem row_two {U : World} {g : Nat} {a b : UInt8} {t : TypeId} {fr : Nat × Nat} (h : U.heap[g]? = some (.cells #[.int .u8 ((a.toNat : Nat) : Int), .int .u8 ((b.toNat : Nat) : Int)] t fr)) : Row bT U (fun k => k = g) (some ⟨g, 0, none⟩) 2 [a, b] := by
  refine ⟨rfl, by omega, fun _ => ⟨g, 0, rfl, rfl, fun j p hj => ⟨uE p, rfl, fun i u hu => ?_⟩⟩⟩
  have hi : i = 0 ∧ u = .int .u8 (p.toNat : Int) := by
    cases i with
    | zero => exact ⟨rfl, by simpa [uE] using hu.symm⟩
    | succ i => simp [uE] at hu
  obtain ⟨rfl, rfl⟩ := hi
  match j, hj with
  | 0, hj => obtain rfl : a = p := by simpa using hj
             exact blk_cell h 0 _ rfl
  | 1, hj => obtain rfl : b = p := by simpa using hj
             exact blk_cell h 1 _ rfl
  | j + 2, hj => simp at hj
theorem info8 : (Tryd.prog.info? 5).map (fun i => (i.zero, i.size, i.bytes)) = some (some (.int .u8 0), 1, 1) := by kernel_rfl
set_option maxRecDepth 20000 in
set_option maxHeartbeats 1000000 in
theorem one_calls (w : World) (base p : Nat) (v : Value) (xs : List UInt8) (n : Int) (hw : Wr w base p v xs) (hl : xs.length + 1 ≤ 140737488355328) :
    Calls Tryd.prog 18 #[.pointer (some ⟨p, 0, none⟩), .int .i64 n] w fun e w' => (∃ u, e = .returned u) ∧ ∃ v', Wr w' base p v' (xs ++ w1 n) ∧ Gs p v w v' w' := by
  have HW := Hd.mk hw
  have hx := hw.obj
  have hxc0 := blk_cell hx 0 _ rfl; have hxf0 := blk_frozen hx 0; have hxl := blk_lt hx
  have HL := Hd.mk hl
  clear hw hl
  go_enter Tryd.func18, Tryd.ntmps18
  go_wp2_with (at_builtin; go_must (refine append_snoc bT b_flat rfl (.tmp 8) (.tmp 11) 29 5 (.int .u8 0) 1 rfl Tryd.underlying29 info8 rfl (by decide) (by decide) base v xs (by8 n) [.int .u8 (n % 256)] w.heap.size rfl rfl (blk_new _ _ _ rfl) (by show _ = uE _; unfold uE; rw [by8_val]) (HW.out.own.below (below_alloc (Below.refl _ _) _)) (HW.out.own.ne_new (Nat.le_refl _)) (by rw [size_alloc]; have := HW.out.bs; omega) (by have := HL.out; omega) ?_; intro v1 w9 hM hb hk hat; have HS := Hd.mk (wr_store (U := w.alloc (.cells #[.int .u8 (n % 256)] 5)) HW.out (below_alloc (Below.refl _ _) _) hM hb hk hat); have hy := wr_obj (U := w.alloc (.cells #[.int .u8 (n % 256)] 5)) HW.out (below_alloc (Below.refl _ _) _) hk; have hyc0 := blk_cell hy 0 _ rfl; have hyf0 := blk_frozen hy 0; have hyl := blk_lt hy; clear hxc0 hxf0 hxl; obtain ⟨A9, n9, c9, rfl, -, -, -, -⟩ := hM.formN; clear hx hM hb hk hat))
  go_end0
  exact ⟨⟨_, rfl⟩, _, HS.out.1, HS.out.2⟩
set_option maxRecDepth 20000 in
set_option maxHeartbeats 1000000 in
theorem two_calls (w : World) (base p : Nat) (v : Value) (xs : List UInt8) (n : Int) (hw : Wr w base p v xs) (hl : xs.length + 2 ≤ 140737488355328) :
    Calls Tryd.prog 50 #[.pointer (some ⟨p, 0, none⟩), .int .i64 n] w fun e w' => (∃ u, e = .returned u) ∧ ∃ v', Wr w' base p v' (xs ++ w2 n) ∧ Gs p v w v' w' := by
  have HW := Hd.mk hw
  have hx := hw.obj
  have hxc0 := blk_cell hx 0 _ rfl; have hxf0 := blk_frozen hx 0; have hxl := blk_lt hx
  have HL := Hd.mk hl
  clear hw hl
  go_enter Tryd.func50, Tryd.ntmps50
  go_wp2_with (at_builtin; go_must (refine append_row bT b_flat (S' := fun k => k = w.heap.size) rfl (.tmp 8) (.tmp 14) 29 5 (.int .u8 0) 1 rfl Tryd.underlying29 info8 rfl (by decide) (by decide) base v xs (w2 n) (some ⟨w.heap.size, 0, none⟩) 2 2 rfl rfl (by intro h; cases h) (HW.out.own.below (below_alloc (Below.refl _ _) _)) (row_two (by rw [by8_val, by8_val]; exact blk_new _ _ _ rfl)) (by rintro k rfl; exact ⟨by rw [size_alloc]; omega, HW.out.own.ne_new (Nat.le_refl _)⟩) (by rw [size_alloc]; have := HW.out.bs; omega) (by have := HL.out; omega) ?_; intro v1 w9 hM hb hk hat; have HS := Hd.mk (wr_store (U := w.alloc (.cells #[.int .u8 (n / 256 % 256), .int .u8 (n % 256)] 5)) HW.out (below_alloc (Below.refl _ _) _) hM hb hk hat); have hy := wr_obj (U := w.alloc (.cells #[.int .u8 (n / 256 % 256), .int .u8 (n % 256)] 5)) HW.out (below_alloc (Below.refl _ _) _) hk; have hyc0 := blk_cell hy 0 _ rfl; have hyf0 := blk_frozen hy 0; have hyl := blk_lt hy; clear hxc0 hxf0 hxl; obtain ⟨A9, n9, c9, rfl, -, -, -, -⟩ := hM.formN; clear hx hM hb hk hat))
  go_end0
  exact ⟨⟨_, rfl⟩, _, HS.out.1, HS.out.2⟩
set_option maxRecDepth 20000 in
set_option maxHeartbeats 1000000 in
theorem text_calls (w : World) (base p : Nat) (v : Value) (xs : List UInt8) (s : ByteArray) (hw : Wr w base p v xs) (hl : xs.length + 1 + s.size ≤ 140737488355328) :
    Calls Tryd.prog 19 #[.pointer (some ⟨p, 0, none⟩), .string s] w fun e w' => (∃ u, e = .returned u) ∧ ∃ v', Wr w' base p v' (xs ++ wtext s) ∧ Gs p v w v' w' := by
  have hsz : s.size ≤ 9223372036854775807 := by omega
  have HJ := Hd.mk (one_calls w base p v xs s.size hw (by omega))
  have HL := Hd.mk hl
  clear hw hl
  go_enter Tryd.func19, Tryd.ntmps19
  go_wp2_with (first
    | (go_at_call 18; go_must (refine Calls.mono HJ.out ?_; rintro e wa ⟨⟨u, rfl⟩, v1, hw1, hg1⟩; have HW := Hd.mk hw1; have HG := Hd.mk hg1; have hx := hw1.obj; have hxc0 := blk_cell hx 0 _ rfl; have hxf0 := blk_frozen hx 0; have hxl := blk_lt hx; clear hw1 hg1))
    | (at_builtin; go_must (refine append_strA rfl (.tmp 12) (.tmp 13) 29 9 5 rfl Tryd.underlying29 Tryd.underlying9 info8 base v1 (xs ++ w1 s.size) s rfl rfl HW.out.own HW.out.bs (by have := HL.out; rw [List.length_append]; show _ + 1 + _ ≤ _; omega) ?_; intro v2 w9 hM hb hk hat; have HS := Hd.mk (wr_store HW.out (Below.refl _ _) hM hb hk hat); have hy := wr_obj HW.out (Below.refl _ _) hk; have hyc0 := blk_cell hy 0 _ rfl; have hyf0 := blk_frozen hy 0; have hyl := blk_lt hy; clear hxc0 hxf0 hxl; obtain ⟨A9, n9, c9, rfl, -, -, -, -⟩ := hM.formN; clear hx hM hb hk hat)))
  go_end0
  exact ⟨⟨_, rfl⟩, _, by have := HS.out.1; rw [List.append_assoc] at this; exact this, HG.out.trans HS.out.2⟩
end Go.Proofs.YtpcnekdilecakaaDoor.Tb
