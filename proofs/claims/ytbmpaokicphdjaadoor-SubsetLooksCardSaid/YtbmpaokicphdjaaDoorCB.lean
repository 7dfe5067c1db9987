/- Texts: C4, C5, C6, C7. -/
import Derived.Test.YtbmpaokicphdjaaDoorCA
import Derived.Laws.EntriesVeiled
set_option linter.unusedVariables false
set_option linter.unusedSimpArgs false
/- The walk over an automaton: what it has met, and what waits; meet, from. -/
namespace Go.Proofs.YtbmpaokicphdjaaDoor.Fn
open Go Go.RowKit Go.Proofs.YtbmpaokicphdjaaDoor.Can Go.Proofs.YtbmpaokicphdjaaDoor.Base
attribute [local go_sem] clsB AB.cell

/-- What has been met, and what waits: behind one more. -/
def meetP (n : Nat) (s : List Nat × List Int) (k : Int) : List Nat × List Int := (addW n s.1 k, if addO n s.1 k = true then s.2 ++ [k] else s.2)
def wkV (st : Int) (A : Option Addr) (n c g K : Nat) (v : Value) : Array Value := #[.int .i64 st, .slice A n c, .slice (some ⟨g, 0, none⟩) K K, .int .i64 n, v]
structure Wk (w : World) (base p g : Nat) (st : Int) (A : Option Addr) (n c : Nat) (v : Value) (s : List Nat × List Int) : Prop where
  obj : w.heap[p]? = some (.cells (wkV st A n c g ((n + 63) / 64) v) 117 (0, 0))
  wd : Wd w (some ⟨g, 0, none⟩) g s.1
  ok : Wok n s.1
  wt : Mine I w base 3 v s.2
  pg : ¬ p = g
  vp : v.ownBlock ≠ some p
  vg : v.ownBlock ≠ some g
  bp : base ≤ p
  bg : base ≤ g
  gl : g < w.heap.size
  wl : s.2.length ≤ (elemsI s.1).length
/-- The blocks that it turns. -/
def TX (p g : Nat) (v : Value) (b : Nat) : Prop := b = p ∨ b = g ∨ v.ownBlock = some b
structure Met (w w' : World) (p g : Nat) (v v' : Value) : Prop where
  fr : Fr (TX p g v) w w'
  own : ∀ b, v'.ownBlock = some b → v.ownBlock = some b ∨ w.heap.size ≤ b
theorem Met.refl (w : World) (p g : Nat) (v : Value) : Met w w p g v v := ⟨Fr.refl _ _, fun _ h => .inl h⟩
theorem Met.trans {a b c : World} {p g : Nat} {v v' v'' : Value} (h : Met a b p g v v') (k : Met b c p g v' v'') : Met a c p g v v'' :=
  ⟨⟨h.fr.zero.trans k.fr.zero, fun x hx hn => (k.fr.same x (Nat.lt_of_lt_of_le hx h.fr.size) (fun ht => by
      rcases ht with ht | ht | ht
      · exact hn (.inl ht)
      · exact hn (.inr (.inl ht))
      · rcases h.own x ht with h2 | h2
        · exact hn (.inr (.inr h2))
        · omega)).trans (h.fr.same x hx hn)⟩,
    fun x hx => by
      rcases k.own x hx with h2 | h2
      · exact h.own x h2
      · exact .inr (Nat.le_trans h.fr.size h2)⟩
theorem Met.of_below {a b c : World} {p g : Nat} {v v' : Value} (hb : Below a.heap.size a b) (k : Met b c p g v v') : Met a c p g v v' :=
  ⟨⟨(hb.mono (Nat.zero_le _)).trans k.fr.zero, fun x hx hn => (k.fr.same x (Nat.lt_of_lt_of_le hx hb.size) hn).trans (hb.block x hx)⟩, fun x hx => by
    rcases k.own x hx with h2 | h2
    · exact .inl h2
    · exact .inr (Nat.le_trans hb.size h2)⟩
theorem Wk.met {w w' : World} {base p g n c : Nat} {st : Int} {A : Option Addr} {v v' : Value} {s : List Nat × List Int} (h : Wk w base p g st A n c v s) (hm : Met w w' p g v v') (hb : base ≤ w.heap.size) : Below base w w' :=
  hm.fr.below hb fun b hb ht => by
    rcases ht with ht | ht | ht
    · have := h.bp; omega
    · have := h.bg; omega
    · have := (h.wt.lt ht).2; omega
theorem Wk.below {w w' : World} {base p g n c : Nat} {st : Int} {A : Option Addr} {v : Value} {s : List Nat × List Int} (h : Wk w base p g st A n c v s) (hb : Below w.heap.size w w') : Wk w' base p g st A n c v s :=
  ⟨blk_below h.obj hb, h.wd.below hb, h.ok, h.wt.below hb, h.pg, h.vp, h.vg, h.bp, h.bg, Nat.lt_of_lt_of_le h.gl hb.size, h.wl⟩
theorem elemsI_mono {n : Nat} {ws : List Nat} (h : Wok n ws) (k : Int) : (elemsI (addW n ws k)).length = (elemsI ws).length + (if addO n ws k = true then 1 else 0) := by
  rcases add_len h k with ⟨h1, h2⟩ | ⟨h1, h2⟩
  · rw [h2, h1, if_pos rfl]
  · rw [h2, h1]; rfl
set_option maxHeartbeats 2000000 in
theorem meet_calls (base p g n c : Nat) (st : Int) (A : Option Addr) (v : Value) (s : List Nat × List Int) (k : Int) (w : World) (h : Wk w base p g st A n c v s) (hb : base ≤ w.heap.size) :
    Calls Tryd.prog 106 #[.pointer (some ⟨p, 0, none⟩), .int .i64 k] w fun e w' => (∃ u, e = .returned u) ∧ ∃ v', Wk w' base p g st A n c v' (meetP n s k) ∧ Met w w' p g v v' := by
  have hel := elemsI_len h.ok
  have hobj := h.obj
  have hok := h.ok
  have hwl := h.wl
  obtain ⟨ws, Wt⟩ := s
  dsimp only at hel hok hwl
  have hlen := hok.len
  obtain ⟨K, hK⟩ : ∃ K, (n + 63) / 64 = K := ⟨_, rfl⟩
  unfold wkV at hobj
  rw [hK] at hobj hlen
  have HW := Hd.mk h; have HB := Hd.mk hb; have HK := Hd.mk hK; have HOBJ := Hd.mk hobj; have HLEN := Hd.mk hlen
  have HADD := Hd.mk (add_calls (some ⟨g, 0, none⟩) K g n k ws w hok h.wd)
  rw [hlen] at HADD
  have hpl := blk_lt hobj
  have hgl := h.gl
  have hpg := h.pg
  have hobjc0 := blk_cell hobj 0 _ rfl; have hobjf0 := blk_frozen hobj 0; have hobjc1 := blk_cell hobj 1 _ rfl; have hobjf1 := blk_frozen hobj 1; have hobjc2 := blk_cell hobj 2 _ rfl; have hobjf2 := blk_frozen hobj 2; have hobjc3 := blk_cell hobj 3 _ rfl; have hobjf3 := blk_frozen hobj 3; have hobjc4 := blk_cell hobj 4 _ rfl; have hobjf4 := blk_frozen hobj 4; have hobjl := blk_lt hobj
  clear h hb hK hok hlen
  cases ho : addO n ws k with
  | false =>
    have HO := Hd.mk ho
    rw [ho] at HADD
    clear ho
    go_enter Tryd.func106, Tryd.ntmps106
    go_wp2_with (go_at_call 21; go_must (refine Calls.mono HADD.out ?_; rintro e w2 ⟨rfl, hf2, hw2⟩; have HF2 := Hd.mk (hf2.mono (Y := fun b => b = g) (fun _ h => h.1)); have HW2 := Hd.mk hw2; clear hf2 hw2))
    go_end0
    refine ⟨⟨_, rfl⟩, v, ?_, ⟨HF2.out.mono fun b h => .inr (.inl h), fun _ h => .inl h⟩⟩
    have e : meetP n (ws, Wt) k = (addW n ws k, Wt) := by unfold meetP; rw [HO.out]; rfl
    rw [e]
    have hlen9 := elemsI_mono HW.out.ok k
    dsimp only at hlen9
    rw [HO.out] at hlen9
    exact ⟨HF2.out.blk HW.out.obj hpg, HW2.out, HW.out.ok.add k, (HW.out.wt.move (fun b hb => HF2.out.same b (by rcases hb with hb | hb; exact hb.elim; exact (HW.out.wt.lt hb).1) (fun h => by have h' : b = g := h; rcases hb with hb | hb; exact hb.elim; exact HW.out.vg (h' ▸ hb))) HF2.out.size), hpg, HW.out.vp, HW.out.vg, HW.out.bp, HW.out.bg, Nat.lt_of_lt_of_le hgl HF2.out.size, by dsimp only; rw [hlen9]; exact hwl⟩
  | true =>
    have HO := Hd.mk ho
    rw [ho] at HADD
    clear ho
    go_enter Tryd.func106, Tryd.ntmps106
    go_wp2_with (first
      | (have hq_ := HMN; clear hq_; at_builtin; go_must (refine append_snoc I (Ty.int_flat _) rfl (.tmp 14) (.tmp 16) 24 3 _ 8 rfl Tryd.underlying24 info3 rfl (by decide) (by decide) base v Wt k [.int .i64 k] w2.heap.size rfl rfl (blk_new _ _ _ rfl) rfl (HMN.out.below (below_alloc (Below.refl _ _) _)) (HMN.out.ne_new (Nat.le_refl _)) (by rw [size_alloc]; have := HB.out; omega) (by omega) ?_; intro v2 w3 hM3 hb3 hk3 hat3; obtain ⟨A3, n3, c3, rfl, -, -, -, -⟩ := hM3.formN; have HM3 := Hd.mk hM3; have HK3 := Hd.mk hk3; have HAT3 := Hd.mk hat3; have HB3 := Hd.mk hb3; have hp3 := (hk3 p (by rw [size_alloc]; omega) HW.out.vp).trans (blk_alloc hp2 _); have hp3l := blk_lt hp3; clear hp2c0 hp2f0 hp2c1 hp2f1 hp2c2 hp2f2 hp2c3 hp2f3 hp2c4 hp2f4 hp2l; have hp3c0 := blk_cell hp3 0 _ rfl; have hp3f0 := blk_frozen hp3 0; have hp3c1 := blk_cell hp3 1 _ rfl; have hp3f1 := blk_frozen hp3 1; have hp3c2 := blk_cell hp3 2 _ rfl; have hp3f2 := blk_frozen hp3 2; have hp3c3 := blk_cell hp3 3 _ rfl; have hp3f3 := blk_frozen hp3 3; have hp3c4 := blk_cell hp3 4 _ rfl; have hp3f4 := blk_frozen hp3 4; have hp3l := blk_lt hp3; clear hM3 hk3 hat3 hb3))
      | (go_at_call 21; go_must (refine Calls.mono HADD.out ?_; rintro e w2 ⟨rfl, hf2, hw2⟩; have HF2 := Hd.mk (hf2.mono (Y := fun b => b = g) (fun _ h => h.1)); have HW2 := Hd.mk hw2; have h2z := hf2.size; have hp2 := HF2.out.blk HOBJ.out hpg; clear hobjc0 hobjf0 hobjc1 hobjf1 hobjc2 hobjf2 hobjc3 hobjf3 hobjc4 hobjf4 hobjl; have hp2c0 := blk_cell hp2 0 _ rfl; have hp2f0 := blk_frozen hp2 0; have hp2c1 := blk_cell hp2 1 _ rfl; have hp2f1 := blk_frozen hp2 1; have hp2c2 := blk_cell hp2 2 _ rfl; have hp2f2 := blk_frozen hp2 2; have hp2c3 := blk_cell hp2 3 _ rfl; have hp2f3 := blk_frozen hp2 3; have hp2c4 := blk_cell hp2 4 _ rfl; have hp2f4 := blk_frozen hp2 4; have hp2l := blk_lt hp2; have HMN : Hd (Mine I w2 base 3 v Wt) := ⟨HW.out.wt.move (fun b hb => HF2.out.same b (by rcases hb with hb | hb; exact hb.elim; exact (HW.out.wt.lt hb).1) (fun h => by have h' : b = g := h; rcases hb with hb | hb; exact hb.elim; exact HW.out.vg (h' ▸ hb))) HF2.out.size⟩; clear hf2 hw2)))
    go_end0
    have e : meetP n (ws, Wt) k = (addW n ws k, Wt ++ [k]) := by unfold meetP; rw [HO.out]; rfl
    rw [e]
    have hlen9 := elemsI_mono HW.out.ok k
    dsimp only at hlen9
    rw [HO.out, if_pos rfl] at hlen9
    have hw3 : w2.heap.size + 1 ≤ w3.heap.size := by have := HB3.out.size; rw [size_alloc] at this; exact this
    have hown3 : ∀ b, (Value.slice A3 n3 c3).ownBlock = some b → v.ownBlock = some b ∨ w2.heap.size + 1 ≤ b := fun b hb => by
      rcases HAT3.out with h1 | h1
      · rw [h1] at hb; exact .inl hb
      · rw [h1, size_alloc] at hb; cases hb; exact .inr (Nat.le_refl _)
    have hg3 := (HK3.out g (by rw [size_alloc]; omega) HW.out.vg).trans (Below.heap_alloc w2 (.cells #[.int .i64 k] 3) g (by omega))
    have hn3p : (Value.slice A3 n3 c3).ownBlock ≠ some p := fun h => by rcases hown3 p h with h2 | h2; exact HW.out.vp h2; omega
    have hn3g : (Value.slice A3 n3 c3).ownBlock ≠ some g := fun h => by rcases hown3 g h with h2 | h2; exact HW.out.vg h2; omega
    refine ⟨⟨_, rfl⟩, .slice A3 n3 c3, ⟨?_, ?_, HW.out.ok.add k, ?_, hpg, hn3p, hn3g, HW.out.bp, HW.out.bg, by rw [size_set]; omega, ?_⟩, ⟨?_, ?_⟩⟩
    · rw [HK.out]; exact blk_set hp3 4 _ _ rfl
    · exact (HW2.out.move hg3).move (Below.heap_setCell _ _ _ _ (by show ¬ g = p; exact fun e => hpg e.symm))
    · exact HM3.out.set (fun b hb he => hn3p (by rw [hb, he])) _
    · dsimp only
      rw [List.length_append, hlen9]
      exact Nat.add_le_add_right hwl 1
    · refine Fr.set (X := TX p g v) ⟨(HF2.out.zero.trans ((below_alloc (Below.refl _ _) _).mono (Nat.zero_le _))).trans (HB3.out.mono (Nat.zero_le _)), fun b hb hx => ?_⟩ (.inl (.inl rfl)) _ _
      refine (HK3.out b (by rw [size_alloc]; omega) (fun h => hx (.inr (.inr h)))).trans ((Below.heap_alloc w2 _ b (by omega)).trans (HF2.out.same b hb (fun h => hx (.inr (.inl h)))))
    · intro b hb
      rcases hown3 b hb with h1 | h1
      · exact .inl h1
      · exact .inr (by omega)
end Go.Proofs.YtbmpaokicphdjaaDoor.Fn

/- from: a walk begins; quiet, anyhow: what goes on from a state. -/
namespace Go.Proofs.YtbmpaokicphdjaaDoor.Fn
open Go Go.RowKit Go.Proofs.YtbmpaokicphdjaaDoor.Can Go.Proofs.YtbmpaokicphdjaaDoor.Base
attribute [local go_sem] clsB AB.cell

/-- A walk's beginning. -/
def fromP (n : Nat) (l : List Int) : List Nat × List Int := l.foldl (meetP n) (List.replicate ((n + 63) / 64) 0, [])
theorem fromP_snoc (n : Nat) (l : List Int) (k : Int) : fromP n (l ++ [k]) = meetP n (fromP n l) k := by simp [fromP]
set_option maxHeartbeats 1000000 in
theorem from_calls (st : Int) (A : Option Addr) (n c : Nat) (Al : Option Addr) (nl cl : Nat) (l : List Int) (Sl : Nat → Prop) (w : World) (hSl : ∀ k, Sl k → k < w.heap.size) (hl : Row I w Sl Al nl l) (hn : n ≤ 65536) :
    Calls Tryd.prog 80 #[.agg #[.int .i64 st, .slice A n c], .slice Al nl cl] w fun e w' => ∃ p g v, e = .returned (.pointer (some ⟨p, 0, none⟩)) ∧ Wk w' w.heap.size p g st A n c v (fromP n l) ∧ Below w.heap.size w w' := by
  have hmN := hl.le
  have h7 := new_calls (n : Int)
  rw [roomR_id hn] at h7
  have H7 := Hd.mk h7; have HL := Hd.mk hl; have HSL := Hd.mk hSl
  clear h7 hl hSl
  obtain ⟨K, hK⟩ : ∃ K, (n + 63) / 64 = K := ⟨_, rfl⟩
  rw [hK] at H7
  have HK := Hd.mk hK
  clear hK
  go_enter Tryd.func80, Tryd.ntmps80
  go_wp2
  generalize hV : World.alloc _ _ = V
  have HBV : Below w.heap.size w V := below_of hV (by repeat (first | (with_reducible assumption) | (with_reducible exact Below.refl _ _) | (with_reducible apply below_drewL) | (with_reducible apply below_alloc) | (with_reducible apply below_drew1) | (with_reducible apply below_drewN) | (refine below_set ?_ (by first | omega | (simp only [size_alloc, size_drew, size_set]; omega)) _ _)))
  have zV : Hd (V.heap.size = w.heap.size + 1) := ⟨by rw [← hV]; simp only [size_alloc]⟩
  have V0 := at_of hV (blk_new _ _ _ rfl)
  have V0l := blk_lt V0
  clear hV
  have V0c0 := blk_cell V0 0 _ rfl; have V0f0 := blk_frozen V0 0; have V0c1 := blk_cell V0 1 _ rfl; have V0f1 := blk_frozen V0 1; have V0l := blk_lt V0
  have HV := Hd.mk HBV
  have HV0 := Hd.mk V0
  clear zV HBV
  refine wp_region_can (.q [0, 1, 2, 3] (.e 4 true (.q [5] (.e 6 false (.q [7] (.done)))))) (clsB _) (by kernel_rfl) (by kernel_rfl) (by intro _ _ d _ _ h; cases d <;> exact h) (clsB_drew _) ?_
  refine can_q (l := [⟨_,_,_,_,_,_⟩, ⟨_,_,_,_,_,_⟩, ⟨_,_,_,_,_,_⟩, ⟨_,_,_,_,_,_⟩]) rfl ?_
  repeat (go_big_quiet_step (fail))
  refine wpQuiet_nil ?_
  refine can_e (o := ⟨_,_,_,_,_,_⟩) rfl (fun K hK => ?_)
  go_wp2_with (go_at_call 27; go_must (refine Calls.mono (H7.out _) ?_; rintro e w1 ⟨g, rfl, hg, hgl, hw, hb⟩; have HW1 := Hd.mk hw; have HB1 := Hd.mk (below_undrew hb); clear hw hb))
  refine onK_normal (hK _ _ ⟨clsB _, clsB_of (by first | exact (HB1.out) | exact below_undrew (HB1.out)), fun _ _ h => h, ?_⟩)
  clear hK K
  refine can_q (l := [⟨_,_,_,_,_,_⟩]) rfl ?_
  repeat (go_big_quiet_step (fail))
  refine wpQuiet_nil ?_
  refine can_e (o := ⟨_,_,_,_,_,_⟩) rfl (fun K hK => ?_)
  go_wp2_with fail
  refine onK_normal (hK _ _ ⟨fun _ => True, trivial, (fun h => by cases h), ?_⟩)
  clear hK K
  refine can_q (l := [⟨_,_,_,_,_,_⟩]) rfl ?_
  repeat (go_big_quiet_step (fail))
  refine wpQuiet_nil ?_
  refine can_done ?_
  rw [size_drew] at hg
  generalize hX : World.alloc w1 _ = X
  have hz1 := HB1.out.size
  have hzV := HV.out.size
  have HW0 : Hd (Wk X w.heap.size w1.heap.size g st A n c (.slice none 0 0) (fromP n (l.take 0))) := ⟨by
    rw [List.take_zero]
    refine ⟨by rw [← hX, HK.out]; exact blk_new _ _ _ rfl, ?_, Wok.made hn, Mine.nil _ _ _ _, by omega, by simp [Value.ownBlock], by simp [Value.ownBlock], by omega, by omega, by rw [← hX, size_alloc]; omega, Nat.zero_le _⟩
    rw [← hX]
    show Wd _ _ _ (List.replicate ((n + 63) / 64) 0)
    rw [HK.out]
    exact HW1.out.below (below_alloc (Below.refl _ _) _)⟩
  have HBX : Hd (Below w.heap.size w X) := ⟨by rw [← hX]; exact below_alloc (below_seq HV.out HB1.out) _⟩
  have hwX : w.heap.size ≤ X.heap.size := HBX.out.size
  clear hX hgl
  obtain ⟨p, hp⟩ : ∃ p, w1.heap.size = p := ⟨_, rfl⟩
  rw [hp] at HW0 ⊢
  clear hp hz1 hg hzV
  clear V0c0 V0f0 V0c1 V0f1 V0l
  clear V0 V0l
  go_wp2
  go_loopw [17] (fun i wr => ∃ (k : Nat) (v : Value), k ≤ nl ∧ i = .int .i64 k ∧ Hd (Wk wr w.heap.size p g st A n c v (fromP n (l.take k))) ∧ Hd (Below w.heap.size w wr)) (fun i _ => nl - (intOf i).toNat)
  case atStart => exact ⟨0, _, Nat.zero_le _, rfl, HW0, HBX⟩
  case round =>
    clear HW0 HBX
    obtain ⟨k, v, hk, rfl, HW, HB⟩ := hrel
    by_cases hlt : k < nl
    · obtain ⟨b, off, y, rfl, _, hb, hy, hcell⟩ := (HL.out.below HSL.out HB.out).get_int k hlt
      have HT : Hd (l.take (k + 1) = l.take k ++ [y]) := ⟨by rw [List.take_add_one, hy]; rfl⟩
      clear hy
      go_wp2_with (go_at_call 106; go_must (refine Calls.mono (meet_calls w.heap.size p g n c st A v (fromP n (l.take k)) y wr HW.out HB.out.size) ?_; rintro e w2 ⟨⟨u, rfl⟩, v2, hw2, hm2⟩; have HW2 := Hd.mk hw2; have HM2 := Hd.mk hm2; clear hw2 hm2))
      go_roundw
      case rel => exact ⟨k + 1, v2, by omega, by go_num, ⟨by rw [HT.out, fromP_snoc]; exact HW2.out⟩, ⟨HB.out.trans (HW.out.met HM2.out HB.out.size)⟩⟩
      case measure => simp [intOf]; omega
    · obtain rfl : k = nl := by omega
      go_wp2
      go_ret
      exact ⟨p, g, v, rfl, by have := HW.out; rwa [← HL.out.1, List.take_length] at this, HB.out⟩
/-- The function value that meets. -/
def meetF (p : Nat) : Value := .func (.func 106) #[.pointer (some ⟨p, 0, none⟩)] #[]
/-- A state's value. -/
def stV (x : St) (A : Option Addr) (m c : Nat) : Value := .agg #[.int .i64 x.lo, .int .i64 x.hi, .int .i64 x.dst, .slice A m c, .int .i64 x.tag]
set_option maxHeartbeats 1000000 in
theorem quiet_calls (x : St) (Ae : Option Addr) (ce : Nat) (Se : Nat → Prop) (base p g n c : Nat) (st : Int) (A : Option Addr) (v : Value) (s : List Nat × List Int) (w : World) (hSe : ∀ k, Se k → k < base) (he : Row I w Se Ae x.eps.length x.eps) (h : Wk w base p g st A n c v s) (hb : base ≤ w.heap.size) :
    Calls Tryd.prog 82 #[stV x Ae x.eps.length ce, meetF p] w fun e w' => (∃ u, e = .returned u) ∧ ∃ v', Wk w' base p g st A n c v' (x.eps.foldl (meetP n) s) ∧ Met w w' p g v v' := by
  unfold stV meetF
  obtain ⟨m, hm⟩ : ∃ m, x.eps.length = m := ⟨_, rfl⟩
  rw [hm] at he ⊢
  have hmN := he.le
  have HE := Hd.mk he; have HSE := Hd.mk hSe; have HM := Hd.mk hm; have H := Hd.mk h; have HB := Hd.mk hb
  clear he hSe hm h hb
  obtain ⟨lo, hi, dst, eps, tag⟩ := x
  dsimp only at *
  go_enter Tryd.func82, Tryd.ntmps82
  go_wp2
  generalize hV : World.alloc _ _ = V
  have HBV : Below w.heap.size w V := below_of hV (by repeat (first | (with_reducible assumption) | (with_reducible exact Below.refl _ _) | (with_reducible apply below_drewL) | (with_reducible apply below_alloc) | (with_reducible apply below_drew1) | (with_reducible apply below_drewN) | (refine below_set ?_ (by first | omega | (simp only [size_alloc, size_drew, size_set]; omega)) _ _)))
  have zV : Hd (V.heap.size = w.heap.size + 1) := ⟨by rw [← hV]; simp only [size_alloc]⟩
  have V0 := at_of hV (blk_new _ _ _ rfl)
  have V0l := blk_lt V0
  clear hV
  have V0c0 := blk_cell V0 0 _ rfl; have V0f0 := blk_frozen V0 0; have V0c1 := blk_cell V0 1 _ rfl; have V0f1 := blk_frozen V0 1; have V0c2 := blk_cell V0 2 _ rfl; have V0f2 := blk_frozen V0 2; have V0c3 := blk_cell V0 3 _ rfl; have V0f3 := blk_frozen V0 3; have V0c4 := blk_cell V0 4 _ rfl; have V0f4 := blk_frozen V0 4; have V0l := blk_lt V0
  have HV := Hd.mk HBV
  clear zV HBV
  go_wp2
  clear V0c0 V0f0 V0c1 V0f1 V0c2 V0f2 V0c3 V0f3 V0c4 V0f4 V0l
  clear V0 V0l
  go_loopw [9] (fun i wr => ∃ (k : Nat) (v2 : Value), k ≤ m ∧ i = .int .i64 k ∧ Hd (Wk wr base p g st A n c v2 ((eps.take k).foldl (meetP n) s)) ∧ Hd (Met w wr p g v v2)) (fun i _ => m - (intOf i).toNat)
  case atStart => exact ⟨0, v, Nat.zero_le _, rfl, ⟨by rw [List.take_zero]; exact H.out.below HV.out⟩, ⟨Met.of_below HV.out (Met.refl _ _ _ _)⟩⟩
  case round =>
    obtain ⟨k, v2, hk, rfl, HW, HMT⟩ := hrel
    have HBW : Hd (Below base w wr) := ⟨H.out.met HMT.out HB.out⟩
    by_cases hlt : k < m
    · obtain ⟨b, off, y, rfl, _, hb, hy, hcell⟩ := (HE.out.move (fun q hq => HBW.out.block q (HSE.out q hq))).get_int k hlt
      have HT : Hd (eps.take (k + 1) = eps.take k ++ [y]) := ⟨by rw [List.take_add_one, hy]; rfl⟩
      clear hy
      go_wp2_with (go_at_call 106; go_must (refine Calls.mono (meet_calls base p g n c st A v2 _ y wr HW.out (Nat.le_trans HB.out HBW.out.size)) ?_; rintro e w2 ⟨⟨u, rfl⟩, v3, hw2, hm2⟩; have HW2 := Hd.mk hw2; have HM2 := Hd.mk hm2; clear hw2 hm2))
      go_roundw
      case rel => exact ⟨k + 1, v3, by omega, by go_num, ⟨by rw [HT.out, List.foldl_append]; exact HW2.out⟩, ⟨HMT.out.trans HM2.out⟩⟩
      case measure => simp [intOf]; omega
    · obtain rfl : k = m := by omega
      go_wp2
      go_end0
      exact ⟨⟨_, rfl⟩, v2, by have := HW.out; rwa [← HM.out, List.take_length] at this, HMT.out⟩
end Go.Proofs.YtbmpaokicphdjaaDoor.Fn

/- What a walk meets: the plain law; a row that is cut. -/
namespace Go.Proofs.YtbmpaokicphdjaaDoor.Fn
open Go Go.RowKit Go.Proofs.YtbmpaokicphdjaaDoor.Can Go.Proofs.YtbmpaokicphdjaaDoor.Base

theorem cut_low {α : Type} {P : Program} (T : Ty α) (t e : TypeId) {i : TypeInfo} (ht : P.underlying t = some (.slice e)) (hi : P.info? e = some i) (b o n c m : Nat) (hm : m ≤ n) (hc : n ≤ c) :
    ∀ (W : World) (kh : IntKind), (Instr.slice t (.slice (some ⟨b, o, none⟩) n c) none (some (.int kh (m : Int))) none).run P W = .ok (.slice (some ⟨b, o, none⟩) m c) W := by
  intro W kh
  have hel : P.elem t = e := by simp [Program.elem, ht]
  have hu : P.underlying t = some (.slice (P.elem t)) := by rw [hel]; exact ht
  have ha : (⟨b, o, none⟩ : Addr).add 0 = ⟨b, o, none⟩ := by unfold Addr.add; simp
  rw [run_slice_h W t _ n c hu kh m (by omega) (by omega), hel]
  simp [sizeOf, typeInfo, hi, sliced, Result.andThen, ha]
theorem Mine.cut {α : Type} {T : Ty α} {w : World} {base g n c m : Nat} {e : TypeId} {xs : List α} (h : Mine T w base e (.slice (some ⟨g, 0, none⟩) n c) xs) (hn : xs.length = n) (hm : m ≤ n) : Mine T w base e (.slice (some ⟨g, 0, none⟩) m c) (xs.take m) := by
  obtain ⟨inner, ho, hc, hs⟩ := h
  have hmin : (xs.take m).length = m := by rw [List.length_take]; omega
  refine ⟨inner.take (m * T.sz), ?_, ⟨?_, fun j p hj => ?_⟩, fun _ h => h.elim⟩
  · rw [hmin]
    refine ⟨?_, ?_⟩
    · rw [List.length_take, ho.1, hn, Nat.min_eq_left (Nat.mul_le_mul_right _ hm)]
    · rcases ho.2 with ⟨h0, _⟩ | ⟨g', cap, cur, he, hb, hh, hcap, hcm, hcs, ht⟩
      · cases h0
      · cases he
        refine .inr ⟨_, _, cur, rfl, hb, hh, by omega, hcm, hcs, ?_⟩
        rw [← ht, List.take_take, hn, Nat.min_eq_left (Nat.mul_le_mul_right _ hm)]
  · rw [hmin, List.length_take, hc.1, hn, Nat.min_eq_left (Nat.mul_le_mul_right _ hm)]
  · have hj2 : xs[j]? = some p ∧ j < m := by
      rw [List.getElem?_take] at hj
      split at hj
      · exact ⟨hj, by assumption⟩
      · cases hj
    have := hc.2 j p hj2.1
    rwa [List.drop_take, List.take_take, Nat.min_eq_left (by
      have : (j + 1) * T.sz ≤ m * T.sz := Nat.mul_le_mul_right _ hj2.2
      rw [Nat.succ_mul] at this
      omega)]

/-! ### Meeting a list -/
theorem meet_bit {n : Nat} {s : List Nat × List Int} (h : Wok n s.1) (k : Int) (i : Nat) : bitAt (meetP n s k).1 i = (bitAt s.1 i || decide (inR n k ∧ (i : Int) = k)) := bit_add h k i
theorem meet_fold {n : Nat} (l : List Int) : ∀ {s : List Nat × List Int}, Wok n s.1 → s.2.length + 2 * (n - (elemsI s.1).length) ≥ (l.foldl (meetP n) s).2.length + 2 * (n - (elemsI (l.foldl (meetP n) s).1).length) ∧ Wok n (l.foldl (meetP n) s).1 ∧
    (∀ i : Nat, bitAt (l.foldl (meetP n) s).1 i = true ↔ (bitAt s.1 i = true ∨ ((i : Int) ∈ l ∧ i < n))) ∧ (∀ y, y ∈ (l.foldl (meetP n) s).2 ↔ (y ∈ s.2 ∨ (y ∈ l ∧ inR n y ∧ bitAt s.1 y.toNat = false))) := by
  have hle : ∀ {ws : List Nat}, Wok n ws → (elemsI ws).length ≤ n := fun {ws} h => by
    have hn : (elems ws).Nodup := (elems_sorted ws).imp (fun h => by omega)
    have := hn.length_le_of_subset (l₂ := List.range n) (fun x hx => by
      rw [List.mem_range]
      rcases Nat.lt_or_ge x n with h1 | h1
      · exact h1
      · have := (mem_elems h x).1 hx
        rw [h.top x h1] at this
        cases this)
    unfold elemsI
    rwa [List.length_map, ← List.length_range (n := n)]
  induction l with
  | nil => intro s h; exact ⟨Nat.le_refl _, h, fun i => by simp, fun y => by simp⟩
  | cons k l ih =>
    intro s h
    have h1 : Wok n (meetP n s k).1 := h.add k
    obtain ⟨a, b, c, d⟩ := ih h1
    rw [List.foldl_cons]
    refine ⟨?_, b, fun i => ?_, fun y => ?_⟩
    · refine Nat.le_trans a ?_
      have hl := elemsI_mono h k
      have hl1 := hle h1
      unfold meetP at hl1 ⊢
      dsimp only at hl1 ⊢
      rw [hl] at hl1 ⊢
      split
      · rw [List.length_append, List.length_singleton]
        rename_i ho
        rw [if_pos ho] at hl1
        omega
      · omega
    · rw [c, meet_bit h]
      simp only [Bool.or_eq_true, decide_eq_true_eq, List.mem_cons]
      unfold inR
      constructor
      · rintro ((h2 | ⟨h2, h3⟩) | ⟨h2, h3⟩)
        · exact .inl h2
        · exact .inr ⟨.inl h3, by omega⟩
        · exact .inr ⟨.inr h2, h3⟩
      · rintro (h2 | ⟨h2 | h2, h3⟩)
        · exact .inl (.inl h2)
        · exact .inl (.inr ⟨by omega, h2⟩)
        · exact .inr ⟨h2, h3⟩
    · rw [d]
      have hO : addO n s.1 k = true ↔ (inR n k ∧ bitAt s.1 k.toNat = false) := by
        unfold addO
        rw [Bool.and_eq_true, decide_eq_true_eq, Bool.not_eq_true']
      have hm2 : y ∈ (meetP n s k).2 ↔ (y ∈ s.2 ∨ (y = k ∧ inR n k ∧ bitAt s.1 k.toNat = false)) := by
        unfold meetP
        dsimp only
        split
        · rename_i ho
          rw [List.mem_append, List.mem_singleton]
          exact ⟨fun h2 => by rcases h2 with h2 | h2; exact .inl h2; exact .inr ⟨h2, hO.1 ho⟩, fun h2 => by rcases h2 with h2 | h2; exact .inl h2; exact .inr h2.1⟩
        · rename_i ho
          exact ⟨.inl, fun h2 => by rcases h2 with h2 | h2; exact h2; exact absurd (hO.2 h2.2) ho⟩
      rw [hm2, meet_bit h]
      simp only [Bool.or_eq_false_iff, decide_eq_false_iff_not, List.mem_cons]
      constructor
      · rintro ((h2 | ⟨rfl, h3⟩) | ⟨h2, h3, h4, h5⟩)
        · exact .inl h2
        · exact .inr ⟨.inl rfl, h3⟩
        · exact .inr ⟨.inr h2, h3, h4⟩
      · rintro (h2 | ⟨h2 | h2, h3, h4⟩)
        · exact .inl (.inl h2)
        · subst h2; exact .inl (.inr ⟨rfl, h3, h4⟩)
        · by_cases hyk : y = k
          · subst hyk; exact .inl (.inr ⟨rfl, h3, h4⟩)
          · refine .inr ⟨h2, h3, h4, fun h5 => hyk ?_⟩
            have := h3.1
            have := h5.2
            omega
/-- What goes on from the states that wait is still to be met. -/
structure Fol (q : List St) (tg : St → List Int) (E : Nat → Nat → Prop) (X : Nat → Prop) (s : List Nat × List Int) : Prop where
  ok : Wok q.length s.1
  a : ∀ k ∈ s.2, inR q.length k ∧ bitAt s.1 k.toNat = true
  b : ∀ i, X i → bitAt s.1 i = true
  c : ∀ i, bitAt s.1 i = true → Cl E X i
  d : ∀ i k, bitAt s.1 i = true → (i : Int) ∉ s.2 → E i k → bitAt s.1 k = true
def Tells (q : List St) (tg : St → List Int) (E : Nat → Nat → Prop) : Prop := ∀ i k, E i k ↔ ∃ x, q[i]? = some x ∧ (k : Int) ∈ tg x
theorem Fol.start {q : List St} {tg : St → List Int} {E : Nat → Nat → Prop} (hn : q.length ≤ 65536) (l : List Int) : Fol q tg E (fun i => (i : Int) ∈ l ∧ i < q.length) (fromP q.length l) := by
  obtain ⟨_, h2, h3, h4⟩ := meet_fold (n := q.length) l (s := (List.replicate ((q.length + 63) / 64) 0, [])) (Wok.made hn)
  have hb : ∀ i : Nat, bitAt (fromP q.length l).1 i = true ↔ ((i : Int) ∈ l ∧ i < q.length) := fun i => by
    have := h3 i
    dsimp only at this
    rw [made_bit _ _ hn] at this
    unfold fromP
    simpa using this
  have hm : ∀ y, y ∈ (fromP q.length l).2 ↔ (y ∈ l ∧ inR q.length y) := fun y => by
    have := h4 y
    dsimp only at this
    rw [made_bit _ _ hn] at this
    unfold fromP
    simpa using this
  refine ⟨h2, fun k hk => ?_, fun i hi => (hb i).2 hi, fun i hi => .base ((hb i).1 hi), fun i k hi hni _ => ?_⟩
  · have := (hm k).1 hk
    refine ⟨this.2, (hb _).2 ⟨?_, ?_⟩⟩
    · have h0 := this.2.1
      rw [Int.toNat_of_nonneg h0]
      exact this.1
    · have := this.2; unfold inR at this; omega
  · have := (hb i).1 hi
    exact absurd ((hm _).2 ⟨this.1, by unfold inR; omega⟩) hni
theorem Fol.round {q : List St} {tg : St → List Int} {E : Nat → Nat → Prop} {X : Nat → Prop} {ws : List Nat} {Wt : List Int} {k : Nat} {x : St} (hT : Tells q tg E) (hs : Stays E q.length) (h : Fol q tg E X (ws, Wt ++ [(k : Int)])) (hx : q[k]? = some x) :
    Fol q tg E X ((tg x).foldl (meetP q.length) (ws, Wt)) ∧ ((tg x).foldl (meetP q.length) (ws, Wt)).2.length + 2 * (q.length - (elemsI ((tg x).foldl (meetP q.length) (ws, Wt)).1).length) < (Wt ++ [(k : Int)]).length + 2 * (q.length - (elemsI ws).length) := by
  obtain ⟨h1, h2, h3, h4⟩ := meet_fold (n := q.length) (tg x) (s := (ws, Wt)) h.ok
  dsimp only at h1 h3 h4
  have hk := h.a k (by simp)
  have hkb : bitAt ws k = true := by have := hk.2; rwa [Int.toNat_natCast] at this
  refine ⟨⟨h2, fun y hy => ?_, fun i hi => (h3 i).2 (.inl (h.b i hi)), fun i hi => ?_, fun i j hi hni he => ?_⟩, ?_⟩
  · rcases (h4 y).1 hy with h5 | ⟨h5, h6, h7⟩
    · have := h.a y (by simp [h5])
      exact ⟨this.1, (h3 _).2 (.inl this.2)⟩
    · refine ⟨h6, (h3 _).2 (.inr ⟨?_, ?_⟩)⟩
      · rw [Int.toNat_of_nonneg h6.1]; exact h5
      · unfold inR at h6; omega
  · rcases (h3 i).1 hi with h5 | ⟨h5, h6⟩
    · exact h.c i h5
    · exact .step (h.c k hkb) ((hT k i).2 ⟨x, hx, h5⟩)
  · have hj := hs _ _ he
    rcases (h3 i).1 hi with h5 | ⟨h5, h6⟩
    · by_cases hik : i = k
      · subst hik
        obtain ⟨x', hx', hm⟩ := (hT i j).1 he
        rw [hx] at hx'
        cases hx'
        exact (h3 j).2 (.inr ⟨hm, hj⟩)
      · refine (h3 j).2 (.inl (h.d i j h5 (fun hm => ?_) he))
        rcases List.mem_append.1 hm with hm | hm
        · exact hni ((h4 _).2 (.inl hm))
        · rw [List.mem_singleton] at hm; omega
    · by_cases hb : bitAt ws i = true
      · by_cases hik : i = k
        · subst hik
          obtain ⟨x', hx', hm⟩ := (hT i j).1 he
          rw [hx] at hx'
          cases hx'
          exact (h3 j).2 (.inr ⟨hm, hj⟩)
        · refine (h3 j).2 (.inl (h.d i j hb (fun hm => ?_) he))
          rcases List.mem_append.1 hm with hm | hm
          · exact hni ((h4 _).2 (.inl hm))
          · rw [List.mem_singleton] at hm; omega
      · exact absurd ((h4 (i : Int)).2 (.inr ⟨h5, by unfold inR; omega, by rw [Int.toNat_natCast]; exact Bool.not_eq_true _ ▸ hb⟩)) hni
  · rw [List.length_append, List.length_singleton]
    omega
theorem Fol.done {q : List St} {tg : St → List Int} {E : Nat → Nat → Prop} {X : Nat → Prop} {ws : List Nat} (h : Fol q tg E X (ws, [])) (i : Nat) : bitAt ws i = true ↔ Cl E X i :=
  ⟨h.c i, fun hc => hc.least h.b fun a b ha he => h.d a b ha (by simp) he⟩
end Go.Proofs.YtbmpaokicphdjaaDoor.Fn

/- anyhow; follow. -/
namespace Go.Proofs.YtbmpaokicphdjaaDoor.Fn
open Go Go.RowKit Go.Proofs.YtbmpaokicphdjaaDoor.Can Go.Proofs.YtbmpaokicphdjaaDoor.Base
attribute [local go_sem] clsB AB.cell

def quietT (x : St) : List Int := x.eps
def anyT (x : St) : List Int := x.eps ++ (if 0 ≤ x.lo then [x.dst] else [])
theorem quiet_tells (q : List St) : Tells q quietT (epsE q) := fun _ _ => Iff.rfl
theorem any_tells (q : List St) : Tells q anyT (anyE q) := fun i k => by
  unfold anyE anyT
  constructor
  · rintro ⟨x, hx, h | ⟨h1, h2⟩⟩
    · exact ⟨x, hx, List.mem_append_left _ h⟩
    · exact ⟨x, hx, List.mem_append_right _ (by rw [if_pos h1, h2]; exact List.mem_singleton.2 rfl)⟩
  · rintro ⟨x, hx, h⟩
    refine ⟨x, hx, ?_⟩
    rcases List.mem_append.1 h with h | h
    · exact .inl h
    · split at h
      · exact .inr ⟨by assumption, (List.mem_singleton.1 h).symm⟩
      · cases h
set_option maxHeartbeats 1000000 in
theorem any_calls (x : St) (Ae : Option Addr) (ce : Nat) (Se : Nat → Prop) (base p g n c : Nat) (st : Int) (A : Option Addr) (v : Value) (s : List Nat × List Int) (w : World) (hSe : ∀ k, Se k → k < base) (he : Row I w Se Ae x.eps.length x.eps) (h : Wk w base p g st A n c v s) (hb : base ≤ w.heap.size) :
    Calls Tryd.prog 83 #[stV x Ae x.eps.length ce, meetF p] w fun e w' => (∃ u, e = .returned u) ∧ ∃ v', Wk w' base p g st A n c v' ((anyT x).foldl (meetP n) s) ∧ Met w w' p g v v' := by
  have HQ := Hd.mk (quiet_calls x Ae ce Se base p g n c st A v s (w.alloc (.cells #[.int .i64 x.lo, .int .i64 x.hi, .int .i64 x.dst, .slice Ae x.eps.length ce, .int .i64 x.tag] 71)) hSe (he.move (fun q hq => Below.heap_alloc w _ q (by have := hSe q hq; omega))) (h.below (below_alloc (Below.refl _ _) _)) (by rw [size_alloc]; omega))
  have HA : Hd (anyT x = x.eps ++ (if 0 ≤ x.lo then [x.dst] else [])) := ⟨rfl⟩
  unfold stV meetF at *
  obtain ⟨m, hm⟩ : ∃ m, x.eps.length = m := ⟨_, rfl⟩
  rw [hm] at HQ ⊢
  have H := Hd.mk h; have HB := Hd.mk hb
  have hpl := blk_lt h.obj
  have hgl := h.gl
  have hvl : ∀ b, v.ownBlock = some b → b < w.heap.size := fun b hb => (h.wt.lt hb).1
  have HVL := Hd.mk hvl
  clear he hSe hm h hb hvl
  go_enter Tryd.func83, Tryd.ntmps83
  by_cases hlo : 0 ≤ x.lo
  · have e1 : anyT x = x.eps ++ [x.dst] := by rw [HA.out, if_pos hlo]
    rw [e1, List.foldl_append]
    go_wp2_with (first
      | (go_at_call 106; have hq_ := HW2; clear hq_; go_must (refine Calls.mono (meet_calls base p g n c st A v2 _ x.dst w2 HW2.out (by have := HM2.out.fr.size; rw [size_alloc] at this; have := HB.out; omega)) ?_; rintro e w3 ⟨⟨u, rfl⟩, v3, hw3, hm3⟩; have HW3 := Hd.mk hw3; have HM3 := Hd.mk hm3; clear hw3 hm3))
      | (go_at_call 82; go_must (refine Calls.mono HQ.out ?_; rintro e w2 ⟨⟨u, rfl⟩, v2, hw2, hm2⟩; have HW2 := Hd.mk hw2; have HM2 := Hd.mk hm2; have hx2 := hm2.fr.blk (blk_new w (.cells #[.int .i64 x.lo, .int .i64 x.hi, .int .i64 x.dst, .slice Ae m ce, .int .i64 x.tag] 71) _ rfl) (fun h => by rcases h with h | h | h; omega; omega; have := HVL.out _ h; omega); have hx2c0 := blk_cell hx2 0 _ rfl; have hx2f0 := blk_frozen hx2 0; have hx2c1 := blk_cell hx2 1 _ rfl; have hx2f1 := blk_frozen hx2 1; have hx2c2 := blk_cell hx2 2 _ rfl; have hx2f2 := blk_frozen hx2 2; have hx2c3 := blk_cell hx2 3 _ rfl; have hx2f3 := blk_frozen hx2 3; have hx2c4 := blk_cell hx2 4 _ rfl; have hx2f4 := blk_frozen hx2 4; have hx2l := blk_lt hx2; clear hw2 hm2)))
    go_end0
    exact ⟨⟨_, rfl⟩, v3, HW3.out, Met.of_below (below_alloc (Below.refl _ _) _) (HM2.out.trans HM3.out)⟩
  · have e1 : anyT x = x.eps := by rw [HA.out, if_neg hlo, List.append_nil]
    rw [e1]
    go_wp2_with (go_at_call 82; go_must (refine Calls.mono HQ.out ?_; rintro e w2 ⟨⟨u, rfl⟩, v2, hw2, hm2⟩; have HW2 := Hd.mk hw2; have HM2 := Hd.mk hm2; have hx2 := hm2.fr.blk (blk_new w (.cells #[.int .i64 x.lo, .int .i64 x.hi, .int .i64 x.dst, .slice Ae m ce, .int .i64 x.tag] 71) _ rfl) (fun h => by rcases h with h | h | h; omega; omega; have := HVL.out _ h; omega); have hx2c0 := blk_cell hx2 0 _ rfl; have hx2f0 := blk_frozen hx2 0; have hx2c1 := blk_cell hx2 1 _ rfl; have hx2f1 := blk_frozen hx2 1; have hx2c2 := blk_cell hx2 2 _ rfl; have hx2f2 := blk_frozen hx2 2; have hx2c3 := blk_cell hx2 3 _ rfl; have hx2f3 := blk_frozen hx2 3; have hx2c4 := blk_cell hx2 4 _ rfl; have hx2f4 := blk_frozen hx2 4; have hx2l := blk_lt hx2; clear hw2 hm2))
    go_end0
    exact ⟨⟨_, rfl⟩, v2, HW2.out, Met.of_below (below_alloc (Below.refl _ _) _) HM2.out⟩
set_option maxRecDepth 20000 in
set_option maxHeartbeats 2000000 in
theorem followQ (base p g c : Nat) (st : Int) (A : Option Addr) (q : List St) (v : Value) (s : List Nat × List Int) (S : Nat → Prop) (E : Nat → Nat → Prop) (X : Nat → Prop) (w : World) (hS : ∀ k, S k → k < base) (hC : Row stT w S A q.length q) (h : Wk w base p g st A q.length c v s) (hb : base ≤ w.heap.size) (hT : Tells q quietT E) (hs : Stays E q.length) (hF : Fol q quietT E X s) :
    Calls Tryd.prog 81 #[.pointer (some ⟨p, 0, none⟩), .func (.func 82) #[] #[]] w fun e w' => (∃ u, e = .returned u) ∧ ∃ v' ws, Wk w' base p g st A q.length c v' (ws, []) ∧ Fol q quietT E X (ws, []) ∧ Below base w w' := by
  have hmf : ∀ (fn : Fn) (first cap : Array Value) (w : World), (Instr.makeFunc fn first cap).run Tryd.prog w = .ok (.func fn first cap) w := fun _ _ _ _ => rfl
  obtain ⟨i0, hi, _, hsz, _⟩ := info_of info3
  obtain ⟨n, hn⟩ : ∃ n, q.length = n := ⟨_, rfl⟩
  rw [hn] at hC h ⊢
  have HC := Hd.mk hC; have HS := Hd.mk hS; have H := Hd.mk h; have HB := Hd.mk hb; have HT := Hd.mk hT; have HST := Hd.mk hs; have HF := Hd.mk hF; have HN := Hd.mk hn
  have hmN := hC.le
  have HI := Hd.mk hi; have HSZ := Hd.mk hsz
  clear hC hS h hb hT hs hF hn hi hsz
  go_enter Tryd.func81, Tryd.ntmps81
  go_wp2
  go_loopg [] (s.2.length + 2 * (n - (elemsI s.1).length)) (fun gk wr => ∃ (v1 : Value) (s1 : List Nat × List Int), Hd (Wk wr base p g st A n c v1 s1) ∧ Hd (Fol q quietT E X s1) ∧ Hd (gk = s1.2.length + 2 * (n - (elemsI s1.1).length)) ∧ Hd (Below base w wr))
  case atStart => exact ⟨v, s, H, HF, ⟨rfl⟩, ⟨Below.refl _ _⟩⟩
  case round =>
    obtain ⟨v1, ⟨ws, Wt⟩, HW, HFo, HG, HBw⟩ := hrel
    obtain ⟨A1, n1, c1, rfl, hn1, hc1, hA1, hr1⟩ := HW.out.wt.formN
    have hobj := HW.out.obj
    unfold wkV at hobj
    have hel := elemsI_len HW.out.ok
    have hwl := HW.out.wl
    dsimp only at hn1 hr1 hel hwl
    have hn1s : n1 ≤ 70400 := by omega
    have HN1 := Hd.mk hn1; have HR1 := Hd.mk hr1
    clear hel hwl hn1 hr1 hA1
    obtain ⟨K, hK⟩ : ∃ K, (n + 63) / 64 = K := ⟨_, rfl⟩
    rw [hK] at hobj
    clear hK
    have hobjc0 := blk_cell hobj 0 _ rfl; have hobjf0 := blk_frozen hobj 0; have hobjc1 := blk_cell hobj 1 _ rfl; have hobjf1 := blk_frozen hobj 1; have hobjc2 := blk_cell hobj 2 _ rfl; have hobjf2 := blk_frozen hobj 2; have hobjc3 := blk_cell hobj 3 _ rfl; have hobjf3 := blk_frozen hobj 3; have hobjc4 := blk_cell hobj 4 _ rfl; have hobjf4 := blk_frozen hobj 4; have hobjl := blk_lt hobj
    by_cases h0 : 0 < n1
    · obtain ⟨m1, rfl⟩ : ∃ m, n1 = m + 1 := ⟨n1 - 1, by omega⟩
      obtain ⟨b1, o1, y, rfl, hb1, hbl1, hy, hcy⟩ := HR1.out.get_int m1 (by omega)
      have HWT : Hd (Wt = Wt.take m1 ++ [y]) := ⟨by
        have := List.take_add_one (l := Wt) (i := m1)
        rw [hy, List.take_of_length_le (by rw [← HN1.out]; exact Nat.le_refl _)] at this
        exact this⟩
      have hyr := (HFo.out.a y (List.mem_of_getElem? hy)).1
      rw [HN.out] at hyr
      obtain ⟨k, rfl⟩ : ∃ k : Nat, y = k := ⟨y.toNat, by unfold inR at hyr; omega⟩
      have hkn : k < n := by unfold inR at hyr; omega
      have hsub : ((m1 : Int) + 1) - 1 = (m1 : Int) := by omega
      have hcut := cut_low I 24 3 Tryd.underlying24 HI.out b1 o1 (m1 + 1) c1 m1 (by omega) hc1
      have hcut1 : ∀ W, (Instr.slice 24 (.slice (some ⟨b1, o1, none⟩) (m1 + 1) c1) none (some (.int .i64 (m1 : Int))) none).run Tryd.prog W = .ok (.slice (some ⟨b1, o1, none⟩) m1 c1) W := fun W => hcut W .i64
      clear hcut hy hyr
      have ho1 : o1 = 0 := by
        obtain ⟨_, ho, _, _⟩ := HW.out.wt
        rcases ho.2 with ⟨h, _⟩ | ⟨_, _, _, h, _⟩
        · cases h
        · simp only [Value.slice.injEq, Option.some.injEq, Addr.mk.injEq, and_true] at h
          exact h.1.2
      subst ho1
      rw [Nat.zero_add] at hcy
      obtain ⟨b, off, x, A', c', rfl, hb, hx, h0x, h1x, h2x, h3x, h4x, hrow⟩ := st_get (HC.out.move (fun q hq => HBw.out.block q (HS.out q hq))) k hkn
      have HX := Hd.mk hx
      have HSB : Hd (b < base) := ⟨by
        obtain ⟨b', off', cs', he', hs', _⟩ := HC.out.get k hkn
        cases he'
        exact HS.out b hs'⟩
      have HROW := Hd.mk hrow
      obtain ⟨ne, hne⟩ : ∃ m, x.eps.length = m := ⟨_, rfl⟩
      rw [hne] at h3x
      have HNE := Hd.mk hne
      have hpw := HW.out.bp
      have hpl := blk_lt HW.out.obj
      have hzw := HBw.out.size
      clear hx hrow hne
      go_wp2
      refine wp_region_can (.q [0, 1, 2, 3, 4, 5, 6, 7, 8, 9, 10, 11, 12] (.done)) (clsB _) (by kernel_rfl) (by kernel_rfl) (by intro _ _ d _ _ h; cases d <;> exact h) (clsB_drew _) ?_
      refine can_q (l := [⟨_,_,_,_,_,_⟩, ⟨_,_,_,_,_,_⟩, ⟨_,_,_,_,_,_⟩, ⟨_,_,_,_,_,_⟩, ⟨_,_,_,_,_,_⟩, ⟨_,_,_,_,_,_⟩, ⟨_,_,_,_,_,_⟩, ⟨_,_,_,_,_,_⟩, ⟨_,_,_,_,_,_⟩, ⟨_,_,_,_,_,_⟩, ⟨_,_,_,_,_,_⟩, ⟨_,_,_,_,_,_⟩, ⟨_,_,_,_,_,_⟩]) rfl ?_
      repeat (go_big_quiet_step (fail))
      refine wpQuiet_nil ?_
      refine can_done ?_
      obtain ⟨D, hD⟩ : ∃ D, wr.drew = D := ⟨_, rfl⟩
      rw [hD]
      have hobjD := at_of hD (blk_drew hobj)
      have HD := Hd.mk hD
      clear hD
      have hobjDc0 := blk_cell hobjD 0 _ rfl; have hobjDf0 := blk_frozen hobjD 0; have hobjDc1 := blk_cell hobjD 1 _ rfl; have hobjDf1 := blk_frozen hobjD 1; have hobjDc2 := blk_cell hobjD 2 _ rfl; have hobjDf2 := blk_frozen hobjD 2; have hobjDc3 := blk_cell hobjD 3 _ rfl; have hobjDf3 := blk_frozen hobjD 3; have hobjDc4 := blk_cell hobjD 4 _ rfl; have hobjDf4 := blk_frozen hobjD 4; have hobjDl := blk_lt hobjD
      go_wp2
      refine wp_region_can (.q [0, 1, 2, 3, 4, 5, 6, 7, 8, 9, 10, 11, 12, 13] (.e 14 false (.done))) (clsB _) (by kernel_rfl) (by kernel_rfl) (by intro _ _ d _ _ h; cases d <;> exact h) (clsB_drew _) ?_
      refine can_q (l := [⟨_,_,_,_,_,_⟩, ⟨_,_,_,_,_,_⟩, ⟨_,_,_,_,_,_⟩, ⟨_,_,_,_,_,_⟩, ⟨_,_,_,_,_,_⟩, ⟨_,_,_,_,_,_⟩, ⟨_,_,_,_,_,_⟩, ⟨_,_,_,_,_,_⟩, ⟨_,_,_,_,_,_⟩, ⟨_,_,_,_,_,_⟩, ⟨_,_,_,_,_,_⟩, ⟨_,_,_,_,_,_⟩, ⟨_,_,_,_,_,_⟩, ⟨_,_,_,_,_,_⟩]) rfl ?_
      repeat (go_big_quiet_step (fail))
      refine wpQuiet_nil ?_
      refine can_e (o := ⟨_,_,_,_,_,_⟩) rfl (fun K hK => ?_)
      go_wp2_with fail
      refine onK_normal (hK _ _ ⟨fun _ => True, trivial, (fun h => by cases h), ?_⟩)
      clear hK K
      refine can_done ?_
      generalize hX : World.drew _ = Y
      have hYb : ∀ z, z ≠ p → Y.heap[z]? = wr.heap[z]? := fun z hz => by rw [← hX, ← HD.out]; exact Below.heap_setCell wr ⟨p, 4, none⟩ _ z hz
      have hYz : Y.heap.size = wr.heap.size := by rw [← hX, size_drew, size_set, ← HD.out, size_drew]
      have HWY : Hd (Wk Y base p g st (some ⟨b, off, none⟩) n c (.slice (some ⟨b1, 0, none⟩) m1 c1) (ws, Wt.take m1)) := ⟨by
        have hvp := HW.out.vp
        have hvg := HW.out.vg
        refine ⟨?_, HW.out.wd.move (hYb g (fun e => HW.out.pg e.symm)), HW.out.ok, ((Mine.cut HW.out.wt HN1.out.symm (Nat.le_succ _)).mv (fun z hz => hYb z (fun e => hvp (by rw [← e]; exact hz))) (by omega)), HW.out.pg, fun h => hvp h, fun h => hvg h, HW.out.bp, HW.out.bg, by have := HW.out.gl; omega, ?_⟩
        · rw [← hX, ← HD.out]
          exact blk_set HW.out.obj 4 _ _ rfl
        · have := HW.out.wl
          dsimp only at this ⊢
          rw [List.length_take]
          omega⟩
      have HBY : Hd (Below base w Y) := ⟨HBw.out.trans (by rw [← hX, ← HD.out]; exact below_drew1 ((below_drew1 (Below.refl base wr)).setCell (p := ⟨p, 4, none⟩) hpw _))⟩
      have hcY : ∀ i, Y.cell? ⟨b, i, none⟩ = wr.cell? ⟨b, i, none⟩ := fun i => World.cell?_of_block (w := wr) (hYb b (by have := HSB.out; omega))
      rw [← hcY] at h0x h1x h2x h3x h4x
      have hbY : b < Y.heap.size := by omega
      have hpY := HWY.out.obj
      unfold wkV at hpY
      have HRY := Hd.mk (HROW.out.move (w' := Y) (fun z hz => hYb z (by have := HS.out z hz; omega)))
      have hzB := HB.out
      clear hX hYb hcY hcut1
      clear hobjc0 hobjf0 hobjc1 hobjf1 hobjc2 hobjf2 hobjc3 hobjf3 hobjc4 hobjf4 hobjl
      clear hobjDc0 hobjDf0 hobjDc1 hobjDf1 hobjDc2 hobjDf2 hobjDc3 hobjDf3 hobjDc4 hobjDf4 hobjDl
      clear hobj hobjD
      have hpYc0 := blk_cell hpY 0 _ rfl; have hpYf0 := blk_frozen hpY 0; have hpYc1 := blk_cell hpY 1 _ rfl; have hpYf1 := blk_frozen hpY 1; have hpYc2 := blk_cell hpY 2 _ rfl; have hpYf2 := blk_frozen hpY 2; have hpYc3 := blk_cell hpY 3 _ rfl; have hpYf3 := blk_frozen hpY 3; have hpYc4 := blk_cell hpY 4 _ rfl; have hpYf4 := blk_frozen hpY 4; have hpYl := blk_lt hpY
      go_wp2_with (go_at_call 82; go_must (have h9 := quiet_calls x A' c' S base p g n c st (some ⟨b, off, none⟩) (.slice (some ⟨b1, 0, none⟩) m1 c1) (ws, Wt.take m1) Y HS.out HRY.out HWY.out (by omega); unfold stV meetF at h9; rw [HNE.out] at h9; refine Calls.mono h9 ?_; clear h9; rintro e w2 ⟨⟨u, rfl⟩, v3, hw3, hm3⟩; have HW3 := Hd.mk hw3; have HM3 := Hd.mk hm3; clear hw3 hm3))
      have HF2 : Hd (Fol q quietT E X (ws, Wt.take m1 ++ [(k : Int)])) := ⟨by rw [← HWT.out]; exact HFo.out⟩
      have HRD := Hd.mk (HF2.out.round HT.out HST.out HX.out)
      rw [HN.out] at HRD
      go_roundg (((quietT x).foldl (meetP n) (ws, Wt.take m1)).2.length + 2 * (n - (elemsI ((quietT x).foldl (meetP n) (ws, Wt.take m1)).1).length))
      case measure =>
        rw [HG.out]
        refine Nat.lt_of_lt_of_le HRD.out.2 ?_
        rw [← HWT.out]
        exact Nat.le_refl _
      case rel => exact ⟨v3, _, HW3, ⟨HRD.out.1⟩, ⟨rfl⟩, ⟨HBY.out.trans (HWY.out.met HM3.out (by omega))⟩⟩
    · obtain rfl : n1 = 0 := by omega
      obtain rfl : Wt = [] := List.eq_nil_of_length_eq_zero HN1.out.symm
      go_wp2
      go_end0
      exact ⟨⟨_, rfl⟩, _, ws, HW.out, HFo.out, HBw.out⟩
set_option maxRecDepth 20000 in
set_option maxHeartbeats 2000000 in
theorem followA (base p g c : Nat) (st : Int) (A : Option Addr) (q : List St) (v : Value) (s : List Nat × List Int) (S : Nat → Prop) (E : Nat → Nat → Prop) (X : Nat → Prop) (w : World) (hS : ∀ k, S k → k < base) (hC : Row stT w S A q.length q) (h : Wk w base p g st A q.length c v s) (hb : base ≤ w.heap.size) (hT : Tells q anyT E) (hs : Stays E q.length) (hF : Fol q anyT E X s) :
    Calls Tryd.prog 81 #[.pointer (some ⟨p, 0, none⟩), .func (.func 83) #[] #[]] w fun e w' => (∃ u, e = .returned u) ∧ ∃ v' ws, Wk w' base p g st A q.length c v' (ws, []) ∧ Fol q anyT E X (ws, []) ∧ Below base w w' := by
  have hmf : ∀ (fn : Fn) (first cap : Array Value) (w : World), (Instr.makeFunc fn first cap).run Tryd.prog w = .ok (.func fn first cap) w := fun _ _ _ _ => rfl
  obtain ⟨i0, hi, _, hsz, _⟩ := info_of info3
  obtain ⟨n, hn⟩ : ∃ n, q.length = n := ⟨_, rfl⟩
  rw [hn] at hC h ⊢
  have HC := Hd.mk hC; have HS := Hd.mk hS; have H := Hd.mk h; have HB := Hd.mk hb; have HT := Hd.mk hT; have HST := Hd.mk hs; have HF := Hd.mk hF; have HN := Hd.mk hn
  have hmN := hC.le
  have HI := Hd.mk hi; have HSZ := Hd.mk hsz
  clear hC hS h hb hT hs hF hn hi hsz
  go_enter Tryd.func81, Tryd.ntmps81
  go_wp2
  go_loopg [] (s.2.length + 2 * (n - (elemsI s.1).length)) (fun gk wr => ∃ (v1 : Value) (s1 : List Nat × List Int), Hd (Wk wr base p g st A n c v1 s1) ∧ Hd (Fol q anyT E X s1) ∧ Hd (gk = s1.2.length + 2 * (n - (elemsI s1.1).length)) ∧ Hd (Below base w wr))
  case atStart => exact ⟨v, s, H, HF, ⟨rfl⟩, ⟨Below.refl _ _⟩⟩
  case round =>
    obtain ⟨v1, ⟨ws, Wt⟩, HW, HFo, HG, HBw⟩ := hrel
    obtain ⟨A1, n1, c1, rfl, hn1, hc1, hA1, hr1⟩ := HW.out.wt.formN
    have hobj := HW.out.obj
    unfold wkV at hobj
    have hel := elemsI_len HW.out.ok
    have hwl := HW.out.wl
    dsimp only at hn1 hr1 hel hwl
    have hn1s : n1 ≤ 70400 := by omega
    have HN1 := Hd.mk hn1; have HR1 := Hd.mk hr1
    clear hel hwl hn1 hr1 hA1
    obtain ⟨K, hK⟩ : ∃ K, (n + 63) / 64 = K := ⟨_, rfl⟩
    rw [hK] at hobj
    clear hK
    have hobjc0 := blk_cell hobj 0 _ rfl; have hobjf0 := blk_frozen hobj 0; have hobjc1 := blk_cell hobj 1 _ rfl; have hobjf1 := blk_frozen hobj 1; have hobjc2 := blk_cell hobj 2 _ rfl; have hobjf2 := blk_frozen hobj 2; have hobjc3 := blk_cell hobj 3 _ rfl; have hobjf3 := blk_frozen hobj 3; have hobjc4 := blk_cell hobj 4 _ rfl; have hobjf4 := blk_frozen hobj 4; have hobjl := blk_lt hobj
    by_cases h0 : 0 < n1
    · obtain ⟨m1, rfl⟩ : ∃ m, n1 = m + 1 := ⟨n1 - 1, by omega⟩
      obtain ⟨b1, o1, y, rfl, hb1, hbl1, hy, hcy⟩ := HR1.out.get_int m1 (by omega)
      have HWT : Hd (Wt = Wt.take m1 ++ [y]) := ⟨by
        have := List.take_add_one (l := Wt) (i := m1)
        rw [hy, List.take_of_length_le (by rw [← HN1.out]; exact Nat.le_refl _)] at this
        exact this⟩
      have hyr := (HFo.out.a y (List.mem_of_getElem? hy)).1
      rw [HN.out] at hyr
      obtain ⟨k, rfl⟩ : ∃ k : Nat, y = k := ⟨y.toNat, by unfold inR at hyr; omega⟩
      have hkn : k < n := by unfold inR at hyr; omega
      have hsub : ((m1 : Int) + 1) - 1 = (m1 : Int) := by omega
      have hcut := cut_low I 24 3 Tryd.underlying24 HI.out b1 o1 (m1 + 1) c1 m1 (by omega) hc1
      have hcut1 : ∀ W, (Instr.slice 24 (.slice (some ⟨b1, o1, none⟩) (m1 + 1) c1) none (some (.int .i64 (m1 : Int))) none).run Tryd.prog W = .ok (.slice (some ⟨b1, o1, none⟩) m1 c1) W := fun W => hcut W .i64
      clear hcut hy hyr
      have ho1 : o1 = 0 := by
        obtain ⟨_, ho, _, _⟩ := HW.out.wt
        rcases ho.2 with ⟨h, _⟩ | ⟨_, _, _, h, _⟩
        · cases h
        · simp only [Value.slice.injEq, Option.some.injEq, Addr.mk.injEq, and_true] at h
          exact h.1.2
      subst ho1
      rw [Nat.zero_add] at hcy
      obtain ⟨b, off, x, A', c', rfl, hb, hx, h0x, h1x, h2x, h3x, h4x, hrow⟩ := st_get (HC.out.move (fun q hq => HBw.out.block q (HS.out q hq))) k hkn
      have HX := Hd.mk hx
      have HSB : Hd (b < base) := ⟨by
        obtain ⟨b', off', cs', he', hs', _⟩ := HC.out.get k hkn
        cases he'
        exact HS.out b hs'⟩
      have HROW := Hd.mk hrow
      obtain ⟨ne, hne⟩ : ∃ m, x.eps.length = m := ⟨_, rfl⟩
      rw [hne] at h3x
      have HNE := Hd.mk hne
      have hpw := HW.out.bp
      have hpl := blk_lt HW.out.obj
      have hzw := HBw.out.size
      clear hx hrow hne
      go_wp2
      refine wp_region_can (.q [0, 1, 2, 3, 4, 5, 6, 7, 8, 9, 10, 11, 12] (.done)) (clsB _) (by kernel_rfl) (by kernel_rfl) (by intro _ _ d _ _ h; cases d <;> exact h) (clsB_drew _) ?_
      refine can_q (l := [⟨_,_,_,_,_,_⟩, ⟨_,_,_,_,_,_⟩, ⟨_,_,_,_,_,_⟩, ⟨_,_,_,_,_,_⟩, ⟨_,_,_,_,_,_⟩, ⟨_,_,_,_,_,_⟩, ⟨_,_,_,_,_,_⟩, ⟨_,_,_,_,_,_⟩, ⟨_,_,_,_,_,_⟩, ⟨_,_,_,_,_,_⟩, ⟨_,_,_,_,_,_⟩, ⟨_,_,_,_,_,_⟩, ⟨_,_,_,_,_,_⟩]) rfl ?_
      repeat (go_big_quiet_step (fail))
      refine wpQuiet_nil ?_
      refine can_done ?_
      obtain ⟨D, hD⟩ : ∃ D, wr.drew = D := ⟨_, rfl⟩
      rw [hD]
      have hobjD := at_of hD (blk_drew hobj)
      have HD := Hd.mk hD
      clear hD
      have hobjDc0 := blk_cell hobjD 0 _ rfl; have hobjDf0 := blk_frozen hobjD 0; have hobjDc1 := blk_cell hobjD 1 _ rfl; have hobjDf1 := blk_frozen hobjD 1; have hobjDc2 := blk_cell hobjD 2 _ rfl; have hobjDf2 := blk_frozen hobjD 2; have hobjDc3 := blk_cell hobjD 3 _ rfl; have hobjDf3 := blk_frozen hobjD 3; have hobjDc4 := blk_cell hobjD 4 _ rfl; have hobjDf4 := blk_frozen hobjD 4; have hobjDl := blk_lt hobjD
      go_wp2
      refine wp_region_can (.q [0, 1, 2, 3, 4, 5, 6, 7, 8, 9, 10, 11, 12, 13] (.e 14 false (.done))) (clsB _) (by kernel_rfl) (by kernel_rfl) (by intro _ _ d _ _ h; cases d <;> exact h) (clsB_drew _) ?_
      refine can_q (l := [⟨_,_,_,_,_,_⟩, ⟨_,_,_,_,_,_⟩, ⟨_,_,_,_,_,_⟩, ⟨_,_,_,_,_,_⟩, ⟨_,_,_,_,_,_⟩, ⟨_,_,_,_,_,_⟩, ⟨_,_,_,_,_,_⟩, ⟨_,_,_,_,_,_⟩, ⟨_,_,_,_,_,_⟩, ⟨_,_,_,_,_,_⟩, ⟨_,_,_,_,_,_⟩, ⟨_,_,_,_,_,_⟩, ⟨_,_,_,_,_,_⟩, ⟨_,_,_,_,_,_⟩]) rfl ?_
      repeat (go_big_quiet_step (fail))
      refine wpQuiet_nil ?_
      refine can_e (o := ⟨_,_,_,_,_,_⟩) rfl (fun K hK => ?_)
      go_wp2_with fail
      refine onK_normal (hK _ _ ⟨fun _ => True, trivial, (fun h => by cases h), ?_⟩)
      clear hK K
      refine can_done ?_
      generalize hX : World.drew _ = Y
      have hYb : ∀ z, z ≠ p → Y.heap[z]? = wr.heap[z]? := fun z hz => by rw [← hX, ← HD.out]; exact Below.heap_setCell wr ⟨p, 4, none⟩ _ z hz
      have hYz : Y.heap.size = wr.heap.size := by rw [← hX, size_drew, size_set, ← HD.out, size_drew]
      have HWY : Hd (Wk Y base p g st (some ⟨b, off, none⟩) n c (.slice (some ⟨b1, 0, none⟩) m1 c1) (ws, Wt.take m1)) := ⟨by
        have hvp := HW.out.vp
        have hvg := HW.out.vg
        refine ⟨?_, HW.out.wd.move (hYb g (fun e => HW.out.pg e.symm)), HW.out.ok, ((Mine.cut HW.out.wt HN1.out.symm (Nat.le_succ _)).mv (fun z hz => hYb z (fun e => hvp (by rw [← e]; exact hz))) (by omega)), HW.out.pg, fun h => hvp h, fun h => hvg h, HW.out.bp, HW.out.bg, by have := HW.out.gl; omega, ?_⟩
        · rw [← hX, ← HD.out]
          exact blk_set HW.out.obj 4 _ _ rfl
        · have := HW.out.wl
          dsimp only at this ⊢
          rw [List.length_take]
          omega⟩
      have HBY : Hd (Below base w Y) := ⟨HBw.out.trans (by rw [← hX, ← HD.out]; exact below_drew1 ((below_drew1 (Below.refl base wr)).setCell (p := ⟨p, 4, none⟩) hpw _))⟩
      have hcY : ∀ i, Y.cell? ⟨b, i, none⟩ = wr.cell? ⟨b, i, none⟩ := fun i => World.cell?_of_block (w := wr) (hYb b (by have := HSB.out; omega))
      rw [← hcY] at h0x h1x h2x h3x h4x
      have hbY : b < Y.heap.size := by omega
      have hpY := HWY.out.obj
      unfold wkV at hpY
      have HRY := Hd.mk (HROW.out.move (w' := Y) (fun z hz => hYb z (by have := HS.out z hz; omega)))
      have hzB := HB.out
      clear hX hYb hcY hcut1
      clear hobjc0 hobjf0 hobjc1 hobjf1 hobjc2 hobjf2 hobjc3 hobjf3 hobjc4 hobjf4 hobjl
      clear hobjDc0 hobjDf0 hobjDc1 hobjDf1 hobjDc2 hobjDf2 hobjDc3 hobjDf3 hobjDc4 hobjDf4 hobjDl
      clear hobj hobjD
      have hpYc0 := blk_cell hpY 0 _ rfl; have hpYf0 := blk_frozen hpY 0; have hpYc1 := blk_cell hpY 1 _ rfl; have hpYf1 := blk_frozen hpY 1; have hpYc2 := blk_cell hpY 2 _ rfl; have hpYf2 := blk_frozen hpY 2; have hpYc3 := blk_cell hpY 3 _ rfl; have hpYf3 := blk_frozen hpY 3; have hpYc4 := blk_cell hpY 4 _ rfl; have hpYf4 := blk_frozen hpY 4; have hpYl := blk_lt hpY
      go_wp2_with (go_at_call 83; go_must (have h9 := any_calls x A' c' S base p g n c st (some ⟨b, off, none⟩) (.slice (some ⟨b1, 0, none⟩) m1 c1) (ws, Wt.take m1) Y HS.out HRY.out HWY.out (by omega); unfold stV meetF at h9; rw [HNE.out] at h9; refine Calls.mono h9 ?_; clear h9; rintro e w2 ⟨⟨u, rfl⟩, v3, hw3, hm3⟩; have HW3 := Hd.mk hw3; have HM3 := Hd.mk hm3; clear hw3 hm3))
      have HF2 : Hd (Fol q anyT E X (ws, Wt.take m1 ++ [(k : Int)])) := ⟨by rw [← HWT.out]; exact HFo.out⟩
      have HRD := Hd.mk (HF2.out.round HT.out HST.out HX.out)
      rw [HN.out] at HRD
      go_roundg (((anyT x).foldl (meetP n) (ws, Wt.take m1)).2.length + 2 * (n - (elemsI ((anyT x).foldl (meetP n) (ws, Wt.take m1)).1).length))
      case measure =>
        rw [HG.out]
        refine Nat.lt_of_lt_of_le HRD.out.2 ?_
        rw [← HWT.out]
        exact Nat.le_refl _
      case rel => exact ⟨v3, _, HW3, ⟨HRD.out.1⟩, ⟨rfl⟩, ⟨HBY.out.trans (HWY.out.met HM3.out (by omega))⟩⟩
    · obtain rfl : n1 = 0 := by omega
      obtain rfl : Wt = [] := List.eq_nil_of_length_eq_zero HN1.out.symm
      go_wp2
      go_end0
      exact ⟨⟨_, rfl⟩, _, ws, HW.out, HFo.out, HBw.out⟩
end Go.Proofs.YtbmpaokicphdjaaDoor.Fn
