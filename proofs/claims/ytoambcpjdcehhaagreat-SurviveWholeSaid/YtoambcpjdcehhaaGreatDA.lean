/- Texts: D1, D2, D3. -/
import Derived.Test.YtoambcpjdcehhaaGreatAB
import Derived.Deep.DeepCutAuto
import Derived.Deep.CutBlock
/- Automata of one state: how they lie in memory; equal rows of numbers; the greatest number. -/
set_option linter.unusedVariables false
set_option linter.unusedSimpArgs false
namespace Go.Proofs.YtoambcpjdcehhaaGreat.Df
open Go Go.RowKit Go.Proofs.YtoambcpjdcehhaaGreat.Can Go.Proofs.YtoambcpjdcehhaaGreat.Base Go.Proofs.YtoambcpjdcehhaaGreat.Al
attribute [local go_sem] clsB AB.cell

/-- A row of rows of numbers. -/
abbrev II : Ty (List Int) := Ty.slice I (by decide)
theorem rows_get {w : World} {S : Nat → Prop} {A : Option Addr} {n : Nat} {xs : List (List Int)} (h : Row II w S A n xs) (k : Nat) (hk : k < n) :
    ∃ b off A' c' r, A = some ⟨b, off, none⟩ ∧ b < w.heap.size ∧ xs[k]? = some r ∧ w.cell? ⟨b, off + k, none⟩ = some (.slice A' r.length c') ∧ r.length ≤ c' ∧ (A' = none → c' = 0) ∧ Row I w S A' r.length r := by
  obtain ⟨b, off, cs, he, hs, ⟨A', c', rfl, h1, h2, h3⟩, hcell⟩ := h.get k hk
  have h0 := hcell 0 _ rfl
  rw [show off + k * II.sz + 0 = off + k by show off + k * 1 + 0 = _; omega] at h0
  exact ⟨b, off, A', c', _, he, World.block_lt_of_cell? w _ h0, List.getElem?_eq_getElem _, h0, h1, h2, h3⟩
theorem take_snoc {α : Type} {l : List α} {k : Nat} {x : α} (h : l[k]? = some x) : l.take (k + 1) = l.take k ++ [x] := by rw [List.take_add_one, h]; rfl
theorem take_all {α : Type} {l : List α} {n : Nat} (h : l.length = n) : l.take n = l := List.take_of_length_le (by rw [h]; exact Nat.le_refl _)
/-- The greatest number of a row. -/
def maxOf (L : List Int) : Int := L.foldl (fun a x => if a < x then x else a) (L.headD 0)
theorem max_snoc {L : List Int} (x : Int) (h : L ≠ []) : maxOf (L ++ [x]) = if maxOf L < x then x else maxOf L := by
  unfold maxOf
  rw [List.foldl_append, List.foldl_cons, List.foldl_nil]
  have e : (L ++ [x]).headD 0 = L.headD 0 := by
    cases L with
    | nil => exact absurd rfl h
    | cons y L => rfl
  rw [e]
theorem maxOf_is : ∀ {L : List Int}, L ≠ [] → maxOf L ∈ L ∧ ∀ x ∈ L, x ≤ maxOf L := by
  intro L
  have key : ∀ n, ∀ L : List Int, L.length = n → L ≠ [] → maxOf L ∈ L ∧ ∀ x ∈ L, x ≤ maxOf L := by
    intro n
    induction n with
    | zero => intro L h0 h; exact absurd (List.eq_nil_of_length_eq_zero h0) h
    | succ n ih =>
      intro L hn h
      obtain ⟨L', x, rfl⟩ : ∃ L' x, L = L' ++ [x] := ⟨L.dropLast, L.getLast h, (List.dropLast_concat_getLast h).symm⟩
      rw [List.length_append, List.length_singleton] at hn
      by_cases h0 : L' = []
      · subst h0
        have e : maxOf ([] ++ [x]) = x := by simp [maxOf]
        rw [e]
        exact ⟨by simp, fun y hy => by simp at hy; omega⟩
      · obtain ⟨h1, h2⟩ := ih L' (by omega) h0
        rw [max_snoc x h0]
        split
        · refine ⟨List.mem_append_right _ (List.mem_singleton.2 rfl), fun y hy => ?_⟩
          rcases List.mem_append.1 hy with hy | hy
          · have := h2 y hy; omega
          · rw [List.mem_singleton.1 hy]; omega
        · refine ⟨List.mem_append_left _ h1, fun y hy => ?_⟩
          rcases List.mem_append.1 hy with hy | hy
          · exact h2 y hy
          · rw [List.mem_singleton.1 hy]; omega
  exact key L.length L rfl
theorem take_ne {L : List Int} {k : Nat} (hk : 0 < k) (hl : 0 < L.length) : L.take k ≠ [] := fun h => by
  have := congrArg List.length h
  rw [List.length_take, List.length_nil] at this
  omega
/-- slices.Max -/
theorem max_calls (A : Option Addr) (n c : Nat) (L : List Int) (S : Nat → Prop) (w : World) (hC : Row I w S A n L) (h0 : 0 < n) :
    Calls Tryz.prog 100 #[.slice A n c] w fun e w' => e = .returned (.int .i64 (maxOf L)) ∧ w' = w := by
  have hn := hC.le
  have HC := Hd.mk hC; have HL := Hd.mk hC.1
  obtain ⟨m, hm⟩ : ∃ m, maxOf L = m := ⟨_, rfl⟩
  rw [hm]
  have HM := Hd.mk hm
  obtain ⟨b, off, x, rfl, _, hb1, hx, hcell⟩ := hC.get_int 0 h0
  have HX := Hd.mk hx
  rw [Nat.add_zero] at hcell
  have hI : ¬ (n : Int) < 1 := by omega
  clear hC hm hx
  go_enter Tryz.func100, Tryz.ntmps100
  go_wp2
  go_loopw [3, 4] (fun v i wr => ∃ (k : Nat) (y : Int), 0 < k ∧ k ≤ n ∧ i = .int .i64 k ∧ v = .int .i64 y ∧ Hd (maxOf (L.take k) = y) ∧ wr = w) (fun _ i _ => n - (intOf i).toNat)
  case atStart => exact ⟨1, x, Nat.zero_lt_one, h0, rfl, rfl, ⟨by rw [take_snoc HX.out]; simp [maxOf]⟩, rfl⟩
  case round =>
    clear hcell
    obtain ⟨k, y, hk0, hk, rfl, rfl, HY, rfl⟩ := hrel
    by_cases hlt : k < n
    · obtain ⟨b2, off2, z, he, _, hb2, hz, hcell2⟩ := HC.out.get_int k hlt
      cases he
      obtain ⟨q, hq⟩ : ∃ q, (if y < z then z else y) = q := ⟨_, rfl⟩
      have HQ : Hd (maxOf (L.take (k + 1)) = q) := ⟨by rw [take_snoc hz, max_snoc z (take_ne hk0 (by rw [HL.out]; omega)), HY.out, hq]⟩
      have HQQ := Hd.mk hq
      clear hz hq
      go_wp2
      go_roundw
      case rel => exact ⟨k + 1, q, by omega, by omega, by go_num, by rw [HQQ.out], HQ, trivial⟩
      case measure => simp [intOf]; omega
    · obtain rfl : k = n := by omega
      obtain rfl : y = m := by rw [← HM.out, ← HY.out, take_all HL.out]
      go_wp2
      go_ret
      exact ⟨rfl, rfl⟩
/-- Of classes: how many there are. -/
theorem max_first {L : List Int} (h : rightB L = true) : maxOf L + 1 = (firstL L).length ∧ L.length = 256 ∧ -1 ≤ maxOf L ∧ maxOf L ≤ 255 := by
  have he := rightB_iff.1 h
  have hf : (firstL L).length = (met (oneF L) 256).length := by
    unfold firstL; rw [if_pos h, asI_len, fstU_len]
  have hl : L.length = 256 := by rw [he, clsL_len]
  have hml := met_len (oneF L) 256
  suffices hs : maxOf L + 1 = ((met (oneF L) 256).length : Int) from ⟨by rw [hf]; exact hs, hl, by omega, by omega⟩
  obtain ⟨h1, h2⟩ := maxOf_is (L := L) (fun h0 => by rw [h0] at hl; cases hl)
  obtain ⟨j, hj, hj2⟩ := List.mem_iff_getElem.1 h1
  have hj' : j < 256 := by omega
  have e1 : L[j]? = some (cls (oneF L) j : Int) := by
    have := clsL_get (f := oneF L) hj'
    rwa [← he] at this
  rw [List.getElem?_eq_getElem hj, hj2] at e1
  have e2 : maxOf L = (cls (oneF L) j : Int) := Option.some.inj e1
  have h3 := cls_lt (f := oneF L) hj'
  have h4 : 0 < (met (oneF L) 256).length := List.length_pos_of_mem (mem_upto (f := oneF L) (d := 0) (c := 256) (by decide))
  obtain ⟨i, hi, hi2⟩ := cls_onto (f := oneF L) (k := 256) (v := (met (oneF L) 256).length - 1) (by omega)
  have e3 : L[i]? = some (cls (oneF L) i : Int) := by
    have := clsL_get (f := oneF L) hi
    rwa [← he] at this
  have h5 := h2 _ (List.mem_of_getElem? e3)
  rw [hi2] at h5
  omega
end Go.Proofs.YtoambcpjdcehhaaGreat.Df

/- Which automata may be. -/
set_option linter.unusedVariables false
set_option linter.unusedSimpArgs false
namespace Go.Proofs.YtoambcpjdcehhaaGreat.Df
open Go Go.RowKit Go.Proofs.YtoambcpjdcehhaaGreat.Can Go.Proofs.YtoambcpjdcehhaaGreat.Base Go.Proofs.YtoambcpjdcehhaaGreat.Al
attribute [local go_sem] clsB AB.cell

/-- An automaton of one state. -/
structure Df where
  cls : List Int
  wid : Int
  nxt : List (List Int)
  tag : List Int
  st : Int
/-- .. in memory. -/
structure DF (w : World) (S : Nat → Prop) (A1 A2 A3 : Option Addr) (n1 n2 n3 : Nat) (d : Df) : Prop where
  cls : Row I w S A1 n1 d.cls
  nxt : Row II w S A2 n2 d.nxt
  tag : Row I w S A3 n3 d.tag
  lt : ∀ k, S k → k < w.heap.size
theorem DF.below {w w' : World} {S : Nat → Prop} {A1 A2 A3 : Option Addr} {n1 n2 n3 : Nat} {d : Df} (h : DF w S A1 A2 A3 n1 n2 n3 d) (hb : Below w.heap.size w w') : DF w' S A1 A2 A3 n1 n2 n3 d :=
  ⟨h.cls.below h.lt hb, h.nxt.below h.lt hb, h.tag.below h.lt hb, fun k hk => Nat.lt_of_lt_of_le (h.lt k hk) hb.size⟩
def okR (n : Nat) (wid : Int) (r : List Int) : Prop := (r.length : Int) = wid ∧ ∀ x ∈ r, -1 ≤ x ∧ x < (n : Int)
instance (n : Nat) (wid : Int) (r : List Int) : Decidable (okR n wid r) := by unfold okR; infer_instance
def okH (d : Df) : Prop := d.nxt.length ≤ 1024 ∧ d.tag.length = d.nxt.length ∧ -1 ≤ d.st ∧ d.st < (d.nxt.length : Int) ∧ rightB d.cls = true ∧ d.wid = (firstL d.cls).length
instance (d : Df) : Decidable (okH d) := by unfold okH; infer_instance
def okT (d : Df) : Prop := (∀ r ∈ d.nxt, okR d.nxt.length d.wid r) ∧ ∀ t ∈ d.tag, -1 ≤ t
instance (d : Df) : Decidable (okT d) := by unfold okT; infer_instance
def okD (d : Df) : Prop := okH d ∧ okT d
instance (d : Df) : Decidable (okD d) := by unfold okD; infer_instance
theorem not_row {d : Df} {k : Nat} {r : List Int} (h : d.nxt[k]? = some r) (hn : ¬ okR d.nxt.length d.wid r) : ¬ okD d := fun ho => hn (ho.2.1 r (List.mem_of_getElem? h))
theorem not_tag {d : Df} {k : Nat} {t : Int} (h : d.tag[k]? = some t) (hn : t < -1) : ¬ okD d := fun ho => by have := ho.2.2 t (List.mem_of_getElem? h); omega
/-- So many rows, and tags, may be. -/
def okK (d : Df) (k : Nat) : Prop := (∀ r ∈ d.nxt.take k, okR d.nxt.length d.wid r) ∧ ∀ t ∈ d.tag.take k, -1 ≤ t
theorem okK_zero (d : Df) : okK d 0 := ⟨fun r hr => by simp at hr, fun r hr => by simp at hr⟩
theorem okK_succ {d : Df} {k : Nat} {r : List Int} {t : Int} (h : okK d k) (hr : d.nxt[k]? = some r) (ht : d.tag[k]? = some t) (h1 : okR d.nxt.length d.wid r) (h2 : -1 ≤ t) : okK d (k + 1) := by
  unfold okK
  rw [take_snoc hr, take_snoc ht]
  refine ⟨fun r' hr' => ?_, fun t' ht' => ?_⟩
  · rcases List.mem_append.1 hr' with h' | h'
    · exact h.1 r' h'
    · rw [List.mem_singleton.1 h']; exact h1
  · rcases List.mem_append.1 ht' with h' | h'
    · exact h.2 t' h'
    · rw [List.mem_singleton.1 h']; exact h2
theorem okK_all {d : Df} {n : Nat} (h1 : d.nxt.length = n) (h2 : d.tag.length = n) (h : okK d n) : okT d := by
  unfold okK at h
  rwa [take_all h1, take_all h2] at h
/-- So many numbers of a row may be. -/
def okE (n : Nat) (r : List Int) (k : Nat) : Prop := ∀ x ∈ r.take k, -1 ≤ x ∧ x < (n : Int)
theorem okE_zero (n : Nat) (r : List Int) : okE n r 0 := fun x hx => by simp at hx
theorem okE_succ {n : Nat} {r : List Int} {k : Nat} {x : Int} (h : okE n r k) (hx : r[k]? = some x) (h1 : -1 ≤ x) (h2 : x < (n : Int)) : okE n r (k + 1) := by
  unfold okE
  rw [take_snoc hx]
  intro y hy
  rcases List.mem_append.1 hy with h' | h'
  · exact h y h'
  · rw [List.mem_singleton.1 h']; exact ⟨h1, h2⟩
theorem okE_all {n m : Nat} {r : List Int} (hl : r.length = m) (h : okE n r m) : ∀ x ∈ r, -1 ≤ x ∧ x < (n : Int) := by
  unfold okE at h
  rwa [take_all hl] at h
set_option maxRecDepth 20000 in
set_option maxHeartbeats 4000000 in
theorem dright_calls (A1 A2 A3 : Option Addr) (n1 n2 n3 c1 c2 c3 : Nat) (d : Df) (S : Nat → Prop) (w : World) (hD : DF w S A1 A2 A3 n1 n2 n3 d) :
    Calls Tryz.prog 72 #[.agg #[.slice A1 n1 c1, .int .i64 d.wid, .slice A2 n2 c2, .slice A3 n3 c3, .int .i64 d.st]] w fun e w' => e = .returned (.bool (decide (okD d))) ∧ Below w.heap.size w w' := by
  have hm1 := hD.cls.le; have hm2 := hD.nxt.le; have hm3 := hD.tag.le
  have HN1 := Hd.mk hD.cls.1; have HN2 := Hd.mk hD.nxt.1; have HN3 := Hd.mk hD.tag.1
  obtain ⟨b, hb⟩ : ∃ b, decide (okD d) = b := ⟨_, rfl⟩
  rw [hb]
  have HB := Hd.mk hb
  obtain ⟨wd, hwd⟩ : ∃ x, d.wid = x := ⟨_, rfl⟩
  obtain ⟨st, hst⟩ : ∃ x, d.st = x := ⟨_, rfl⟩
  have HWD := Hd.mk hwd; have HST := Hd.mk hst
  rw [hwd, hst]
  obtain ⟨W0, hW0⟩ : ∃ W0, w.alloc (.cells #[.slice A1 n1 c1, .int .i64 wd, .slice A2 n2 c2, .slice A3 n3 c3, .int .i64 st] 98) = W0 := ⟨_, rfl⟩
  have hBW : Below w.heap.size w W0 := by rw [← hW0]; exact below_alloc (Below.refl _ _) _
  have HDW := Hd.mk (hD.below hBW)
  have hx : W0.heap[w.heap.size]? = some (.cells #[.slice A1 n1 c1, .int .i64 wd, .slice A2 n2 c2, .slice A3 n3 c3, .int .i64 st] 98 (0, 0)) := by rw [← hW0]; exact blk_new _ _ _ rfl
  have HBW := Hd.mk hBW
  have HF : Hd (∀ P : Prop, (P → ¬ okD d) → P → b = false) := ⟨fun P h hp => by rw [← HB.out]; exact decide_eq_false (h hp)⟩
  have HA := Hd.mk (right_calls A1 n1 c1 d.cls S W0 HDW.out.cls)
  clear hD hb hwd hst hBW
  go_enter Tryz.func72, Tryz.ntmps72
  go_upto_region 1 with fail
  clear hW0
  have hxc0 := blk_cell hx 0 _ rfl; have hxf0 := blk_frozen hx 0; have hxc1 := blk_cell hx 1 _ rfl; have hxf1 := blk_frozen hx 1; have hxc2 := blk_cell hx 2 _ rfl; have hxf2 := blk_frozen hx 2; have hxc3 := blk_cell hx 3 _ rfl; have hxf3 := blk_frozen hx 3; have hxc4 := blk_cell hx 4 _ rfl; have hxf4 := blk_frozen hx 4; have hxl := blk_lt hx
  by_cases g1 : 1024 < n2
  · obtain rfl := HF.out _ (fun h ho => by have := ho.1.1; have := HN2.out; omega) g1
    go_wp2
    go_ret
    exact ⟨rfl, HBW.out⟩
  by_cases g2 : (n3 : Int) = n2
  case neg =>
    obtain rfl := HF.out _ (fun h ho => by have := ho.1.2.1; have := HN2.out; have := HN3.out; omega) g2
    have hj : ((n3 : Int) != (n2 : Int)) = true := by simpa using g2
    go_wp2
    go_ret
    exact ⟨rfl, HBW.out⟩
  have j2 : ((n3 : Int) != (n2 : Int)) = false := by simpa using g2
  by_cases g3 : st < -1
  · obtain rfl := HF.out _ (fun h ho => by have := ho.1.2.2.1; have := HST.out; omega) g3
    go_wp2
    go_ret
    exact ⟨rfl, HBW.out⟩
  by_cases g4 : st < n2
  case neg =>
    obtain rfl := HF.out _ (fun h ho => by have := ho.1.2.2.2.1; have := HST.out; have := HN2.out; omega) g4
    go_wp2
    go_ret
    exact ⟨rfl, HBW.out⟩
  by_cases g5 : rightB d.cls = true
  case neg =>
    obtain rfl := HF.out _ (fun h ho => h ho.1.2.2.2.2.1) g5
    rw [Bool.not_eq_true] at g5
    rw [g5] at HA
    clear g5
    go_wp2_with (go_at_call 99; go_must (refine Calls.mono HA.out ?_; rintro e w1 ⟨rfl, rfl⟩))
    go_ret
    exact ⟨rfl, HBW.out⟩
  have HG5 := Hd.mk g5
  rw [g5] at HA
  obtain ⟨hmx, hl6, hmb1, hmb2⟩ := max_first g5
  have HMX := Hd.mk hmx
  obtain rfl : n1 = 256 := by rw [← HN1.out]; exact hl6
  have HM := Hd.mk (max_calls A1 256 c1 d.cls S W0.drew (HDW.out.cls.move (fun _ _ => rfl)) (by decide))
  obtain ⟨mx, hmm⟩ : ∃ m, maxOf d.cls = m := ⟨_, rfl⟩
  rw [hmm] at HM HMX hmb1 hmb2
  clear hmx hl6 hmm g5
  by_cases g6 : wd = mx + 1
  case neg =>
    obtain rfl := HF.out _ (fun h ho => by have := ho.1.2.2.2.2.2; have := HWD.out; have := HMX.out; omega) g6
    have hj : (wd != (mx + 1)) = true := by simpa using g6
    go_wp2_with (go_at_call 99; go_must (refine Calls.mono HA.out ?_; rintro e w1 ⟨rfl, rfl⟩))
    refine wp_region_can (.q [0, 1, 2, 3] (.e 4 true (.q [5, 6] (.done)))) (clsB _) (by kernel_rfl) (by kernel_rfl) (by intro _ _ d _ _ h; cases d <;> exact h) (clsB_drew _) ?_
    refine can_q (l := [⟨_,_,_,_,_,_⟩, ⟨_,_,_,_,_,_⟩, ⟨_,_,_,_,_,_⟩, ⟨_,_,_,_,_,_⟩]) rfl ?_
    repeat (go_big_quiet_step (fail))
    refine wpQuiet_nil ?_
    refine can_e (o := ⟨_,_,_,_,_,_⟩) rfl (fun K hK => ?_)
    go_wp2_with (go_at_call 100; go_must (refine Calls.mono HM.out ?_; rintro e w1 ⟨rfl, rfl⟩))
    refine onK_normal (hK _ _ ⟨clsB _, clsB_of (by first | exact ((below_drew1 (Below.refl _ _))) | exact below_undrew ((below_drew1 (Below.refl _ _)))), fun _ _ h => h, ?_⟩)
    clear hK K
    refine can_q (l := [⟨_,_,_,_,_,_⟩, ⟨_,_,_,_,_,_⟩]) rfl ?_
    repeat (go_big_quiet_step (fail))
    refine wpQuiet_nil ?_
    refine can_done ?_
    go_wp2
    go_ret
    exact ⟨rfl, below_drew1 HBW.out⟩
  have HOH : Hd (okH d) := ⟨by rw [HN2.out]; omega, by rw [HN2.out, HN3.out]; omega, by rw [HST.out]; omega, by rw [HST.out, HN2.out]; omega, HG5.out, by rw [HWD.out, g6, HMX.out]⟩
  have j6 : (wd != (mx + 1)) = false := by simpa using g6
  have HG6 := Hd.mk g6
  obtain rfl : n3 = n2 := by omega
  clear g6 g2
  have hx' := blk_drew hx
  go_wp2_with (go_at_call 99; go_must (refine Calls.mono HA.out ?_; rintro e w1 ⟨rfl, rfl⟩))
  refine wp_region_can (.q [0, 1, 2, 3] (.e 4 true (.q [5, 6] (.done)))) (clsB _) (by kernel_rfl) (by kernel_rfl) (by intro _ _ d _ _ h; cases d <;> exact h) (clsB_drew _) ?_
  refine can_q (l := [⟨_,_,_,_,_,_⟩, ⟨_,_,_,_,_,_⟩, ⟨_,_,_,_,_,_⟩, ⟨_,_,_,_,_,_⟩]) rfl ?_
  repeat (go_big_quiet_step (fail))
  refine wpQuiet_nil ?_
  refine can_e (o := ⟨_,_,_,_,_,_⟩) rfl (fun K hK => ?_)
  go_wp2_with (go_at_call 100; go_must (refine Calls.mono HM.out ?_; rintro e w1 ⟨rfl, rfl⟩))
  refine onK_normal (hK _ _ ⟨clsB _, clsB_of (by first | exact ((below_drew1 (Below.refl _ _))) | exact below_undrew ((below_drew1 (Below.refl _ _)))), fun _ _ h => h, ?_⟩)
  clear hK K
  refine can_q (l := [⟨_,_,_,_,_,_⟩, ⟨_,_,_,_,_,_⟩]) rfl ?_
  repeat (go_big_quiet_step (fail))
  refine wpQuiet_nil ?_
  refine can_done ?_
  go_wp2
  have HDV := Hd.mk (HDW.out.below (below_drew1 (Below.refl _ _)))
  have HBV := Hd.mk (below_drew1 HBW.out)
  have hzV := blk_lt hx'
  have hyV := hx'
  clear hxc0 hxf0 hxc1 hxf1 hxc2 hxf2 hxc3 hxf3 hxc4 hxf4 hxl
  clear hx hx' HDW HBW HA HM
  generalize World.drew _ = V at *
  have HX := Hd.mk hyV
  have hyVc0 := blk_cell hyV 0 _ rfl; have hyVf0 := blk_frozen hyV 0; have hyVc1 := blk_cell hyV 1 _ rfl; have hyVf1 := blk_frozen hyV 1; have hyVc2 := blk_cell hyV 2 _ rfl; have hyVf2 := blk_frozen hyV 2; have hyVc3 := blk_cell hyV 3 _ rfl; have hyVf3 := blk_frozen hyV 3; have hyVc4 := blk_cell hyV 4 _ rfl; have hyVf4 := blk_frozen hyV 4; have hyVl := blk_lt hyV
  go_loopw [47] (fun i wr => ∃ k : Nat, k ≤ n3 ∧ i = .int .i64 k ∧ Hd (okK d k) ∧ wr = V) (fun i _ => n3 - (intOf i).toNat)
  case atStart => exact ⟨0, Nat.zero_le _, rfl, ⟨okK_zero d⟩, rfl⟩
  case round =>
    obtain ⟨k, hk, rfl, HK, rfl⟩ := hrel
    by_cases hlt : k < n3
    · obtain ⟨b1, o1, A', c', r, rfl, hb1, hr, hr1, -, -, hrr⟩ := rows_get HDV.out.nxt k hlt
      obtain ⟨b2, o2, t, rfl, -, hb2, ht, ht1⟩ := HDV.out.tag.get_int k hlt
      have HR := Hd.mk hr; have HT := Hd.mk ht; have HRR := Hd.mk hrr
      obtain ⟨m, hm⟩ : ∃ m, r.length = m := ⟨_, rfl⟩
      rw [hm] at hr1 HRR
      have hmm := HRR.out.le
      have HM := Hd.mk hm
      clear hr ht hm hrr
      by_cases g7 : (m : Int) = wd
      case neg =>
        obtain rfl := HF.out _ (fun h => not_row HR.out (fun ho => h (by rw [← HM.out, ← HWD.out]; exact ho.1))) g7
        have hj : ((m : Int) != wd) = true := by simpa using g7
        go_wp2
        go_ret
        exact ⟨rfl, HBV.out⟩
      have hj7 : ((m : Int) != wd) = false := by simpa using g7
      have HG7 := Hd.mk g7
      clear g7
      by_cases g8 : t < -1
      · obtain rfl := HF.out _ (fun h => not_tag HT.out h) g8
        go_wp2
        go_ret
        exact ⟨rfl, HBV.out⟩
      go_wp2
      go_loopw [67] (fun i wx => ∃ q : Nat, q ≤ m ∧ i = .int .i64 q ∧ Hd (okE n3 r q) ∧ wx = wr) (fun i _ => m - (intOf i).toNat)
      case atStart => exact ⟨0, Nat.zero_le _, rfl, ⟨okE_zero _ _⟩, rfl⟩
      case round =>
        obtain ⟨q, hq, rfl, HQ, rfl⟩ := hrel
        by_cases hltq : q < m
        · obtain ⟨b3, o3, x, rfl, -, hb3, hx3, hy3⟩ := HRR.out.get_int q hltq
          have HX3 := Hd.mk hx3
          clear hx3
          by_cases g9 : x < -1
          · obtain rfl := HF.out _ (fun h => not_row HR.out (fun ho => by have := (ho.2 x (List.mem_of_getElem? HX3.out)).1; omega)) g9
            go_wp2
            go_ret
            exact ⟨rfl, HBV.out⟩
          by_cases g10 : x < n3
          case neg =>
            obtain rfl := HF.out _ (fun h => not_row HR.out (fun ho => by have := (ho.2 x (List.mem_of_getElem? HX3.out)).2; have := HN2.out; omega)) g10
            go_wp2
            go_ret
            exact ⟨rfl, HBV.out⟩
          go_wp2
          go_roundw
          case rel => exact ⟨q + 1, by omega, by go_num, ⟨okE_succ HQ.out HX3.out (by omega) g10⟩, trivial⟩
          case measure => simp [intOf]; omega
        · obtain rfl : q = m := by omega
          go_wp2
          go_roundw
          case rel => exact ⟨k + 1, by omega, by go_num, ⟨okK_succ HK.out HR.out HT.out ⟨by rw [HM.out, HWD.out]; exact HG7.out, by rw [HN2.out]; exact okE_all HM.out HQ.out⟩ (by omega)⟩, trivial⟩
          case measure => simp [intOf]; omega
    · obtain rfl : k = n3 := by omega
      obtain rfl : b = true := by rw [← HB.out]; exact decide_eq_true ⟨HOH.out, okK_all HN2.out HN3.out HK.out⟩
      go_wp2
      go_ret
      exact ⟨rfl, HBV.out⟩
end Go.Proofs.YtoambcpjdcehhaaGreat.Df

/- Which automata may be: the reference. -/
set_option linter.unusedVariables false
set_option linter.unusedSimpArgs false
namespace Go.Proofs.YtoambcpjdcehhaaGreat.Df
open Go Go.RowKit Go.Proofs.YtoambcpjdcehhaaGreat.Can Go.Proofs.YtoambcpjdcehhaaGreat.Base Go.Proofs.YtoambcpjdcehhaaGreat.Al
attribute [local go_sem] clsB AB.cell

set_option maxRecDepth 20000 in
set_option maxHeartbeats 4000000 in
theorem rdright_calls (A1 A2 A3 : Option Addr) (n1 n2 n3 c1 c2 c3 : Nat) (d : Df) (S : Nat → Prop) (w : World) (hD : DF w S A1 A2 A3 n1 n2 n3 d) :
    Calls Tryz.prog 65 #[.agg #[.slice A1 n1 c1, .int .i64 d.wid, .slice A2 n2 c2, .slice A3 n3 c3, .int .i64 d.st]] w fun e w' => e = .returned (.bool (decide (okD d))) ∧ Below w.heap.size w w' := by
  have hm1 := hD.cls.le; have hm2 := hD.nxt.le; have hm3 := hD.tag.le
  have HN1 := Hd.mk hD.cls.1; have HN2 := Hd.mk hD.nxt.1; have HN3 := Hd.mk hD.tag.1
  obtain ⟨b, hb⟩ : ∃ b, decide (okD d) = b := ⟨_, rfl⟩
  rw [hb]
  have HB := Hd.mk hb
  obtain ⟨wd, hwd⟩ : ∃ x, d.wid = x := ⟨_, rfl⟩
  obtain ⟨st, hst⟩ : ∃ x, d.st = x := ⟨_, rfl⟩
  have HWD := Hd.mk hwd; have HST := Hd.mk hst
  rw [hwd, hst]
  obtain ⟨W0, hW0⟩ : ∃ W0, w.alloc (.cells #[.slice A1 n1 c1, .int .i64 wd, .slice A2 n2 c2, .slice A3 n3 c3, .int .i64 st] 98) = W0 := ⟨_, rfl⟩
  have hBW : Below w.heap.size w W0 := by rw [← hW0]; exact below_alloc (Below.refl _ _) _
  have HDW := Hd.mk (hD.below hBW)
  have hx : W0.heap[w.heap.size]? = some (.cells #[.slice A1 n1 c1, .int .i64 wd, .slice A2 n2 c2, .slice A3 n3 c3, .int .i64 st] 98 (0, 0)) := by rw [← hW0]; exact blk_new _ _ _ rfl
  have HBW := Hd.mk hBW
  have HF : Hd (∀ P : Prop, (P → ¬ okD d) → P → b = false) := ⟨fun P h hp => by rw [← HB.out]; exact decide_eq_false (h hp)⟩
  have HA := Hd.mk (rright_calls A1 n1 c1 d.cls S W0.drew (fun k hk => HDW.out.lt k hk) (HDW.out.cls.move (fun _ _ => rfl)))
  clear hD hb hwd hst hBW
  go_enter Tryz.func65, Tryz.ntmps65
  go_upto_region 1 with fail
  clear hW0
  have hxc0 := blk_cell hx 0 _ rfl; have hxf0 := blk_frozen hx 0; have hxc1 := blk_cell hx 1 _ rfl; have hxf1 := blk_frozen hx 1; have hxc2 := blk_cell hx 2 _ rfl; have hxf2 := blk_frozen hx 2; have hxc3 := blk_cell hx 3 _ rfl; have hxf3 := blk_frozen hx 3; have hxc4 := blk_cell hx 4 _ rfl; have hxf4 := blk_frozen hx 4; have hxl := blk_lt hx
  by_cases g1 : (1024 : Int) < (n2 : Int)
  · obtain rfl := HF.out _ (fun h ho => by have := ho.1.1; have := HN2.out; omega) g1
    go_wp2
    refine wp_region_can (.q [0, 1, 2, 3, 4, 5, 6, 7, 8, 9, 10, 11, 12, 13, 14, 15, 16, 17, 18, 19, 20, 21, 22] (.e 23 false (.q [24, 25, 26, 27, 28, 29, 30] (.e 31 true (.q [32, 33, 34] (.done)))))) (clsB _) (by kernel_rfl) (by kernel_rfl) (by intro _ _ d _ _ h; cases d <;> exact h) (clsB_drew _) ?_
    refine can_q (l := [⟨_,_,_,_,_,_⟩, ⟨_,_,_,_,_,_⟩, ⟨_,_,_,_,_,_⟩, ⟨_,_,_,_,_,_⟩, ⟨_,_,_,_,_,_⟩, ⟨_,_,_,_,_,_⟩, ⟨_,_,_,_,_,_⟩, ⟨_,_,_,_,_,_⟩, ⟨_,_,_,_,_,_⟩, ⟨_,_,_,_,_,_⟩, ⟨_,_,_,_,_,_⟩, ⟨_,_,_,_,_,_⟩, ⟨_,_,_,_,_,_⟩, ⟨_,_,_,_,_,_⟩, ⟨_,_,_,_,_,_⟩, ⟨_,_,_,_,_,_⟩, ⟨_,_,_,_,_,_⟩, ⟨_,_,_,_,_,_⟩, ⟨_,_,_,_,_,_⟩, ⟨_,_,_,_,_,_⟩, ⟨_,_,_,_,_,_⟩, ⟨_,_,_,_,_,_⟩, ⟨_,_,_,_,_,_⟩]) rfl ?_
    repeat (go_big_quiet_step (fail))
    refine wpQuiet_nil ?_
    refine can_e (o := ⟨_,_,_,_,_,_⟩) rfl (fun K hK => ?_)
    go_wp2_with fail
    refine onK_normal (hK _ _ ⟨clsB _, clsB_of (by first | exact ((below_drew1 (Below.refl _ _))) | exact below_undrew ((below_drew1 (Below.refl _ _)))), fun _ _ h => h, ?_⟩)
    clear hK K
    refine can_q (l := [⟨_,_,_,_,_,_⟩, ⟨_,_,_,_,_,_⟩, ⟨_,_,_,_,_,_⟩, ⟨_,_,_,_,_,_⟩, ⟨_,_,_,_,_,_⟩, ⟨_,_,_,_,_,_⟩, ⟨_,_,_,_,_,_⟩]) rfl ?_
    repeat (go_big_quiet_step (fail))
    refine wpQuiet_nil ?_
    refine can_e (o := ⟨_,_,_,_,_,_⟩) rfl (fun K hK => ?_)
    go_wp2_with fail
    refine onK_normal (hK _ _ ⟨clsB _, clsB_of (by first | exact ((below_drew1 (Below.refl _ _))) | exact below_undrew ((below_drew1 (Below.refl _ _)))), fun _ _ h => h, ?_⟩)
    clear hK K
    refine can_q (l := [⟨_,_,_,_,_,_⟩, ⟨_,_,_,_,_,_⟩, ⟨_,_,_,_,_,_⟩]) rfl ?_
    repeat (go_big_quiet_step (fail))
    refine wpQuiet_nil ?_
    refine can_done ?_
    go_wp2
    go_ret
    exact ⟨rfl, below_drew1 HBW.out⟩
  have k1 : decide ((1024 : Int) < (n2 : Int)) = false := decide_eq_false g1
  by_cases g2 : (n3 : Int) = n2
  case neg =>
    obtain rfl := HF.out _ (fun h ho => by have := ho.1.2.1; have := HN2.out; have := HN3.out; omega) g2
    have hj : ((n3 : Int) != (n2 : Int)) = true := by simpa using g2
    go_wp2
    refine wp_region_can (.q [0, 1, 2, 3, 4, 5, 6, 7, 8, 9, 10, 11, 12, 13, 14, 15, 16, 17, 18, 19, 20, 21, 22] (.e 23 false (.q [24, 25, 26, 27, 28, 29, 30] (.e 31 true (.q [32, 33, 34] (.done)))))) (clsB _) (by kernel_rfl) (by kernel_rfl) (by intro _ _ d _ _ h; cases d <;> exact h) (clsB_drew _) ?_
    refine can_q (l := [⟨_,_,_,_,_,_⟩, ⟨_,_,_,_,_,_⟩, ⟨_,_,_,_,_,_⟩, ⟨_,_,_,_,_,_⟩, ⟨_,_,_,_,_,_⟩, ⟨_,_,_,_,_,_⟩, ⟨_,_,_,_,_,_⟩, ⟨_,_,_,_,_,_⟩, ⟨_,_,_,_,_,_⟩, ⟨_,_,_,_,_,_⟩, ⟨_,_,_,_,_,_⟩, ⟨_,_,_,_,_,_⟩, ⟨_,_,_,_,_,_⟩, ⟨_,_,_,_,_,_⟩, ⟨_,_,_,_,_,_⟩, ⟨_,_,_,_,_,_⟩, ⟨_,_,_,_,_,_⟩, ⟨_,_,_,_,_,_⟩, ⟨_,_,_,_,_,_⟩, ⟨_,_,_,_,_,_⟩, ⟨_,_,_,_,_,_⟩, ⟨_,_,_,_,_,_⟩, ⟨_,_,_,_,_,_⟩]) rfl ?_
    repeat (go_big_quiet_step (fail))
    refine wpQuiet_nil ?_
    refine can_e (o := ⟨_,_,_,_,_,_⟩) rfl (fun K hK => ?_)
    go_wp2_with fail
    refine onK_normal (hK _ _ ⟨clsB _, clsB_of (by first | exact ((below_drew1 (Below.refl _ _))) | exact below_undrew ((below_drew1 (Below.refl _ _)))), fun _ _ h => h, ?_⟩)
    clear hK K
    refine can_q (l := [⟨_,_,_,_,_,_⟩, ⟨_,_,_,_,_,_⟩, ⟨_,_,_,_,_,_⟩, ⟨_,_,_,_,_,_⟩, ⟨_,_,_,_,_,_⟩, ⟨_,_,_,_,_,_⟩, ⟨_,_,_,_,_,_⟩]) rfl ?_
    repeat (go_big_quiet_step (fail))
    refine wpQuiet_nil ?_
    refine can_e (o := ⟨_,_,_,_,_,_⟩) rfl (fun K hK => ?_)
    go_wp2_with fail
    refine onK_normal (hK _ _ ⟨clsB _, clsB_of (by first | exact ((below_drew1 (Below.refl _ _))) | exact below_undrew ((below_drew1 (Below.refl _ _)))), fun _ _ h => h, ?_⟩)
    clear hK K
    refine can_q (l := [⟨_,_,_,_,_,_⟩, ⟨_,_,_,_,_,_⟩, ⟨_,_,_,_,_,_⟩]) rfl ?_
    repeat (go_big_quiet_step (fail))
    refine wpQuiet_nil ?_
    refine can_done ?_
    go_wp2
    go_ret
    exact ⟨rfl, below_drew1 HBW.out⟩
  have j2 : ((n3 : Int) != (n2 : Int)) = false := by simpa using g2
  by_cases g3 : st < -1
  · obtain rfl := HF.out _ (fun h ho => by have := ho.1.2.2.1; have := HST.out; omega) g3
    go_wp2
    refine wp_region_can (.q [0, 1, 2, 3, 4, 5, 6, 7, 8, 9, 10, 11, 12, 13, 14, 15, 16, 17, 18, 19, 20, 21, 22] (.e 23 false (.q [24, 25, 26, 27, 28, 29, 30] (.e 31 true (.q [32, 33, 34] (.done)))))) (clsB _) (by kernel_rfl) (by kernel_rfl) (by intro _ _ d _ _ h; cases d <;> exact h) (clsB_drew _) ?_
    refine can_q (l := [⟨_,_,_,_,_,_⟩, ⟨_,_,_,_,_,_⟩, ⟨_,_,_,_,_,_⟩, ⟨_,_,_,_,_,_⟩, ⟨_,_,_,_,_,_⟩, ⟨_,_,_,_,_,_⟩, ⟨_,_,_,_,_,_⟩, ⟨_,_,_,_,_,_⟩, ⟨_,_,_,_,_,_⟩, ⟨_,_,_,_,_,_⟩, ⟨_,_,_,_,_,_⟩, ⟨_,_,_,_,_,_⟩, ⟨_,_,_,_,_,_⟩, ⟨_,_,_,_,_,_⟩, ⟨_,_,_,_,_,_⟩, ⟨_,_,_,_,_,_⟩, ⟨_,_,_,_,_,_⟩, ⟨_,_,_,_,_,_⟩, ⟨_,_,_,_,_,_⟩, ⟨_,_,_,_,_,_⟩, ⟨_,_,_,_,_,_⟩, ⟨_,_,_,_,_,_⟩, ⟨_,_,_,_,_,_⟩]) rfl ?_
    repeat (go_big_quiet_step (fail))
    refine wpQuiet_nil ?_
    refine can_e (o := ⟨_,_,_,_,_,_⟩) rfl (fun K hK => ?_)
    go_wp2_with fail
    refine onK_normal (hK _ _ ⟨clsB _, clsB_of (by first | exact ((below_drew1 (Below.refl _ _))) | exact below_undrew ((below_drew1 (Below.refl _ _)))), fun _ _ h => h, ?_⟩)
    clear hK K
    refine can_q (l := [⟨_,_,_,_,_,_⟩, ⟨_,_,_,_,_,_⟩, ⟨_,_,_,_,_,_⟩, ⟨_,_,_,_,_,_⟩, ⟨_,_,_,_,_,_⟩, ⟨_,_,_,_,_,_⟩, ⟨_,_,_,_,_,_⟩]) rfl ?_
    repeat (go_big_quiet_step (fail))
    refine wpQuiet_nil ?_
    refine can_e (o := ⟨_,_,_,_,_,_⟩) rfl (fun K hK => ?_)
    go_wp2_with fail
    refine onK_normal (hK _ _ ⟨clsB _, clsB_of (by first | exact ((below_drew1 (Below.refl _ _))) | exact below_undrew ((below_drew1 (Below.refl _ _)))), fun _ _ h => h, ?_⟩)
    clear hK K
    refine can_q (l := [⟨_,_,_,_,_,_⟩, ⟨_,_,_,_,_,_⟩, ⟨_,_,_,_,_,_⟩]) rfl ?_
    repeat (go_big_quiet_step (fail))
    refine wpQuiet_nil ?_
    refine can_done ?_
    go_wp2
    go_ret
    exact ⟨rfl, below_drew1 HBW.out⟩
  have k3 : decide (st < -1) = false := decide_eq_false g3
  by_cases g4 : (n2 : Int) ≤ st
  · obtain rfl := HF.out _ (fun h ho => by have := ho.1.2.2.2.1; have := HST.out; have := HN2.out; omega) g4
    go_wp2
    refine wp_region_can (.q [0, 1, 2, 3, 4, 5, 6, 7, 8, 9, 10, 11, 12, 13, 14, 15, 16, 17, 18, 19, 20, 21, 22] (.e 23 false (.q [24, 25, 26, 27, 28, 29, 30] (.e 31 true (.q [32, 33, 34] (.done)))))) (clsB _) (by kernel_rfl) (by kernel_rfl) (by intro _ _ d _ _ h; cases d <;> exact h) (clsB_drew _) ?_
    refine can_q (l := [⟨_,_,_,_,_,_⟩, ⟨_,_,_,_,_,_⟩, ⟨_,_,_,_,_,_⟩, ⟨_,_,_,_,_,_⟩, ⟨_,_,_,_,_,_⟩, ⟨_,_,_,_,_,_⟩, ⟨_,_,_,_,_,_⟩, ⟨_,_,_,_,_,_⟩, ⟨_,_,_,_,_,_⟩, ⟨_,_,_,_,_,_⟩, ⟨_,_,_,_,_,_⟩, ⟨_,_,_,_,_,_⟩, ⟨_,_,_,_,_,_⟩, ⟨_,_,_,_,_,_⟩, ⟨_,_,_,_,_,_⟩, ⟨_,_,_,_,_,_⟩, ⟨_,_,_,_,_,_⟩, ⟨_,_,_,_,_,_⟩, ⟨_,_,_,_,_,_⟩, ⟨_,_,_,_,_,_⟩, ⟨_,_,_,_,_,_⟩, ⟨_,_,_,_,_,_⟩, ⟨_,_,_,_,_,_⟩]) rfl ?_
    repeat (go_big_quiet_step (fail))
    refine wpQuiet_nil ?_
    refine can_e (o := ⟨_,_,_,_,_,_⟩) rfl (fun K hK => ?_)
    go_wp2_with fail
    refine onK_normal (hK _ _ ⟨clsB _, clsB_of (by first | exact ((below_drew1 (Below.refl _ _))) | exact below_undrew ((below_drew1 (Below.refl _ _)))), fun _ _ h => h, ?_⟩)
    clear hK K
    refine can_q (l := [⟨_,_,_,_,_,_⟩, ⟨_,_,_,_,_,_⟩, ⟨_,_,_,_,_,_⟩, ⟨_,_,_,_,_,_⟩, ⟨_,_,_,_,_,_⟩, ⟨_,_,_,_,_,_⟩, ⟨_,_,_,_,_,_⟩]) rfl ?_
    repeat (go_big_quiet_step (fail))
    refine wpQuiet_nil ?_
    refine can_e (o := ⟨_,_,_,_,_,_⟩) rfl (fun K hK => ?_)
    go_wp2_with fail
    refine onK_normal (hK _ _ ⟨clsB _, clsB_of (by first | exact ((below_drew1 (Below.refl _ _))) | exact below_undrew ((below_drew1 (Below.refl _ _)))), fun _ _ h => h, ?_⟩)
    clear hK K
    refine can_q (l := [⟨_,_,_,_,_,_⟩, ⟨_,_,_,_,_,_⟩, ⟨_,_,_,_,_,_⟩]) rfl ?_
    repeat (go_big_quiet_step (fail))
    refine wpQuiet_nil ?_
    refine can_done ?_
    go_wp2
    go_ret
    exact ⟨rfl, below_drew1 HBW.out⟩
  have k4 : decide ((n2 : Int) ≤ st) = false := decide_eq_false g4
  obtain rfl : n3 = n2 := by omega
  by_cases g5 : rightB d.cls = true
  case neg =>
    obtain rfl := HF.out _ (fun h ho => h ho.1.2.2.2.2.1) g5
    rw [Bool.not_eq_true] at g5
    rw [g5] at HA
    clear g5
    go_wp2
    refine wp_region_can (.q [0, 1, 2, 3, 4, 5, 6, 7, 8, 9, 10, 11, 12, 13, 14, 15, 16, 17, 18, 19, 20, 21, 22] (.e 23 false (.q [24, 25, 26, 27, 28, 29, 30] (.e 31 true (.q [32, 33, 34] (.done)))))) (clsB _) (by kernel_rfl) (by kernel_rfl) (by intro _ _ d _ _ h; cases d <;> exact h) (clsB_drew _) ?_
    refine can_q (l := [⟨_,_,_,_,_,_⟩, ⟨_,_,_,_,_,_⟩, ⟨_,_,_,_,_,_⟩, ⟨_,_,_,_,_,_⟩, ⟨_,_,_,_,_,_⟩, ⟨_,_,_,_,_,_⟩, ⟨_,_,_,_,_,_⟩, ⟨_,_,_,_,_,_⟩, ⟨_,_,_,_,_,_⟩, ⟨_,_,_,_,_,_⟩, ⟨_,_,_,_,_,_⟩, ⟨_,_,_,_,_,_⟩, ⟨_,_,_,_,_,_⟩, ⟨_,_,_,_,_,_⟩, ⟨_,_,_,_,_,_⟩, ⟨_,_,_,_,_,_⟩, ⟨_,_,_,_,_,_⟩, ⟨_,_,_,_,_,_⟩, ⟨_,_,_,_,_,_⟩, ⟨_,_,_,_,_,_⟩, ⟨_,_,_,_,_,_⟩, ⟨_,_,_,_,_,_⟩, ⟨_,_,_,_,_,_⟩]) rfl ?_
    repeat (go_big_quiet_step (fail))
    refine wpQuiet_nil ?_
    refine can_e (o := ⟨_,_,_,_,_,_⟩) rfl (fun K hK => ?_)
    go_wp2_with (go_at_call 89; go_must (refine Calls.mono HA.out ?_; rintro e w1 ⟨rfl, hb_⟩; have HB1 := Hd.mk (below_undrew hb_); clear hb_))
    refine onK_normal (hK _ _ ⟨clsB _, clsB_of (by first | exact (HB1.out) | exact below_undrew (HB1.out)), fun _ _ h => h, ?_⟩)
    clear hK K
    refine can_q (l := [⟨_,_,_,_,_,_⟩, ⟨_,_,_,_,_,_⟩, ⟨_,_,_,_,_,_⟩, ⟨_,_,_,_,_,_⟩, ⟨_,_,_,_,_,_⟩, ⟨_,_,_,_,_,_⟩, ⟨_,_,_,_,_,_⟩]) rfl ?_
    repeat (go_big_quiet_step (fail))
    refine wpQuiet_nil ?_
    refine can_e (o := ⟨_,_,_,_,_,_⟩) rfl (fun K hK => ?_)
    go_wp2_with fail
    refine onK_normal (hK _ _ ⟨clsB _, clsB_of (by first | exact (HB1.out) | exact below_undrew (HB1.out)), fun _ _ h => h, ?_⟩)
    clear hK K
    refine can_q (l := [⟨_,_,_,_,_,_⟩, ⟨_,_,_,_,_,_⟩, ⟨_,_,_,_,_,_⟩]) rfl ?_
    repeat (go_big_quiet_step (fail))
    refine wpQuiet_nil ?_
    refine can_done ?_
    go_wp2
    go_ret
    exact ⟨rfl, below_seq HBW.out HB1.out⟩
  have HG5 := Hd.mk g5
  rw [g5] at HA
  have HFI := Hd.mk (fun (W : World) (hb : Below W0.heap.size W0 W) => rfirst_calls A1 n1 c1 d.cls S W (fun k hk => Nat.lt_of_lt_of_le (HDW.out.lt k hk) hb.size) (HDW.out.cls.below HDW.out.lt hb))
  obtain ⟨fl, hfl⟩ : ∃ l, firstL d.cls = l := ⟨_, rfl⟩
  rw [hfl] at HFI
  have HFL := Hd.mk hfl
  obtain ⟨nf, hnf⟩ : ∃ n, fl.length = n := ⟨_, rfl⟩
  have HNF := Hd.mk hnf
  clear g5 hfl hnf
  by_cases g6 : wd = (nf : Int)
  case neg =>
    obtain rfl := HF.out _ (fun h ho => by have := ho.1.2.2.2.2.2; have := HWD.out; have := HFL.out; have := HNF.out; rw [HFL.out] at *; omega) g6
    have hj : (wd != (nf : Int)) = true := by simpa using g6
    go_wp2
    refine wp_region_can (.q [0, 1, 2, 3, 4, 5, 6, 7, 8, 9, 10, 11, 12, 13, 14, 15, 16, 17, 18, 19, 20, 21, 22] (.e 23 false (.q [24, 25, 26, 27, 28, 29, 30] (.e 31 true (.q [32, 33, 34] (.done)))))) (clsB _) (by kernel_rfl) (by kernel_rfl) (by intro _ _ d _ _ h; cases d <;> exact h) (clsB_drew _) ?_
    refine can_q (l := [⟨_,_,_,_,_,_⟩, ⟨_,_,_,_,_,_⟩, ⟨_,_,_,_,_,_⟩, ⟨_,_,_,_,_,_⟩, ⟨_,_,_,_,_,_⟩, ⟨_,_,_,_,_,_⟩, ⟨_,_,_,_,_,_⟩, ⟨_,_,_,_,_,_⟩, ⟨_,_,_,_,_,_⟩, ⟨_,_,_,_,_,_⟩, ⟨_,_,_,_,_,_⟩, ⟨_,_,_,_,_,_⟩, ⟨_,_,_,_,_,_⟩, ⟨_,_,_,_,_,_⟩, ⟨_,_,_,_,_,_⟩, ⟨_,_,_,_,_,_⟩, ⟨_,_,_,_,_,_⟩, ⟨_,_,_,_,_,_⟩, ⟨_,_,_,_,_,_⟩, ⟨_,_,_,_,_,_⟩, ⟨_,_,_,_,_,_⟩, ⟨_,_,_,_,_,_⟩, ⟨_,_,_,_,_,_⟩]) rfl ?_
    repeat (go_big_quiet_step (fail))
    refine wpQuiet_nil ?_
    refine can_e (o := ⟨_,_,_,_,_,_⟩) rfl (fun K hK => ?_)
    go_wp2_with (go_at_call 89; go_must (refine Calls.mono HA.out ?_; rintro e w1 ⟨rfl, hb_⟩; have HB1 := Hd.mk (below_undrew hb_); clear hb_))
    refine onK_normal (hK _ _ ⟨clsB _, clsB_of (by first | exact (HB1.out) | exact below_undrew (HB1.out)), fun _ _ h => h, ?_⟩)
    clear hK K
    refine can_q (l := [⟨_,_,_,_,_,_⟩, ⟨_,_,_,_,_,_⟩, ⟨_,_,_,_,_,_⟩, ⟨_,_,_,_,_,_⟩, ⟨_,_,_,_,_,_⟩, ⟨_,_,_,_,_,_⟩, ⟨_,_,_,_,_,_⟩]) rfl ?_
    repeat (go_big_quiet_step (fail))
    refine wpQuiet_nil ?_
    refine can_e (o := ⟨_,_,_,_,_,_⟩) rfl (fun K hK => ?_)
    go_wp2_with (go_at_call 90; go_must (refine Calls.mono (HFI.out w1 HB1.out) ?_; rintro e w2 ⟨A', n', c', rfl, hr_, hb_⟩; obtain rfl : nf = n' := (by rw [← HNF.out]; exact hr_.1); have HB2 := Hd.mk (below_seq HB1.out hb_); clear hb_ hr_))
    refine onK_normal (hK _ _ ⟨clsB _, clsB_of (by first | exact (HB2.out) | exact below_undrew (HB2.out)), fun _ _ h => h, ?_⟩)
    clear hK K
    refine can_q (l := [⟨_,_,_,_,_,_⟩, ⟨_,_,_,_,_,_⟩, ⟨_,_,_,_,_,_⟩]) rfl ?_
    repeat (go_big_quiet_step (fail))
    refine wpQuiet_nil ?_
    refine can_done ?_
    go_wp2
    go_ret
    exact ⟨rfl, below_seq HBW.out HB2.out⟩
  have HOH : Hd (okH d) := ⟨by rw [HN2.out]; omega, by rw [HN2.out, HN3.out], by rw [HST.out]; omega, by rw [HST.out, HN2.out]; omega, HG5.out, by rw [HWD.out, g6, HFL.out, HNF.out]⟩
  have j6 : (wd != (nf : Int)) = false := by simpa using g6
  subst g6
  clear g2
  go_wp2
  refine wp_region_can (.q [0, 1, 2, 3, 4, 5, 6, 7, 8, 9, 10, 11, 12, 13, 14, 15, 16, 17, 18, 19, 20, 21, 22] (.e 23 false (.q [24, 25, 26, 27, 28, 29, 30] (.e 31 true (.q [32, 33, 34] (.done)))))) (clsB _) (by kernel_rfl) (by kernel_rfl) (by intro _ _ d _ _ h; cases d <;> exact h) (clsB_drew _) ?_
  refine can_q (l := [⟨_,_,_,_,_,_⟩, ⟨_,_,_,_,_,_⟩, ⟨_,_,_,_,_,_⟩, ⟨_,_,_,_,_,_⟩, ⟨_,_,_,_,_,_⟩, ⟨_,_,_,_,_,_⟩, ⟨_,_,_,_,_,_⟩, ⟨_,_,_,_,_,_⟩, ⟨_,_,_,_,_,_⟩, ⟨_,_,_,_,_,_⟩, ⟨_,_,_,_,_,_⟩, ⟨_,_,_,_,_,_⟩, ⟨_,_,_,_,_,_⟩, ⟨_,_,_,_,_,_⟩, ⟨_,_,_,_,_,_⟩, ⟨_,_,_,_,_,_⟩, ⟨_,_,_,_,_,_⟩, ⟨_,_,_,_,_,_⟩, ⟨_,_,_,_,_,_⟩, ⟨_,_,_,_,_,_⟩, ⟨_,_,_,_,_,_⟩, ⟨_,_,_,_,_,_⟩, ⟨_,_,_,_,_,_⟩]) rfl ?_
  repeat (go_big_quiet_step (fail))
  refine wpQuiet_nil ?_
  refine can_e (o := ⟨_,_,_,_,_,_⟩) rfl (fun K hK => ?_)
  go_wp2_with (go_at_call 89; go_must (refine Calls.mono HA.out ?_; rintro e w1 ⟨rfl, hb_⟩; have HB1 := Hd.mk (below_undrew hb_); clear hb_))
  refine onK_normal (hK _ _ ⟨clsB _, clsB_of (by first | exact (HB1.out) | exact below_undrew (HB1.out)), fun _ _ h => h, ?_⟩)
  clear hK K
  refine can_q (l := [⟨_,_,_,_,_,_⟩, ⟨_,_,_,_,_,_⟩, ⟨_,_,_,_,_,_⟩, ⟨_,_,_,_,_,_⟩, ⟨_,_,_,_,_,_⟩, ⟨_,_,_,_,_,_⟩, ⟨_,_,_,_,_,_⟩]) rfl ?_
  repeat (go_big_quiet_step (fail))
  refine wpQuiet_nil ?_
  refine can_e (o := ⟨_,_,_,_,_,_⟩) rfl (fun K hK => ?_)
  go_wp2_with (go_at_call 90; go_must (refine Calls.mono (HFI.out w1 HB1.out) ?_; rintro e w2 ⟨A', n', c', rfl, hr_, hb_⟩; obtain rfl : nf = n' := (by rw [← HNF.out]; exact hr_.1); have HB2 := Hd.mk (below_seq HB1.out hb_); clear hb_ hr_))
  refine onK_normal (hK _ _ ⟨clsB _, clsB_of (by first | exact (HB2.out) | exact below_undrew (HB2.out)), fun _ _ h => h, ?_⟩)
  clear hK K
  refine can_q (l := [⟨_,_,_,_,_,_⟩, ⟨_,_,_,_,_,_⟩, ⟨_,_,_,_,_,_⟩]) rfl ?_
  repeat (go_big_quiet_step (fail))
  refine wpQuiet_nil ?_
  refine can_done ?_
  have HX := Hd.mk (blk_below hx HB2.out)
  have hx2 := HX.out
  clear hxc0 hxf0 hxc1 hxf1 hxc2 hxf2 hxc3 hxf3 hxc4 hxf4 hxl
  have hx2c0 := blk_cell hx2 0 _ rfl; have hx2f0 := blk_frozen hx2 0; have hx2c1 := blk_cell hx2 1 _ rfl; have hx2f1 := blk_frozen hx2 1; have hx2c2 := blk_cell hx2 2 _ rfl; have hx2f2 := blk_frozen hx2 2; have hx2c3 := blk_cell hx2 3 _ rfl; have hx2f3 := blk_frozen hx2 3; have hx2c4 := blk_cell hx2 4 _ rfl; have hx2f4 := blk_frozen hx2 4; have hx2l := blk_lt hx2
  go_wp2
  have HDV := Hd.mk (HDW.out.below HB2.out)
  have HBV := Hd.mk (below_seq HBW.out HB2.out)
  clear hx2c0 hx2f0 hx2c1 hx2f1 hx2c2 hx2f2 hx2c3 hx2f3 hx2c4 hx2f4 hx2l
  go_loopw [4] (fun i wr => ∃ k : Nat, k ≤ n3 ∧ i = .int .i64 k ∧ Hd (okK d k) ∧ Hd (Below w2.heap.size w2 wr)) (fun i _ => n3 - (intOf i).toNat)
  case atStart => exact ⟨0, Nat.zero_le _, rfl, ⟨okK_zero d⟩, ⟨Below.refl _ _⟩⟩
  case round =>
    obtain ⟨k, hk, rfl, HK, HBr⟩ := hrel
    have hxr := blk_below HX.out HBr.out
    have hxrc0 := blk_cell hxr 0 _ rfl; have hxrf0 := blk_frozen hxr 0; have hxrc1 := blk_cell hxr 1 _ rfl; have hxrf1 := blk_frozen hxr 1; have hxrc2 := blk_cell hxr 2 _ rfl; have hxrf2 := blk_frozen hxr 2; have hxrc3 := blk_cell hxr 3 _ rfl; have hxrf3 := blk_frozen hxr 3; have hxrc4 := blk_cell hxr 4 _ rfl; have hxrf4 := blk_frozen hxr 4; have hxrl := blk_lt hxr
    by_cases hlt : k < n3
    · obtain ⟨b1, o1, A', c', r, rfl, hb1, hr, hr1, -, -, hrr⟩ := rows_get (HDV.out.below HBr.out).nxt k hlt
      obtain ⟨b2, o2, t, rfl, -, hb2, ht, ht1⟩ := (HDV.out.below HBr.out).tag.get_int k hlt
      have HR := Hd.mk hr; have HT := Hd.mk ht; have HRR := Hd.mk hrr
      obtain ⟨m, hm⟩ : ∃ m, r.length = m := ⟨_, rfl⟩
      rw [hm] at hr1 HRR
      have hmm := HRR.out.le
      have HM := Hd.mk hm
      clear hr ht hm hrr
      by_cases g8 : t < -1
      · obtain rfl := HF.out _ (fun h => not_tag HT.out h) g8
        go_wp2
        refine wp_region_can (.q [0, 1, 2, 3, 4, 5, 6, 7, 8, 9, 10, 11, 12, 13, 14, 15, 16] (.done)) (clsB _) (by kernel_rfl) (by kernel_rfl) (by intro _ _ d _ _ h; cases d <;> exact h) (clsB_drew _) ?_
        refine can_q (l := [⟨_,_,_,_,_,_⟩, ⟨_,_,_,_,_,_⟩, ⟨_,_,_,_,_,_⟩, ⟨_,_,_,_,_,_⟩, ⟨_,_,_,_,_,_⟩, ⟨_,_,_,_,_,_⟩, ⟨_,_,_,_,_,_⟩, ⟨_,_,_,_,_,_⟩, ⟨_,_,_,_,_,_⟩, ⟨_,_,_,_,_,_⟩, ⟨_,_,_,_,_,_⟩, ⟨_,_,_,_,_,_⟩, ⟨_,_,_,_,_,_⟩, ⟨_,_,_,_,_,_⟩, ⟨_,_,_,_,_,_⟩, ⟨_,_,_,_,_,_⟩, ⟨_,_,_,_,_,_⟩]) rfl ?_
        repeat (go_big_quiet_step (fail))
        refine wpQuiet_nil ?_
        refine can_done ?_
        go_wp2
        go_ret
        exact ⟨rfl, below_drew1 (below_seq HBV.out HBr.out)⟩
      have k8 : decide (t < -1) = false := decide_eq_false g8
      by_cases g7 : (m : Int) = nf
      case neg =>
        obtain rfl := HF.out _ (fun h => not_row HR.out (fun ho => h (by rw [← HM.out, ← HWD.out]; exact ho.1))) g7
        have hj : ((m : Int) != (nf : Int)) = true := by simpa using g7
        go_wp2
        refine wp_region_can (.q [0, 1, 2, 3, 4, 5, 6, 7, 8, 9, 10, 11, 12, 13, 14, 15, 16] (.done)) (clsB _) (by kernel_rfl) (by kernel_rfl) (by intro _ _ d _ _ h; cases d <;> exact h) (clsB_drew _) ?_
        refine can_q (l := [⟨_,_,_,_,_,_⟩, ⟨_,_,_,_,_,_⟩, ⟨_,_,_,_,_,_⟩, ⟨_,_,_,_,_,_⟩, ⟨_,_,_,_,_,_⟩, ⟨_,_,_,_,_,_⟩, ⟨_,_,_,_,_,_⟩, ⟨_,_,_,_,_,_⟩, ⟨_,_,_,_,_,_⟩, ⟨_,_,_,_,_,_⟩, ⟨_,_,_,_,_,_⟩, ⟨_,_,_,_,_,_⟩, ⟨_,_,_,_,_,_⟩, ⟨_,_,_,_,_,_⟩, ⟨_,_,_,_,_,_⟩, ⟨_,_,_,_,_,_⟩, ⟨_,_,_,_,_,_⟩]) rfl ?_
        repeat (go_big_quiet_step (fail))
        refine wpQuiet_nil ?_
        refine can_done ?_
        go_wp2
        go_ret
        exact ⟨rfl, below_drew1 (below_seq HBV.out HBr.out)⟩
      obtain rfl : m = nf := by omega
      have hj7 : ((m : Int) != (m : Int)) = false := by simp
      go_wp2
      refine wp_region_can (.q [0, 1, 2, 3, 4, 5, 6, 7, 8, 9, 10, 11, 12, 13, 14, 15, 16] (.done)) (clsB _) (by kernel_rfl) (by kernel_rfl) (by intro _ _ d _ _ h; cases d <;> exact h) (clsB_drew _) ?_
      refine can_q (l := [⟨_,_,_,_,_,_⟩, ⟨_,_,_,_,_,_⟩, ⟨_,_,_,_,_,_⟩, ⟨_,_,_,_,_,_⟩, ⟨_,_,_,_,_,_⟩, ⟨_,_,_,_,_,_⟩, ⟨_,_,_,_,_,_⟩, ⟨_,_,_,_,_,_⟩, ⟨_,_,_,_,_,_⟩, ⟨_,_,_,_,_,_⟩, ⟨_,_,_,_,_,_⟩, ⟨_,_,_,_,_,_⟩, ⟨_,_,_,_,_,_⟩, ⟨_,_,_,_,_,_⟩, ⟨_,_,_,_,_,_⟩, ⟨_,_,_,_,_,_⟩, ⟨_,_,_,_,_,_⟩]) rfl ?_
      repeat (go_big_quiet_step (fail))
      refine wpQuiet_nil ?_
      refine can_done ?_
      go_wp2
      go_loopw [5] (fun i wx => ∃ q : Nat, q ≤ m ∧ i = .int .i64 q ∧ Hd (okE n3 r q) ∧ wx = wr.drew) (fun i _ => m - (intOf i).toNat)
      case atStart => exact ⟨0, Nat.zero_le _, rfl, ⟨okE_zero _ _⟩, rfl⟩
      case round =>
        obtain ⟨q, hq, rfl, HQ, rfl⟩ := hrel
        by_cases hltq : q < m
        · obtain ⟨b3, o3, x, rfl, -, hb3, hx3, hy3⟩ := HRR.out.get_int q hltq
          have HX3 := Hd.mk hx3
          clear hx3
          by_cases g9 : x < -1
          · obtain rfl := HF.out _ (fun h => not_row HR.out (fun ho => by have := (ho.2 x (List.mem_of_getElem? HX3.out)).1; omega)) g9
            go_wp2
            go_ret
            exact ⟨rfl, below_drew1 (below_seq HBV.out HBr.out)⟩
          by_cases g10 : x < n3
          case neg =>
            obtain rfl := HF.out _ (fun h => not_row HR.out (fun ho => by have := (ho.2 x (List.mem_of_getElem? HX3.out)).2; have := HN2.out; omega)) g10
            go_wp2
            go_ret
            exact ⟨rfl, below_drew1 (below_seq HBV.out HBr.out)⟩
          go_wp2
          go_roundw
          case rel => exact ⟨q + 1, by omega, by go_num, ⟨okE_succ HQ.out HX3.out (by omega) g10⟩, trivial⟩
          case measure => simp [intOf]; omega
        · obtain rfl : q = m := by omega
          go_wp2
          go_roundw
          case rel => exact ⟨k + 1, by omega, by go_num, ⟨okK_succ HK.out HR.out HT.out ⟨by rw [HM.out, HWD.out], by rw [HN2.out]; exact okE_all HM.out HQ.out⟩ (by omega)⟩, ⟨below_drew1 HBr.out⟩⟩
          case measure => simp [intOf]; omega
    · obtain rfl : k = n3 := by omega
      obtain rfl : b = true := by rw [← HB.out]; exact decide_eq_true ⟨HOH.out, okK_all HN2.out HN3.out HK.out⟩
      go_wp2
      go_ret
      exact ⟨rfl, below_seq HBV.out HBr.out⟩
end Go.Proofs.YtoambcpjdcehhaaGreat.Df
