/- Texts: C17, C18, C19. -/
import Derived.Test.YtbmpaokicphdjaaDoorCE
set_option linter.unusedVariables false
set_option linter.unusedSimpArgs false
/- Rows of marks in memory; the reference's Best, Numbers, Among. -/
namespace Go.Proofs.YtbmpaokicphdjaaDoor.Fn
open Go Go.RowKit Go.Proofs.YtbmpaokicphdjaaDoor.Can Go.Proofs.YtbmpaokicphdjaaDoor.Base
attribute [local go_sem] clsB AB.cell

abbrev bE (b : Bool) : List Value := [.bool b]
theorem bE_len (b : Bool) : (bE b).length = 1 := rfl
theorem bE_one (b : Bool) : ∀ u ∈ bE b, u.oneCell' = true := fun u hu => by rw [List.mem_singleton.1 hu]; rfl
abbrev bTy : Ty Bool := Ty.flat 1 bE bE_len bE_one
theorem bTy_flat : bTy.Flat := Ty.flat_flat _ _ _ _
theorem infoB : (Tryd.prog.info? 4).map (fun i => (i.zero, i.size, i.bytes)) = some (some (.bool false), 1, 1) := by kernel_rfl
/-- A row of marks that may be turned. -/
structure Mk (w : World) (base : Nat) (A : Option Addr) (n c : Nat) (m : List Bool) : Prop where
  len : m.length = n
  nn : A = none → c = 0
  at_ : n = 0 ∨ ∃ g, A = some ⟨g, 0, none⟩ ∧ base ≤ g ∧ Blk bE w 4 g m
theorem Mk.row {w : World} {base n c : Nat} {A : Option Addr} {m : List Bool} (h : Mk w base A n c m) (hn : n ≤ 65536) : Row bTy w (fun k => base ≤ k ∧ k < w.heap.size) A n m := by
  rcases h.at_ with h0 | ⟨g, rfl, hg, hb⟩
  · subst h0
    obtain rfl : m = [] := List.eq_nil_of_length_eq_zero h.len
    exact Row.nil _ _ _ _
  · have := hb.row bE_len bE_one (S := fun k => base ≤ k ∧ k < w.heap.size) ⟨hg, hb.lt⟩ (by rw [h.len]; omega)
    rwa [h.len] at this
theorem Mk.below {w w' : World} {base n c : Nat} {A : Option Addr} {m : List Bool} (h : Mk w base A n c m) (hb : Below w.heap.size w w') : Mk w' base A n c m :=
  ⟨h.len, h.nn, by rcases h.at_ with h0 | ⟨g, e, hg, k⟩; exact .inl h0; exact .inr ⟨g, e, hg, k.below hb⟩⟩
theorem Mk.mono {w : World} {base base' n c : Nat} {A : Option Addr} {m : List Bool} (h : Mk w base A n c m) (hb : base' ≤ base) : Mk w base' A n c m :=
  ⟨h.len, h.nn, by rcases h.at_ with h0 | ⟨g, e, hg, k⟩; exact .inl h0; exact .inr ⟨g, e, Nat.le_trans hb hg, k⟩⟩
/-- One of its places. -/
theorem Mk.place {w : World} {base n c : Nat} {A : Option Addr} {m : List Bool} (h : Mk w base A n c m) {k : Nat} (hk : k < n) : ∃ g, A = some ⟨g, 0, none⟩ ∧ base ≤ g ∧ g < w.heap.size ∧ w.cell? ⟨g, k, none⟩ = some (.bool (m.getD k false)) ∧ w.frozen? ⟨g, k, none⟩ = false ∧ Mk (w.setCell ⟨g, k, none⟩ (.bool true)) base A n c (m.set k true) := by
  rcases h.at_ with h0 | ⟨g, e, hg, hb⟩
  · omega
  · have hx : m[k]? = some (m.getD k false) := by rw [List.getD_eq_getElem?_getD, List.getElem?_eq_getElem (by rw [h.len]; exact hk)]; rfl
    have hc := hb.cell0 bE_len hx (v := .bool (m.getD k false)) rfl
    have hs := hb.set0 bE_len hx (by decide) (v := .bool true) (y := true) rfl
    rw [Nat.mul_one] at hc hs
    exact ⟨g, e, hg, hb.lt, hc, hb.frozen k, by rw [List.length_set]; exact h.len, h.nn, .inr ⟨g, e, hg, hs⟩⟩
theorem Mk.made {w : World} {base g n : Nat} (hb : base ≤ g) (h : Blk bE w 4 g (List.replicate n false)) : Mk w base (some ⟨g, 0, none⟩) n n (List.replicate n false) :=
  ⟨List.length_replicate, fun h => (by cases h), .inr ⟨g, rfl, hb, h⟩⟩
theorem Mk.mine {w : World} {base n c : Nat} {A : Option Addr} {m : List Bool} (h : Mine bTy w base 4 (.slice A n c) m) (hn : m.length = n) (hA : A = none → c = 0) : Mk w base A n c m := by
  refine ⟨hn, hA, ?_⟩
  rcases Nat.eq_zero_or_pos n with h0 | h0
  · exact .inl h0
  · obtain ⟨g, c', e, hg, _, hb⟩ := h.blk bE_len (by rw [hn]; exact h0)
    simp only [Value.slice.injEq] at e
    exact .inr ⟨g, e.1, hg, hb⟩
theorem get_mark {w : World} {S : Nat → Prop} {A : Option Addr} {n : Nat} {m : List Bool} (h : Row bTy w S A n m) (i : Nat) (hi : i < n) :
    ∃ b off, A = some ⟨b, off, none⟩ ∧ b < w.heap.size ∧ w.cell? ⟨b, off + i, none⟩ = some (.bool (m.getD i false)) := by
  have hl := h.1
  obtain ⟨b, off, cs, he, hs, hr, hcell⟩ := h.get i hi
  have hr' : cs = [.bool _] := hr
  subst hr'
  have h0 := hcell 0 _ rfl
  have h1 : off + i * bTy.sz + 0 = off + i := by show off + i * 1 + 0 = _; omega
  rw [h1] at h0
  exact ⟨b, off, he, World.block_lt_of_cell? w _ h0, by rw [List.getD_eq_getElem?_getD, List.getElem?_eq_getElem (by omega)]; exact h0⟩
/-! ### Best -/
def bestK (q : List St) (m : List Bool) (k : Nat) : Int := (List.range k).foldl (fun b i => match q[i]? with | some x => bestF b x (m.getD i false) | none => b) (-1)
theorem bestK_succ {q : List St} {k : Nat} {x : St} (hx : q[k]? = some x) (m : List Bool) : bestK q m (k + 1) = bestF (bestK q m k) x (m.getD k false) := by
  unfold bestK
  rw [List.range_succ, List.foldl_append, List.foldl_cons, List.foldl_nil, hx]
set_option maxHeartbeats 2000000 in
theorem rbest_calls (st : Int) (A : Option Addr) (n c : Nat) (q : List St) (S : Nat → Prop) (Am : Option Addr) (cm : Nat) (m : List Bool) (Sm : Nat → Prop) (w : World) (hn : q.length = n) (hN : NF w S A q) (hSm : ∀ k, Sm k → k < w.heap.size) (hM : Row bTy w Sm Am n m) :
    Calls Tryd.prog 53 #[.agg #[.int .i64 st, .slice A n c], .slice Am n cm] w fun e w' => e = .returned (.int .i64 (bestM q m)) ∧ Below w.heap.size w w' := by
  have hrow := hN.row
  rw [hn] at hrow
  have hmN := hrow.le
  have HROW := Hd.mk hrow; have HLT := Hd.mk hN.lt; have HM := Hd.mk hM; have HSM := Hd.mk hSm
  have HR : Hd (bestM q m = bestK q m n) := ⟨by rw [← hn]; rfl⟩
  obtain ⟨r, hr⟩ : ∃ r, bestM q m = r := ⟨_, rfl⟩
  rw [hr] at HR ⊢
  clear hn hN hrow hr hM hSm
  go_enter Tryd.func53, Tryd.ntmps53
  go_wp2
  generalize hV : World.alloc _ _ = V
  have HBV : Below w.heap.size w V := below_of hV (by repeat (first | (with_reducible assumption) | (with_reducible exact Below.refl _ _) | (with_reducible apply below_drewL) | (with_reducible apply below_alloc) | (with_reducible apply below_drew1) | (with_reducible apply below_drewN) | (refine below_set ?_ (by first | omega | (simp only [size_alloc, size_drew, size_set]; omega)) _ _)))
  have zV : Hd (V.heap.size = w.heap.size + 1) := ⟨by rw [← hV]; simp only [size_alloc]⟩
  have V0 := at_of hV (blk_new _ _ _ rfl)
  have V0l := blk_lt V0
  clear hV
  have HV := Hd.mk HBV
  have V0c0 := blk_cell V0 0 _ rfl; have V0f0 := blk_frozen V0 0; have V0c1 := blk_cell V0 1 _ rfl; have V0f1 := blk_frozen V0 1; have V0l := blk_lt V0
  clear zV HBV
  go_loopw [5, 6] (fun b i wr => ∃ (k : Nat) (bb : Int), k ≤ n ∧ i = .int .i64 k ∧ b = .int .i64 bb ∧ Hd (bestK q m k = bb) ∧ V = wr) (fun _ i _ => n - (intOf i).toNat)
  case atStart => exact ⟨0, -1, Nat.zero_le _, rfl, rfl, ⟨rfl⟩, rfl⟩
  case round =>
    obtain ⟨k, bb, hk, rfl, rfl, HB, rfl⟩ := hrel
    by_cases hlt : k < n
    · obtain ⟨b, off, x, A', c', rfl, hb, hx, h0x, h1x, h2x, h3x, h4x, hrow⟩ := st_get (HROW.out.below HLT.out HV.out) k hlt
      obtain ⟨b5, off5, rfl, hb5, hc5⟩ := get_mark (HM.out.below HSM.out HV.out) k hlt
      obtain ⟨mk, hmk⟩ : ∃ b, m.getD k false = b := ⟨_, rfl⟩
      rw [hmk] at hc5
      have HG : Hd (bestK q m (k + 1) = if mk = true ∧ 0 ≤ x.tag ∧ (bb < 0 ∨ x.tag < bb) then x.tag else bb) := ⟨by rw [bestK_succ hx, HB.out, hmk]; rfl⟩
      clear h0x h1x h2x h3x hrow hx hmk
      cases mk with
      | false =>
        go_wp2
        go_roundw
        case rel => exact ⟨k + 1, bb, by omega, by go_num, rfl, ⟨by rw [HG.out, if_neg (by rintro ⟨a, b, c⟩; first | omega | cases a)]⟩, by first | trivial | rfl⟩
        case measure => simp [intOf]; omega
      | true =>
        by_cases ht : 0 ≤ x.tag
        · by_cases hb1 : bb < 0
          · go_wp2
            go_roundw
            case rel => exact ⟨k + 1, x.tag, by omega, by go_num, rfl, ⟨by rw [HG.out, if_pos ⟨rfl, ht, .inl hb1⟩]⟩, by first | trivial | rfl⟩
            case measure => simp [intOf]; omega
          · by_cases hb2 : x.tag < bb
            · go_wp2
              go_roundw
              case rel => exact ⟨k + 1, x.tag, by omega, by go_num, rfl, ⟨by rw [HG.out, if_pos ⟨rfl, ht, .inr hb2⟩]⟩, by first | trivial | rfl⟩
              case measure => simp [intOf]; omega
            · skip
              go_wp2
              go_roundw
              case rel => exact ⟨k + 1, bb, by omega, by go_num, rfl, ⟨by rw [HG.out, if_neg (by rintro ⟨a, b, c⟩; first | omega | cases a)]⟩, by first | trivial | rfl⟩
              case measure => simp [intOf]; omega
        · skip
          go_wp2
          go_roundw
          case rel => exact ⟨k + 1, bb, by omega, by go_num, rfl, ⟨by rw [HG.out, if_neg (by rintro ⟨a, b, c⟩; first | omega | cases a)]⟩, by first | trivial | rfl⟩
          case measure => simp [intOf]; omega
    · obtain rfl : k = n := by omega
      obtain rfl : bb = r := by rw [← HB.out, HR.out]
      go_wp2
      go_ret
      exact ⟨rfl, HV.out⟩
/-! ### Numbers -/
def numK (m : List Bool) (k : Nat) : List Int := ((List.range k).filter (fun i => m.getD i false)).map fun i : Nat => (i : Int)
theorem numK_succ (m : List Bool) (k : Nat) : numK m (k + 1) = numK m k ++ if m.getD k false = true then [(k : Int)] else [] := by
  unfold numK
  rw [List.range_succ, List.filter_append, List.map_append]
  congr 1
  rw [List.filter_cons, List.filter_nil]
  split <;> rfl
theorem numK_len (m : List Bool) (k : Nat) : (numK m k).length ≤ k := by
  unfold numK
  rw [List.length_map]
  have := List.length_filter_le (fun i => m.getD i false) (List.range k)
  rwa [List.length_range] at this
set_option maxHeartbeats 2000000 in
theorem numbersM_calls (Am : Option Addr) (n cm : Nat) (m : List Bool) (Sm : Nat → Prop) (w : World) (hn : n ≤ 65536) (hSm : ∀ k, Sm k → k < w.heap.size) (hM : Row bTy w Sm Am n m) :
    Calls Tryd.prog 50 #[.slice Am n cm] w fun e w' => ∃ A' n' c', e = .returned (.slice A' n' c') ∧ Row I w' (fun k => w.heap.size ≤ k ∧ k < w'.heap.size) A' n' (numbersL m) ∧ Below w.heap.size w w' := by
  have HM := Hd.mk hM; have HSM := Hd.mk hSm
  have HR : Hd (numbersL m = numK m n) := ⟨by unfold numbersL numK; rw [hM.1]⟩
  clear hM hSm
  go_enter Tryd.func50, Tryd.ntmps50
  go_wp2
  go_loopw [3, 4] (fun v i wr => ∃ (k n9 c9 : Nat) (A9 : Option Addr), k ≤ n ∧ i = .int .i64 k ∧ v = .slice A9 n9 c9 ∧ Hd (Mine I wr w.heap.size 3 (.slice A9 n9 c9) (numK m k)) ∧ Hd (Below w.heap.size w wr)) (fun _ i _ => n - (intOf i).toNat)
  case atStart => exact ⟨0, 0, 0, none, Nat.zero_le _, rfl, rfl, ⟨Mine.nil _ _ _ _⟩, ⟨Below.refl _ _⟩⟩
  case round =>
    obtain ⟨k, n9, c9, A9, hk, rfl, rfl, HI, HB⟩ := hrel
    by_cases hlt : k < n
    · obtain ⟨b5, off5, rfl, hb5, hc5⟩ := get_mark (HM.out.below HSM.out HB.out) k hlt
      obtain ⟨mk, hmk⟩ : ∃ b, m.getD k false = b := ⟨_, rfl⟩
      rw [hmk] at hc5
      have HG : Hd (numK m (k + 1) = numK m k ++ if mk = true then [(k : Int)] else []) := ⟨by rw [numK_succ, hmk]⟩
      have hnl := numK_len m k
      clear hmk
      have hzr := HB.out.size
      cases mk with
      | false =>
        go_wp2
        go_roundw
        case rel => exact ⟨k + 1, n9, c9, A9, by omega, by go_num, rfl, ⟨by rw [HG.out]; simpa using HI.out⟩, HB⟩
        case measure => simp [intOf]; omega
      | true =>
        go_wp2_with (at_builtin; go_must (refine append_snoc I (Ty.int_flat _) rfl (.tmp 15) (.tmp 17) 24 3 _ 8 rfl Tryd.underlying24 info3 rfl (by decide) (by decide) w.heap.size (.slice A9 n9 c9) (numK m k) (k : Int) [.int .i64 (k : Int)] wr.heap.size rfl rfl (blk_new wr _ _ rfl) rfl (HI.out.below (below_alloc (Below.refl _ _) _)) (HI.out.ne_new (by omega)) (by rw [size_alloc]; omega) (by omega) ?_; intro v2 w5 hM5 hb5 hk5 hat5; obtain ⟨A5, n5, c5, rfl, -, -, -, -⟩ := hM5.formN; have HM5 := Hd.mk hM5; have HB5 := Hd.mk hb5; clear hM5 hb5 hk5 hat5))
        go_roundw
        case rel => exact ⟨k + 1, n5, c5, A5, by omega, by go_num, rfl, ⟨by rw [HG.out]; exact HM5.out⟩, ⟨(below_seq HB.out (below_alloc (Below.refl _ _) _)).trans HB5.out⟩⟩
        case measure => simp [intOf]; omega
    · obtain rfl : k = n := by omega
      obtain ⟨A8, n8, c8, e8, hn9, -, -, hr9⟩ := HI.out.formN
      cases e8
      have HR9 := Hd.mk hr9
      clear hr9 hn9
      go_wp2
      go_ret
      exact ⟨A9, n9, c9, rfl, by rw [HR.out]; exact HR9.out, HB.out⟩
end Go.Proofs.YtbmpaokicphdjaaDoor.Fn

/- The reference's Among. -/
namespace Go.Proofs.YtbmpaokicphdjaaDoor.Fn
open Go Go.RowKit Go.Proofs.YtbmpaokicphdjaaDoor.Can Go.Proofs.YtbmpaokicphdjaaDoor.Base
attribute [local go_sem] clsB AB.cell

def amongM (n : Nat) (l : List Int) : List Bool := l.foldl (fun m y => if 0 ≤ y ∧ y < (n : Int) then m.set y.toNat true else m) (List.replicate n false)
theorem among_snoc (n : Nat) (l : List Int) (y : Int) : amongM n (l ++ [y]) = if 0 ≤ y ∧ y < (n : Int) then (amongM n l).set y.toNat true else amongM n l := by simp [amongM]
theorem made_in (n k : Nat) : ¬ isIn (List.replicate n false) k := by
  unfold isIn
  rw [List.getD_eq_getElem?_getD, List.getElem?_replicate]
  split <;> simp
theorem among_len (n : Nat) (l : List Int) : (amongM n l).length = n := by
  unfold amongM
  refine List.foldlRecOn (motive := fun m : List Bool => m.length = n) l _ List.length_replicate fun m hm y _ => ?_
  split
  · rw [List.length_set]; exact hm
  · exact hm
theorem snoc_ind {α : Type} {P : List α → Prop} (h0 : P []) (h1 : ∀ l x, P l → P (l ++ [x])) (l : List α) : P l := by
  rw [← List.reverse_reverse l]
  induction l.reverse with
  | nil => exact h0
  | cons a l ih => rw [List.reverse_cons]; exact h1 _ _ ih
theorem among_in (n : Nat) (l : List Int) (k : Nat) : isIn (amongM n l) k ↔ (k : Int) ∈ l ∧ k < n := by
  refine snoc_ind (P := fun l => isIn (amongM n l) k ↔ (k : Int) ∈ l ∧ k < n) ?_ (fun l y ih => ?_) l
  · exact ⟨fun h => absurd h (made_in n k), fun h => by cases h.1⟩
  · rw [among_snoc, List.mem_append, List.mem_singleton]
    split
    · rename_i h
      rw [isIn_set _ _ _ (by rw [among_len]; omega), ih]
      constructor
      · rintro (h1 | h1)
        · exact ⟨.inl h1.1, h1.2⟩
        · exact ⟨.inr (by omega), by omega⟩
      · rintro ⟨h1 | h1, h2⟩
        · exact .inl ⟨h1, h2⟩
        · exact .inr (by omega)
    · rename_i h
      rw [ih]
      exact ⟨fun h1 => ⟨.inl h1.1, h1.2⟩, fun h1 => by
        rcases h1.1 with h2 | h2
        · exact ⟨h2, h1.2⟩
        · exact absurd ⟨by omega, by have := h1.2; omega⟩ h⟩
theorem of_bitI {n : Nat} (hn : n ≤ 65536) (l : List Int) (i : Nat) : bitAt (ofW n l) i = true ↔ ((i : Int) ∈ l ∧ i < n) := by
  refine snoc_ind (P := fun l => bitAt (ofW n l) i = true ↔ (i : Int) ∈ l ∧ i < n) ?_ (fun l y ih => ?_) l
  · unfold ofW
    rw [List.foldl_nil, made_bit _ _ hn]
    simp
  · rw [ofW_snoc, bit_add (ofW_ok hn l) y i, Bool.or_eq_true, ih, decide_eq_true_iff, List.mem_append, List.mem_singleton]
    unfold inR
    constructor
    · rintro (h | ⟨h1, h2⟩)
      · exact ⟨.inl h.1, h.2⟩
      · exact ⟨.inr h2, by omega⟩
    · rintro ⟨h1 | h1, h2⟩
      · exact .inl ⟨h1, h2⟩
      · exact .inr ⟨by omega, h1⟩
theorem among_of {n : Nat} (hn : n ≤ 65536) (l : List Int) : amongM n l = marksW n (ofW n l) := by
  refine marks_ext (by rw [among_len, marksW_len]) fun k => ?_
  rw [among_in, marksW_in, of_bitI hn]
  exact ⟨fun h => ⟨h.2, h⟩, fun h => h.2⟩
set_option maxRecDepth 20000 in
set_option maxHeartbeats 2000000 in
theorem among_calls (st : Int) (A : Option Addr) (n c : Nat) (Al : Option Addr) (nl cl : Nat) (l : List Int) (Sl : Nat → Prop) (w : World) (hn : n ≤ 65536) (hSl : ∀ k, Sl k → k < w.heap.size) (hl : Row I w Sl Al nl l) :
    Calls Tryd.prog 52 #[.agg #[.int .i64 st, .slice A n c], .slice Al nl cl] w fun e w' => ∃ A' c', e = .returned (.slice A' n c') ∧ Mk w' w.heap.size A' n c' (amongM n l) ∧ Below w.heap.size w w' := by
  have hmN := hl.le
  obtain ⟨i0, hi, hz, hs, hbb⟩ := info_of infoB
  have HI := Hd.mk (And.intro hi (And.intro hz (And.intro hs hbb)))
  have HL := Hd.mk hl; have HSL := Hd.mk hSl
  clear hi hz hs hbb hl hSl
  go_enter Tryd.func52, Tryd.ntmps52
  go_wp2_with
    (at_make; go_must (refine wpList_make_full _ rfl (.tmp 9) (.tmp 9) 74 rfl (w.heap.size + 1) 4 i0 (.bool false) 1 Tryd.underlying74 HI.out.1 HI.out.2.1 HI.out.2.2.1 .i64 .i64 n n n rfl rfl rfl rfl (by rw [HI.out.2.2.2]; omega) (by simp only [maxLen]; omega) (by simp only [size_alloc]; omega) ?_; intro w1 ho1 hg1; have hb1 : Below (w.heap.size + 1) (w.alloc (.cells #[.int .i64 st, .slice A n c] 58)) w1 := ((Below.refl _ _).grown hg1 (by simp only [size_alloc]; omega) (fun k hk => by cases hk)); have hp1 : w1.heap[w.heap.size]? = some (.cells #[.int .i64 st, .slice A n c] 58 (0, 0)) := ((hb1.block _ (by omega)).trans (blk_new _ _ _ rfl)); have hp1c0 := blk_cell hp1 0 _ rfl; have hp1f0 := blk_frozen hp1 0; have hp1c1 := blk_cell hp1 1 _ rfl; have hp1f1 := blk_frozen hp1 1; have hp1l := blk_lt hp1))
  have HMK : Hd (Mk w1 w.heap.size (some ⟨w.heap.size + 1, 0, none⟩) n n (List.replicate n false)) := ⟨Mk.made (Nat.le_succ _) (by
    have h := Blk.made (enc := bE) (x := false) bE_len (by decide) rfl ho1
    rw [size_alloc] at h
    exact h)⟩
  have HB1 : Hd (Below w.heap.size w w1) := ⟨(below_alloc (Below.refl _ _) _).trans (hb1.mono (by omega))⟩
  have hzw := (HB1.out).size
  have hz1 : w.heap.size + 1 < w1.heap.size := by
    have h := (Blk.made (enc := bE) (x := false) bE_len (by decide) rfl ho1).lt
    rw [size_alloc] at h
    exact h
  go_loopw [6] (fun i wr => ∃ (k : Nat), k ≤ nl ∧ i = .int .i64 k ∧ Hd (Mk wr w.heap.size (some ⟨w.heap.size + 1, 0, none⟩) n n (amongM n (l.take k))) ∧ Hd (Below w.heap.size w wr)) (fun i _ => nl - (intOf i).toNat)
  case atStart => exact ⟨0, Nat.zero_le _, rfl, by rw [List.take_zero]; exact HMK, HB1⟩
  case round =>
    obtain ⟨k, hk, rfl, HM, HB⟩ := hrel
    by_cases hlt : k < nl
    · obtain ⟨b, off, y, rfl, _, hb, hy, hcell⟩ := (HL.out.below HSL.out HB.out).get_int k hlt
      have HT : Hd (l.take (k + 1) = l.take k ++ [y]) := ⟨by rw [List.take_add_one, hy]; rfl⟩
      clear hy
      by_cases h0 : 0 ≤ y
      · by_cases h1 : y < (n : Int)
        · obtain ⟨j, rfl⟩ : ∃ j : Nat, y = j := ⟨y.toNat, by omega⟩
          obtain ⟨g, he, hg, hgl, hc, hf, hm⟩ := HM.out.place (k := j) (by omega)
          cases he
          have HM2 := Hd.mk hm
          clear hm
          go_wp2
          go_roundw
          case rel => exact ⟨k + 1, by omega, by go_num, ⟨by rw [HT.out, among_snoc, if_pos ⟨h0, h1⟩, Int.toNat_natCast]; exact HM2.out⟩, ⟨below_set HB.out (by omega) _ _⟩⟩
          case measure => simp [intOf]; omega
        · go_wp2
          go_roundw
          case rel => exact ⟨k + 1, by omega, by go_num, ⟨by rw [HT.out, among_snoc, if_neg (by omega)]; exact HM.out⟩, HB⟩
          case measure => simp [intOf]; omega
      · go_wp2
        go_roundw
        case rel => exact ⟨k + 1, by omega, by go_num, ⟨by rw [HT.out, among_snoc, if_neg (by omega)]; exact HM.out⟩, HB⟩
        case measure => simp [intOf]; omega
    · obtain rfl : k = nl := by omega
      go_wp2
      go_ret
      refine ⟨_, _, rfl, ?_, HB.out⟩
      have := HM.out
      rwa [← HL.out.1, List.take_length] at this
end Go.Proofs.YtbmpaokicphdjaaDoor.Fn

/- The reference's Close. -/
namespace Go.Proofs.YtbmpaokicphdjaaDoor.Fn
open Go Go.RowKit Go.Proofs.YtbmpaokicphdjaaDoor.Can Go.Proofs.YtbmpaokicphdjaaDoor.Base
attribute [local go_sem] clsB AB.cell

theorem row_stuck {i : Nat} (l : List Int) {s : List Bool × Bool} (h : s.1.getD i false = false) : l.foldl (tickD i) s = s := by
  induction l with
  | nil => rfl
  | cons k l ih =>
    rw [List.foldl_cons]
    have e : tickD i s k = s := by unfold tickD; rw [if_neg (by rw [h]; decide)]
    rw [e, ih]
set_option maxRecDepth 20000 in
set_option maxHeartbeats 4000000 in
theorem rclose_calls (st : Int) (A : Option Addr) (n c : Nat) (q : List St) (S : Nat → Prop) (Am : Option Addr) (cm : Nat) (m : List Bool) (Sm : Nat → Prop) (w : World) (hn : q.length = n) (hn6 : n ≤ 65536) (hN : NF w S A q) (hok : okN st q) (hSm : ∀ k, Sm k → k < w.heap.size) (hM : Row bTy w Sm Am n m) (hAm : Am = none → cm = 0) :
    Calls Tryd.prog 55 #[.agg #[.int .i64 st, .slice A n c], .slice Am n cm] w fun e w' => ∃ A' c', e = .returned (.slice A' n c') ∧ Mk w' w.heap.size A' n c' (closeM epsE q m) ∧ Below w.heap.size w w' := by
  have hrow := hN.row
  rw [hn] at hrow
  have HML : Hd (m.length = n) := ⟨hM.1⟩
  have HROW := Hd.mk hrow; have HLT := Hd.mk hN.lt; have HM := Hd.mk hM; have HSM := Hd.mk hSm; have HAM := Hd.mk hAm; have HN := Hd.mk hn; have HOK := Hd.mk hok
  clear hn hN hrow hM hSm hAm hok
  go_enter Tryd.func55, Tryd.ntmps55
  go_wp2_with (at_builtin; go_must (refine append_row bTy bTy_flat rfl (.tmp 11) (.tmp 12) 74 4 _ 1 rfl Tryd.underlying74 infoB rfl (by decide) (by decide) w.heap.size (.slice (some ⟨w.heap.size + 1, 0, none⟩) 0 0) [] m Am n cm rfl rfl HAM.out (Mine.empty bTy (w.alloc (.cells #[.int .i64 st, .slice A n c] 58)) (by rw [size_alloc]) (by omega)) (HM.out.below HSM.out (below_alloc (below_alloc (Below.refl _ _) _) _)) (fun k hk => ⟨by simp only [size_alloc]; have := HSM.out k hk; omega, ownBlock_ne (by have := HSM.out k hk; omega)⟩) (by simp only [size_alloc]; omega) (by simp only [List.length_nil]; omega) ?_; intro v1 w1 hM1 hb1 hk1 hat1; rw [List.nil_append] at hM1; obtain ⟨A1, n1, c1, rfl, hn1, -, hA1, -⟩ := hM1.formN; rw [HML.out] at hn1; subst hn1; have HMK : Hd (Mk w1 w.heap.size A1 n1 c1 m) := ⟨Mk.mine hM1 HML.out hA1⟩; have HB1 : Hd (Below w.heap.size w w1) := ⟨(below_alloc (below_alloc (Below.refl _ _) _) _).trans hb1⟩; have hbx : w1.heap[w.heap.size]? = some (.cells #[.int .i64 st, .slice A n1 c] 58 (0, 0)) := (hk1 w.heap.size (by simp only [size_alloc]; omega) (fun h => by have := ownBlock_eq h; omega)).trans (blk_alloc (blk_new w _ _ rfl) _); have HBX := Hd.mk hbx; clear hM1 hb1 hk1 hat1 hA1 hbx))
  have hN9 : n1 ≤ 9223372036854775807 := by omega
  clear hn6
  go_wp2
  go_loopw [6, 7] (fun mo kk wr => ∃ (k : Nat) (mm : List Bool) (more : Bool), k ≤ n1 ∧ kk = .int .i64 k ∧ mo = .bool more ∧ Hd (Rd q m k mm more) ∧ Hd (Mk wr w.heap.size A1 n1 c1 mm) ∧ Hd (wr.heap[w.heap.size]? = some (.cells #[.int .i64 st, .slice A n1 c] 58 (0, 0))) ∧ Hd (w.heap.size ≠ w.heap.size + 1) ∧ Hd (Below w.heap.size w wr)) (fun _ kk _ => n1 - (intOf kk).toNat)
  case atStart => exact ⟨0, m, true, Nat.zero_le _, rfl, rfl, ⟨Rd.start (by rw [HML.out, HN.out])⟩, HMK, HBX, ⟨by omega⟩, HB1⟩
  case round =>
    clear HMK HBX HB1
    obtain ⟨k, mm, more, hk, rfl, rfl, HRD, HMK, HBX, -, HB⟩ := hrel
    have hbx := HBX.out
    have hbxc0 := blk_cell hbx 0 _ rfl; have hbxf0 := blk_frozen hbx 0; have hbxc1 := blk_cell hbx 1 _ rfl; have hbxf1 := blk_frozen hbx 1; have hbxl := blk_lt hbx
    by_cases hlt : k < n1
    · cases more with
      | true =>
        go_wp2
        clear hbxc0 hbxf0 hbxc1 hbxf1 hbxl
        clear hbx
        go_loopw [6, 8] (fun mo ii wr2 => ∃ (i : Nat) (s : List Bool × Bool), i ≤ n1 ∧ ii = .int .i64 i ∧ mo = .bool s.2 ∧ Hd (passK q i (mm, false) = s) ∧ Hd (Mk wr2 w.heap.size A1 n1 c1 s.1) ∧ Hd (wr2.heap[w.heap.size]? = some (.cells #[.int .i64 st, .slice A n1 c] 58 (0, 0))) ∧ Hd (Below w.heap.size w wr2)) (fun _ ii _ => n1 - (intOf ii).toNat)
        case atStart => exact ⟨0, (mm, false), Nat.zero_le _, rfl, rfl, ⟨rfl⟩, HMK, HBX, HB⟩
        case round =>
          clear HMK HBX HB
          obtain ⟨i, s, hi, rfl, rfl, HS, HMK, HBX, HB⟩ := hrel
          have hbx := HBX.out
          have hbxc0 := blk_cell hbx 0 _ rfl; have hbxf0 := blk_frozen hbx 0; have hbxc1 := blk_cell hbx 1 _ rfl; have hbxf1 := blk_frozen hbx 1; have hbxl := blk_lt hbx
          by_cases hlt2 : i < n1
          · obtain ⟨x, hx⟩ : ∃ x, q[i]? = some x := ⟨_, List.getElem?_eq_getElem (by rw [HN.out]; exact hlt2)⟩
            have HP : Hd (passK q (i + 1) (mm, false) = x.eps.foldl (tickD i) s) := ⟨by rw [passK_succ, HS.out]; unfold passI; rw [hx]⟩
            have HEP : Hd (∀ y ∈ x.eps, 0 ≤ y ∧ y < (n1 : Int)) := ⟨fun y hy => by have := (HOK.out.2 x (List.mem_of_getElem? hx)).1 y hy; rwa [HN.out] at this⟩
            have HX := Hd.mk hx
            obtain ⟨ne, hne⟩ : ∃ m, x.eps.length = m := ⟨_, rfl⟩
            have HNE := Hd.mk hne
            clear hx hne
            go_wp2
            clear hbxc0 hbxf0 hbxc1 hbxf1 hbxl
            clear hbx
            go_loopw [6, 9] (fun mo jj wr3 => ∃ (j : Nat) (t : List Bool × Bool), j ≤ ne ∧ jj = .int .i64 j ∧ mo = .bool t.2 ∧ Hd ((x.eps.take j).foldl (tickD i) s = t) ∧ Hd (Mk wr3 w.heap.size A1 n1 c1 t.1) ∧ Hd (wr3.heap[w.heap.size]? = some (.cells #[.int .i64 st, .slice A n1 c] 58 (0, 0))) ∧ Hd (Below w.heap.size w wr3)) (fun _ jj _ => ne - (intOf jj).toNat)
            case atStart => exact ⟨0, s, Nat.zero_le _, rfl, rfl, ⟨by rw [List.take_zero]; rfl⟩, HMK, HBX, HB⟩
            case round =>
              clear HMK HBX HB
              obtain ⟨j, t, hj, rfl, rfl, HTK, HMK, HBX, HB⟩ := hrel
              have hbx := HBX.out
              have hbxc0 := blk_cell hbx 0 _ rfl; have hbxf0 := blk_frozen hbx 0; have hbxc1 := blk_cell hbx 1 _ rfl; have hbxf1 := blk_frozen hbx 1; have hbxl := blk_lt hbx
              have hzr := HB.out.size
              obtain ⟨b, off, x2, A', c', rfl, hb, hx2, h0x, h1x, h2x, h3x, h4x, hrowx⟩ := st_get (HROW.out.below HLT.out HB.out) i hlt2
              obtain rfl : x = x2 := by have := HX.out; rw [hx2] at this; cases this; rfl
              rw [HNE.out] at h3x hrowx
              obtain ⟨g, rfl, hg, hgl, hcm, hfm, -⟩ := HMK.out.place hlt2
              obtain ⟨bi, hbi⟩ : ∃ b, t.1.getD i false = b := ⟨_, rfl⟩
              rw [hbi] at hcm
              have HBI := Hd.mk hbi
              have HRX := Hd.mk hrowx
              have hneN := hrowx.le
              clear hx2 hbi hrowx h0x h1x h2x h4x
              cases bi with
              | true =>
                by_cases hlt3 : j < ne
                · obtain ⟨b3, off3, y, rfl, _, hb3, hy, hcy⟩ := HRX.out.get_int j hlt3
                  have HT : Hd (x.eps.take (j + 1) = x.eps.take j ++ [y]) := ⟨by rw [List.take_add_one, hy]; rfl⟩
                  have hyr := HEP.out y (List.mem_of_getElem? hy)
                  obtain ⟨e, rfl⟩ : ∃ e : Nat, y = e := ⟨y.toNat, by omega⟩
                  have hen : e < n1 := by omega
                  clear hy hyr
                  obtain ⟨g2, hg2, -, -, hce, hfe, hme⟩ := HMK.out.place hen
                  cases hg2
                  have HME := Hd.mk hme
                  obtain ⟨be, hbe⟩ : ∃ b, t.1.getD e false = b := ⟨_, rfl⟩
                  rw [hbe] at hce
                  obtain ⟨mo, hmo⟩ : ∃ b, t.2 = b := ⟨_, rfl⟩
                  rw [hmo]
                  have HTT : Hd ((x.eps.take (j + 1)).foldl (tickD i) s = (t.1.set e true, mo || !be)) := ⟨by
                    rw [HT.out, List.foldl_append, HTK.out, List.foldl_cons, List.foldl_nil]
                    unfold tickD
                    rw [if_pos HBI.out, Int.toNat_natCast, hbe, hmo]⟩
                  clear hme hbe hmo
                  have hgw : ¬ w.heap.size = g := fun h => by
                    have h1 := HBX.out
                    rcases HMK.out.at_ with h2 | ⟨g3, e3, _, rest, h2⟩
                    · omega
                    · cases e3
                      rw [← h, h1] at h2
                      simp only [Option.some.injEq, Obj.cells.injEq] at h2
                      exact absurd h2.2.1 (by decide)
                  cases mo with
                  | true =>
                    go_wp2
                    go_roundw
                    case rel => exact ⟨j + 1, _, by omega, by go_num, by rfl, HTT, HME, ⟨blk_far hbx hgw _⟩, ⟨below_set HB.out hg _ _⟩⟩
                    case measure => simp [intOf]; omega
                  | false =>
                    cases be with
                    | true =>
                      go_wp2
                      go_roundw
                      case rel => exact ⟨j + 1, _, by omega, by go_num, by rfl, HTT, HME, ⟨blk_far hbx hgw _⟩, ⟨below_set HB.out hg _ _⟩⟩
                      case measure => simp [intOf]; omega
                    | false =>
                      go_wp2
                      go_roundw
                      case rel => exact ⟨j + 1, _, by omega, by go_num, by rfl, HTT, HME, ⟨blk_far hbx hgw _⟩, ⟨below_set HB.out hg _ _⟩⟩
                      case measure => simp [intOf]; omega
                · obtain rfl : j = ne := by omega
                  have HPT : Hd (passK q (i + 1) (mm, false) = t) := ⟨by rw [HP.out, ← HTK.out, ← HNE.out, List.take_length]⟩
                  go_wp2
                  go_roundw
                  case rel => exact ⟨i + 1, t, by omega, by go_num, rfl, HPT, HMK, HBX, HB⟩
                  case measure => simp [intOf]; omega
              | false =>
                have HPT : Hd (passK q (i + 1) (mm, false) = t) := ⟨by
                  rw [HP.out, ← List.take_append_drop j x.eps, List.foldl_append, HTK.out]
                  exact row_stuck _ HBI.out⟩
                go_wp2
                go_roundw
                case rel => exact ⟨i + 1, t, by omega, by go_num, rfl, HPT, HMK, HBX, HB⟩
                case measure => simp [intOf]; omega
          · obtain rfl : i = n1 := by omega
            have HR2 : Hd (Rd q m (k + 1) s.1 s.2) := ⟨by
              have := HRD.out.round HOK.out
              rw [HN.out, HS.out] at this
              exact this⟩
            go_wp2
            go_roundw
            case rel => exact ⟨k + 1, s.1, s.2, by omega, by go_num, rfl, HR2, HMK, HBX, ⟨by omega⟩, HB⟩
            case measure => simp [intOf]; omega
      | false =>
        go_wp2
        go_ret
        exact ⟨_, _, rfl, by rw [← HRD.out.done HOK.out (by rw [HML.out, HN.out]) (.inr rfl)]; exact HMK.out, HB.out⟩
    · obtain rfl : k = n1 := by omega
      go_wp2
      go_ret
      exact ⟨_, _, rfl, by rw [← HRD.out.done HOK.out (by rw [HML.out, HN.out]) (.inl HN.out.symm)]; exact HMK.out, HB.out⟩
end Go.Proofs.YtbmpaokicphdjaaDoor.Fn
