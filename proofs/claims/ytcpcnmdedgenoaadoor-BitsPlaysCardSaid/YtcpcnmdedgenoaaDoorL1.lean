/- BitsPlays: the walk. -/
import Derived.Test.YtcpcnmdedgenoaaDoorB18
namespace Go.Proofs.YtcpcnmdedgenoaaDoor.Fn
open Go Go.RowKit Go.Proofs.YtcpcnmdedgenoaaDoor.Can Go.Proofs.YtcpcnmdedgenoaaDoor.Base
attribute [local go_sem] clsB AB.cell

abbrev lT : Ty (List Int) := Ty.slice I (by decide)
abbrev actT : Ty (Int × (Int × List Int)) := Ty.pair I (Ty.pair I lT)
theorem act_get {w : World} {S : Nat → Prop} {A : Option Addr} {n : Nat} {l : List (Int × (Int × List Int))} (h : Row actT w S A n l) (k : Nat) (hk : k < n) :
    ∃ b off a A' c', A = some ⟨b, off, none⟩ ∧ b < w.heap.size ∧ l[k]? = some a ∧ w.cell? ⟨b, off + k * 3, none⟩ = some (.int .i64 a.1) ∧ w.cell? ⟨b, off + k * 3 + 1, none⟩ = some (.int .i64 a.2.1) ∧ w.cell? ⟨b, off + k * 3 + 2, none⟩ = some (.slice A' a.2.2.length c') ∧ Row I w S A' a.2.2.length a.2.2 := by
  obtain ⟨b, off, cs, he, hs, hr, hcell⟩ := h.get k hk
  obtain ⟨c0, c1, rfl, h0, c2, c3, rfl, h2, A', c', e3, _, _, h3⟩ := hr
  have h0' : c0 = [.int .i64 _] := h0
  have h2' : c2 = [.int .i64 _] := h2
  have e3' : c3 = [.slice A' _ c'] := e3
  subst h0' h2' e3'
  have q0 := hcell 0 _ rfl
  exact ⟨b, off, _, A', c', he, World.block_lt_of_cell? w _ q0, List.getElem?_eq_getElem _, q0, hcell 1 _ rfl, hcell 2 _ rfl, h3⟩
theorem r1000 : roomR 1000 = 1000 := by decide +kernel
theorem dropW_len (room : Nat) (ws : List Nat) (n : Int) : (dropW room ws n).length = ws.length := by
  unfold dropW dropB; split <;> simp
theorem drop_len2 {room : Nat} {ws : List Nat} (h : Wok room ws) (x : Int) : (dropO room ws x = true ∧ ¬ (elemsI (dropW room ws x)).length = (elemsI ws).length) ∨ (dropO room ws x = false ∧ elemsI (dropW room ws x) = elemsI ws) := drop_len h x
theorem add_len2 {room : Nat} {ws : List Nat} (h : Wok room ws) (x : Int) : (addO room ws x = true ∧ ¬ (elemsI (addW room ws x)).length = (elemsI ws).length) ∨ (addO room ws x = false ∧ elemsI (addW room ws x) = elemsI ws) := by
  rcases add_len h x with ⟨a, b⟩ | ⟨a, b⟩
  · exact .inl ⟨a, by omega⟩
  · exact .inr ⟨a, by rw [b]⟩
theorem len_ok {n9 n8 : Nat} {ok o : Bool} (ho : o = ok) (h : (o = true ∧ ¬ n9 = n8) ∨ (o = false ∧ n9 = n8)) : ((n9 : Int) != (n8 : Int)) = ok := by
  subst ho
  rcases h with ⟨rfl, h⟩ | ⟨rfl, h⟩
  · simp; omega
  · simp; omega
set_option maxRecDepth 20000 in
set_option maxHeartbeats 2000000 in
theorem plays_calls (room ask : Int) (A : Option Addr) (c : Nat) (xs : List (Int × (Int × List Int))) (S : Nat → Prop) (w : World) (hS : ∀ k, S k → k < w.heap.size) (hC : Row actT w S A xs.length xs) (hT : TabAt 0 Lib.deBruijn64tab w) (h0 : 0 < w.heap.size) :
    Calls Tryd.prog 3 #[.int .i64 room, .slice A xs.length c, .int .i64 ask] w fun e w' => e = .returned (.bool true) ∧ Below w.heap.size w w' := by
  obtain ⟨n, hn⟩ : ∃ n, xs.length = n := ⟨_, rfl⟩
  rw [hn] at hC ⊢
  have hmN := hC.le
  have HS := Hd.mk hS; have HC := Hd.mk hC; have HT := Hd.mk hT; have H0 := Hd.mk h0
  clear hn hS hC hT h0
  have tabB : ∀ {W : World}, Below w.heap.size w W → TabAt 0 Lib.deBruijn64tab W := fun hb j hj => (hb.cell (p := ⟨0, j, none⟩) H0.out).trans (HT.out j hj)
  have TAB := Hd.mk @tabB; clear tabB
  by_cases h60 : 60 < n
  · go_enter Tryd.func3, Tryd.ntmps3
    go_wp2_with (go_at_call 6; go_must (refine Calls.mono (alive_calls _ HT.out H0.out) ?_; rintro e w2 ⟨rfl, hb2⟩))
    go_ret
    exact ⟨rfl, hb2⟩
  obtain ⟨m, hm⟩ : ∃ m, roomR room = m := ⟨_, rfl⟩
  have hm6 : m ≤ 65536 := by rw [← hm]; exact roomR_le room
  have h7 := new_calls room
  have h8 := rroom_calls room
  rw [hm] at h7 h8
  obtain ⟨Kw, hK⟩ : ∃ Kw, (m + 63) / 64 = Kw := ⟨_, rfl⟩
  rw [hK] at h7
  have H7 := Hd.mk h7; have H8 := Hd.mk h8; have HK := Hd.mk hK; have HM := Hd.mk hm6
  clear h7 h8 hK hm hm6
  go_enter Tryd.func3, Tryd.ntmps3
  go_wp2_with (first
    | (go_at_call 8; go_must (refine Calls.mono (H8.out _) ?_; rintro e w2 ⟨rfl, rfl⟩))
    | (go_at_call 7; go_must (refine Calls.mono (H7.out _) ?_; rintro e w1 ⟨g, rfl, hg, hgl, hwd, hb1⟩)))
  have hz1 := hb1.size
  generalize hV : World.alloc w1 _ = V
  have hv1 : V.heap[w1.heap.size]? = some (.cells #[.slice (some ⟨g, 0, none⟩) Kw Kw, .int .i64 m] 26 (0, 0)) := by rw [← hV]; exact blk_new _ _ _ rfl
  have HW0 : Hd (Wd V (some ⟨g, 0, none⟩) g (List.replicate Kw 0)) := ⟨by rw [← hV]; exact hwd.below (below_alloc (Below.refl _ _) _)⟩
  have HBV : Hd (Below w.heap.size w V) := ⟨by rw [← hV]; exact below_alloc hb1 _⟩
  have hgV : g < V.heap.size := by rw [← hV, size_alloc]; omega
  have hpV : w1.heap.size < V.heap.size := blk_lt hv1
  have hne : ¬ w1.heap.size = g := by omega
  have hpw : w.heap.size ≤ w1.heap.size := hz1
  have HV1 := Hd.mk hv1
  have HGW : Hd (w.heap.size ≤ g) := ⟨hg⟩
  clear hV hv1 hwd hb1 hgl hz1
  generalize w1.heap.size = p7 at *
  have HK0 : Hd (Wok m (List.replicate Kw 0) ∧ (List.replicate Kw 0 : List Nat).length = Kw) := ⟨by rw [← HK.out]; exact Wok.made HM.out, List.length_replicate⟩
  have HE0 : Hd (elemsI (List.replicate Kw 0) = []) := ⟨by
    refine List.eq_nil_iff_forall_not_mem.2 fun x hx => ?_
    have := ((mem_elemsI HK0.out.1 x).1 hx).2
    rw [← HK.out, made_bit _ _ HM.out] at this
    cases this⟩
  go_loopw [8, 28] (fun v i wr => ∃ (k n8 c8 : Nat) (A8 : Option Addr) (ws : List Nat), k ≤ n ∧ i = .int .i64 k ∧ v = .slice A8 n8 c8 ∧ Hd (Wok m ws ∧ ws.length = Kw) ∧ Hd (Wd wr (some ⟨g, 0, none⟩) g ws) ∧ Hd (Fr (fun b => b = g) V wr) ∧ Hd (Lst wr (fun q => V.heap.size ≤ q ∧ q < wr.heap.size) A8 n8 c8 (elemsI ws))) (fun _ i _ => n - (intOf i).toNat)
  case atStart => exact ⟨0, 0, 0, none, _, Nat.zero_le _, rfl, rfl, HK0, HW0, ⟨Fr.refl _ _⟩, ⟨by rw [HE0.out]; exact ⟨Row.nil _ _ _ _, Nat.le_refl _, fun _ => rfl⟩⟩⟩
  case round =>
    clear HK0 HE0 HW0
    obtain ⟨k, n8, c8, A8, ws, hk, rfl, rfl, HWK, HW, HF, HL⟩ := hrel
    have HBr : Hd (Below w.heap.size w wr) := ⟨HBV.out.trans (HF.out.below HBV.out.size (fun b hb hx => by have hx' : b = g := hx; omega))⟩
    have hp7 := HF.out.blk HV1.out hne
    by_cases hlt : k < n
    · obtain ⟨b, off, a, A5, c5, rfl, hb, _, ha0, ha1, ha2, hrowA⟩ := act_get (HC.out.below HS.out HBr.out) k hlt
      have HRA := Hd.mk hrowA; clear hrowA
      obtain ⟨kind, num, ls⟩ := a
      dsimp only at *
      obtain ⟨z, hz⟩ : ∃ z, ls.length = z := ⟨_, rfl⟩
      rw [hz] at ha2 HRA
      have HZ := Hd.mk hz; clear hz
      by_cases h30 : 30 < z
      · go_wp2_with (go_at_call 6; go_must (refine Calls.mono (alive_calls _ (TAB.out (below_seq HBr.out (below_alloc (Below.refl _ _) _))) (by rw [size_alloc]; omega)) ?_; rintro e w2 ⟨rfl, hb2⟩))
        go_ret
        exact ⟨rfl, below_seq HBr.out (below_seq (below_alloc (Below.refl _ _) _) hb2)⟩
      · have hlL : ∀ q, (V.heap.size ≤ q ∧ q < wr.heap.size) → q < wr.heap.size := fun _ h => h.2
        have HLL := Hd.mk hlL; clear hlL
        have hwV := HF.out.size
        have hp7r : p7 < wr.heap.size := by omega
        have hgr : g < wr.heap.size := by omega
        have hrel9 : ∀ {W3 : World} {ws' : List Nat} {A9 : Option Addr} {n9 c9 : Nat}, (Wok m ws' ∧ ws'.length = Kw) → Wd W3 (some ⟨g, 0, none⟩) g ws' → Fr (fun b => b = g) wr W3 → Lst W3 (fun q => V.heap.size ≤ q ∧ q < W3.heap.size) A9 n9 c9 (elemsI ws') →
            ∃ (k' n8 c8 : Nat) (A8 : Option Addr) (ws : List Nat), k' ≤ n ∧ Value.int .i64 ((k + 1 : Nat) : Int) = .int .i64 k' ∧ Value.slice A9 n9 c9 = .slice A8 n8 c8 ∧ Hd (Wok m ws ∧ ws.length = Kw) ∧ Hd (Wd W3 (some ⟨g, 0, none⟩) g ws) ∧ Hd (Fr (fun b => b = g) V W3) ∧ Hd (Lst W3 (fun q => V.heap.size ≤ q ∧ q < W3.heap.size) A8 n8 c8 (elemsI ws)) :=
          fun h1 h2 h3 h4 => ⟨k + 1, _, _, _, _, by omega, rfl, rfl, ⟨h1⟩, ⟨h2⟩, ⟨HF.out.trans h3⟩, ⟨h4⟩⟩
        have HREL := Hd.mk @hrel9; clear hrel9
        by_cases hk0 : kind = 0
        · have hj : (kind == 0) = true := by simpa using hk0
          clear hk0
          go_wp2
          generalize hU : World.alloc wr _ = U
          have hu : U.heap[wr.heap.size]? = some (.cells #[.int .i64 kind, .int .i64 num, .slice A5 z c5] 31 (0, 0)) := by rw [← hU]; exact blk_new _ _ _ rfl
          have HBU : Hd (Below wr.heap.size wr U) := ⟨by rw [← hU]; exact below_alloc (Below.refl _ _) _⟩
          have hp7u := blk_below hp7 HBU.out
          clear hU
          have huc0 := blk_cell hu 0 _ rfl; have huf0 := blk_frozen hu 0; have huc1 := blk_cell hu 1 _ rfl; have huf1 := blk_frozen hu 1; have huc2 := blk_cell hu 2 _ rfl; have huf2 := blk_frozen hu 2; have hul := blk_lt hu
          have hp7uc0 := blk_cell hp7u 0 _ rfl; have hp7uf0 := blk_frozen hp7u 0; have hp7uc1 := blk_cell hp7u 1 _ rfl; have hp7uf1 := blk_frozen hp7u 1; have hp7ul := blk_lt hp7u
          obtain ⟨ok, hok⟩ : ∃ ok, addO m ws num = ok := ⟨_, rfl⟩
          have hoo : (ok != ok) = false := by simp
          have HOK := Hd.mk hok; clear hok
          refine wp_region_can (.q [0, 1, 2, 3, 5, 6, 7] (.e 4 true (.e 8 false (.q [9, 10] (.done))))) (clsB _) (by kernel_rfl) (by kernel_rfl) (by intro _ _ d _ _ h; cases d <;> exact h) (clsB_drew _) ?_
          refine can_q (l := [⟨_,_,_,_,_,_⟩, ⟨_,_,_,_,_,_⟩, ⟨_,_,_,_,_,_⟩, ⟨_,_,_,_,_,_⟩, ⟨_,_,_,_,_,_⟩, ⟨_,_,_,_,_,_⟩, ⟨_,_,_,_,_,_⟩]) rfl ?_
          repeat (go_big_quiet_step (fail))
          refine wpQuiet_nil ?_
          refine can_e (o := ⟨_,_,_,_,_,_⟩) rfl (fun K hK => ?_)
          go_wp2_with (go_at_call 9; go_must (refine Calls.mono (radd_calls A8 n8 c8 m ws num (fun q => V.heap.size ≤ q ∧ q < wr.heap.size) U.drew (fun q hq => Nat.lt_of_lt_of_le hq.2 HBU.out.size) (HL.out.below HLL.out (below_drew1 HBU.out)) HWK.out.1) ?_; rintro e w2 ⟨A9, n9, c9, rfl, hl9, hb2⟩; replace hb2 := below_undrew hb2; have hq9 : ((n9 : Int) != (n8 : Int)) = ok := len_ok HOK.out (by rw [← hl9.row.1, ← HL.out.row.1]; rcases add_len2 HWK.out.1 num with h | h; exact .inl h; exact .inr ⟨h.1, by rw [h.2]⟩); have HL9 := Hd.mk hl9; have HB2 := Hd.mk hb2; clear hl9 hb2))
          refine onK_normal (hK _ _ ⟨clsB _, clsB_of (by first | exact (HB2.out) | exact below_undrew (HB2.out)), fun _ _ h => h, ?_⟩)
          clear hK K
          refine can_e (o := ⟨_,_,_,_,_,_⟩) rfl (fun K hK => ?_)
          go_wp2_with (go_at_call 10; go_must (have h9 := add_calls (some ⟨g, 0, none⟩) Kw g m num ws w2 HWK.out.1 (HW.out.below (below_seq HBU.out HB2.out)); rw [HWK.out.2, HOK.out] at h9; refine Calls.mono h9 ?_; clear h9; rintro e w3 ⟨rfl, hf3, hw3⟩; have HF3 := Hd.mk (hf3.mono (Y := fun k => k = g) (fun _ h => h.1)); have HW3 := Hd.mk hw3; clear hf3 hw3))
          refine onK_normal (hK _ _ ⟨fun _ => True, trivial, (fun h => by cases h), ?_⟩)
          clear hK K
          refine can_q (l := [⟨_,_,_,_,_,_⟩, ⟨_,_,_,_,_,_⟩]) rfl ?_
          repeat (go_big_quiet_step (fail))
          refine wpQuiet_nil ?_
          refine can_done ?_
          go_wp2
          go_roundw
          case rel =>
            have hz2 := HB2.out.size
            have hzu := HBU.out.size
            have hz3 := HF3.out.size
            refine HREL.out ⟨HWK.out.1.add num, by rw [addW_len]; exact HWK.out.2⟩ HW3.out ((Fr.of_below (below_seq HBU.out HB2.out)).trans HF3.out) ((HL9.out.fr HF3.out (fun q hq => ?_)).mono fun q hq => ?_)
            · rcases hq with hq | hq
              · exact ⟨by have := hq.2; omega, by show ¬ q = g; have := hq.1; omega⟩
              · rw [size_drew] at hq
                exact ⟨hq.2, by show ¬ q = g; have := hq.1; omega⟩
            · rcases hq with hq | hq
              · exact ⟨hq.1, by have := hq.2; omega⟩
              · rw [size_drew] at hq
                exact ⟨by have := hq.1; omega, by have := hq.2; omega⟩
          case measure => simp [intOf]; omega
        · have hj : (kind == 0) = false := by simpa using hk0
          clear hk0
          by_cases hk1 : kind = 1
          · have hj1 : (kind == 1) = true := by simpa using hk1
            clear hk1
            go_wp2
            generalize hU : World.alloc wr _ = U
            have hu : U.heap[wr.heap.size]? = some (.cells #[.int .i64 kind, .int .i64 num, .slice A5 z c5] 31 (0, 0)) := by rw [← hU]; exact blk_new _ _ _ rfl
            have HBU : Hd (Below wr.heap.size wr U) := ⟨by rw [← hU]; exact below_alloc (Below.refl _ _) _⟩
            have hp7u := blk_below hp7 HBU.out
            clear hU
            have huc0 := blk_cell hu 0 _ rfl; have huf0 := blk_frozen hu 0; have huc1 := blk_cell hu 1 _ rfl; have huf1 := blk_frozen hu 1; have huc2 := blk_cell hu 2 _ rfl; have huf2 := blk_frozen hu 2; have hul := blk_lt hu
            have hp7uc0 := blk_cell hp7u 0 _ rfl; have hp7uf0 := blk_frozen hp7u 0; have hp7uc1 := blk_cell hp7u 1 _ rfl; have hp7uf1 := blk_frozen hp7u 1; have hp7ul := blk_lt hp7u
            obtain ⟨ok, hok⟩ : ∃ ok, dropO m ws num = ok := ⟨_, rfl⟩
            have hoo : (ok != ok) = false := by simp
            have HOK := Hd.mk hok; clear hok
            refine wp_region_can (.q [0, 1, 2, 4, 5, 6] (.e 3 true (.e 7 false (.q [8, 9] (.done))))) (clsB _) (by kernel_rfl) (by kernel_rfl) (by intro _ _ d _ _ h; cases d <;> exact h) (clsB_drew _) ?_
            refine can_q (l := [⟨_,_,_,_,_,_⟩, ⟨_,_,_,_,_,_⟩, ⟨_,_,_,_,_,_⟩, ⟨_,_,_,_,_,_⟩, ⟨_,_,_,_,_,_⟩, ⟨_,_,_,_,_,_⟩]) rfl ?_
            repeat (go_big_quiet_step (fail))
            refine wpQuiet_nil ?_
            refine can_e (o := ⟨_,_,_,_,_,_⟩) rfl (fun K hK => ?_)
            go_wp2_with (go_at_call 11; go_must (refine Calls.mono (rdrop2_calls A8 n8 c8 m ws num (fun q => V.heap.size ≤ q ∧ q < wr.heap.size) U.drew (fun q hq => Nat.lt_of_lt_of_le hq.2 HBU.out.size) (HL.out.below HLL.out (below_drew1 HBU.out)) HWK.out.1) ?_; rintro e w2 ⟨A9, n9, c9, rfl, hl9, hb2⟩; replace hb2 := below_undrew hb2; have hq9 : ((n9 : Int) != (n8 : Int)) = ok := len_ok HOK.out (by rw [← hl9.row.1, ← HL.out.row.1]; rcases drop_len2 HWK.out.1 num with h | h; exact .inl h; exact .inr ⟨h.1, by rw [h.2]⟩); have HL9 := Hd.mk hl9; have HB2 := Hd.mk hb2; clear hl9 hb2))
            refine onK_normal (hK _ _ ⟨clsB _, clsB_of (by first | exact (HB2.out) | exact below_undrew (HB2.out)), fun _ _ h => h, ?_⟩)
            clear hK K
            refine can_e (o := ⟨_,_,_,_,_,_⟩) rfl (fun K hK => ?_)
            go_wp2_with (go_at_call 12; go_must (have h9 := less_calls (some ⟨g, 0, none⟩) Kw g m num ws w2 HWK.out.1 (HW.out.below (below_seq HBU.out HB2.out)); rw [HWK.out.2, HOK.out] at h9; refine Calls.mono h9 ?_; clear h9; rintro e w3 ⟨rfl, hf3, hw3⟩; have HF3 := Hd.mk (hf3.mono (Y := fun k => k = g) (fun _ h => h.1)); have HW3 := Hd.mk hw3; clear hf3 hw3))
            refine onK_normal (hK _ _ ⟨fun _ => True, trivial, (fun h => by cases h), ?_⟩)
            clear hK K
            refine can_q (l := [⟨_,_,_,_,_,_⟩, ⟨_,_,_,_,_,_⟩]) rfl ?_
            repeat (go_big_quiet_step (fail))
            refine wpQuiet_nil ?_
            refine can_done ?_
            go_wp2
            go_roundw
            case rel =>
              have hz2 := HB2.out.size
              have hzu := HBU.out.size
              have hz3 := HF3.out.size
              refine HREL.out ⟨HWK.out.1.less num, by rw [dropW_len]; exact HWK.out.2⟩ HW3.out ((Fr.of_below (below_seq HBU.out HB2.out)).trans HF3.out) ((HL9.out.fr HF3.out (fun q hq => ?_)).mono fun q hq => ?_)
              · rcases hq with hq | hq
                · exact ⟨by have := hq.2; omega, by show ¬ q = g; have := hq.1; omega⟩
                · rw [size_drew] at hq
                  exact ⟨hq.2, by show ¬ q = g; have := hq.1; omega⟩
              · rcases hq with hq | hq
                · exact ⟨hq.1, by have := hq.2; omega⟩
                · rw [size_drew] at hq
                  exact ⟨by have := hq.1; omega, by have := hq.2; omega⟩
            case measure => simp [intOf]; omega
          · have hj1 : (kind == 1) = false := by simpa using hk1
            clear hk1
            go_wp2
            generalize hU : World.alloc wr _ = U
            have hu : U.heap[wr.heap.size]? = some (.cells #[.int .i64 kind, .int .i64 num, .slice A5 z c5] 31 (0, 0)) := by rw [← hU]; exact blk_new _ _ _ rfl
            have HBU : Hd (Below wr.heap.size wr U) := ⟨by rw [← hU]; exact below_alloc (Below.refl _ _) _⟩
            have HP7 := Hd.mk (blk_below hp7 HBU.out)
            have HWU := Hd.mk (HW.out.below HBU.out)
            have HSr : Hd (∀ q, S q → q < wr.heap.size) := ⟨fun q hq => Nat.lt_of_lt_of_le (HS.out q hq) HBr.out.size⟩
            have HRU := Hd.mk (HRA.out.below HSr.out HBU.out)
            have HLU := Hd.mk (HL.out.below HLL.out HBU.out)
            have HU11 := Hd.mk hu
            have HzU : Hd (wr.heap.size < U.heap.size) := ⟨blk_lt hu⟩
            have HTU := Hd.mk (TAB.out (below_seq HBr.out HBU.out))
            have HL0 : Hd (elemsI ws = elemsI (foldR m ws (ls.take 0))) := ⟨rfl⟩
            have hz9 := HRA.out.le
            clear hU hu hp7
            obtain ⟨N, hN⟩ : ∃ N, wr.heap.size = N := ⟨_, rfl⟩
            rw [hN] at HzU HU11 HLU HSr hp7r hgr ⊢
            have HN := Hd.mk hN; clear hN
            go_loopw [12, 43] (fun v i wx => ∃ (j n9 c9 : Nat) (A9 : Option Addr) (ws9 : List Nat), j ≤ z ∧ i = .int .i64 j ∧ v = .slice A9 n9 c9 ∧ Hd (Wok m ws9) ∧ Hd (Lst wx (fun q => V.heap.size ≤ q ∧ q < wx.heap.size) A9 n9 c9 (elemsI ws9)) ∧ Hd (Below U.heap.size U wx)) (fun _ i _ => z - (intOf i).toNat)
            case atStart => exact ⟨0, _, _, _, ws, Nat.zero_le _, rfl, rfl, ⟨HWK.out.1⟩, ⟨HLU.out.mono fun q hq => ⟨hq.1, by have := HzU.out; have := hq.2; omega⟩⟩, ⟨Below.refl _ _⟩⟩
            case round =>
              obtain ⟨j, n9, c9, A9, ws9, hjz, rfl, rfl, HK9, HL9, HB9⟩ := hrel
              by_cases hlj : j < z
              · obtain ⟨b2, o2, x, rfl, _, hb2, _, hx2⟩ := (HRU.out.below (fun q hq => Nat.lt_of_lt_of_le (HSr.out q hq) (Nat.le_of_lt HzU.out)) HB9.out).get_int j hlj
                go_wp2_with (go_at_call 9; go_must (refine Calls.mono (radd_calls A9 n9 c9 m ws9 x _ wr (fun q hq => hq.2) HL9.out HK9.out) ?_; rintro e w2 ⟨A4, n4, c4, rfl, hl4, hb4⟩; have HL4 := Hd.mk hl4; have HB4 := Hd.mk hb4; clear hl4 hb4))
                go_roundw
                case rel =>
                  exact ⟨j + 1, n4, c4, A4, addW m ws9 x, by omega, by go_num, rfl, ⟨HK9.out.add x⟩, ⟨HL4.out.mono fun q hq => by
                    have := HB4.out.size; have := HB9.out.size; have := HzU.out; have := HN.out
                    rcases hq with hq | hq
                    · exact ⟨hq.1, by omega⟩
                    · exact ⟨by omega, hq.2⟩⟩, ⟨below_seq HB9.out HB4.out⟩⟩
                case measure => simp [intOf]; omega
              · have hx7 := blk_below HP7.out HB9.out
                have hx11 := blk_below HU11.out HB9.out
                have hx7c0 := blk_cell hx7 0 _ rfl; have hx7f0 := blk_frozen hx7 0; have hx7c1 := blk_cell hx7 1 _ rfl; have hx7f1 := blk_frozen hx7 1; have hx7l := blk_lt hx7
                have hx11c0 := blk_cell hx11 0 _ rfl; have hx11f0 := blk_frozen hx11 0; have hx11c1 := blk_cell hx11 1 _ rfl; have hx11f1 := blk_frozen hx11 1; have hx11c2 := blk_cell hx11 2 _ rfl; have hx11f2 := blk_frozen hx11 2; have hx11l := blk_lt hx11
                obtain ⟨ok, hok⟩ : ∃ ok, (!decide ((elemsI (foldR m ws ls)).length = (elemsI ws).length)) = ok := ⟨_, rfl⟩
                have hoo : (ok != ok) = false := by simp
                have HOK := Hd.mk hok; clear hok
                have HX := Hd.mk (HRU.out.below (fun q hq => Nat.lt_of_lt_of_le (HSr.out q hq) (Nat.le_of_lt HzU.out)) HB9.out)
                have HSX : Hd (∀ q, S q → q < wr.heap.size) := ⟨fun q hq => by have := HSr.out q hq; have := HzU.out; have := HB9.out.size; omega⟩
                have HWX := Hd.mk (HWU.out.below HB9.out)
                have HTX := Hd.mk (TAB.out (below_seq HBr.out (below_seq HBU.out HB9.out)))
                have hgX : g < wr.heap.size := by have := HzU.out; have := HB9.out.size; omega
                go_wp2
                refine wp_region_can (.q [0, 1, 2] (.e 3 true (.e 4 false (.q [5] (.done))))) (clsB _) (by kernel_rfl) (by kernel_rfl) (by intro _ _ d _ _ h; cases d <;> exact h) (clsB_drew _) ?_
                refine can_q (l := [⟨_,_,_,_,_,_⟩, ⟨_,_,_,_,_,_⟩, ⟨_,_,_,_,_,_⟩]) rfl ?_
                repeat (go_big_quiet_step (fail))
                refine wpQuiet_nil ?_
                refine can_e (o := ⟨_,_,_,_,_,_⟩) rfl (fun K hK => ?_)
                go_wp2_with (go_at_call 14; go_must (have h9 := of_calls 1000 A5 z c5 ls S wr.drew HSX.out (HX.out.move (fun _ _ => rfl)); rw [r1000, show (1000 + 63) / 64 = 16 from rfl] at h9; refine Calls.mono h9 ?_; clear h9; rintro e w2 ⟨g2, rfl, hg2, hg2l, hw2, hb2⟩; replace hb2 := below_undrew hb2; have HW2 := Hd.mk hw2; have HB2 := Hd.mk hb2; have HG2 := Hd.mk (And.intro hg2 hg2l); clear hw2 hb2 hg2 hg2l))
                refine onK_normal (hK _ _ ⟨clsB _, clsB_of (by first | exact (HB2.out) | exact below_undrew (HB2.out)), fun _ _ h => h, ?_⟩)
                clear hK K
                refine can_e (o := ⟨_,_,_,_,_,_⟩) rfl (fun K hK => ?_)
                go_wp2_with (go_at_call 13; go_must (have h9 := join_calls (some ⟨g, 0, none⟩) (some ⟨g2, 0, none⟩) Kw 16 g g2 m 1000 ws (ofW 1000 ls) w2 HWK.out.1 (ofW_ok (by decide) ls) (HWX.out.below HB2.out) HW2.out (Nat.lt_of_lt_of_le hgX HB2.out.size) HG2.out.2 (by have := HG2.out.1; rw [size_drew] at this; omega) (TAB.out (below_seq HBr.out (below_seq HBU.out (below_seq HB9.out HB2.out)))) (by have := HB2.out.size; omega) (by have := H0.out; have := HGW.out; omega); rw [HWK.out.2, ofW_len, show (1000 + 63) / 64 = 16 from rfl, join_ok HWK.out.1, HOK.out] at h9; refine Calls.mono h9 ?_; clear h9; rintro e w3 ⟨rfl, hf3, hw3⟩; have HF3 := Hd.mk (hf3.mono (Y := fun k => k = g) (fun _ h => h.1)); have HW3 := Hd.mk hw3; clear hf3 hw3))
                refine onK_normal (hK _ _ ⟨fun _ => True, trivial, (fun h => by cases h), ?_⟩)
                clear hK K
                refine can_q (l := [⟨_,_,_,_,_,_⟩]) rfl ?_
                repeat (go_big_quiet_step (fail))
                refine wpQuiet_nil ?_
                refine can_done ?_
                have hgw : w.heap.size ≤ g := HGW.out
                have h11 := HF3.out.blk (blk_below hx11 HB2.out) (by show ¬ N = g; omega)
                have hNU := HzU.out
                have hU9 := HB9.out.size
                have h92 := HB2.out.size
                have h23 := HF3.out.size
                clear hx7c0 hx7f0 hx7c1 hx7f1 hx7l
                clear hx11c0 hx11f0 hx11c1 hx11f1 hx11c2 hx11f2 hx11l
                have h11c0 := blk_cell h11 0 _ rfl; have h11f0 := blk_frozen h11 0; have h11c1 := blk_cell h11 1 _ rfl; have h11f1 := blk_frozen h11 1; have h11c2 := blk_cell h11 2 _ rfl; have h11f2 := blk_frozen h11 2; have h11l := blk_lt h11
                have HL3 : Hd (Lst w3 (fun q => V.heap.size ≤ q ∧ q < w3.heap.size) A8 n8 c8 (elemsI (foldR m ws (ls.take 0)))) := ⟨(((HLU.out.below (fun q hq => by have := hq.2; omega) (below_seq HB9.out HB2.out)).fr HF3.out (fun q hq => ⟨by have := hq.2; omega, by show ¬ q = g; have := hq.1; omega⟩)).mono fun q hq => ⟨hq.1, by have := hq.2; omega⟩)⟩
                have HX3 := Hd.mk (HF3.out.row (HX.out.below HSX.out HB2.out) (fun q hq => ⟨Nat.lt_of_lt_of_le (HSX.out q hq) h92, by have := HS.out q hq; show ¬ q = g; omega⟩))
                have HS3 : Hd (∀ q, S q → q < w3.heap.size) := ⟨fun q hq => by have := HSX.out q hq; omega⟩
                have HFW := Hd.mk ((Fr.of_below (X := fun b => b = g) (below_seq HBU.out (below_seq HB9.out HB2.out))).trans HF3.out)
                have HJK : Hd (Wok m (joinB m ws (elems (ofW 1000 ls))).1 ∧ (joinB m ws (elems (ofW 1000 ls))).1.length = Kw) := ⟨(joinB_ok HWK.out.1 _).1, by rw [(joinB_ok HWK.out.1 _).2]; exact HWK.out.2⟩
                have hV3 : V.heap.size ≤ w3.heap.size := by have := HN.out; omega
                clear hU9 h92
                go_wp2
                go_loopw [12, 61] (fun v i wx => ∃ (j n9 c9 : Nat) (A9 : Option Addr), j ≤ z ∧ i = .int .i64 j ∧ v = .slice A9 n9 c9 ∧ Hd (Lst wx (fun q => V.heap.size ≤ q ∧ q < wx.heap.size) A9 n9 c9 (elemsI (foldR m ws (ls.take j)))) ∧ Hd (Below w3.heap.size w3 wx)) (fun _ i _ => z - (intOf i).toNat)
                case atStart => exact ⟨0, _, _, _, Nat.zero_le _, rfl, rfl, HL3, ⟨Below.refl _ _⟩⟩
                case round =>
                  clear HL3
                  obtain ⟨j, n7, c7, A7, hjz, rfl, rfl, HL7, HB7⟩ := hrel
                  by_cases hlj : j < z
                  · obtain ⟨b2, o2, x, rfl, _, hb2, hxj, hx2⟩ := (HX3.out.below HS3.out HB7.out).get_int j hlj
                    have HT : Hd (ls.take (j + 1) = ls.take j ++ [x]) := ⟨by rw [List.take_add_one, hxj]; rfl⟩
                    clear hxj
                    by_cases hx1 : x < 1000
                    · have HX1 := Hd.mk hx1
                      go_wp2_with (go_at_call 9; go_must (refine Calls.mono (radd_calls A7 n7 c7 m (foldR m ws (ls.take j)) x _ wr (fun q hq => hq.2) HL7.out (foldR_ok _ HWK.out.1)) ?_; rintro e w4 ⟨A4, n4, c4, rfl, hl4, hb4⟩; have HL4 := Hd.mk hl4; have HB4 := Hd.mk hb4; clear hl4 hb4))
                      go_roundw
                      case rel =>
                        exact ⟨j + 1, n4, c4, A4, by omega, by go_num, rfl, ⟨by
                          rw [HT.out, foldR_snoc, if_pos HX1.out]
                          exact HL4.out.mono fun q hq => by
                            have := HB4.out.size; have := HB7.out.size
                            rcases hq with hq | hq
                            · exact ⟨hq.1, by omega⟩
                            · exact ⟨by omega, hq.2⟩⟩, ⟨below_seq HB7.out HB4.out⟩⟩
                      case measure => simp [intOf]; omega
                    · have HX1 := Hd.mk hx1
                      go_wp2
                      go_roundw
                      case rel => exact ⟨j + 1, n7, c7, A7, by omega, by go_num, rfl, ⟨by rw [HT.out, foldR_snoc, if_neg HX1.out]; exact HL7.out⟩, HB7⟩
                      case measure => simp [intOf]; omega
                  · obtain rfl : j = z := by omega
                    have HT : Hd (ls.take j = ls) := ⟨by rw [← HZ.out, List.take_length]⟩
                    have hq9 : ((n7 : Int) != (n8 : Int)) = ok := by
                      rw [← HOK.out]
                      have e7 := HL7.out.row.1
                      have e8 := HL.out.row.1
                      rw [HT.out] at e7
                      rw [e7, e8]
                      by_cases h : n7 = n8
                      · subst h; simp
                      · rw [decide_eq_false h]; simp; omega
                    go_wp2
                    go_roundw
                    case rel =>
                      refine HREL.out HJK.out (HW3.out.below HB7.out) (HFW.out.trans (Fr.of_below HB7.out)) ?_
                      rw [join_law HWK.out.1]
                      have := HL7.out
                      rwa [HT.out] at this
                    case measure => simp [intOf]; omega
    · obtain rfl : k = n := by omega
      obtain ⟨hb, hhb⟩ : ∃ hb, hasO m ws ask = hb := ⟨_, rfl⟩
      have HHB := Hd.mk hhb; clear hhb
      have hbe : (hb == hb) = true := by simp
      have hl8 : Hd ((elems ws).length = n8) := ⟨by have := HL.out.row.1; unfold elemsI at this; rwa [List.length_map] at this⟩
      have hgr : g < wr.heap.size := Nat.lt_of_lt_of_le hgV HF.out.size
      have hr0 : 0 < wr.heap.size := by omega
      have hp7c0 := blk_cell hp7 0 _ rfl; have hp7f0 := blk_frozen hp7 0; have hp7c1 := blk_cell hp7 1 _ rfl; have hp7f1 := blk_frozen hp7 1; have hp7l := blk_lt hp7
      go_wp2_with (go_at_call 16; go_must (have h9 := all_calls (some ⟨g, 0, none⟩) Kw g m ws wr HWK.out.1 HW.out hgr (TAB.out HBr.out) hr0; rw [HWK.out.2] at h9; refine Calls.mono h9 ?_; clear h9; rintro e w2 ⟨A2, n2, c2, rfl, hr2, hb2⟩; have HR2 : Hd (Row I w2 (fun q => wr.heap.size ≤ q ∧ q < w2.heap.size) A2 n2 (elemsI ws)) := ⟨hr2⟩; have HB2 := Hd.mk hb2; clear hr2 hb2))
      go_wp2_with (go_at_call 15; go_must (refine Calls.mono (same_calls A2 A8 n2 n8 c2 c8 (elemsI ws) (elemsI ws) true _ (fun q => V.heap.size ≤ q ∧ q < wr.heap.size) w2 (fun q hq => hq.2) (fun q hq => Nat.lt_of_lt_of_le hq.2 HB2.out.size) HR2.out (HL.out.below (fun q hq => hq.2) HB2.out).row (decide_eq_true rfl)) ?_; rintro e w3 ⟨rfl, hb3⟩; have HB3 := Hd.mk (below_seq HB2.out hb3); clear hb3; clear hp7c0 hp7f0 hp7c1 hp7f1 hp7l; have h3 := blk_below hp7 HB3.out; have h3c0 := blk_cell h3 0 _ rfl; have h3f0 := blk_frozen h3 0; have h3c1 := blk_cell h3 1 _ rfl; have h3f1 := blk_frozen h3 1; have h3l := blk_lt h3))
      go_wp2_with (go_at_call 17; go_must (have h9 := count_calls (some ⟨g, 0, none⟩) Kw g m ws w3 HWK.out.1 (HW.out.below HB3.out); rw [HWK.out.2, hl8.out] at h9; refine Calls.mono h9 ?_; clear h9; rintro e w4 ⟨rfl, hb4⟩; have HB4 := Hd.mk (below_seq HB3.out hb4); clear hb4; clear h3c0 h3f0 h3c1 h3f1 h3l; have h4 := blk_below hp7 HB4.out; have h4c0 := blk_cell h4 0 _ rfl; have h4f0 := blk_frozen h4 0; have h4c1 := blk_cell h4 1 _ rfl; have h4f1 := blk_frozen h4 1; have h4l := blk_lt h4))
      go_wp2_with (go_at_call 18; go_must (have h9 := in_calls (some ⟨g, 0, none⟩) Kw g m ask ws w4 HWK.out.1 (HW.out.below HB4.out); rw [HWK.out.2, HHB.out] at h9; refine Calls.mono h9 ?_; clear h9; rintro e w5 ⟨rfl, hb5⟩; have HB5 := Hd.mk (below_seq HB4.out hb5); clear hb5; clear h4c0 h4f0 h4c1 h4f1 h4l; have h5 := blk_below hp7 HB5.out; have h5c0 := blk_cell h5 0 _ rfl; have h5f0 := blk_frozen h5 0; have h5c1 := blk_cell h5 1 _ rfl; have h5f1 := blk_frozen h5 1; have h5l := blk_lt h5))
      go_wp2_with (go_at_call 19; go_must (refine Calls.mono (rhas_calls A8 n8 c8 (elemsI ws) ask hb (fun q => V.heap.size ≤ q ∧ q < wr.heap.size) w5 (fun q hq => Nat.lt_of_lt_of_le hq.2 HB5.out.size) (HL.out.below (fun q hq => hq.2) HB5.out).row (by rw [← has_law HWK.out.1]; exact HHB.out)) ?_; rintro e w6 ⟨rfl, hb6⟩; have HB6 := Hd.mk (below_seq HB5.out hb6); clear hb6; clear h5c0 h5f0 h5c1 h5f1 h5l; have h6 := blk_below hp7 HB6.out; have h6c0 := blk_cell h6 0 _ rfl; have h6f0 := blk_frozen h6 0; have h6c1 := blk_cell h6 1 _ rfl; have h6f1 := blk_frozen h6 1; have h6l := blk_lt h6))
      go_wp2_with (go_at_call 20; go_must (refine Calls.mono (room_calls (some ⟨g, 0, none⟩) Kw Kw m w6) ?_; rintro e w7 ⟨rfl, hb7⟩; have HB7 := Hd.mk (below_seq HB6.out hb7); clear hb7; clear h6c0 h6f0 h6c1 h6f1 h6l))
      go_wp2_with (go_at_call 6; go_must (refine Calls.mono (alive_calls _ (TAB.out (below_seq HBr.out HB7.out)) (Nat.lt_of_lt_of_le hr0 HB7.out.size)) ?_; rintro e w8 ⟨rfl, hb8⟩; have HB8 := Hd.mk (below_seq HB7.out hb8); clear hb8))
      go_ret
      exact ⟨rfl, below_seq HBr.out HB8.out⟩
end Go.Proofs.YtcpcnmdedgenoaaDoor.Fn
