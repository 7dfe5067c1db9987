/- SettablePlays: the walk. -/
import Derived.Test.YtbmpaokicphdjaaDoorS10
import Derived.Deep.DeepCutAuto
import Derived.Deep.CutBlock
namespace Go.Proofs.YtbmpaokicphdjaaDoor.Fn
open Go Go.RowKit Go.Proofs.YtbmpaokicphdjaaDoor.Can Go.Proofs.YtbmpaokicphdjaaDoor.Base
attribute [local go_sem] clsB AB.cell

/-- The table, and the sets that the reference has, apart from it. -/
structure PS (w wr : World) (F SW : Nat → Prop) (v : Value) (rS : Nat) (xs : List (Nat × List Nat)) : Prop where
  tb : Tbl wr w.heap.size w.heap.size F rS xs
  own : Base.Own rowT wr w.heap.size 24 SW v (xs.map lst)
  dj : ∀ k, (SW k ∨ v.ownBlock = some k) → ¬ F k
  bel : Below w.heap.size w wr
theorem rown_lt {w : World} {base : Nat} {e : TypeId} {S : Nat → Prop} {v : Value} {xs : List (List Int)} (h : Base.Own rowT w base e S v xs) : ∀ k, (S k ∨ v.ownBlock = some k) → k < w.heap.size := fun k hk => by
  rcases hk with hk | hk
  · obtain ⟨_, _, _, hs⟩ := h; exact (hs k hk).1
  · exact (h.lt hk).1
theorem PS.below {w wr w' : World} {F SW : Nat → Prop} {v : Value} {rS : Nat} {xs : List (Nat × List Nat)} (h : PS w wr F SW v rS xs) (hb : Below wr.heap.size wr w') : PS w w' F SW v rS xs :=
  ⟨h.tb.below hb, h.own.below hb, h.dj, below_seq h.bel hb⟩
theorem infoRow : (Tryd.prog.info? 24).map (fun i => (i.zero, i.size, i.bytes)) = some (some (.slice none 0 0), 1, 24) := by kernel_rfl
theorem nodup_first {L : List (List Int)} (h : L.Nodup) {m : Nat} {x : List Int} (hm : L[m]? = some x) : ∀ j, j < m → L[j]? ≠ some x := fun j hj hx => by have := nodup_get h hx hm; omega
theorem Tbl.nod {w : World} {base p : Nat} {F : Nat → Prop} {room : Nat} {xs : List (Nat × List Nat)} (h : Tbl w base p F room xs) : (xs.map lst).Nodup := by
  obtain ⟨v, g, S, P, hI, _⟩ := h.ex
  exact hI.nod
set_option maxRecDepth 20000 in
set_option maxHeartbeats 8000000 in
theorem plays_calls (most : Int) (Ar : Option Addr) (cr : Nat) (rs : List Int) (A : Option Addr) (c : Nat) (ls : List (List Int)) (S : Nat → Prop) (w : World) (hS : ∀ k, S k → k < w.heap.size) (hR : Row (Ty.int .u8) w S Ar rs.length rs) (hr8 : ∀ y ∈ rs, 0 ≤ y ∧ y ≤ 255) (hC : Row rowT w S A ls.length ls) (hT : TabAt 0 Lib.deBruijn64tab w) (h0 : 0 < w.heap.size) :
    Calls Tryd.prog 6 #[.int .i64 most, .slice Ar rs.length cr, .slice A ls.length c] w fun e w' => e = .returned (.bool true) ∧ Below w.heap.size w w' := by
  obtain ⟨n, hn⟩ : ∃ n, ls.length = n := ⟨_, rfl⟩
  obtain ⟨nr, hnr⟩ : ∃ n, rs.length = n := ⟨_, rfl⟩
  rw [hn] at hC ⊢
  rw [hnr] at hR ⊢
  have hmN := hC.le
  have hmR := hR.le
  have HS := Hd.mk hS; have HC := Hd.mk hC; have HR := Hd.mk hR; have HR8 := Hd.mk hr8; have HT := Hd.mk hT; have H0 := Hd.mk h0; have HNR := Hd.mk hnr
  clear hn hnr hS hC hR hr8 hT h0
  have tabB : ∀ {W : World}, Below w.heap.size w W → TabAt 0 Lib.deBruijn64tab W := fun hb j hj => (hb.cell (p := ⟨0, j, none⟩) H0.out).trans (HT.out j hj)
  have TAB := Hd.mk @tabB; clear tabB
  have alB : ∀ {W : World}, Below w.heap.size w W → Calls Tryd.prog 33 #[] W fun e w' => e = .returned (.bool true) ∧ Below w.heap.size w w' := fun hb => Calls.mono (aliveS_calls _ (TAB.out hb) (Nat.lt_of_lt_of_le H0.out hb.size)) (by rintro e w' ⟨rfl, hb2⟩; exact ⟨rfl, below_seq hb hb2⟩)
  have AL := Hd.mk @alB; clear alB
  by_cases h60 : 60 < n
  · go_enter Tryd.func6, Tryd.ntmps6
    go_wp2_with (go_at_call 33; go_must (refine Calls.mono (AL.out (Below.refl _ _)) ?_; rintro e w2 ⟨rfl, hb2⟩))
    go_ret
    exact ⟨rfl, hb2⟩
  obtain ⟨rS, hrS⟩ : ∃ m, roomS most = m := ⟨_, rfl⟩
  have hnew := snew_calls most w HT.out H0.out
  rw [hrS] at hnew
  have HRS := Hd.mk (fun (W : World) => rroomS_calls most W)
  rw [hrS] at HRS
  have HNEW := Hd.mk hnew; clear hnew hrS
  go_enter Tryd.func6, Tryd.ntmps6
  go_wp2_with (go_at_call 29; go_must (refine Calls.mono HNEW.out ?_; rintro e w1 ⟨F, rfl, hB, hb⟩; have HP0 : Hd (PS w w1 F (fun _ => False) (.slice none 0 0) rS []) := ⟨⟨hB, Base.Own.nil _ _ _ _, fun k hk => (by rcases hk with hk | hk; exact hk.elim; simp [Value.ownBlock] at hk), hb⟩⟩; clear hB hb))
  clear HNEW
  go_loopw [8, 31] (fun v i wr => ∃ (k : Nat) (F SW : Nat → Prop) (xs : List (Nat × List Nat)), k ≤ n ∧ i = .int .i64 k ∧ Hd (PS w wr F SW v rS xs)) (fun _ i _ => n - (intOf i).toNat)
  case atStart => exact ⟨0, F, fun _ => False, [], Nat.zero_le _, rfl, HP0⟩
  case round =>
    clear HP0
    obtain ⟨k, F1, SW, xs, hk, rfl, HP⟩ := hrel
    obtain ⟨B, cB, rfl, hcB, hnB, hrowB⟩ := HP.out.own.form
    obtain ⟨nB, hnB2⟩ : ∃ m, (xs.map lst).length = m := ⟨_, rfl⟩
    rw [hnB2] at HP hcB hrowB ⊢
    have HLN : Hd (xs.length = nB) := ⟨by rw [← hnB2, List.length_map]⟩
    have hBr : nB ≤ rS := by have := HP.out.tb.xr; rw [HLN.out] at this; exact this
    have hrS6 := HP.out.tb.r2
    have HROWB := Hd.mk hrowB; have HNB := Hd.mk hnB
    have HBel := Hd.mk HP.out.bel
    clear hrowB hnB hnB2
    by_cases hlt : k < n
    · obtain ⟨b, off, s, A5, c5, rfl, hb, _, ha0, hrowA⟩ := row_get (HC.out.below HS.out HBel.out) k hlt
      have HRA := Hd.mk hrowA; clear hrowA
      obtain ⟨z, hz⟩ : ∃ z, s.length = z := ⟨_, rfl⟩
      rw [hz] at ha0 HRA
      clear hz
      by_cases h20 : 20 < z
      · go_wp2_with (go_at_call 33; go_must (refine Calls.mono (AL.out HBel.out) ?_; rintro e w2 ⟨rfl, hb2⟩))
        go_ret
        exact ⟨rfl, hb2⟩
      · go_upto_if 43 with fail
        go_cut [11] (fun u wx => ∃ r : Nat, r ≤ 255 ∧ u = .int .u8 r ∧ wr = wx)
        case first =>
          by_cases hkr : k < nr
          · obtain ⟨b3, o3, y, rfl, _, hb3, hy3, hcy⟩ := (HR.out.below HS.out HBel.out).get_int k hkr
            have hyw := HR8.out y (List.mem_of_getElem? hy3)
            obtain ⟨r, rfl⟩ : ∃ r : Nat, y = r := ⟨y.toNat, by omega⟩
            have hr : r ≤ 255 := by omega
            clear hy3 hyw
            go_wp2
            go_meet
            case rel => exact ⟨r, hr, rfl, rfl⟩
          · go_wp2
            go_meet
            case rel => exact ⟨64, by omega, rfl, rfl⟩
        case rest =>
          obtain ⟨r, hr, rfl, rfl⟩ := hcut
          have HNOD := Hd.mk HP.out.tb.nod
          have HTB := Hd.mk (fun (W : World) (hb : Below wr.heap.size wr W) => HP.out.tb.below hb)
          have HSB : Hd (∀ q, (SW q ∨ (Value.slice B nB cB).ownBlock = some q) → q < wr.heap.size) := ⟨rown_lt HP.out.own⟩
          have hw0 : 0 < w.heap.size := H0.out
          have hwr : w.heap.size ≤ wr.heap.size := HBel.out.size
          by_cases hmem : elemsI (ofW r s) ∈ xs.map lst
          · obtain ⟨m, hm1, hm2⟩ := List.mem_iff_getElem.1 hmem
            have hm3 : (xs.map lst)[m]? = some (elemsI (ofW r s)) := by rw [List.getElem?_eq_getElem hm1, hm2]
            have hmn : m < nB := by rw [List.length_map, HLN.out] at hm1; exact hm1
            have HM3 := Hd.mk hm3
            have hj1 : ((m : Int) != (m : Int)) = false := by simp
            clear hmem hm1 hm2 hm3
            go_wp2_with (first
              | (fail)
              | (go_at_call 30; have hq_ := HO2; clear hq_; go_must (have h9 := put_old w.heap.size w.heap.size rS m F1 xs (some ⟨g2, 0, none⟩) ((r + 63) / 64) g2 r (ofW r s) w6 (HTB.out _ HBO.out) (ofW_ok (by omega) _) HO2.out (TAB.out HWO.out) (by have := HWO.out.size; omega) HM3.out; rw [ofW_len] at h9; refine Calls.mono h9 ?_; clear h9; rintro e w7 ⟨rfl, hb⟩; have HBF := Hd.mk (below_seq HBO.out hb); clear hb))
              | (go_at_call 15; have hq_ := HBE; clear hq_; go_must (have h9 := of_calls r A5 z c5 s S w5 (fun q hq => Nat.lt_of_lt_of_le (HS.out q hq) HWE.out.size) (HRA.out.below (fun q hq => by have := HS.out q hq; have := HBel.out.size; omega) HBE.out); rw [roomR_id (by omega)] at h9; refine Calls.mono h9 ?_; clear h9; rintro e w6 ⟨g2, rfl, hg, hgl, hw, hb⟩; have HO2 := Hd.mk hw; have HX6 := Hd.mk (below_seq HX5.out hb); have HBO := Hd.mk (below_seq HBE.out hb); have HWO := Hd.mk (below_seq HWE.out hb); clear hw hb hg hgl))
              | (go_at_call 36; have hq_ := HO1; clear hq_; go_must (have h9 := find_old w.heap.size w.heap.size rS m F1 xs (some ⟨g1, 0, none⟩) ((r + 63) / 64) g1 r (ofW r s) w4 (HTB.out _ HBD.out) (ofW_ok (by omega) _) HO1.out (TAB.out HWD.out) (by have := HWD.out.size; omega) HM3.out; rw [ofW_len] at h9; refine Calls.mono h9 ?_; clear h9; rintro e w5 ⟨rfl, hb⟩; have HX5 := Hd.mk (below_seq HX4.out hb); have HBE := Hd.mk (below_seq HBD.out hb); have HWE := Hd.mk (below_seq HWD.out hb); clear hb))
              | (go_at_call 15; have hq_ := HBC; clear hq_; go_must (have h9 := of_calls r A5 z c5 s S w3 (fun q hq => Nat.lt_of_lt_of_le (HS.out q hq) HWC.out.size) (HRA.out.below (fun q hq => by have := HS.out q hq; have := HBel.out.size; omega) HBC.out); rw [roomR_id (by omega)] at h9; refine Calls.mono h9 ?_; clear h9; rintro e w4 ⟨g1, rfl, hg, hgl, hw, hb⟩; have HO1 := Hd.mk hw; have HX4 := Hd.mk (below_seq HX3.out hb); have HBD := Hd.mk (below_seq HBC.out hb); have HWD := Hd.mk (below_seq HWC.out hb); clear hw hb hg hgl))
              | (go_at_call 35; have hq_ := HBB; clear hq_; go_must (refine Calls.mono (rfind_some B nB cB (xs.map lst) A2 n2 c2 (elemsI (ofW r s)) m _ (fun q => wr.heap.size ≤ q ∧ q < w2.heap.size) w2 (fun q hq => Nat.lt_of_lt_of_le (HSB.out q hq) HBB.out.size) (fun q hq => hq.2) (HROWB.out.below HSB.out HBB.out) HLX.out.row HM3.out (nodup_first HNOD.out HM3.out)) ?_; rintro e w3 ⟨rfl, hb⟩; have HX3 := Hd.mk hb; have HBC := Hd.mk (below_seq HBB.out hb); have HWC := Hd.mk (below_seq HWB.out hb); clear hb))
              | (go_at_call 34; go_must (refine Calls.mono (numbers_calls r hr A5 z c5 s S wr (fun q hq => Nat.lt_of_lt_of_le (HS.out q hq) HBel.out.size) HRA.out) ?_; rintro e w2 ⟨A2, n2, c2, rfl, hl, hb⟩; have HLX := Hd.mk hl; have HBB := Hd.mk hb; have HWB := Hd.mk (below_seq HBel.out hb); clear hl hb)))
            go_roundw
            case rel => exact ⟨k + 1, F1, SW, xs, by omega, by go_num, ⟨HP.out.below HBF.out⟩⟩
            case measure => simp [intOf]; omega
          · have HNM := Hd.mk hmem
            clear hmem
            by_cases hfull : rS ≤ nB
            · have HFL : Hd (rS ≤ xs.length) := ⟨by rw [HLN.out]; exact hfull⟩
              go_wp2_with (first
                | (first | (go_at_call 37; go_must (refine Calls.mono (HRS.out _) ?_; rintro e w8 ⟨rfl, hw8⟩; obtain rfl : w7 = w8 := hw8.symm)) | (go_at_call 38; have hq_ := HBF; clear hq_; go_must (have h9 := full_calls w.heap.size w.heap.size rS F1 xs w7 (HTB.out _ HBF.out); rw [decide_eq_true HFL.out] at h9; refine Calls.mono h9 ?_; clear h9; rintro e w9 ⟨rfl, hb⟩; have HBG := Hd.mk (below_seq HBF.out hb); clear hb)))
                | (go_at_call 30; have hq_ := HO2; clear hq_; go_must (have h9 := put_full w.heap.size w.heap.size rS F1 xs (some ⟨g2, 0, none⟩) ((r + 63) / 64) g2 r (ofW r s) w6 (HTB.out _ HBO.out) (ofW_ok (by omega) _) HO2.out (TAB.out HWO.out) (by have := HWO.out.size; omega) HNM.out HFL.out; rw [ofW_len] at h9; refine Calls.mono h9 ?_; clear h9; rintro e w7 ⟨rfl, hb⟩; have HBF := Hd.mk (below_seq HBO.out hb); clear hb))
                | (go_at_call 15; have hq_ := HBE; clear hq_; go_must (have h9 := of_calls r A5 z c5 s S w5 (fun q hq => Nat.lt_of_lt_of_le (HS.out q hq) HWE.out.size) (HRA.out.below (fun q hq => by have := HS.out q hq; have := HBel.out.size; omega) HBE.out); rw [roomR_id (by omega)] at h9; refine Calls.mono h9 ?_; clear h9; rintro e w6 ⟨g2, rfl, hg, hgl, hw, hb⟩; have HO2 := Hd.mk hw; have HX6 := Hd.mk (below_seq HX5.out hb); have HBO := Hd.mk (below_seq HBE.out hb); have HWO := Hd.mk (below_seq HWE.out hb); clear hw hb hg hgl))
                | (go_at_call 36; have hq_ := HO1; clear hq_; go_must (have h9 := find_no w.heap.size w.heap.size rS F1 xs (some ⟨g1, 0, none⟩) ((r + 63) / 64) g1 r (ofW r s) w4 (HTB.out _ HBD.out) (ofW_ok (by omega) _) HO1.out (TAB.out HWD.out) (by have := HWD.out.size; omega) HNM.out; rw [ofW_len] at h9; refine Calls.mono h9 ?_; clear h9; rintro e w5 ⟨rfl, hb⟩; have HX5 := Hd.mk (below_seq HX4.out hb); have HBE := Hd.mk (below_seq HBD.out hb); have HWE := Hd.mk (below_seq HWD.out hb); clear hb))
                | (go_at_call 15; have hq_ := HBC; clear hq_; go_must (have h9 := of_calls r A5 z c5 s S w3 (fun q hq => Nat.lt_of_lt_of_le (HS.out q hq) HWC.out.size) (HRA.out.below (fun q hq => by have := HS.out q hq; have := HBel.out.size; omega) HBC.out); rw [roomR_id (by omega)] at h9; refine Calls.mono h9 ?_; clear h9; rintro e w4 ⟨g1, rfl, hg, hgl, hw, hb⟩; have HO1 := Hd.mk hw; have HX4 := Hd.mk (below_seq HX3.out hb); have HBD := Hd.mk (below_seq HBC.out hb); have HWD := Hd.mk (below_seq HWC.out hb); clear hw hb hg hgl))
                | (go_at_call 35; have hq_ := HBB; clear hq_; go_must (refine Calls.mono (rfind_none B nB cB (xs.map lst) A2 n2 c2 (elemsI (ofW r s)) _ (fun q => wr.heap.size ≤ q ∧ q < w2.heap.size) w2 (fun q hq => Nat.lt_of_lt_of_le (HSB.out q hq) HBB.out.size) (fun q hq => hq.2) (HROWB.out.below HSB.out HBB.out) HLX.out.row HNM.out) ?_; rintro e w3 ⟨rfl, hb⟩; have HX3 := Hd.mk hb; have HBC := Hd.mk (below_seq HBB.out hb); have HWC := Hd.mk (below_seq HWB.out hb); clear hb))
                | (go_at_call 34; go_must (refine Calls.mono (numbers_calls r hr A5 z c5 s S wr (fun q hq => Nat.lt_of_lt_of_le (HS.out q hq) HBel.out.size) HRA.out) ?_; rintro e w2 ⟨A2, n2, c2, rfl, hl, hb⟩; have HLX := Hd.mk hl; have HBB := Hd.mk hb; have HWB := Hd.mk (below_seq HBel.out hb); clear hl hb)))
              go_roundw
              case rel => exact ⟨k + 1, F1, SW, xs, by omega, by go_num, ⟨HP.out.below HBG.out⟩⟩
              case measure => simp [intOf]; omega
            · have HFL : Hd (xs.length < rS) := ⟨by rw [HLN.out]; omega⟩
              have hj1 : ((nB : Int) != (nB : Int)) = false := by simp
              go_wp2_with (first
                | (first | (go_at_call 37; go_must (refine Calls.mono (HRS.out _) ?_; rintro e w8 ⟨rfl, hw8⟩; obtain rfl : w7 = w8 := hw8.symm)) | (have hq_ := HB7; clear hq_; at_builtin; go_must (refine append_one rowT (S' := fun q => wr.heap.size ≤ q ∧ q < w2.heap.size) rfl (.tmp 89) (.tmp 91) 49 24 _ 24 rfl Tryd.underlying49 infoRow rfl (by decide) (by decide) w.heap.size (.slice B nB cB) (xs.map lst) (elemsI (ofW r s)) [.slice A2 n2 c2] w7.heap.size rfl rfl (blk_new _ _ _ rfl) ⟨A2, c2, by rw [HLE.out], by rw [HLE.out]; exact HLX.out.cap, HLX.out.nil, by rw [HLE.out]; exact (HRX7.out.below (fun q hq => by have := hq.2; omega) (below_alloc (Below.refl _ _) _))⟩ (HOW7.out.below (below_alloc (Below.refl _ _) _)) (fun q hq => ⟨by rw [size_alloc]; have := hq.2; omega, fun he => by have := HSB.out q (.inr he); have := hq.1; omega⟩) (fun he => by have := HSB.out _ (.inr he); omega) (by rw [size_alloc]; omega) (by rw [List.length_map, HLN.out]; omega) ?_; intro v1 w9 hown hgr hat; have HOWN := Hd.mk hown; have HGR := Hd.mk hgr; have HAT := Hd.mk hat; clear hown hgr hat)))
                | (go_at_call 30; have hq_ := HO2; clear hq_; go_must (have h9 := put_new w.heap.size w.heap.size rS F1 xs (some ⟨g2, 0, none⟩) ((r + 63) / 64) g2 r (ofW r s) w6 (HTB.out _ HBO.out) (ofW_ok (by omega) _) HO2.out (TAB.out HWO.out) (by have := HWO.out.size; omega) HNM.out HFL.out hw0; rw [ofW_len, HLN.out] at h9; refine Calls.mono h9 ?_; clear h9; rintro e w7 ⟨rfl, F7, hB7, hf7, hn7⟩; have HB7 := Hd.mk hB7; have HF7 := Hd.mk hf7; have HN7 := Hd.mk hn7; have hz7 := hf7.size; have HLE : Hd ((elemsI (ofW r s)).length = n2) := ⟨HLX.out.row.1⟩; have hz26 := HX6.out.size; have hzr2 := HBB.out.size; have HRX7 : Hd (Row I w7 (fun q => wr.heap.size ≤ q ∧ q < w2.heap.size) A2 n2 (elemsI (ofW r s))) := ⟨hf7.row (HLX.out.row.below (fun q hq => hq.2) HX6.out) (fun q hq => ⟨by have := hq.2; omega, fun hF => by have := (HP.out.tb.fb q hF).2; have := hq.1; omega⟩)⟩; have HOW7 : Hd (Base.Own rowT w7 w.heap.size 24 SW (.slice B nB cB) (xs.map lst)) := ⟨(HP.out.own.below HBO.out).move (fun q hq => hf7.same q (Nat.lt_of_lt_of_le (HSB.out q hq) HBO.out.size) (HP.out.dj q hq)) hf7.size⟩; clear hB7 hf7 hn7))
                | (go_at_call 15; have hq_ := HBE; clear hq_; go_must (have h9 := of_calls r A5 z c5 s S w5 (fun q hq => Nat.lt_of_lt_of_le (HS.out q hq) HWE.out.size) (HRA.out.below (fun q hq => by have := HS.out q hq; have := HBel.out.size; omega) HBE.out); rw [roomR_id (by omega)] at h9; refine Calls.mono h9 ?_; clear h9; rintro e w6 ⟨g2, rfl, hg, hgl, hw, hb⟩; have HO2 := Hd.mk hw; have HX6 := Hd.mk (below_seq HX5.out hb); have HBO := Hd.mk (below_seq HBE.out hb); have HWO := Hd.mk (below_seq HWE.out hb); clear hw hb hg hgl))
                | (go_at_call 36; have hq_ := HO1; clear hq_; go_must (have h9 := find_no w.heap.size w.heap.size rS F1 xs (some ⟨g1, 0, none⟩) ((r + 63) / 64) g1 r (ofW r s) w4 (HTB.out _ HBD.out) (ofW_ok (by omega) _) HO1.out (TAB.out HWD.out) (by have := HWD.out.size; omega) HNM.out; rw [ofW_len] at h9; refine Calls.mono h9 ?_; clear h9; rintro e w5 ⟨rfl, hb⟩; have HX5 := Hd.mk (below_seq HX4.out hb); have HBE := Hd.mk (below_seq HBD.out hb); have HWE := Hd.mk (below_seq HWD.out hb); clear hb))
                | (go_at_call 15; have hq_ := HBC; clear hq_; go_must (have h9 := of_calls r A5 z c5 s S w3 (fun q hq => Nat.lt_of_lt_of_le (HS.out q hq) HWC.out.size) (HRA.out.below (fun q hq => by have := HS.out q hq; have := HBel.out.size; omega) HBC.out); rw [roomR_id (by omega)] at h9; refine Calls.mono h9 ?_; clear h9; rintro e w4 ⟨g1, rfl, hg, hgl, hw, hb⟩; have HO1 := Hd.mk hw; have HX4 := Hd.mk (below_seq HX3.out hb); have HBD := Hd.mk (below_seq HBC.out hb); have HWD := Hd.mk (below_seq HWC.out hb); clear hw hb hg hgl))
                | (go_at_call 35; have hq_ := HBB; clear hq_; go_must (refine Calls.mono (rfind_none B nB cB (xs.map lst) A2 n2 c2 (elemsI (ofW r s)) _ (fun q => wr.heap.size ≤ q ∧ q < w2.heap.size) w2 (fun q hq => Nat.lt_of_lt_of_le (HSB.out q hq) HBB.out.size) (fun q hq => hq.2) (HROWB.out.below HSB.out HBB.out) HLX.out.row HNM.out) ?_; rintro e w3 ⟨rfl, hb⟩; have HX3 := Hd.mk hb; have HBC := Hd.mk (below_seq HBB.out hb); have HWC := Hd.mk (below_seq HWB.out hb); clear hb))
                | (go_at_call 34; go_must (refine Calls.mono (numbers_calls r hr A5 z c5 s S wr (fun q hq => Nat.lt_of_lt_of_le (HS.out q hq) HBel.out.size) HRA.out) ?_; rintro e w2 ⟨A2, n2, c2, rfl, hl, hb⟩; have HLX := Hd.mk hl; have HBB := Hd.mk hb; have HWB := Hd.mk (below_seq HBel.out hb); clear hl hb)))
              go_roundw
              case rel =>
                have hz79 := HGR.out.size
                rw [size_alloc] at hz79
                have hfw7 := HP.out.tb.fb
                have hbw := HBO.out.size
                have HBW9 : Below w.heap.size (w7.alloc (.cells #[.slice A2 n2 c2] 24)) w9 := below_by HGR.out (by rw [size_alloc]; omega) (fun q hq => by obtain ⟨_, ho, _⟩ := HP.out.own; exact (HP.out.own.lt hq).2)
                have HB79 : Below w.heap.size w w9 := ((HWO.out.trans ((HP.out.tb.below HBO.out).fr_below HF7.out (by omega))).trans (below_alloc (Below.refl _ _) _ |>.mono (by omega))).trans HBW9
                have hF7 : ∀ q, F7 q → (F1 q ∨ w6.heap.size ≤ q) ∧ q < w7.heap.size := fun q hq => ⟨HN7.out q hq, (HB7.out.fb q hq).2⟩
                have hdj : ∀ q, (SW q ∨ (Value.slice B nB cB).ownBlock = some q) → ¬ F7 q := fun q hq hF => by
                  rcases (hF7 q hF).1 with h | h
                  · exact HP.out.dj q hq h
                  · have := HSB.out q hq; omega
                refine ⟨k + 1, F7, fun q => SW q ∨ (wr.heap.size ≤ q ∧ q < w2.heap.size) ∨ q = w7.heap.size, xs ++ [(r, ofW r s)], by omega, by go_num, ⟨⟨?_, ?_, ?_, HB79⟩⟩⟩
                · refine (HB7.out.below (below_alloc (Below.refl _ _) _)).fr (X := fun q => (Value.slice B nB cB).ownBlock = some q) ⟨below_by (base := 0) HGR.out (Nat.zero_le _) (fun _ _ => Nat.zero_le _), fun q hq hx => HGR.out.block q hq (fun he => hx he.symm)⟩ (fun q hF ho => hdj q (.inr ho) hF)
                · rw [List.map_append]
                  exact HOWN.out
                · rintro q ((h | h | h) | h) hF
                  · exact hdj q (.inl h) hF
                  · rcases (hF7 q hF).1 with h2 | h2
                    · have := (hfw7 q h2).2; omega
                    · omega
                  · have := (hF7 q hF).2; omega
                  · rcases HAT.out with h2 | h2
                    · rw [h2] at h; exact hdj q (.inr h) hF
                    · rw [h2, size_alloc] at h; cases h; have := (hF7 _ hF).2; omega
              case measure => simp [intOf]; omega
    · obtain rfl : k = n := by omega
      obtain ⟨Y, hY⟩ : ∃ Y : World, Y = wr := ⟨_, rfl⟩
      subst hY
      have HSB : Hd (∀ q, (SW q ∨ (Value.slice B nB cB).ownBlock = some q) → q < Y.heap.size) := ⟨rown_lt HP.out.own⟩
      have hw0 : 0 < w.heap.size := H0.out
      have hwr : w.heap.size ≤ Y.heap.size := HBel.out.size
      go_wp2
      go_loopw [121] (fun i wr => ∃ j : Nat, j ≤ nB ∧ i = .int .i64 j ∧ Hd (Below Y.heap.size Y wr)) (fun i _ => nB - (intOf i).toNat)
      case atStart => exact ⟨0, Nat.zero_le _, rfl, ⟨Below.refl _ _⟩⟩
      case round =>
        obtain ⟨j, hj, rfl, HB⟩ := hrel
        have HPr := Hd.mk (HP.out.below HB.out)
        have hzr := HB.out.size
        by_cases hlt2 : j < nB
        · obtain ⟨b, off, y, A', c', rfl, hb, hy, hcy, hry⟩ := row_get (HROWB.out.below HSB.out HB.out) j hlt2
          obtain ⟨x, hx⟩ : ∃ x, xs[j]? = some x := ⟨_, List.getElem?_eq_getElem (by rw [HLN.out]; exact hlt2)⟩
          have hyx : y = lst x := by rw [List.getElem?_map, hx] at hy; exact (Option.some.inj hy).symm
          subst hyx
          have HX := Hd.mk hx; have HRY := Hd.mk hry
          obtain ⟨ny, hny⟩ : ∃ n, (lst x).length = n := ⟨_, rfl⟩
          rw [hny] at hcy HRY
          have HRB := Hd.mk (HROWB.out.below HSB.out HB.out)
          clear hx hy hry hny
          go_wp2_with (go_at_call 39; go_must (refine Calls.mono (get_calls w.heap.size w.heap.size rS j F1 xs x wr HPr.out.tb HX.out) ?_; rintro e w2 ⟨g2, rfl, hok, hg2, hgl2, hw2, hb2⟩; have HOK := Hd.mk hok; have HW2 := Hd.mk hw2; have HB2 := Hd.mk hb2; clear hok hw2 hb2))
          obtain ⟨xr, xw⟩ := x
          dsimp only at *
          obtain ⟨q, hq⟩ : ∃ n, xw.length = n := ⟨_, rfl⟩
          rw [hq]
          have HQ := Hd.mk hq
          generalize hV : World.alloc w2 _ = V
          have hv0 : V.heap[w2.heap.size]? = some (.cells #[.slice (some ⟨g2, 0, none⟩) q q, .int .i64 xr] 28 (0, 0)) := by rw [← hV]; exact blk_new _ _ _ rfl
          have HBV : Hd (Below wr.heap.size wr V) := ⟨by rw [← hV]; exact below_alloc HB2.out _⟩
          have HWV : Hd (Wd V (some ⟨g2, 0, none⟩) g2 xw) := ⟨by rw [← hV]; exact HW2.out.below (below_alloc (Below.refl _ _) _)⟩
          have hgV : g2 < V.heap.size := by rw [← hV, size_alloc]; omega
          have hcV := (HBV.out.cell (p := ⟨b, off + j, none⟩) hb).trans hcy
          have hbV : b < V.heap.size := Nat.lt_of_lt_of_le hb HBV.out.size
          have hzV := HBV.out.size
          clear hV hq
          have hv0c0 := blk_cell hv0 0 _ rfl; have hv0f0 := blk_frozen hv0 0; have hv0c1 := blk_cell hv0 1 _ rfl; have hv0f1 := blk_frozen hv0 1; have hv0l := blk_lt hv0
          go_wp2
          refine wp_region_can (.q [0, 1, 2, 3, 5, 6, 7, 8] (.e 4 true (.e 9 false (.q [10, 11] (.done))))) (clsB _) (by kernel_rfl) (by kernel_rfl) (by intro _ _ d _ _ h; cases d <;> exact h) (clsB_drew _) ?_
          refine can_q (l := [⟨_,_,_,_,_,_⟩, ⟨_,_,_,_,_,_⟩, ⟨_,_,_,_,_,_⟩, ⟨_,_,_,_,_,_⟩, ⟨_,_,_,_,_,_⟩, ⟨_,_,_,_,_,_⟩, ⟨_,_,_,_,_,_⟩, ⟨_,_,_,_,_,_⟩]) rfl ?_
          repeat (go_big_quiet_step (fail))
          refine wpQuiet_nil ?_
          refine can_e (o := ⟨_,_,_,_,_,_⟩) rfl (fun K hK => ?_)
          go_wp2_with (go_at_call 23; go_must (have h9 := all_calls (some ⟨g2, 0, none⟩) q g2 xr xw V.drew HOK.out (HWV.out.move rfl) hgV (TAB.out (below_seq HBel.out (below_seq HB.out (below_drew1 HBV.out)))) (by rw [size_drew]; omega); rw [HQ.out] at h9; refine Calls.mono h9 ?_; clear h9; rintro e w5 ⟨A3, n3, c3, rfl, hr3, hb3⟩; have HR3 : Hd (Row I w5 (fun k => V.heap.size ≤ k ∧ k < w5.heap.size) A3 n3 (elemsI xw)) := ⟨hr3⟩; have HB3 := Hd.mk (below_undrew hb3); clear hr3 hb3))
          refine onK_normal (hK _ _ ⟨clsB _, clsB_of (by first | exact (HB3.out) | exact below_undrew (HB3.out)), fun _ _ h => h, ?_⟩)
          clear hK K
          refine can_e (o := ⟨_,_,_,_,_,_⟩) rfl (fun K hK => ?_)
          go_wp2_with (go_at_call 17; go_must (refine Calls.mono (same_calls A3 A' n3 ny c3 c' (elemsI xw) (lst (xr, xw)) true _ (fun q => SW q ∨ (Value.slice (some ⟨b, off, none⟩) nB cB).ownBlock = some q) w5 (fun k hk => hk.2) (fun k hk => by have := HSB.out k hk; have := HB3.out.size; omega) HR3.out (HRY.out.below (fun k hk => by have := HSB.out k hk; omega) (below_seq HBV.out HB3.out)) (decide_eq_true rfl)) ?_; rintro e w6 ⟨rfl, hb6⟩; have HB6 := Hd.mk (below_seq (below_seq HBV.out HB3.out) hb6); clear hb6))
          refine onK_normal (hK _ _ ⟨fun _ => True, trivial, (fun h => by cases h), ?_⟩)
          clear hK K
          refine can_q (l := [⟨_,_,_,_,_,_⟩, ⟨_,_,_,_,_,_⟩]) rfl ?_
          repeat (go_big_quiet_step (fail))
          refine wpQuiet_nil ?_
          refine can_done ?_
          go_wp2
          go_roundw
          case rel => exact ⟨j + 1, by omega, by go_num, ⟨below_seq HB.out HB6.out⟩⟩
          case measure => simp [intOf]; omega
        · obtain rfl : j = nB := by omega
          have HFU := Hd.mk (fun (W : World) (hb : Below wr.heap.size wr W) => full_calls w.heap.size w.heap.size rS F1 xs W (HPr.out.tb.below hb))
          have HLE := Hd.mk (fun (W : World) (hb : Below wr.heap.size wr W) => len_calls w.heap.size w.heap.size rS F1 xs W (HPr.out.tb.below hb))
          rw [HLN.out] at HFU HLE
          have hjj : ((j : Int) == (j : Int)) = true := by simp
          by_cases hfull : rS ≤ j
          · rw [decide_eq_true hfull] at HFU
            go_wp2_with (first
              | (go_at_call 33; go_must (refine Calls.mono (AL.out (below_seq HPr.out.bel HBF.out)) ?_; rintro e w5 ⟨rfl, hb⟩; have HBZ := Hd.mk hb; clear hb))
              | (go_at_call 37; have hq_ := HBF; clear hq_; go_must (refine Calls.mono (HRS.out _) ?_; rintro e w8 ⟨rfl, hw8⟩; obtain rfl : w4 = w8 := hw8.symm))
              | (go_at_call 38; have hq_ := HBE; clear hq_; go_must (refine Calls.mono (HFU.out _ HBE.out) ?_; rintro e w4 ⟨rfl, hb⟩; have HBF := Hd.mk (below_seq HBE.out hb); clear hb))
              | (go_at_call 31; have hq_ := HBD; clear hq_; go_must (refine Calls.mono (HLE.out _ (below_alloc HBD.out _)) ?_; rintro e w3 ⟨rfl, rfl⟩; have HBE := Hd.mk (below_alloc HBD.out (.cells #[.slice none 0 0, .int .i64 0] 28))))
              | (go_at_call 39; go_must (refine Calls.mono (get_over w.heap.size w.heap.size rS j F1 xs wr HPr.out.tb (by rw [HLN.out]; exact Nat.le_refl _)) ?_; rintro e w2 ⟨rfl, hb2⟩; have HBD := Hd.mk hb2; clear hb2)))
            go_ret
            exact ⟨rfl, HBZ.out⟩
          · rw [decide_eq_false hfull] at HFU
            go_wp2_with (first
              | (go_at_call 33; go_must (refine Calls.mono (AL.out (below_seq HPr.out.bel HBF.out)) ?_; rintro e w5 ⟨rfl, hb⟩; have HBZ := Hd.mk hb; clear hb))
              | (go_at_call 37; have hq_ := HBF; clear hq_; go_must (refine Calls.mono (HRS.out _) ?_; rintro e w8 ⟨rfl, hw8⟩; obtain rfl : w4 = w8 := hw8.symm))
              | (go_at_call 38; have hq_ := HBE; clear hq_; go_must (refine Calls.mono (HFU.out _ HBE.out) ?_; rintro e w4 ⟨rfl, hb⟩; have HBF := Hd.mk (below_seq HBE.out hb); clear hb))
              | (go_at_call 31; have hq_ := HBD; clear hq_; go_must (refine Calls.mono (HLE.out _ (below_alloc HBD.out _)) ?_; rintro e w3 ⟨rfl, rfl⟩; have HBE := Hd.mk (below_alloc HBD.out (.cells #[.slice none 0 0, .int .i64 0] 28))))
              | (go_at_call 39; go_must (refine Calls.mono (get_over w.heap.size w.heap.size rS j F1 xs wr HPr.out.tb (by rw [HLN.out]; exact Nat.le_refl _)) ?_; rintro e w2 ⟨rfl, hb2⟩; have HBD := Hd.mk hb2; clear hb2)))
            go_ret
            exact ⟨rfl, HBZ.out⟩
end Go.Proofs.YtbmpaokicphdjaaDoor.Fn
