/- Texts: K4, K5, K6, K7, K8, K9. -/
import Derived.Test.YtoambcpjdcehhaaGreatKA
import Derived.Test.YtoambcpjdcehhaaGreatVC
/- The iterator over what stands from a spot on. -/
set_option linter.unusedVariables false
set_option linter.unusedSimpArgs false
namespace Go.Proofs.YtoambcpjdcehhaaGreat.Tb
open Go Go.RowKit Go.Shelf Go.Proofs.YtoambcpjdcehhaaGreat.Can Go.Proofs.YtoambcpjdcehhaaGreat.Base Go.Proofs.YtoambcpjdcehhaaGreat.Al
open Go.Proofs.YtoambcpjdcehhaaGreat.Df hiding bl bl_len
open Go.Proofs.YtoambcpjdcehhaaGreat.Fn (Spot Tok tokV spotV tokE spotE tok0 cell_tmp_row behind_calls)
attribute [local go_sem] Oper.semAt_some

/-- What comes next, as it stands (from its own first byte); none: it is not known. -/
def rawM (L : Lx) (s : List UInt8) (c : Bool) : Nat → Spot → Option Tok
  | 0, _ => none
  | n + 1, p => if (oneM L s c p).2 = false then none else if (oneM L s c p).1.k = 0 then rawM L s c n ⟨(oneM L s c p).1.t, (oneM L s c p).1.m⟩ else some (oneM L s c p).1
def nextM (L : Lx) (s : List UInt8) (c : Bool) (p : Spot) : Option Tok := (rawM L s c (s.length - p.at_.toNat + 1) p).map fun t => { t with f := p.at_ }
theorem LX.move {w w' : World} {S : Nat → Prop} {A1 A2 A3 : Option Addr} {n1 n2 n3 : Nat} {l : Lx} (h : LX w S A1 A2 A3 n1 n2 n3 l) (hm : ∀ b, S b → w'.heap[b]? = w.heap[b]?) : LX w' S A1 A2 A3 n1 n2 n3 l :=
  ⟨h.modes.move hm, h.dfas.move hm, h.acts.move hm, fun k hk => by
    have h1 := h.lt k hk
    have h2 := hm k hk
    rw [Array.getElem?_eq_getElem h1] at h2
    exact (Array.getElem?_eq_some_iff.1 h2).1, h.szm, h.sza⟩
def leftW (B : Nat) (m : Nat) (W : World) : Nat := match W.cell? ⟨B, 0, none⟩ with | some (.int _ x) => m - x.toNat | _ => 0
theorem leftW_at {B m : Nat} {W : World} {k : IntKind} {x : Int} (h : W.cell? ⟨B, 0, none⟩ = some (.int k x)) : leftW B m W = m - x.toNat := by unfold leftW; rw [h]
set_option maxRecDepth 100000 in
set_option maxHeartbeats 4000000 in
theorem parts_in (n : Nat) (hn : 1 ≤ n) (B1 B2 : Nat) (hne : B1 ≠ B2) (A1 A2 A3 : Option Addr) (n1 n2 n3 c1 c2 c3 : Nat) (l : Lx) (hr : rightB l = true) (S : Nat → Prop) (t : ByteArray) (cl : Bool) (ht : t.size ≤ 140737488351232) (p : Spot) (hp : Pin l (bl t).length p) (fu : Nat) (hfu : (bl t).length - p.at_.toNat < fu) (w : World)
    (h1 : w.heap[B1]? = some (.cells #[.slice A1 n1 c1, .slice A2 n2 c2, .slice A3 n3 c3, .string t, .bool cl] 116 (0, 0))) (h2 : w.heap[B2]? = some (.cells #[.int .i64 p.at_, .int .i64 p.mode] 57 (0, 0))) (hL : LX w S A1 A2 A3 n1 n2 n3 l) (hS2 : ¬ S B2) :
    Guarded n Tryz.prog 108 #[.pointer (some ⟨B1, 0, none⟩), .pointer (some ⟨B2, 0, none⟩)] tokV (fun k => k = B1 ∨ k = B2 ∨ S k) (fun k => k = B2) (fun x : Tok => x.k = 0) (rawM l (bl t) cl fu p) w := by
  intro lo J Jx W hW hJF hY hJ
  obtain ⟨res, hres⟩ : ∃ r, rawM l (bl t) cl fu p = r := ⟨_, rfl⟩
  rw [hres]
  refine callsIn_of_wp Tryz.func108 rfl trivial ?_ rfl
  simp only [Tryz.ntmps108, List.size_toArray, List.length_cons, List.length_nil, Nat.reduceAdd, Nat.reduceSub, Array.replicate_succ, Array.replicate_zero, List.push_toArray, List.append_toArray, List.nil_append, List.cons_append]
  have hlB1 := blk_lt h1; have hlB2 := blk_lt h2
  have H1 := Hd.mk (blk_below h1 hW); have H2 := Hd.mk (blk_below h2 hW); have HL := Hd.mk (hL.below hW); have HJ := Hd.mk hJ; have HY := Hd.mk hY; have HJF := Hd.mk hJF; have HS2 := Hd.mk hS2; have HP := Hd.mk hp; have HR := Hd.mk hres; have HFU := Hd.mk hfu; have HWz := Hd.mk hW.size
  clear h1 h2 hL hJ hY hJF hS2 hp hres hfu hW
  gi_wp2
  gi_loopw [] (fun wr => ∃ (q : Spot) (f : Nat), Hd (Pin l (bl t).length q) ∧ Hd ((bl t).length - q.at_.toNat < f) ∧ Hd (rawM l (bl t) cl f q = res) ∧ Hd (wr.heap[B2]? = some (.cells #[.int .i64 q.at_, .int .i64 q.mode] 57 (0, 0))) ∧ Hd (wr.heap[B1]? = some (.cells #[.slice A1 n1 c1, .slice A2 n2 c2, .slice A3 n3 c3, .string t, .bool cl] 116 (0, 0))) ∧ Hd (LX wr S A1 A2 A3 n1 n2 n3 l) ∧ Hd (J wr)) (fun wr => leftW B2 ((bl t).length + 1) wr)
  case atStart => exact ⟨p, fu, HP, HFU, HR, H2, H1, HL, HJ⟩
  case round =>
    clear H1 H2 HL HJ HP HR HFU
    obtain ⟨q, f, HP, HFU, HR, H2, H1, HL, HJ⟩ := hrel
    have h1 := H1.out
    have h2 := H2.out
    have hHL := HL.out
    have hone := one_in hr HP.out (c := cl)
    have HK := Hd.mk (kone_calls A1 A2 A3 n1 n2 n3 c1 c2 c3 l hr S t cl q HP.out ht wr HL.out)
    obtain ⟨g, rfl⟩ : ∃ g, f = g + 1 := ⟨f - 1, by have := HFU.out; omega⟩
    have hraw : rawM l (bl t) cl (g + 1) q = if (oneM l (bl t) cl q).2 = false then none else if (oneM l (bl t) cl q).1.k = 0 then rawM l (bl t) cl g ⟨(oneM l (bl t) cl q).1.t, (oneM l (bl t) cl q).1.m⟩ else some (oneM l (bl t) cl q).1 := rfl
    rw [hraw] at HR
    clear hraw
    generalize oneM l (bl t) cl q = O at hone HK HR
    obtain ⟨tok, kb⟩ := O
    simp only [] at hone HK HR
    unfold spotV tokV at HK
    have HONE := Hd.mk hone
    clear hone hHL
    have h1c0 := blk_cell h1 0 _ rfl; have h1f0 := blk_frozen h1 0; have h1c1 := blk_cell h1 1 _ rfl; have h1f1 := blk_frozen h1 1; have h1c2 := blk_cell h1 2 _ rfl; have h1f2 := blk_frozen h1 2; have h1c3 := blk_cell h1 3 _ rfl; have h1f3 := blk_frozen h1 3; have h1c4 := blk_cell h1 4 _ rfl; have h1f4 := blk_frozen h1 4; have h1l := blk_lt h1
    have h2c0 := blk_cell h2 0 _ rfl; have h2f0 := blk_frozen h2 0; have h2c1 := blk_cell h2 1 _ rfl; have h2f1 := blk_frozen h2 1; have h2l := blk_lt h2
    cases kb with
    | false =>
      rw [if_pos rfl] at HR
      gi_wp2_with (refine ⟨trivial, ?_⟩; gi_at_call 109; refine (callsIn_wide.2 HK.out).mono ?_; rintro e w2 ⟨rfl, hb2⟩)
      refine ⟨fun _ h => (by cases h), ?_⟩
      gi_wp2
      refine bodyPost_ret (results_none rfl _ _ _) rfl ?_
      refine ⟨⟨_, rfl⟩, ?_⟩
      have h9 := HR.out
      subst h9
      exact HJF.out wr _ HJ.out (Fr.alloc (Fr.of_below hb2) _)
    | true =>
      rw [if_neg (by decide)] at HR
      gi_wp2_with (refine ⟨trivial, ?_⟩; gi_at_call 109; refine (callsIn_wide.2 HK.out).mono ?_; rintro e w2 ⟨rfl, hb2⟩; have HB2 := Hd.mk hb2; clear hb2; obtain ⟨fn, tmps, assign, body, hy, hR⟩ := HY.out tok (w2.alloc (.cells #[.int .i64 tok.k, .int .i64 tok.r, .int .i64 tok.f, .int .i64 tok.a, .int .i64 tok.t, .int .i64 tok.m] 43 (0, 0))) (HJF.out wr _ HJ.out (Fr.alloc (Fr.of_below HB2.out) _)); unfold tokV at hy)
      refine hR.mono ?_
      rintro e W3 (⟨rfl, hk0, hJ3, hk3⟩ | ⟨rfl, hk0, hJx3⟩)
      · rw [if_pos hk0] at HR
        have hj3 := HONE.out trivial
        have hprog : q.at_ < tok.t := hj3.2.1.resolve_left (by rw [hk0]; decide)
        have HPI : Hd (Pin l (bl t).length ⟨tok.t, tok.m⟩) := ⟨hj3.1⟩
        have HK0 := Hd.mk hk0
        clear hk0
        have hq0 := HP.out.1
        have hto : tok.t ≤ ((bl t).length : Int) := hj3.1.2.1
        have HPR : Hd ((bl t).length - tok.t.toNat < g) := ⟨by have := HFU.out; omega⟩
        have hMS : leftW B2 ((bl t).length + 1) wr = (bl t).length + 1 - q.at_.toNat := leftW_at h2c0
        have HMS := Hd.mk hMS
        have hB2 := HB2.out
        have hBA := below_alloc HB2.out (.cells #[.int .i64 tok.k, .int .i64 tok.r, .int .i64 tok.f, .int .i64 tok.a, .int .i64 tok.t, .int .i64 tok.m] 43 (0, 0))
        have hx4 := hk3.cells _ _ (blk_new w2 (.cells #[.int .i64 tok.k, .int .i64 tok.r, .int .i64 tok.f, .int .i64 tok.a, .int .i64 tok.t, .int .i64 tok.m] 43 (0, 0)) _ rfl) rfl
        have hx1 := (hk3.kept B1 (.inl rfl)).trans (blk_below h1 hBA)
        have hx2 := (hk3.kept B2 (.inr (.inl rfl))).trans (blk_below h2 hBA)
        have HX1 := Hd.mk hx1; have HX2 := Hd.mk hx2
        have HL3 := Hd.mk ((HL.out.below hBA).move (fun b hb => hk3.kept b (.inr (.inr hb))))
        have HJ3 := Hd.mk hJ3
        have HBE := Hd.mk (fun w => behind_calls tok w)
        unfold tokV at HBE
        clear h1c0 h1f0 h1c1 h1f1 h1c2 h1f2 h1c3 h1f3 h1c4 h1f4 h1l
        clear h2c0 h2f0 h2c1 h2f1 h2l
        clear h1 h2 hj3 hx1 hk3 hJ3 hMS hy hR hB2 hBA
        have hx4c0 := blk_cell hx4 0 _ rfl; have hx4f0 := blk_frozen hx4 0; have hx4c1 := blk_cell hx4 1 _ rfl; have hx4f1 := blk_frozen hx4 1; have hx4c2 := blk_cell hx4 2 _ rfl; have hx4f2 := blk_frozen hx4 2; have hx4c3 := blk_cell hx4 3 _ rfl; have hx4f3 := blk_frozen hx4 3; have hx4c4 := blk_cell hx4 4 _ rfl; have hx4f4 := blk_frozen hx4 4; have hx4c5 := blk_cell hx4 5 _ rfl; have hx4f5 := blk_frozen hx4 5; have hx4l := blk_lt hx4
        have hx2c0 := blk_cell hx2 0 _ rfl; have hx2f0 := blk_frozen hx2 0; have hx2c1 := blk_cell hx2 1 _ rfl; have hx2f1 := blk_frozen hx2 1; have hx2l := blk_lt hx2
        gi_wp2_with (refine ⟨trivial, ?_⟩; gi_at_call 62; go_must (refine (callsIn_wide.2 (HBE.out _)).mono ?_; rintro e w4 ⟨rfl, hb4⟩; have hz2 := blk_below HX2.out hb4; have hz1 := blk_below HX1.out hb4; clear hx4c0 hx4f0 hx4c1 hx4f1 hx4c2 hx4f2 hx4c3 hx4f3 hx4c4 hx4f4 hx4c5 hx4f5 hx4l; clear hx2c0 hx2f0 hx2c1 hx2f1 hx2l; have hz2c0 := blk_cell hz2 0 _ rfl; have hz2f0 := blk_frozen hz2 0; have hz2c1 := blk_cell hz2 1 _ rfl; have hz2f1 := blk_frozen hz2 1; have hz2l := blk_lt hz2))

        have hF : Fr (fun b => b = B2) W3 _ := Fr.set (Fr.set (Fr.of_below (X := fun b => b = B2) hb4) (.inl rfl) 0 (.int .i64 tok.t)) (.inl rfl) 1 (.int .i64 tok.m)
        go_roundw
        case rel => exact ⟨⟨tok.t, tok.m⟩, g, HPI, HPR, HR, ⟨blk_set (blk_set hz2 0 _ _ rfl) 1 _ _ rfl⟩, ⟨hF.blk HX1.out hne⟩, ⟨HL3.out.move (fun b hb => hF.same b (HL3.out.lt b hb) (fun h => HS2.out (by rw [← h]; exact hb)))⟩, ⟨HJF.out _ _ HJ3.out hF⟩⟩
        case measure =>
          rw [HMS.out, leftW_at (blk_cell (blk_set (blk_set hz2 0 (.int .i64 tok.t) _ rfl) 1 (.int .i64 tok.m) _ rfl) 0 (.int .i64 tok.t) rfl)]
          omega
      · rw [if_neg hk0] at HR
        gi_wp2
        refine bodyPost_ret (results_none rfl _ _ _) rfl ?_
        refine ⟨⟨_, rfl⟩, ?_⟩
        have h9 := HR.out
        subst h9
        exact hJx3
theorem kparts_calls (A1 A2 A3 : Option Addr) (n1 n2 n3 c1 c2 c3 : Nat) (t : ByteArray) (cl : Bool) (p : Spot) (w : World) :
    Calls Tryz.prog 85 #[.agg #[.slice A1 n1 c1, .slice A2 n2 c2, .slice A3 n3 c3, .string t, .bool cl], spotV p] w fun e w' => e = .returned (.func (.func 108) #[] #[.pointer (some ⟨w.heap.size, 0, none⟩), .pointer (some ⟨w.heap.size + 1, 0, none⟩)]) ∧
      w' = (w.alloc (.cells #[.slice A1 n1 c1, .slice A2 n2 c2, .slice A3 n3 c3, .string t, .bool cl] 116)).alloc (.cells #[.int .i64 p.at_, .int .i64 p.mode] 57) := by
  unfold spotV
  go_enter Tryz.func85, Tryz.ntmps85
  have hmf : ∀ (fn : Fn) (first cap : Array Value) (w : World), (Instr.makeFunc fn first cap).run Tryz.prog w = .ok (.func fn first cap) w := fun _ _ _ _ => rfl
  go_wp2
  go_ret
  exact ⟨rfl, rfl⟩
end Go.Proofs.YtoambcpjdcehhaaGreat.Tb

/- What next computes. -/
set_option linter.unusedVariables false
set_option linter.unusedSimpArgs false
namespace Go.Proofs.YtoambcpjdcehhaaGreat.Tb
open Go Go.RowKit Go.Shelf Go.Proofs.YtoambcpjdcehhaaGreat.Can Go.Proofs.YtoambcpjdcehhaaGreat.Base Go.Proofs.YtoambcpjdcehhaaGreat.Al
open Go.Proofs.YtoambcpjdcehhaaGreat.Df hiding bl bl_len
open Go.Proofs.YtoambcpjdcehhaaGreat.Fn (Spot Tok tokV spotV tokE spotE tok0 cell_tmp_row behind_calls)
attribute [local go_sem] Oper.semAt_some

theorem load_bool {w : World} {g : Nat} {b : Bool} (h : w.cell? ⟨g, 0, none⟩ = some (.bool b)) : (loadVar 4 ⟨g, 0, none⟩).run Tryz.prog w = .ok (.bool b) w := by
  simp [loadVar, isAgg, Sem.run_bind, run_underlying Tryz.underlying4, go_sem, h]
theorem results_cell_cell {P : Program} {fn : Func} {p u : Tmp} {ty ty2 : TypeId} (h : fn.results = #[.cell p ty, .cell u ty2]) (tmps : Array Value) (w : World) (g : Nat) (t : TypeId) (cs : Array Value) (fr : Nat × Nat) (d : TypeDesc) (g2 : Nat) (v : Value)
    (hp : tmps.getD p undef = .pointer (some ⟨g, 0, none⟩)) (hg : w.heap[g]? = some (.cells cs t fr))
    (hu : P.underlying ty = some d) (hd : (match d with | .struct _ | .array _ _ => true | _ => false) = true) (hi : (P.info? ty).map (·.size) = some cs.size)
    (hp2 : tmps.getD u undef = .pointer (some ⟨g2, 0, none⟩)) (hv : (loadVar ty2 ⟨g2, 0, none⟩).run P w = .ok v w) :
    (results fn tmps).run P w = .ok (.tuple #[.agg cs, v]) w := by
  have hp' : tmps[p]?.getD undef = .pointer (some ⟨g, 0, none⟩) := by simpa using hp
  have hp2' : tmps[u]?.getD undef = .pointer (some ⟨g2, 0, none⟩) := by simpa using hp2
  simp [results, h, hp', hp2', asAddr, run_loadVar_row w g t ty cs fr d hg hu hd hi, hv]
theorem six_same {w : World} {g k : Nat} (hne : ¬ k = g) (b0 b1 b2 b3 b4 b5 : Value) :
    ((((((w.setCell ⟨g, 0, none⟩ b0).setCell ⟨g, 1, none⟩ b1).setCell ⟨g, 2, none⟩ b2).setCell ⟨g, 3, none⟩ b3).setCell ⟨g, 4, none⟩ b4).setCell ⟨g, 5, none⟩ b5).heap[k]? = w.heap[k]? := by
  rw [Below.heap_setCell _ _ _ k hne, Below.heap_setCell _ _ _ k hne, Below.heap_setCell _ _ _ k hne, Below.heap_setCell _ _ _ k hne, Below.heap_setCell _ _ _ k hne, Below.heap_setCell _ _ _ k hne]
theorem fr_six {X : Nat → Prop} {v w : World} (h : Fr X v w) {g : Nat} (hg : X g ∨ v.heap.size ≤ g) (b0 b1 b2 b3 b4 b5 : Value) :
    Fr X v ((((((w.setCell ⟨g, 0, none⟩ b0).setCell ⟨g, 1, none⟩ b1).setCell ⟨g, 2, none⟩ b2).setCell ⟨g, 3, none⟩ b3).setCell ⟨g, 4, none⟩ b4).setCell ⟨g, 5, none⟩ b5) :=
  (((((h.set hg 0 b0).set hg 1 b1).set hg 2 b2).set hg 3 b3).set hg 4 b4).set hg 5 b5
theorem others_six (w : World) (g : Nat) (b0 b1 b2 b3 b4 b5 : Value) :
    KeepsOthers w ((((((w.setCell ⟨g, 0, none⟩ b0).setCell ⟨g, 1, none⟩ b1).setCell ⟨g, 2, none⟩ b2).setCell ⟨g, 3, none⟩ b3).setCell ⟨g, 4, none⟩ b4).setCell ⟨g, 5, none⟩ b5) :=
  (((((KeepsOthers.setCell w _ b0).trans (KeepsOthers.setCell _ _ b1)).trans (KeepsOthers.setCell _ _ b2)).trans (KeepsOthers.setCell _ _ b3)).trans (KeepsOthers.setCell _ _ b4)).trans (KeepsOthers.setCell _ _ b5)
set_option maxRecDepth 100000 in
set_option maxHeartbeats 4000000 in
theorem knext_calls (A1 A2 A3 : Option Addr) (n1 n2 n3 c1 c2 c3 : Nat) (l : Lx) (hr : rightB l = true) (S : Nat → Prop) (t : ByteArray) (cl : Bool) (ht : t.size ≤ 140737488351232) (p : Spot) (hp : Pin l (bl t).length p) (w : World) (hL : LX w S A1 A2 A3 n1 n2 n3 l) :
    Calls Tryz.prog 59 #[.agg #[.slice A1 n1 c1, .slice A2 n2 c2, .slice A3 n3 c3, .string t, .bool cl], spotV p] w fun e w' =>
      e = .returned (.tuple #[tokV ((nextM l (bl t) cl p).getD tok0), .bool (nextM l (bl t) cl p).isSome]) ∧ Below w.heap.size w w' := by
  refine (callsIn_wide (n := 6)).1 ?_
  refine callsIn_of_wp_marks Tryz.func59 rfl trivial ?_ rfl
  simp only [Tryz.ntmps59, List.size_toArray, List.length_cons, List.length_nil, Nat.reduceAdd, Nat.reduceSub, Array.replicate_succ, Array.replicate_zero, List.push_toArray, List.append_toArray, List.nil_append, List.cons_append]
  have HL := Hd.mk hL
  have HKP := Hd.mk (kparts_calls A1 A2 A3 n1 n2 n3 c1 c2 c3 t cl p)
  have HPA := fun W B1 B2 hne h1 h2 hL2 hS2 => parts_in 5 (by omega) B1 B2 hne A1 A2 A3 n1 n2 n3 c1 c2 c3 l hr S t cl ht p hp ((bl t).length - p.at_.toNat + 1) (by omega) W h1 h2 hL2 hS2
  have HPA := Hd.mk HPA
  obtain ⟨nx, hnx⟩ : ∃ x, nextM l (bl t) cl p = x := ⟨_, rfl⟩
  have hnx2 : (rawM l (bl t) cl ((bl t).length - p.at_.toNat + 1) p).map (fun t => { t with f := p.at_ }) = nx := hnx
  rw [hnx]
  generalize rawM l (bl t) cl ((bl t).length - p.at_.toNat + 1) p = res at HPA hnx2
  have HNX := Hd.mk hnx2
  unfold spotV at HKP ⊢
  clear hL hp hnx hnx2
  gi_wp2_with (refine ⟨trivial, ?_⟩; gi_at_call 85; refine (callsIn_wide.2 (HKP.out _)).mono ?_; rintro e w' ⟨rfl, rfl⟩)
  generalize hV : World.alloc _ _ = V
  have HBV : Below w.heap.size w V := below_of hV (by repeat (first | (with_reducible assumption) | (with_reducible exact Below.refl _ _) | (with_reducible apply below_drewL) | (with_reducible apply below_alloc) | (with_reducible apply below_drew1) | (with_reducible apply below_drewN) | (refine below_set ?_ (by first | omega | (simp only [size_alloc, size_drew, size_set]; omega)) _ _)))
  have zV : Hd (V.heap.size = w.heap.size + 1 + 1 + 1 + 1 + 1 + 1) := ⟨by rw [← hV]; simp only [size_alloc]⟩
  have V0 := at_of hV (blk_alloc (blk_alloc (blk_alloc (blk_alloc (blk_alloc (blk_new _ _ _ rfl) _) _) _) _) _)
  have V0l := blk_lt V0
  have V1 := at_of hV (blk_alloc (blk_alloc (blk_alloc (blk_alloc (blk_new _ _ _ rfl) _) _) _) _)
  simp only [size_alloc] at V1
  have V1l := blk_lt V1
  have V2 := at_of hV (blk_alloc (blk_alloc (blk_alloc (blk_new _ _ _ rfl) _) _) _)
  simp only [size_alloc] at V2
  have V2l := blk_lt V2
  have V3 := at_of hV (blk_alloc (blk_alloc (blk_new _ _ _ rfl) _) _)
  simp only [size_alloc] at V3
  have V3l := blk_lt V3
  have V4 := at_of hV (blk_alloc (blk_new _ _ _ rfl) _)
  simp only [size_alloc] at V4
  have V4l := blk_lt V4
  have V5 := at_of hV (blk_new _ _ _ rfl)
  simp only [size_alloc] at V5
  have V5l := blk_lt V5
  clear hV
  have hzV : V.heap.size = w.heap.size + 6 := by rw [zV.out]
  obtain ⟨B2, hB2⟩ : ∃ B, w.heap.size + 1 + 1 + 1 + 1 + 1 = B := ⟨_, rfl⟩
  rw [hB2] at V5 V5l ⊢
  obtain ⟨B1, hB1⟩ : ∃ B, w.heap.size + 1 + 1 + 1 + 1 = B := ⟨_, rfl⟩
  rw [hB1] at V4 V4l ⊢
  have HG := HPA.out V B1 B2 (by omega) V4 V5 (HL.out.below HBV) (fun h => by have := HL.out.lt _ h; omega)
  have HFV := Fr.of_below (X := fun _ => False) HBV
  have hS := HL.out.lt
  have HI0 : V.heap[w.heap.size + 1]? = some (.cells #[.int .i64 p.at_, .int .i64 p.mode] 57 (0, 0)) ∧ V.heap[w.heap.size + 1 + 1]? = some (.cells #[.int .i64 0, .int .i64 0, .int .i64 0, .int .i64 0, .int .i64 0, .int .i64 0] 43 (0, 0)) ∧ V.heap[w.heap.size + 1 + 1 + 1]? = some (.cells #[.bool false] 4 (0, 0)) ∧ Fr (fun _ => False) w V ∧ V.heap.size ≤ V.heap.size := ⟨V1, V2, V3, HFV, Nat.le_refl _⟩
  clear V0 V1 V2 V3 V4 V5 V0l V1l V2l V3l V4l V5l zV HBV HFV
  refine rangeFunc_guard (by omega) (gf := 108) (lb := #[.pointer (some ⟨B1, 0, none⟩), .pointer (some ⟨B2, 0, none⟩)]) rfl (enters_of Tryz.func108 (by kernel_rfl) rfl) tokV rfl (fun k => k = B1 ∨ k = B2 ∨ S k) (fun k hk => by rcases hk with h | h | h <;> first | omega | (have := hS k h; omega)) (fun k => k = B2) (fun k hk => by omega) (fun x : Tok => x.k = 0) res HG
    (fun W => W.heap[w.heap.size + 1]? = some (.cells #[.int .i64 p.at_, .int .i64 p.mode] 57 (0, 0)) ∧ W.heap[w.heap.size + 1 + 1]? = some (.cells #[.int .i64 0, .int .i64 0, .int .i64 0, .int .i64 0, .int .i64 0, .int .i64 0] 43 (0, 0)) ∧ W.heap[w.heap.size + 1 + 1 + 1]? = some (.cells #[.bool false] 4 (0, 0)) ∧ Fr (fun _ => False) w W ∧ V.heap.size ≤ W.heap.size)
    (fun x W => W.heap[w.heap.size + 1 + 1]? = some (.cells #[.int .i64 x.k, .int .i64 x.r, .int .i64 p.at_, .int .i64 x.a, .int .i64 x.t, .int .i64 x.m] 43 (0, 0)) ∧ W.heap[w.heap.size + 1 + 1 + 1]? = some (.cells #[.bool true] 4 (0, 0)) ∧ Fr (fun _ => False) w W ∧ V.heap.size ≤ W.heap.size)
    (fun s A B row hs hg hr => ⟨(turn_keeps hg hr (by omega) (blk_lt hs.1)).trans hs.1, (turn_keeps hg hr (by omega) (blk_lt hs.2.1)).trans hs.2.1, (turn_keeps hg hr (by omega) (blk_lt hs.2.2.1)).trans hs.2.2.1, ⟨hs.2.2.2.1.zero.grown hg (Nat.zero_le _) (fun _ _ => Nat.zero_le _), fun b hb hx => (turn_keeps hg hr (by omega) (by have := hs.2.2.2.2; omega)).trans (hs.2.2.2.1.same b hb hx)⟩, Nat.le_trans hs.2.2.2.2 hg.size⟩)
    (fun x s A B row hs hg hr => ⟨(turn_keeps hg hr (by omega) (blk_lt hs.1)).trans hs.1, (turn_keeps hg hr (by omega) (blk_lt hs.2.1)).trans hs.2.1, ⟨hs.2.2.1.zero.grown hg (Nat.zero_le _) (fun _ _ => Nat.zero_le _), fun b hb hx => (turn_keeps hg hr (by omega) (by have := hs.2.2.2; omega)).trans (hs.2.2.1.same b hb hx)⟩, Nat.le_trans hs.2.2.2 hg.size⟩)
    (fun A B hs hf => ⟨hf.blk hs.1 (by omega), hf.blk hs.2.1 (by omega), hf.blk hs.2.2.1 (by omega), ⟨hs.2.2.2.1.zero.trans hf.zero, fun b hb hx => (hf.same b (by have := hs.2.2.2.2; omega) (by omega)).trans (hs.2.2.2.1.same b hb hx)⟩, Nat.le_trans hs.2.2.2.2 hf.size⟩)
    HI0
    (fun x a' W => ∃ B6, V.heap.size ≤ B6 ∧ a' = ({ tmps := #[.agg #[.slice A1 n1 c1, .slice A2 n2 c2, .slice A3 n3 c3, .string t, .bool cl], .agg #[.int .i64 p.at_, .int .i64 p.mode], .pointer (some ⟨w.heap.size, 0, none⟩), .pointer (some ⟨w.heap.size + 1, 0, none⟩), .pointer (some ⟨w.heap.size + 1 + 1, 0, none⟩), .pointer (some ⟨w.heap.size + 1 + 1 + 1, 0, none⟩), .pointer (some ⟨B6, 0, none⟩), .agg #[.slice A1 n1 c1, .slice A2 n2 c2, .slice A3 n3 c3, .string t, .bool cl], .agg #[.int .i64 p.at_, .int .i64 p.mode], .func (.func 108) #[] #[.pointer (some ⟨B1, 0, none⟩), .pointer (some ⟨B2, 0, none⟩)], tokV x, undef, undef, undef, undef, undef, undef, undef, undef], defers := [] } : Act) ∧ W.heap[B6]? = some (.cells #[.int .i64 x.k, .int .i64 x.r, .int .i64 x.f, .int .i64 x.a, .int .i64 x.t, .int .i64 x.m] 43 (0, 0)))
    (fun x a' s A B row hs hg hr => by
      obtain ⟨B6, h1, h2, h3⟩ := hs
      refine ⟨B6, h1, h2, (hg.block B6 (blk_lt h3) (fun h => ?_)).trans h3⟩
      obtain ⟨_, o, ho, hc⟩ := hr B6 h.symm
      rw [ho] at h3; cases h3; cases hc) ?assign ?body ?done ?stop
  case assign =>
    intro lo x W K hI hK
    unfold tokV
    gi_wp2
    have hA := below_alloc (Below.refl W.heap.size W) (.cells #[.int .i64 x.k, .int .i64 x.r, .int .i64 x.f, .int .i64 x.a, .int .i64 x.t, .int .i64 x.m] 43 (0, 0))
    refine hK _ _ ((KeepsOthers.alloc _ _).from _) (KeptB.below hA (fun k hk => ?_)) ⟨blk_below hI.1 hA, blk_below hI.2.1 hA, blk_below hI.2.2.1 hA, hI.2.2.2.1.alloc _, by rw [size_alloc]; omega⟩ ⟨W.heap.size, hI.2.2.2.2, rfl, blk_new _ _ _ rfl⟩
    have := hI.2.2.2.2
    rcases hk with h | h | h <;> first | omega | (have := hS k h; omega)
  case body =>
    clear HG HI0
    rintro lo x a' W ⟨h1, h2, h3, hF, hz⟩ ⟨B6, hB6, rfl, h6⟩
    unfold tokV
    have HF := Hd.mk hF
    clear hF
    have H1 := Hd.mk h1; have H2 := Hd.mk h2; have H3 := Hd.mk h3; have H6 := Hd.mk h6
    have h1c0 := blk_cell h1 0 _ rfl; have h1f0 := blk_frozen h1 0; have h1c1 := blk_cell h1 1 _ rfl; have h1f1 := blk_frozen h1 1; have h1l := blk_lt h1
    have h2c0 := blk_cell h2 0 _ rfl; have h2f0 := blk_frozen h2 0; have h2c1 := blk_cell h2 1 _ rfl; have h2f1 := blk_frozen h2 1; have h2c2 := blk_cell h2 2 _ rfl; have h2f2 := blk_frozen h2 2; have h2c3 := blk_cell h2 3 _ rfl; have h2f3 := blk_frozen h2 3; have h2c4 := blk_cell h2 4 _ rfl; have h2f4 := blk_frozen h2 4; have h2c5 := blk_cell h2 5 _ rfl; have h2f5 := blk_frozen h2 5; have h2l := blk_lt h2
    have h3c0 := blk_cell h3 0 _ rfl; have h3f0 := blk_frozen h3 0; have h3l := blk_lt h3
    have h6c0 := blk_cell h6 0 _ rfl; have h6f0 := blk_frozen h6 0; have h6c1 := blk_cell h6 1 _ rfl; have h6f1 := blk_frozen h6 1; have h6c2 := blk_cell h6 2 _ rfl; have h6f2 := blk_frozen h6 2; have h6c3 := blk_cell h6 3 _ rfl; have h6f3 := blk_frozen h6 3; have h6c4 := blk_cell h6 4 _ rfl; have h6f4 := blk_frozen h6 4; have h6c5 := blk_cell h6 5 _ rfl; have h6f5 := blk_frozen h6 5; have h6l := blk_lt h6
    clear h1 h2 h3 h6
    by_cases hk : x.k = 0
    · have HK := Hd.mk hk
      rw [hk] at h6c0
      clear hk
      gi_wp2
      exact ⟨KeepsFrom.refl _ _, KeptB.refl _ _, ⟨H1.out, H2.out, H3.out, HF.out, hz⟩, HK.out⟩
    · have HK := Hd.mk hk
      clear hk
      have hk' : (x.k != 0) = true := by simpa using HK.out
      gi_wp2
      have hn2 : ¬ w.heap.size + 1 + 1 = B6 := by omega
      have hn3 : ¬ w.heap.size + 1 + 1 + 1 = B6 := by omega
      have hn4 : ¬ w.heap.size + 1 + 1 + 1 = w.heap.size + 1 + 1 := by omega
      have hn5 : ¬ w.heap.size + 1 + 1 = w.heap.size + 1 + 1 + 1 := by omega
      refine ⟨(((KeepsOthers.setCell W _ _).trans (others_six _ _ _ _ _ _ _ _)).trans (KeepsOthers.setCell _ _ _)).from _, ⟨?_, ?_, ?_, ?_⟩, HK.out⟩
      · exact (Below.heap_setCell _ _ _ _ hn5).trans (blk_six ((Below.heap_setCell _ _ _ _ hn2).trans H2.out) _ _ _ _ _ _)
      · exact blk_set ((six_same hn4 _ _ _ _ _ _).trans ((Below.heap_setCell _ _ _ _ hn3).trans H3.out)) 0 _ _ rfl
      · exact (fr_six (HF.out.set (g := B6) (.inr (by omega)) 2 _) (g := w.heap.size + 1 + 1) (.inr (by omega)) _ _ _ _ _ _).set (g := w.heap.size + 1 + 1 + 1) (.inr (by omega)) 0 _
      · simp only [size_set]; omega
  case done =>
    clear HG HI0
    rintro D W hD hr ⟨h1, h2, h3, hF, hz⟩ hDd
    have HF := Hd.mk hF
    clear hF
    have HR := Hd.mk hr; clear hr
    have H1 := Hd.mk h1; have H2 := Hd.mk h2; have H3 := Hd.mk h3; have HD := Hd.mk hDd
    have h2c0 := blk_cell h2 0 _ rfl; have h2f0 := blk_frozen h2 0; have h2c1 := blk_cell h2 1 _ rfl; have h2f1 := blk_frozen h2 1; have h2c2 := blk_cell h2 2 _ rfl; have h2f2 := blk_frozen h2 2; have h2c3 := blk_cell h2 3 _ rfl; have h2f3 := blk_frozen h2 3; have h2c4 := blk_cell h2 4 _ rfl; have h2f4 := blk_frozen h2 4; have h2c5 := blk_cell h2 5 _ rfl; have h2f5 := blk_frozen h2 5; have h2l := blk_lt h2
    have h3c0 := blk_cell h3 0 _ rfl; have h3f0 := blk_frozen h3 0; have h3l := blk_lt h3
    clear h1 h2 h3 hDd
    gi_wp2
    have hn4 : ¬ w.heap.size + 1 + 1 + 1 = w.heap.size + 1 + 1 := by omega
    have hn5 : ¬ w.heap.size + 1 + 1 = w.heap.size + 1 + 1 + 1 := by omega
    have hD2 : ¬ D = w.heap.size + 1 + 1 := by omega
    have hD3 : ¬ D = w.heap.size + 1 + 1 + 1 := by omega
    generalize hU : World.setCell _ _ _ = U
    have U2 : U.heap[w.heap.size + 1 + 1]? = some (.cells #[.int .i64 0, .int .i64 0, .int .i64 0, .int .i64 0, .int .i64 0, .int .i64 0] 43 (0, 0)) := by rw [← hU]; exact (Below.heap_setCell _ _ _ _ hn5).trans (blk_six H2.out _ _ _ _ _ _)
    have U3 : U.heap[w.heap.size + 1 + 1 + 1]? = some (.cells #[.bool false] 4 (0, 0)) := by rw [← hU]; exact blk_set ((six_same hn4 _ _ _ _ _ _).trans H3.out) 0 _ _ rfl
    have UD : U.heap[D]? = some (.deferred (some [])) := by rw [← hU]; exact (Below.heap_setCell _ _ _ D hD3).trans ((six_same hD2 _ _ _ _ _ _).trans HD.out)
    have UF : Fr (fun _ => False) w U := by rw [← hU]; exact (fr_six HF.out (g := w.heap.size + 1 + 1) (.inr (by omega)) _ _ _ _ _ _).set (g := w.heap.size + 1 + 1 + 1) (.inr (by omega)) 0 _
    clear hU
    refine ⟨by simp, .inl ⟨_, _, rfl, run_takeDeferred UD, ?_⟩⟩
    refine ⟨_, results_cell_cell rfl _ _ (w.heap.size + 1 + 1) 43 #[.int .i64 0, .int .i64 0, .int .i64 0, .int .i64 0, .int .i64 0, .int .i64 0] (0, 0) _ (w.heap.size + 1 + 1 + 1) (.bool false) rfl ((World.putObj_heap_other (by omega)).trans U2) Tryz.underlying43 rfl (by kernel_rfl) rfl (load_bool (blk_cell ((World.putObj_heap_other (by omega)).trans U3) 0 _ rfl)), ?_, ?_⟩
    · have hnx := HNX.out
      rw [HR.out] at hnx
      subst hnx
      rfl
    · exact (Fr.put UF (by omega) _).below (Nat.le_refl _) (fun _ _ h => h)
  case stop =>
    clear HG HI0
    rintro D x W hD hr ⟨h2, h3, hF, hz⟩ hDd
    have HF := Hd.mk hF
    clear hF
    have HR := Hd.mk hr; clear hr
    have H2 := Hd.mk h2; have H3 := Hd.mk h3; have HD := Hd.mk hDd
    clear h2 h3 hDd
    gi_wp2
    refine ⟨by simp, .inl ⟨_, _, rfl, run_takeDeferred HD.out, ?_⟩⟩
    refine ⟨_, results_cell_cell rfl _ _ (w.heap.size + 1 + 1) 43 #[.int .i64 x.k, .int .i64 x.r, .int .i64 p.at_, .int .i64 x.a, .int .i64 x.t, .int .i64 x.m] (0, 0) _ (w.heap.size + 1 + 1 + 1) (.bool true) rfl ((World.putObj_heap_other (by omega)).trans H2.out) Tryz.underlying43 rfl (by kernel_rfl) rfl (load_bool (blk_cell ((World.putObj_heap_other (by omega)).trans H3.out) 0 _ rfl)), ?_, ?_⟩
    · have hnx := HNX.out
      rw [HR.out] at hnx
      subst hnx
      rfl
    · exact (Fr.put HF.out (by omega) _).below (Nat.le_refl _) (fun _ _ h => h)
end Go.Proofs.YtoambcpjdcehhaaGreat.Tb

/- What Next computes. -/
set_option linter.unusedVariables false
set_option linter.unusedSimpArgs false
namespace Go.Proofs.YtoambcpjdcehhaaGreat.Tb
open Go Go.RowKit Go.Shelf Go.Proofs.YtoambcpjdcehhaaGreat.Can Go.Proofs.YtoambcpjdcehhaaGreat.Base Go.Proofs.YtoambcpjdcehhaaGreat.Al
open Go.Proofs.YtoambcpjdcehhaaGreat.Df hiding bl bl_len
open Go.Proofs.YtoambcpjdcehhaaGreat.Fn (Spot Tok tokV spotV tokE spotE tok0 cell_tmp_row behind_calls)
attribute [local go_sem] clsB AB.cell

def errM (o : Option Tok) : Int := if o.isSome then 0 else 15
set_option maxRecDepth 100000 in
set_option maxHeartbeats 4000000 in
theorem next_calls (A1 A2 A3 : Option Addr) (n1 n2 n3 c1 c2 c3 : Nat) (l : Lx) (hr : rightB l = true) (S : Nat → Prop) (t : ByteArray) (cl : Bool) (ht : t.size ≤ 140737488351232) (p : Spot) (hp : Pin l (bl t).length p) (nx : Option Tok) (hnx : nextM l (bl t) cl p = nx) (er : Int) (her : errM nx = er) (w : World) (hL : LX w S A1 A2 A3 n1 n2 n3 l) :
    Calls Tryz.prog 27 #[.agg #[.slice A1 n1 c1, .slice A2 n2 c2, .slice A3 n3 c3], .string t, spotV p, .bool cl] w fun e w' =>
      e = .returned (.tuple #[tokV (nx.getD tok0), .int .i64 er]) ∧ Below w.heap.size w w' := by
  have HN := fun (W : World) (h : LX W S A1 A2 A3 n1 n2 n3 l) => knext_calls A1 A2 A3 n1 n2 n3 c1 c2 c3 l hr S t cl ht p hp W h
  rw [hnx] at HN
  have HN := Hd.mk HN
  have HT := fun (W : World) (h : LX W S A1 A2 A3 n1 n2 n3 l) => tright_calls A1 A2 A3 n1 n2 n3 c1 c2 c3 l true hr S W h
  have HT := Hd.mk HT
  have hz1 := hL.modes.le
  have hm := hL.modes.1
  obtain ⟨tk, htk⟩ : ∃ tk, nx.getD tok0 = tk := ⟨_, rfl⟩
  rw [htk] at HN ⊢
  obtain ⟨kn, hkn⟩ : ∃ b, nx.isSome = b := ⟨_, rfl⟩
  rw [hkn] at HN
  have h0 : kn = true → er = 0 := fun h => by rw [← her]; unfold errM; rw [hkn, h]; rfl
  have h15 : kn = false → er = 15 ∧ tk = tok0 := fun h => by rw [← her, ← htk]; unfold errM; rw [hkn, h]; cases nx with | none => exact ⟨rfl, rfl⟩ | some x => simp at hkn; rw [h] at hkn; cases hkn
  have H0 := Hd.mk h0; have H15 := Hd.mk h15
  clear h0 h15 hkn htk her
  obtain ⟨p0, p1⟩ := p
  obtain ⟨hp0, hp1, hp2, hp3⟩ := hp
  rw [bl_len] at hp1
  rw [hm] at hp3
  simp only [] at hp0 hp1 hp2 hp3
  have HL := Hd.mk hL
  clear hL hr hm
  unfold spotV tokV at HN ⊢
  simp only [] at HN ⊢
  have hv := blk_alloc (blk_alloc (blk_new w (.cells #[.slice A1 n1 c1, .slice A2 n2 c2, .slice A3 n3 c3] 26 (0, 0)) _ rfl) (.cells #[.int .i64 p0, .int .i64 p1] 57 (0, 0))) (.cells #[.int .i64 0, .int .i64 0, .int .i64 0, .int .i64 0, .int .i64 0, .int .i64 0] 43 (0, 0))
  have hv1 := blk_alloc (blk_new (w.alloc (.cells #[.slice A1 n1 c1, .slice A2 n2 c2, .slice A3 n3 c3] 26 (0, 0))) (.cells #[.int .i64 p0, .int .i64 p1] 57 (0, 0)) (w.heap.size + 1) (by rw [size_alloc])) (.cells #[.int .i64 0, .int .i64 0, .int .i64 0, .int .i64 0, .int .i64 0, .int .i64 0] 43 (0, 0))
  have hv2 := blk_new ((w.alloc (.cells #[.slice A1 n1 c1, .slice A2 n2 c2, .slice A3 n3 c3] 26 (0, 0))).alloc (.cells #[.int .i64 p0, .int .i64 p1] 57 (0, 0))) (.cells #[.int .i64 0, .int .i64 0, .int .i64 0, .int .i64 0, .int .i64 0, .int .i64 0] 43 (0, 0)) (w.heap.size + 1 + 1) (by simp only [size_alloc])
  have HV := Hd.mk hv; have HV1 := Hd.mk hv1; have HV2 := Hd.mk hv2
  clear hv hv1 hv2
  have hd1 : decide (p1 < 0) = false := by simpa using hp2
  have hd2 : decide (p0 < 0) = false := by simpa using hp0
  have hd3 : decide ((n1 : Int) ≤ p1) = false := by simpa using hp3
  have hd4 : decide ((t.size : Int) < p0) = false := by simpa using hp1
  cases kn with
  | false =>
    obtain ⟨rfl, rfl⟩ := H15.out rfl
    go_enter Tryz.func27, Tryz.ntmps27
    go_wp2_with (first
      | (go_at_call 59; go_must (refine Calls.mono (HN.out _ (HL.out.below (by have hB_ := HB1.out; exact (by repeat (first | (with_reducible assumption) | (with_reducible exact Below.refl _ _) | (with_reducible apply below_drewL) | (with_reducible apply below_alloc) | (with_reducible apply below_drew1) | (with_reducible apply below_drewN) | (refine below_set ?_ (by first | omega | (simp only [size_alloc, size_drew, size_set]; omega)) _ _)))))) ?_; rintro e w2 ⟨rfl, hb2⟩; have hB_ := HB1.out; have HB2 := Hd.mk (below_seq (a := w) (by repeat (first | (with_reducible assumption) | (with_reducible exact Below.refl _ _) | (with_reducible apply below_drewL) | (with_reducible apply below_alloc) | (with_reducible apply below_drew1) | (with_reducible apply below_drewN) | (refine below_set ?_ (by first | omega | (simp only [size_alloc, size_drew, size_set]; omega)) _ _))) hb2); clear hB_; have hw2 := blk_below hv2 hb2; clear hv2c0 hv2f0 hv2c1 hv2f1 hv2c2 hv2f2 hv2c3 hv2f3 hv2c4 hv2f4 hv2c5 hv2f5 hv2l; have hw2c0 := blk_cell hw2 0 _ rfl; have hw2f0 := blk_frozen hw2 0; have hw2c1 := blk_cell hw2 1 _ rfl; have hw2f1 := blk_frozen hw2 1; have hw2c2 := blk_cell hw2 2 _ rfl; have hw2f2 := blk_frozen hw2 2; have hw2c3 := blk_cell hw2 3 _ rfl; have hw2f3 := blk_frozen hw2 3; have hw2c4 := blk_cell hw2 4 _ rfl; have hw2f4 := blk_frozen hw2 4; have hw2c5 := blk_cell hw2 5 _ rfl; have hw2f5 := blk_frozen hw2 5; have hw2l := blk_lt hw2; have HW2 := Hd.mk hw2))
      | (go_at_call 18; go_must (refine Calls.mono (HT.out _ (HL.out.below (by repeat (first | (with_reducible assumption) | (with_reducible exact Below.refl _ _) | (with_reducible apply below_drewL) | (with_reducible apply below_alloc) | (with_reducible apply below_drew1) | (with_reducible apply below_drewN) | (refine below_set ?_ (by first | omega | (simp only [size_alloc, size_drew, size_set]; omega)) _ _))))) ?_; rintro e w1 ⟨rfl, hb1⟩; have hv := blk_below HV.out hb1; have hv1 := blk_below HV1.out hb1; have hv2 := blk_below HV2.out hb1; have hvc0 := blk_cell hv 0 _ rfl; have hvf0 := blk_frozen hv 0; have hvc1 := blk_cell hv 1 _ rfl; have hvf1 := blk_frozen hv 1; have hvc2 := blk_cell hv 2 _ rfl; have hvf2 := blk_frozen hv 2; have hvl := blk_lt hv; have hv1c0 := blk_cell hv1 0 _ rfl; have hv1f0 := blk_frozen hv1 0; have hv1c1 := blk_cell hv1 1 _ rfl; have hv1f1 := blk_frozen hv1 1; have hv1l := blk_lt hv1; have hv2c0 := blk_cell hv2 0 _ rfl; have hv2f0 := blk_frozen hv2 0; have hv2c1 := blk_cell hv2 1 _ rfl; have hv2f1 := blk_frozen hv2 1; have hv2c2 := blk_cell hv2 2 _ rfl; have hv2f2 := blk_frozen hv2 2; have hv2c3 := blk_cell hv2 3 _ rfl; have hv2f3 := blk_frozen hv2 3; have hv2c4 := blk_cell hv2 4 _ rfl; have hv2f4 := blk_frozen hv2 4; have hv2c5 := blk_cell hv2 5 _ rfl; have hv2f5 := blk_frozen hv2 5; have hv2l := blk_lt hv2; have HB1 := Hd.mk (below_seq (a := w) (by repeat (first | (with_reducible assumption) | (with_reducible exact Below.refl _ _) | (with_reducible apply below_drewL) | (with_reducible apply below_alloc) | (with_reducible apply below_drew1) | (with_reducible apply below_drewN) | (refine below_set ?_ (by first | omega | (simp only [size_alloc, size_drew, size_set]; omega)) _ _))) hb1); clear hb1 hv hv1)))
    refine bodyPost_ret (cell_tmp_row rfl _ _ (w.heap.size + 1 + 1) 43 #[.int .i64 0, .int .i64 0, .int .i64 0, .int .i64 0, .int .i64 0, .int .i64 0] (0, 0) _ rfl (blk_alloc (blk_six HW2.out _ _ _ _ _ _) _) Tryz.underlying43 rfl (by kernel_rfl)) rfl ⟨rfl, ?_⟩
    exact ((fr_six (Fr.of_below (X := fun _ => False) HB2.out) (.inr (by omega)) _ _ _ _ _ _).alloc _).below (Nat.le_refl _) (fun _ _ h => h)
  | true =>
    obtain rfl := H0.out rfl
    go_enter Tryz.func27, Tryz.ntmps27
    go_wp2_with (first
      | (go_at_call 59; go_must (refine Calls.mono (HN.out _ (HL.out.below (by have hB_ := HB1.out; exact (by repeat (first | (with_reducible assumption) | (with_reducible exact Below.refl _ _) | (with_reducible apply below_drewL) | (with_reducible apply below_alloc) | (with_reducible apply below_drew1) | (with_reducible apply below_drewN) | (refine below_set ?_ (by first | omega | (simp only [size_alloc, size_drew, size_set]; omega)) _ _)))))) ?_; rintro e w2 ⟨rfl, hb2⟩; have hB_ := HB1.out; have HB2 := Hd.mk (below_seq (a := w) (by repeat (first | (with_reducible assumption) | (with_reducible exact Below.refl _ _) | (with_reducible apply below_drewL) | (with_reducible apply below_alloc) | (with_reducible apply below_drew1) | (with_reducible apply below_drewN) | (refine below_set ?_ (by first | omega | (simp only [size_alloc, size_drew, size_set]; omega)) _ _))) hb2); clear hB_; have hw2 := blk_below hv2 hb2; clear hv2c0 hv2f0 hv2c1 hv2f1 hv2c2 hv2f2 hv2c3 hv2f3 hv2c4 hv2f4 hv2c5 hv2f5 hv2l; have hw2c0 := blk_cell hw2 0 _ rfl; have hw2f0 := blk_frozen hw2 0; have hw2c1 := blk_cell hw2 1 _ rfl; have hw2f1 := blk_frozen hw2 1; have hw2c2 := blk_cell hw2 2 _ rfl; have hw2f2 := blk_frozen hw2 2; have hw2c3 := blk_cell hw2 3 _ rfl; have hw2f3 := blk_frozen hw2 3; have hw2c4 := blk_cell hw2 4 _ rfl; have hw2f4 := blk_frozen hw2 4; have hw2c5 := blk_cell hw2 5 _ rfl; have hw2f5 := blk_frozen hw2 5; have hw2l := blk_lt hw2; have HW2 := Hd.mk hw2))
      | (go_at_call 18; go_must (refine Calls.mono (HT.out _ (HL.out.below (by repeat (first | (with_reducible assumption) | (with_reducible exact Below.refl _ _) | (with_reducible apply below_drewL) | (with_reducible apply below_alloc) | (with_reducible apply below_drew1) | (with_reducible apply below_drewN) | (refine below_set ?_ (by first | omega | (simp only [size_alloc, size_drew, size_set]; omega)) _ _))))) ?_; rintro e w1 ⟨rfl, hb1⟩; have hv := blk_below HV.out hb1; have hv1 := blk_below HV1.out hb1; have hv2 := blk_below HV2.out hb1; have hvc0 := blk_cell hv 0 _ rfl; have hvf0 := blk_frozen hv 0; have hvc1 := blk_cell hv 1 _ rfl; have hvf1 := blk_frozen hv 1; have hvc2 := blk_cell hv 2 _ rfl; have hvf2 := blk_frozen hv 2; have hvl := blk_lt hv; have hv1c0 := blk_cell hv1 0 _ rfl; have hv1f0 := blk_frozen hv1 0; have hv1c1 := blk_cell hv1 1 _ rfl; have hv1f1 := blk_frozen hv1 1; have hv1l := blk_lt hv1; have hv2c0 := blk_cell hv2 0 _ rfl; have hv2f0 := blk_frozen hv2 0; have hv2c1 := blk_cell hv2 1 _ rfl; have hv2f1 := blk_frozen hv2 1; have hv2c2 := blk_cell hv2 2 _ rfl; have hv2f2 := blk_frozen hv2 2; have hv2c3 := blk_cell hv2 3 _ rfl; have hv2f3 := blk_frozen hv2 3; have hv2c4 := blk_cell hv2 4 _ rfl; have hv2f4 := blk_frozen hv2 4; have hv2c5 := blk_cell hv2 5 _ rfl; have hv2f5 := blk_frozen hv2 5; have hv2l := blk_lt hv2; have HB1 := Hd.mk (below_seq (a := w) (by repeat (first | (with_reducible assumption) | (with_reducible exact Below.refl _ _) | (with_reducible apply below_drewL) | (with_reducible apply below_alloc) | (with_reducible apply below_drew1) | (with_reducible apply below_drewN) | (refine below_set ?_ (by first | omega | (simp only [size_alloc, size_drew, size_set]; omega)) _ _))) hb1); clear hb1 hv hv1)))
    refine bodyPost_ret (cell_tmp_row rfl _ _ (w.heap.size + 1 + 1) 43 #[.int .i64 tk.k, .int .i64 tk.r, .int .i64 tk.f, .int .i64 tk.a, .int .i64 tk.t, .int .i64 tk.m] (0, 0) _ rfl (blk_alloc (blk_six HW2.out _ _ _ _ _ _) _) Tryz.underlying43 rfl (by kernel_rfl)) rfl ⟨rfl, ?_⟩
    exact ((fr_six (Fr.of_below (X := fun _ => False) HB2.out) (.inr (by omega)) _ _ _ _ _ _).alloc _).below (Nat.le_refl _) (fun _ _ h => h)
end Go.Proofs.YtoambcpjdcehhaaGreat.Tb

/- What All's inner function computes. -/
set_option linter.unusedVariables false
set_option linter.unusedSimpArgs false
namespace Go.Proofs.YtoambcpjdcehhaaGreat.Tb
open Go Go.RowKit Go.Shelf Go.Proofs.YtoambcpjdcehhaaGreat.Can Go.Proofs.YtoambcpjdcehhaaGreat.Base Go.Proofs.YtoambcpjdcehhaaGreat.Al
open Go.Proofs.YtoambcpjdcehhaaGreat.Df hiding bl bl_len
open Go.Proofs.YtoambcpjdcehhaaGreat.Fn (Spot Tok tokV spotV tokE spotE tok0 cell_tmp_row behind_calls tokT tok_flat info29)
attribute [local go_sem] clsB AB.cell

/-- All's row of tokens, and where it stands: in two blocks. -/
structure Out (w : World) (base T8 T9 : Nat) (v : Value) (xs : List Tok) (q : Spot) : Prop where
  c8 : w.heap[T8]? = some (.cells #[v] 86 (0, 0))
  c9 : w.heap[T9]? = some (.cells #[.int .i64 q.at_, .int .i64 q.mode] 57 (0, 0))
  own : Mine tokT w base 43 v xs
  n8 : v.ownBlock ≠ some T8
  n9 : v.ownBlock ≠ some T9
  ne : T8 ≠ T9
  base : base ≤ T8
theorem Out.below {w w' : World} {base T8 T9 : Nat} {v : Value} {xs : List Tok} {q : Spot} (h : Out w base T8 T9 v xs q) (hb : Below w.heap.size w w') : Out w' base T8 T9 v xs q := ⟨blk_below h.c8 hb, blk_below h.c9 hb, h.own.below hb, h.n8, h.n9, h.ne, h.base⟩
theorem out_store {w U w1 : World} {base T8 T9 : Nat} {v v1 : Value} {xs ys : List Tok} {q : Spot} (ho : Out w base T8 T9 v xs q) (hU : Below w.heap.size w U) (hM : Mine tokT w1 base 43 v1 ys) (hb : Below base U w1) (hk : ∀ k, k < U.heap.size → v.ownBlock ≠ some k → w1.heap[k]? = U.heap[k]?) (hat : v1.ownBlock = v.ownBlock ∨ v1.ownBlock = some U.heap.size) :
    Out (w1.setCell ⟨T8, 0, none⟩ v1) base T8 T9 v1 ys q ∧ Fr (fun b => b = T8 ∨ v.ownBlock = some b) w (w1.setCell ⟨T8, 0, none⟩ v1) ∧ (v1.ownBlock = v.ownBlock ∨ ∃ g, v1.ownBlock = some g ∧ w.heap.size ≤ g) := by
  have h8 := blk_lt ho.c8
  have h9 := blk_lt ho.c9
  have hz := hU.size
  have hne : ∀ T, T < w.heap.size → v.ownBlock ≠ some T → v1.ownBlock ≠ some T := fun T hT hv => by
    rcases hat with h | h
    · rw [h]; exact hv
    · rw [h]; intro e; cases e; omega
  have hf : Fr (fun b => b = T8 ∨ v.ownBlock = some b) w w1 := ⟨(hU.mono (Nat.zero_le _)).trans (hb.mono (Nat.zero_le _)), fun b hb9 hx => (hk b (Nat.lt_of_lt_of_le hb9 hU.size) fun e => hx (.inr e)).trans (hU.block b hb9)⟩
  refine ⟨⟨?_, ?_, hM.set (fun k hk e => hne T8 h8 ho.n8 (by rw [← e]; exact hk)) _, hne _ h8 ho.n8, hne _ h9 ho.n9, ho.ne, ho.base⟩, hf.set (.inl (.inl rfl)) 0 v1, ?_⟩
  · exact blk_set ((hk T8 (by omega) ho.n8).trans (blk_below ho.c8 hU)) 0 v1 _ rfl
  · exact (Below.heap_setCell _ _ _ _ (fun h => ho.ne h.symm)).trans ((hk T9 (by omega) ho.n9).trans (blk_below ho.c9 hU))
  · rcases hat with h | h
    · exact .inl h
    · exact .inr ⟨_, h, hz⟩
theorem Out.turn {w w' : World} {base T8 T9 : Nat} {v : Value} {xs : List Tok} {q q' : Spot} (h : Out w base T8 T9 v xs q) (hf : Fr (fun b => b = T9) w w') (hz : True) (c9 : w'.heap[T9]? = some (.cells #[.int .i64 q'.at_, .int .i64 q'.mode] 57 (0, 0))) (hm : Mine tokT w' base 43 v xs) : Out w' base T8 T9 v xs q' :=
  ⟨hf.blk h.c8 h.ne, c9, hm, h.n8, h.n9, h.ne, h.base⟩
set_option maxRecDepth 20000 in
set_option maxHeartbeats 1000000 in
theorem all1_calls (tk : Tok) (w : World) (base T8 T9 : Nat) (v : Value) (xs : List Tok) (q : Spot) (ho : Out w base T8 T9 v xs q) (hl : xs.length ≤ 1000000) :
    Calls Tryz.prog 61 #[tokV tk, .pointer (some ⟨T8, 0, none⟩), .pointer (some ⟨T9, 0, none⟩)] w fun e w' => ∃ v', e = .returned (.bool (tk.k == 3)) ∧ Out w' base T8 T9 v' (xs ++ [tk]) ⟨tk.t, tk.m⟩ ∧
      Fr (fun b => b = T8 ∨ b = T9 ∨ v.ownBlock = some b) w w' ∧ (v'.ownBlock = v.ownBlock ∨ ∃ g, v'.ownBlock = some g ∧ w.heap.size ≤ g) := by
  have HO := Hd.mk ho
  have hx := ho.c8
  have hy := ho.c9
  have hxc0 := blk_cell hx 0 _ rfl; have hxf0 := blk_frozen hx 0; have hxl := blk_lt hx
  have hyc0 := blk_cell hy 0 _ rfl; have hyf0 := blk_frozen hy 0; have hyc1 := blk_cell hy 1 _ rfl; have hyf1 := blk_frozen hy 1; have hyl := blk_lt hy
  have HL := Hd.mk hl
  have HBE := Hd.mk (fun w => behind_calls tk w)
  clear ho hl hx hy
  unfold tokV at HBE ⊢
  have hv := blk_new w (.cells #[.int .i64 tk.k, .int .i64 tk.r, .int .i64 tk.f, .int .i64 tk.a, .int .i64 tk.t, .int .i64 tk.m] 43 (0, 0)) _ rfl
  have HV := Hd.mk hv
  clear hv
  go_enter Tryz.func61, Tryz.ntmps61
  go_wp2_with (first
    | (go_at_call 62; go_must (refine Calls.mono (HBE.out _) ?_; rintro e w4 ⟨rfl, hb4⟩; have HO4 := Hd.mk (HS.out.1.below hb4); have hy4 := HO4.out.c9; have hy4c0 := blk_cell hy4 0 _ rfl; have hy4f0 := blk_frozen hy4 0; have hy4c1 := blk_cell hy4 1 _ rfl; have hy4f1 := blk_frozen hy4 1; have hy4l := blk_lt hy4; have hq4 := blk_below HQ2.out hb4; clear hv2c0 hv2f0 hv2c1 hv2f1 hv2c2 hv2f2 hv2c3 hv2f3 hv2c4 hv2f4 hv2c5 hv2f5 hv2l; clear hx2c0 hx2f0 hx2l; have hq4c0 := blk_cell hq4 0 _ rfl; have hq4f0 := blk_frozen hq4 0; have hq4c1 := blk_cell hq4 1 _ rfl; have hq4f1 := blk_frozen hq4 1; have hq4c2 := blk_cell hq4 2 _ rfl; have hq4f2 := blk_frozen hq4 2; have hq4c3 := blk_cell hq4 3 _ rfl; have hq4f3 := blk_frozen hq4 3; have hq4c4 := blk_cell hq4 4 _ rfl; have hq4f4 := blk_frozen hq4 4; have hq4c5 := blk_cell hq4 5 _ rfl; have hq4f5 := blk_frozen hq4 5; have hq4l := blk_lt hq4))
    | (at_builtin; go_must (refine append_snoc tokT tok_flat rfl (.tmp 5) (.tmp 7) 86 43 _ 48 rfl Tryz.underlying86 info29 rfl (by decide) (by decide) base v xs tk (tokE tk) (w.heap.size + 1) rfl rfl (blk_new _ _ _ (by rw [size_alloc])) rfl (HO.out.own.below (by repeat (first | (with_reducible assumption) | (with_reducible exact Below.refl _ _) | (with_reducible apply below_drewL) | (with_reducible apply below_alloc) | (with_reducible apply below_drew1) | (with_reducible apply below_drewN) | (refine below_set ?_ (by first | omega | (simp only [size_alloc, size_drew, size_set]; omega)) _ _)))) (HO.out.own.ne_new (by omega)) (by simp only [size_alloc, size_drew]; have := HO.out.base; omega) (by have := HL.out; omega) ?_; intro v2 w2 hM2 hb2 hk2 hat2; have HS := Hd.mk (out_store HO.out (by repeat (first | (with_reducible assumption) | (with_reducible exact Below.refl _ _) | (with_reducible apply below_drewL) | (with_reducible apply below_alloc) | (with_reducible apply below_drew1) | (with_reducible apply below_drewN) | (refine below_set ?_ (by first | omega | (simp only [size_alloc, size_drew, size_set]; omega)) _ _))) hM2 hb2 hk2 hat2); have hx2 := (hk2 T8 (by simp only [size_alloc]; omega) HO.out.n8).trans (blk_below HO.out.c8 ((by repeat (first | (with_reducible assumption) | (with_reducible exact Below.refl _ _) | (with_reducible apply below_drewL) | (with_reducible apply below_alloc) | (with_reducible apply below_drew1) | (with_reducible apply below_drewN) | (refine below_set ?_ (by first | omega | (simp only [size_alloc, size_drew, size_set]; omega)) _ _))))); have hv2 := (hk2 w.heap.size (by simp only [size_alloc]; omega) (HO.out.own.ne_new (Nat.le_refl _))).trans (blk_alloc HV.out _); have hq2 := blk_far hv2 (p := ⟨T8, 0, none⟩) (by show w.heap.size ≠ T8; omega) v2; have HQ2 := Hd.mk hq2; clear hq2; obtain ⟨A2, m2, c2, rfl, -, -, -, -⟩ := hM2.formN; clear hM2 hb2 hk2 hat2; clear hxc0 hxf0 hyc0 hyf0 hyc1 hyf1; have hx2c0 := blk_cell hx2 0 _ rfl; have hx2f0 := blk_frozen hx2 0; have hx2l := blk_lt hx2; have hv2c0 := blk_cell hv2 0 _ rfl; have hv2f0 := blk_frozen hv2 0; have hv2c1 := blk_cell hv2 1 _ rfl; have hv2f1 := blk_frozen hv2 1; have hv2c2 := blk_cell hv2 2 _ rfl; have hv2f2 := blk_frozen hv2 2; have hv2c3 := blk_cell hv2 3 _ rfl; have hv2f3 := blk_frozen hv2 3; have hv2c4 := blk_cell hv2 4 _ rfl; have hv2f4 := blk_frozen hv2 4; have hv2c5 := blk_cell hv2 5 _ rfl; have hv2f5 := blk_frozen hv2 5; have hv2l := blk_lt hv2)))
  refine bodyPost_ret (results_tmp rfl _ _ _) rfl ?_
  have hO := HO4.out
  have hne := hO.ne
  have hF : Fr (fun b => b = T9) w4 ((w4.setCell ⟨T9, 0, none⟩ (.int .i64 tk.t)).setCell ⟨T9, 1, none⟩ (.int .i64 tk.m)) := ((Fr.refl (fun b => b = T9) w4).set (.inl rfl) 0 _).set (.inl rfl) 1 _
  refine ⟨_, rfl, ⟨hF.blk hO.c8 hne, blk_set (blk_set hO.c9 0 _ _ rfl) 1 _ _ rfl, (hO.own.set (g := T9) (i := 0) (fun k hk e => hO.n9 (by rw [← e]; exact hk)) (.int .i64 tk.t)).set (g := T9) (i := 1) (fun k hk e => hO.n9 (by rw [← e]; exact hk)) (.int .i64 tk.m), hO.n8, hO.n9, hne, hO.base⟩, ?_, HS.out.2.2⟩
  have hF1 := (HS.out.2.1.mono (Y := fun b => b = T8 ∨ b = T9 ∨ v.ownBlock = some b) (fun b h => h.elim .inl (fun h => .inr (.inr h)))).trans (Fr.of_below hb4)
  exact (hF1.set (g := T9) (.inl (.inr (.inl rfl))) 0 _).set (g := T9) (.inl (.inr (.inl rfl))) 1 _
end Go.Proofs.YtoambcpjdcehhaaGreat.Tb

/- What comes next, as a text grows: the plain law. -/
set_option linter.unusedVariables false
set_option linter.unusedSimpArgs false
namespace Go.Proofs.YtoambcpjdcehhaaGreat.Tb
open Go Go.RowKit Go.Proofs.YtoambcpjdcehhaaGreat.Can Go.Proofs.YtoambcpjdcehhaaGreat.Base Go.Proofs.YtoambcpjdcehhaaGreat.Al
open Go.Proofs.YtoambcpjdcehhaaGreat.Df hiding bl bl_len
open Go.Proofs.YtoambcpjdcehhaaGreat.Fn (Spot Tok tokV spotV tokE spotE tok0 cell_tmp_row behind_calls)

theorem lastM_cons (p : Int × Int) (l : List (Int × Int)) (h : l ≠ []) : lastM (p :: l) = lastM l := by
  unfold lastM
  cases l with
  | nil => exact absurd rfl h
  | cons q l => rw [List.getLast?_cons_cons]
theorem walkL_ne (d : Df) (l : List UInt8) (i s : Int) : walkL d l i s ≠ [] := by cases l <;> simp [walkL]
theorem lead_next {d : Df} {s : Int} (h : leadsB d s = false) (c : Nat) : nextD d s c < 0 := by
  unfold nextD
  by_cases hs : s < 0
  · rw [if_pos hs]; decide
  · rw [if_neg hs]
    unfold leadsB at h
    rw [decide_eq_true (by omega), Bool.true_and] at h
    have hm := of_decide_eq_false h
    rw [List.getD_eq_getElem?_getD]
    cases hx : (d.nxt.getD s.toNat [])[(d.cls.getD c 0).toNat]? with
    | none => show (-1 : Int) < 0; decide
    | some x =>
      show x < 0
      have := (maxOf_is (List.ne_nil_of_mem (List.mem_of_getElem? hx))).2 x (List.mem_of_getElem? hx)
      omega
theorem hit_neg (d : Df) (m : Int × Int) (i s : Int) (h : s < 0) : hitM d m (i, s) = m := by unfold hitM; rw [if_neg (by rintro ⟨h', _⟩; exact absurd h' (Int.not_le.2 h))]
theorem walk_more (d : Df) (u : List UInt8) : ∀ (l : List UInt8) (i s : Int) (m : Int × Int), leadsB d (lastM (walkL d l i s)) = false →
    (walkL d (l ++ u) i s).foldl (hitM d) m = (walkL d l i s).foldl (hitM d) m ∧ leadsB d (lastM (walkL d (l ++ u) i s)) = false := by
  have hneg : ∀ s, s < 0 → leadsB d s = false := fun s hs => by unfold leadsB; rw [decide_eq_false (by omega)]; rfl
  intro l
  induction l with
  | nil =>
    intro i s m h
    cases u with
    | nil => exact ⟨rfl, h⟩
    | cons b u =>
      rw [walkL_nil] at h ⊢
      have h' : leadsB d s = false := h
      have hn := lead_next h' b.toNat
      show (walkL d (b :: u) i s).foldl _ _ = _ ∧ leadsB d (lastM (walkL d (b :: u) i s)) = _
      by_cases hs : s < 0
      · rw [walkL_neg _ _ _ _ hs]; exact ⟨rfl, h⟩
      · rw [walkL_cons _ _ _ _ _ hs, walkL_neg _ _ _ _ hn]
        refine ⟨?_, hneg _ hn⟩
        show hitM d (hitM d m (i, s)) (i + 1, _) = hitM d m (i, s)
        exact hit_neg _ _ _ _ hn
  | cons b l ih =>
    intro i s m h
    by_cases hs : s < 0
    · rw [walkL_neg _ _ _ _ hs, walkL_neg _ _ _ _ hs]; exact ⟨rfl, hneg _ hs⟩
    · rw [List.cons_append, walkL_cons _ _ _ _ _ hs, walkL_cons _ _ _ _ _ hs]
      rw [walkL_cons _ _ _ _ _ hs, lastM_cons _ _ (walkL_ne _ _ _ _)] at h
      rw [lastM_cons _ _ (walkL_ne _ _ _ _)]
      exact ih (i + 1) (nextD d s b.toNat) (hitM d m (i, s)) h
theorem long_more {d : Df} {s u : List UInt8} {at_ : Nat} (hat : at_ ≤ s.length) (h : (longM d s at_).opn = false) : longM d (s ++ u) at_ = longM d s at_ := by
  have h' : leadsB d (lastM (walkL d (s.drop at_) at_ d.st)) = false := h
  obtain ⟨h1, h2⟩ := walk_more d u (s.drop at_) at_ d.st (-1, (at_ : Int)) h'
  unfold longM matchM
  rw [List.drop_append_of_le_length hat, h1, h2, h']
/-- What is known stays, whatever comes behind. -/
theorem one_more {L : Lx} {s u : List UInt8} {c c' : Bool} {p : Spot} (hp : 0 ≤ p.at_ ∧ p.at_ ≤ s.length) (hc : c = true → u = [] ∧ c' = true) (hk : (oneM L s c p).2 = true) : oneM L (s ++ u) c' p = oneM L s c p := by
  cases c with
  | true => obtain ⟨rfl, rfl⟩ := hc rfl; rw [List.append_nil]
  | false =>
    unfold oneM at hk ⊢
    by_cases e1 : p.at_ = s.length
    · rw [if_pos e1] at hk; cases hk
    · rw [if_neg e1] at hk
      have e2 : ¬ p.at_ = ((s ++ u).length : Int) := by rw [List.length_append]; omega
      rw [if_neg e1, if_neg e2]
      by_cases e3 : (longM (dfaAt L p.mode) s p.at_.toNat).opn = false
      · rw [long_more (by omega) e3, e3]
        simp
      · have e4 : (longM (dfaAt L p.mode) s p.at_.toNat).opn = true := by simpa using e3
        rw [e4] at hk
        simp at hk
theorem raw_more {L : Lx} (h : rightB L = true) {s u : List UInt8} {c c' : Bool} (hc : c = true → u = [] ∧ c' = true) : ∀ (n m : Nat) (p : Spot) (t : Tok), Pin L s.length p → rawM L s c n p = some t → n ≤ m → rawM L (s ++ u) c' m p = some t := by
  intro n
  induction n with
  | zero => intro m p t _ hr _; cases hr
  | succ n ih =>
    intro m p t hp hr hm
    obtain ⟨m, rfl⟩ : ∃ k, m = k + 1 := ⟨m - 1, by omega⟩
    unfold rawM at hr ⊢
    by_cases hk : (oneM L s c p).2 = false
    · rw [if_pos hk] at hr; cases hr
    · have hk' : (oneM L s c p).2 = true := by simpa using hk
      rw [if_neg hk] at hr
      rw [one_more ⟨hp.1, hp.2.1⟩ hc hk', if_neg hk]
      by_cases h0 : (oneM L s c p).1.k = 0
      · rw [if_pos h0] at hr ⊢
        exact ih m _ t (one_in h hp hk').1 hr (by omega)
      · rw [if_neg h0] at hr ⊢; exact hr
theorem next_more {L : Lx} (h : rightB L = true) {s u : List UInt8} {c c' : Bool} (hc : c = true → u = [] ∧ c' = true) {p : Spot} {t : Tok} (hp : Pin L s.length p) (hn : nextM L s c p = some t) : nextM L (s ++ u) c' p = some t := by
  unfold nextM at hn ⊢
  obtain ⟨t', h1, h2⟩ := Option.map_eq_some_iff.1 hn
  rw [raw_more h hc _ ((s ++ u).length - p.at_.toNat + 1) p t' hp h1 (by rw [List.length_append]; omega)]
  rw [← h2]; rfl
/-- A token lies in the text, and behind it there is a spot. -/
theorem raw_in {L : Lx} (h : rightB L = true) {s : List UInt8} {c : Bool} : ∀ (n : Nat) (p : Spot) (t : Tok), Pin L s.length p → rawM L s c n p = some t →
    Pin L s.length ⟨t.t, t.m⟩ ∧ p.at_ ≤ t.a ∧ t.a ≤ t.t ∧ (t.k = 3 ∨ p.at_ < t.t) ∧ t.k ≠ 0 := by
  intro n
  induction n with
  | zero => intro p t _ hr; cases hr
  | succ n ih =>
    intro p t hp hr
    unfold rawM at hr
    by_cases hk : (oneM L s c p).2 = false
    · rw [if_pos hk] at hr; cases hr
    · have hk' : (oneM L s c p).2 = true := by simpa using hk
      rw [if_neg hk] at hr
      obtain ⟨h1, h2, h3, h4⟩ := one_in h hp hk'
      by_cases h0 : (oneM L s c p).1.k = 0
      · rw [if_pos h0] at hr
        have h5 : p.at_ < (oneM L s c p).1.t := h2.resolve_left (by rw [h0]; decide)
        obtain ⟨g1, g2, g3, g4, g5⟩ := ih _ t h1 hr
        have g2' : (oneM L s c p).1.t ≤ t.a := g2
        refine ⟨g1, by omega, g3, ?_, g5⟩
        rcases g4 with g4 | g4
        · exact .inl g4
        · have g4' : (oneM L s c p).1.t < t.t := g4
          exact .inr (by omega)
      · rw [if_neg h0] at hr
        obtain rfl := Option.some.inj hr
        refine ⟨h1, by omega, ?_, h2, h0⟩
        rw [h4]
        rcases h2 with h2 | h2
        · have h6 : (oneM L s c p).1.t = p.at_ := by
            unfold oneM at h2 ⊢
            split
            · rfl
            · rename_i e1
              rw [if_neg e1] at h2
              split
              · rfl
              · rename_i e2
                rw [if_neg e2] at h2
                split
                · rename_i e3; rw [if_pos e3] at h2; exact absurd h2 (by show ¬ (2 : Int) = 3; decide)
                · rename_i e3
                  rw [if_neg e3] at h2
                  have h2' : kindM L (longM (dfaAt L p.mode) s p.at_.toNat).rule = 3 := h2
                  unfold kindM at h2'
                  split at h2' <;> cases h2'
          omega
        · omega
theorem next_in {L : Lx} (h : rightB L = true) {s : List UInt8} {c : Bool} {p : Spot} {t : Tok} (hp : Pin L s.length p) (hn : nextM L s c p = some t) :
    Pin L s.length ⟨t.t, t.m⟩ ∧ t.f = p.at_ ∧ p.at_ ≤ t.a ∧ t.a ≤ t.t ∧ (t.k = 3 ∨ p.at_ < t.t) ∧ t.k ≠ 0 := by
  unfold nextM at hn
  obtain ⟨t', h1, h2⟩ := Option.map_eq_some_iff.1 hn
  obtain ⟨g1, g2, g3, g4, g5⟩ := raw_in h _ p t' hp h1
  subst h2
  exact ⟨g1, rfl, g2, g3, g4, g5⟩
/-- Of a closed text all is known. -/
theorem raw_closed {L : Lx} (h : rightB L = true) {s : List UInt8} : ∀ (n : Nat) (p : Spot), Pin L s.length p → s.length - p.at_.toNat < n → ∃ t, rawM L s true n p = some t := by
  intro n
  induction n with
  | zero => intro p _ hn; omega
  | succ n ih =>
    intro p hp hn
    have hk : (oneM L s true p).2 = true := by
      unfold oneM
      split
      · rfl
      · rw [if_neg (by simp)]; split <;> rfl
    obtain ⟨h1, h2, h3, h4⟩ := one_in h hp hk
    unfold rawM
    rw [if_neg (by rw [hk]; decide)]
    by_cases h0 : (oneM L s true p).1.k = 0
    · rw [if_pos h0]
      have h5 : p.at_ < (oneM L s true p).1.t := h2.resolve_left (by rw [h0]; decide)
      have h6 : (oneM L s true p).1.t ≤ s.length := h1.2.1
      have h7 := hp.1
      refine ih _ h1 ?_
      show s.length - (oneM L s true p).1.t.toNat < n
      omega
    · rw [if_neg h0]; exact ⟨_, rfl⟩
theorem next_closed {L : Lx} (h : rightB L = true) {s : List UInt8} {p : Spot} (hp : Pin L s.length p) : ∃ t, nextM L s true p = some t := by
  obtain ⟨t, ht⟩ := raw_closed h (s.length - p.at_.toNat + 1) p hp (by omega)
  unfold nextM
  rw [ht]; exact ⟨_, rfl⟩
/-- All tokens of a closed text. -/
def allM (L : Lx) (s : List UInt8) : Nat → Spot → List Tok
  | 0, _ => []
  | n + 1, p => match nextM L s true p with
    | none => []
    | some t => t :: if t.k = 3 then [] else allM L s n ⟨t.t, t.m⟩
theorem all_len (L : Lx) (s : List UInt8) : ∀ n p, (allM L s n p).length ≤ n
  | 0, _ => Nat.le_refl _
  | n + 1, p => by
    unfold allM
    cases nextM L s true p with
    | none => simp
    | some t =>
      simp only [List.length_cons]
      split
      · simp
      · have := all_len L s n ⟨t.t, t.m⟩; omega
end Go.Proofs.YtoambcpjdcehhaaGreat.Tb

/- What All computes. -/
set_option linter.unusedVariables false
set_option linter.unusedSimpArgs false
namespace Go.Proofs.YtoambcpjdcehhaaGreat.Tb
open Go Go.RowKit Go.Shelf Go.Proofs.YtoambcpjdcehhaaGreat.Can Go.Proofs.YtoambcpjdcehhaaGreat.Base Go.Proofs.YtoambcpjdcehhaaGreat.Al
open Go.Proofs.YtoambcpjdcehhaaGreat.Df hiding bl bl_len
open Go.Proofs.YtoambcpjdcehhaaGreat.Fn (Spot Tok tokV spotV tokE spotE tok0 cell_tmp_row behind_calls tokT tok_flat info29)
attribute [local go_sem] clsB AB.cell

set_option maxRecDepth 20000 in
set_option maxHeartbeats 4000000 in
theorem all_calls (A1 A2 A3 : Option Addr) (n1 n2 n3 c1 c2 c3 : Nat) (l : Lx) (hr : rightB l = true) (S : Nat → Prop) (t : ByteArray) (ht : t.size ≤ 100000) (mode : Int) (hm0 : 0 ≤ mode) (hm1 : mode < l.modes.length) (res : List Tok) (hres : allM l (bl t) ((bl t).length + 1) ⟨0, mode⟩ = res) (w : World) (hL : LX w S A1 A2 A3 n1 n2 n3 l) :
    Calls Tryz.prog 32 #[.agg #[.slice A1 n1 c1, .slice A2 n2 c2, .slice A3 n3 c3], .string t, .int .i64 mode] w fun e w' =>
      ∃ A' n' c', e = .returned (.tuple #[.slice A' n' c', .int .i64 0]) ∧ n' ≤ c' ∧ Row tokT w' (fun k => w.heap.size ≤ k ∧ k < w'.heap.size) A' n' res ∧ Below w.heap.size w w' := by
  have hrl : res.length ≤ 100001 := by rw [← hres]; have := all_len l (bl t) ((bl t).length + 1) ⟨0, mode⟩; have h9 := bl_len t; omega
  have HRL := Hd.mk hrl
  have HP0 : Hd (Pin l (bl t).length ⟨0, mode⟩) := ⟨⟨Int.le_refl _, by show (0 : Int) ≤ _; omega, hm0, hm1⟩⟩
  have HR0 : Hd (([] : List Tok) ++ allM l (bl t) ((bl t).length + 1) ⟨0, mode⟩ = res) := ⟨hres⟩
  have HN := fun (p : Spot) (hp : Pin l (bl t).length p) (tk : Tok) (hnx : nextM l (bl t) true p = some tk) (W : World) (h : LX W S A1 A2 A3 n1 n2 n3 l) => next_calls A1 A2 A3 n1 n2 n3 c1 c2 c3 l hr S t true (by omega) p hp (some tk) hnx 0 rfl W h
  have HN := Hd.mk HN
  have HL := Hd.mk hL
  clear hL hres hm0 hm1 hrl
  have hmf : ∀ (fn : Fn) (first cap : Array Value) (w : World), (Instr.makeFunc fn first cap).run Tryz.prog w = .ok (.func fn first cap) w := fun _ _ _ _ => rfl
  go_enter Tryz.func32, Tryz.ntmps32
  go_wp2
  generalize hV : World.alloc _ _ = V
  have HBV : Below w.heap.size w V := below_of hV (by repeat (first | (with_reducible assumption) | (with_reducible exact Below.refl _ _) | (with_reducible apply below_drewL) | (with_reducible apply below_alloc) | (with_reducible apply below_drew1) | (with_reducible apply below_drewN) | (refine below_set ?_ (by first | omega | (simp only [size_alloc, size_drew, size_set]; omega)) _ _)))
  have zV : Hd (V.heap.size = w.heap.size + 1 + 1 + 1) := ⟨by rw [← hV]; simp only [size_alloc]⟩
  have V0 := at_of hV (blk_alloc (blk_alloc (blk_new _ _ _ rfl) _) _)
  have V0l := blk_lt V0
  have V1 := at_of hV (blk_alloc (blk_new _ _ _ rfl) _)
  simp only [size_alloc] at V1
  have V1l := blk_lt V1
  have V2 := at_of hV (blk_new _ _ _ rfl)
  simp only [size_alloc] at V2
  have V2l := blk_lt V2
  clear hV
  have hzV : V.heap.size = w.heap.size + 3 := by rw [zV.out]
  have HB := Hd.mk HBV
  have HV0 := Hd.mk V0; have HV1 := Hd.mk V1; have HV2 := Hd.mk V2
  obtain ⟨T9, hT9⟩ : ∃ T, w.heap.size + 1 + 1 = T := ⟨_, rfl⟩
  rw [hT9] at HV2 V2l ⊢
  obtain ⟨T8, hT8⟩ : ∃ T, w.heap.size + 1 = T := ⟨_, rfl⟩
  rw [hT8] at HV1 V1l ⊢
  have HO0 : Hd (Out V (w.heap.size + 1) T8 T9 (.slice none 0 0) [] ⟨0, mode⟩) := ⟨⟨HV1.out, HV2.out, Mine.nil _ _ _ _, (fun h => by cases h), (fun h => by cases h), by omega, by omega⟩⟩
  clear V0 V1 V2 HV1 HV2 zV HBV V0l V1l V2l
  go_loopw [] (fun wr => ∃ (v : Value) (pre : List Tok) (q : Spot) (f : Nat), Hd (Out wr (w.heap.size + 1) T8 T9 v pre q) ∧ Hd (Pin l (bl t).length q) ∧ Hd (pre ++ allM l (bl t) f q = res) ∧ Hd ((bl t).length - q.at_.toNat < f) ∧ Hd (wr.heap[w.heap.size]? = some (.cells #[.slice A1 n1 c1, .slice A2 n2 c2, .slice A3 n3 c3] 26 (0, 0))) ∧ Hd (Below w.heap.size w wr)) (fun wr => leftW T9 ((bl t).length + 1) wr)
  case atStart => exact ⟨_, [], _, _, HO0, HP0, HR0, ⟨by show (bl t).length - (0 : Int).toNat < _; omega⟩, HV0, HB⟩
  case round =>
    clear HO0 HP0 HR0 HV0 HB hzV
    obtain ⟨v, pre, q, f, HO, HP, HR, HF, H0, HB⟩ := hrel
    obtain ⟨tk, htk⟩ := next_closed hr HP.out
    obtain ⟨g, rfl⟩ : ∃ g, f = g + 1 := ⟨f - 1, by have := HF.out; omega⟩
    have hall : allM l (bl t) (g + 1) q = tk :: if tk.k = 3 then [] else allM l (bl t) g ⟨tk.t, tk.m⟩ := by rw [allM, htk]
    rw [hall] at HR
    obtain ⟨hin, -, -, -, hpr, -⟩ := next_in hr HP.out htk
    have HIN := Hd.mk hin; have HPR := Hd.mk hpr
    have HNX := Hd.mk (HN.out q HP.out tk htk)
    have hpl : pre.length ≤ 1000000 := by have h1 := HRL.out; rw [← HR.out, List.length_append] at h1; omega
    have HPL := Hd.mk hpl
    clear hall htk hin hpr hpl
    have h0 := H0.out; have h9 := HO.out.c9
    unfold spotV tokV at HNX
    have h0c0 := blk_cell h0 0 _ rfl; have h0f0 := blk_frozen h0 0; have h0c1 := blk_cell h0 1 _ rfl; have h0f1 := blk_frozen h0 1; have h0c2 := blk_cell h0 2 _ rfl; have h0f2 := blk_frozen h0 2; have h0l := blk_lt h0
    have h9c0 := blk_cell h9 0 _ rfl; have h9f0 := blk_frozen h9 0; have h9c1 := blk_cell h9 1 _ rfl; have h9f1 := blk_frozen h9 1; have h9l := blk_lt h9
    have hz := HB.out.size
    by_cases hk3 : tk.k = 3
    · have hkb : (tk.k == 3) = true := by simpa using hk3
      have HR3 : Hd (pre ++ [tk] = res) := ⟨by rw [← HR.out, if_pos hk3]⟩
      clear hk3
      go_wp2_with (first
        | (go_at_call 61; go_must (refine Calls.mono (all1_calls tk _ (w.heap.size + 1) T8 T9 v pre q HO2.out HPL.out) ?_; rintro e w3 ⟨v3, rfl, ho3, hf3, hat3⟩; have HO3 := Hd.mk ho3; have HB3 : Hd (Below w.heap.size w w3) := ⟨Fr.seq HB2.out hf3 HB2.out.size (fun b hb hx => by rcases hx with h | h | h <;> first | omega | (have := (HO2.out.own.lt h).2; omega))⟩; have hbox3 := hf3.blk H02.out (fun hx => by rcases hx with h | h | h <;> first | omega | (have := (HO2.out.own.lt h).2; omega)); clear ho3 hf3 hat3; have h83 := HO3.out.c8; have h93 := HO3.out.c9; obtain ⟨A9, m9, k9, e9, -, -, -, -⟩ := HO3.out.own.formN; rw [e9] at h83; rw [e9] at HO3; clear e9; clear h0c0 h0f0 h0c1 h0f1 h0c2 h0f2 h0l; clear h9c0 h9f0 h9c1 h9f1 h9l; have h83c0 := blk_cell h83 0 _ rfl; have h83f0 := blk_frozen h83 0; have h83l := blk_lt h83))
        | (go_at_call 27; go_must (refine Calls.mono (HNX.out _ (HL.out.below HB.out)) ?_; rintro e w2 ⟨rfl, hb2⟩; have hba := below_alloc hb2 (.cells #[.int .i64 tk.k, .int .i64 tk.r, .int .i64 tk.f, .int .i64 tk.a, .int .i64 tk.t, .int .i64 tk.m] 43 (0, 0)); have HO2 := Hd.mk (HO.out.below hba); have H02 := Hd.mk (blk_below H0.out hba); have HB2 := Hd.mk (below_seq HB.out hba); clear hba)))
      refine bodyPost_ret (results_tmp2 rfl _ _ _) rfl ?_
      have hO := HO3.out
      obtain ⟨A', n', c', e', -, hcap, -, hrow⟩ := hO.own.formN
      cases e'
      refine ⟨_, _, _, rfl, hcap, ?_, HB3.out⟩
      rw [← HR3.out]
      exact hrow.mono fun k hk => ⟨by omega, hk.2⟩
    · have hkb : (tk.k == 3) = false := by simpa using hk3
      have HR3 : Hd ((pre ++ [tk]) ++ allM l (bl t) g ⟨tk.t, tk.m⟩ = res) := ⟨by rw [← HR.out, if_neg hk3, List.append_assoc]; rfl⟩
      have hpr : q.at_ < tk.t := HPR.out.resolve_left hk3
      clear hk3
      have hq0 := HP.out.1
      have hto : tk.t ≤ ((bl t).length : Int) := HIN.out.2.1
      have HF3 : Hd ((bl t).length - tk.t.toNat < g) := ⟨by have := HF.out; omega⟩
      have HMS := Hd.mk (leftW_at (m := (bl t).length + 1) h9c0)
      have HPR2 := Hd.mk (And.intro hpr (And.intro hq0 hto))
      clear hpr hq0 hto
      go_wp2_with (first
        | (go_at_call 61; go_must (refine Calls.mono (all1_calls tk _ (w.heap.size + 1) T8 T9 v pre q HO2.out HPL.out) ?_; rintro e w3 ⟨v3, rfl, ho3, hf3, hat3⟩; have HO3 := Hd.mk ho3; have HB3 : Hd (Below w.heap.size w w3) := ⟨Fr.seq HB2.out hf3 HB2.out.size (fun b hb hx => by rcases hx with h | h | h <;> first | omega | (have := (HO2.out.own.lt h).2; omega))⟩; have hbox3 := hf3.blk H02.out (fun hx => by rcases hx with h | h | h <;> first | omega | (have := (HO2.out.own.lt h).2; omega)); clear ho3 hf3 hat3; have h83 := HO3.out.c8; have h93 := HO3.out.c9; obtain ⟨A9, m9, k9, e9, -, -, -, -⟩ := HO3.out.own.formN; rw [e9] at h83; rw [e9] at HO3; clear e9; clear h0c0 h0f0 h0c1 h0f1 h0c2 h0f2 h0l; clear h9c0 h9f0 h9c1 h9f1 h9l; have h83c0 := blk_cell h83 0 _ rfl; have h83f0 := blk_frozen h83 0; have h83l := blk_lt h83))
        | (go_at_call 27; go_must (refine Calls.mono (HNX.out _ (HL.out.below HB.out)) ?_; rintro e w2 ⟨rfl, hb2⟩; have hba := below_alloc hb2 (.cells #[.int .i64 tk.k, .int .i64 tk.r, .int .i64 tk.f, .int .i64 tk.a, .int .i64 tk.t, .int .i64 tk.m] 43 (0, 0)); have HO2 := Hd.mk (HO.out.below hba); have H02 := Hd.mk (blk_below H0.out hba); have HB2 := Hd.mk (below_seq HB.out hba); clear hba)))
      go_roundw
      case rel => exact ⟨_, pre ++ [tk], ⟨tk.t, tk.m⟩, g, HO3, HIN, HR3, HF3, ⟨hbox3⟩, HB3⟩
      case measure =>
        obtain ⟨h1, h2, h3⟩ := HPR2.out
        rw [HMS.out, leftW_at (blk_cell HO3.out.c9 0 (.int .i64 tk.t) rfl)]
        omega
end Go.Proofs.YtoambcpjdcehhaaGreat.Tb
