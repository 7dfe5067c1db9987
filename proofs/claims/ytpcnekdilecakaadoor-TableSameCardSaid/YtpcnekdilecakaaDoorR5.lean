/- slices.Repeat of one number. -/
import Derived.Test.YtpcnekdilecakaaDoorR4
import Derived.Laws.CopyOwn
set_option linter.unusedVariables false
set_option linter.unusedSimpArgs false
namespace Go.Proofs.YtpcnekdilecakaaDoor.Tb
open Go Go.RowKit Go.Proofs.YtpcnekdilecakaaDoor.Can Go.Proofs.YtpcnekdilecakaaDoor.Base
attribute [local go_sem] clsB AB.cell

theorem and_32 (x : Nat) (hx : x < 4294967296) : bits BinOp.and IntKind.u64 (x : Int) 4294967295 = (x : Int) := by
  show IntKind.u64.wrap ((BitVec.ofInt 64 (x : Int) &&& BitVec.ofInt 64 4294967295).toNat : Int) = _
  have h1 : (BitVec.ofInt 64 (x : Int)).toNat = x := by
    rw [BitVec.ofInt_natCast, BitVec.toNat_ofNat]; exact Nat.mod_eq_of_lt (by omega)
  have h2 : (BitVec.ofInt 64 (4294967295 : Int)).toNat = 4294967295 := by decide
  have h3 : x &&& 4294967295 = x % 4294967296 := Nat.and_two_pow_sub_one_eq_mod x 32
  rw [BitVec.toNat_and, h1, h2, h3, Nat.mod_eq_of_lt hx, IntKind.wrap_u64]
  omega
set_option maxRecDepth 20000 in
theorem mul64_calls (w : World) (m : Nat) (hm : m ≤ 65536) : Calls Tryd.prog 84 #[.int .u64 1, .int .u64 m] w fun e w' => e = .returned (.tuple #[.int .u64 0, .int .u64 m]) ∧ w' = w := by
  have ha : bits BinOp.and IntKind.u64 (m : Int) 4294967295 = (m : Int) := and_32 m (by omega)
  have h1 : bits BinOp.and IntKind.u64 (1 : Int) 4294967295 = 1 := and_32 1 (by omega)
  have h0 : bits BinOp.and IntKind.u64 (0 : Int) 4294967295 = 0 := and_32 0 (by omega)
  have hd : (m : Int) / 4294967296 = 0 := by omega
  have hw : IntKind.u64.wrap (m : Int) = m := by rw [IntKind.wrap_u64]; omega
  go_enter Tryd.func84, Tryd.ntmps84
  go_wp2
  go_ret2
  exact ⟨rfl, rfl⟩
set_option maxRecDepth 20000 in
theorem mul_calls (w : World) (m : Nat) (hm : m ≤ 65536) : Calls Tryd.prog 77 #[.int .u64 1, .int .u64 m] w fun e w' => e = .returned (.tuple #[.int .u64 0, .int .u64 m]) ∧ w' = w := by
  have HJ := Hd.mk (mul64_calls w m hm)
  have hw : IntKind.u64.wrap (m : Int) = m := by rw [IntKind.wrap_u64]; omega
  go_enter Tryd.func77, Tryd.ntmps77
  go_wp2_with (go_at_call 84; go_must (refine Calls.mono HJ.out ?_; rintro e w1 ⟨rfl, rfl⟩))
  go_ret2
  exact ⟨rfl, rfl⟩
/-- A block of m numbers: the first q are k. -/
def RepB (w : World) (g q m : Nat) (k : Int) (rest : List Value) : Prop := w.heap[g]? = some (.cells (List.replicate q (Value.int .i64 k) ++ (List.replicate (m - q) (Value.int .i64 0) ++ rest)).toArray 3 (0, 0))
theorem flat_rep (n : Nat) (x : Int) : flatC Al.iE (List.replicate n x) = List.replicate n (Value.int .i64 x) := by
  unfold flatC
  induction n with
  | zero => rfl
  | succ n ih => rw [List.replicate_succ, List.flatMap_cons, ih, List.replicate_succ]; rfl
theorem repB_step {w : World} {g q m j : Nat} {k : Int} {rest : List Value} (h : RepB w g q m k rest) (hj : q + j ≤ m) :
    RepB (w.setRow g ((List.replicate q (Value.int .i64 k) ++ (List.replicate (m - q) (Value.int .i64 0) ++ rest)).toArray.toList.take q ++ (List.replicate j (Value.int .i64 k) ++ (List.replicate q (Value.int .i64 k) ++ (List.replicate (m - q) (Value.int .i64 0) ++ rest)).toArray.toList.drop (q + (List.replicate j (Value.int .i64 k)).length))).toArray) g (q + j) m k rest := by
  unfold RepB
  rw [setRow_heap _ _ _ _ _ _ h]
  congr 2
  apply congrArg
  have e1 : (List.replicate q (Value.int .i64 k) ++ (List.replicate (m - q) (Value.int .i64 0) ++ rest)).take q = List.replicate q (Value.int .i64 k) := by
    rw [List.take_append_of_le_length (by simp), List.take_of_length_le (by simp)]
  have e2 : (List.replicate q (Value.int .i64 k) ++ (List.replicate (m - q) (Value.int .i64 0) ++ rest)).drop (q + j) = List.replicate (m - (q + j)) (Value.int .i64 0) ++ rest := by
    rw [← List.drop_drop, List.drop_left' (by simp), List.drop_append_of_le_length (by simp; omega), List.drop_replicate, show m - q - j = m - (q + j) by omega]
  rw [List.length_replicate, e1, e2, ← List.append_assoc, List.replicate_append_replicate]
theorem repB_at {w : World} {g q m i : Nat} {k : Int} {rest : List Value} (h : RepB w g q m k rest) (hi : i < q) : w.cell? ⟨g, i, none⟩ = some (.int .i64 k) :=
  blk_cell h i _ (by rw [List.getElem?_toArray, List.getElem?_append_left (by simp; exact hi), List.getElem?_replicate, if_pos hi])
theorem cut_low (b o n c m : Nat) (hm : m ≤ n) (hc : n ≤ c) :
    ∀ (W : World) (kh : IntKind), (Instr.slice 44 (.slice (some ⟨b, o, none⟩) n c) none (some (.int kh (m : Int))) none).run Tryd.prog W = .ok (.slice (some ⟨b, o, none⟩) m c) W := by
  intro W kh
  obtain ⟨i0, hi, hz, hs, hbb⟩ := info_of (P := Tryd.prog) (e := 3) (z := some (.int .i64 0)) (s := 1) (b := 8) (by kernel_rfl)
  have hel : Tryd.prog.elem 44 = 3 := by simp [Program.elem, Tryd.underlying44]
  have hu : Tryd.prog.underlying 44 = some (.slice (Tryd.prog.elem 44)) := by rw [hel]; exact Tryd.underlying44
  have ha : (⟨b, o, none⟩ : Addr).add 0 = ⟨b, o, none⟩ := by unfold Addr.add; simp
  rw [run_slice_h W 44 _ n c hu kh m (by omega) (by omega), hel]
  simp [sizeOf, typeInfo, hi, sliced, Result.andThen, ha]
theorem cut_high (g n m : Nat) (hm : m < n) :
    ∀ (W : World) (kl : IntKind), (Instr.slice 44 (.slice (some ⟨g, 0, none⟩) n n) (some (.int kl (m : Int))) none none).run Tryd.prog W = .ok (.slice (some ⟨g, m, none⟩) (n - m) (n - m)) W := by
  intro W kl
  obtain ⟨i0, hi, hz, hs, hbb⟩ := info_of (P := Tryd.prog) (e := 3) (z := some (.int .i64 0)) (s := 1) (b := 8) (by kernel_rfl)
  have hel : Tryd.prog.elem 44 = 3 := by simp [Program.elem, Tryd.underlying44]
  have hu : Tryd.prog.underlying 44 = some (.slice (Tryd.prog.elem 44)) := by rw [hel]; exact Tryd.underlying44
  have ha : (⟨g, 0, none⟩ : Addr).add m = ⟨g, m, none⟩ := by unfold Addr.add; split <;> simp_all
  rw [run_slice_l W 44 _ n n hu kl m (by omega) (by omega), hel]
  have hne : ¬ n = m := by omega
  simp [sizeOf, typeInfo, hi, hs, sliced, Result.andThen, ha, hne]
theorem infoIs : (Tryd.prog.info? 3).map (·.size) = some 1 := by kernel_rfl
set_option maxRecDepth 20000 in
set_option maxHeartbeats 4000000 in
theorem repeat_calls (w : World) (b o c m : Nat) (k : Int) (hm : m ≤ 256) (h1 : 1 ≤ m) (hx : w.cell? ⟨b, o, none⟩ = some (.int .i64 k)) (hc : 1 ≤ c) :
    Calls Tryd.prog 62 #[.slice (some ⟨b, o, none⟩) 1 c, .int .i64 m] w fun e w' => ∃ g, e = .returned (.slice (some ⟨g, 0, none⟩) m m) ∧ w.heap.size ≤ g ∧ g < w'.heap.size ∧ Row I w' (fun q => q = g) (some ⟨g, 0, none⟩) m (List.replicate m k) ∧ Below w.heap.size w w' := by
  have hbl := World.block_lt_of_cell? w _ hx
  dsimp only at hbl
  have HJ := Hd.mk (mul_calls w m (by omega))
  have hw : IntKind.u64.wrap (m : Int) = m := by rw [IntKind.wrap_u64]; omega
  obtain ⟨i0, hi, hz, hs, hbb⟩ := info_of (P := Tryd.prog) (e := 3) (z := some (.int .i64 0)) (s := 1) (b := 8) (by kernel_rfl)
  have HI := Hd.mk (And.intro hi (And.intro hz (And.intro hs hbb)))
  have HXC := Hd.mk hx
  clear hi hz hs hbb
  have TOK := Hd.mk trivial
  go_enter Tryd.func62, Tryd.ntmps62
  go_wp2_with (first
    | (go_at_call 77; go_must (refine Calls.mono HJ.out ?_; rintro e w1 ⟨rfl, hw_⟩; have h9_ := hw_.symm; subst h9_; clear hw_))
    | (at_make; go_must (refine wpList_make_full _ rfl (.tmp 29) (.tmp 29) 44 rfl w.heap.size 3 i0 (.int .i64 0) 1 Tryd.underlying44 HI.out.1 HI.out.2.1 HI.out.2.2.1 .i64 .i64 m m m rfl rfl rfl rfl (by rw [HI.out.2.2.2]; omega) (by simp only [maxLen]; omega) (Nat.le_refl _) ?_; intro w1 ho1 hg1; have HO := Hd.mk ho1; have HB1 : Hd (Below w.heap.size w w1) := ⟨(Below.refl _ _).grown hg1 (Nat.le_refl _) (fun k hk => by cases hk)⟩; have HBK : Hd (∃ rest, RepB w1 w.heap.size 0 m k rest) := ⟨by obtain ⟨rest, h9⟩ := Blk.made (enc := Al.iE) (x := 0) Al.i_len (by decide) rfl ho1; rw [flat_rep] at h9; exact ⟨rest, h9⟩⟩; clear ho1 hg1))
    | (have hq_ := HBK; have hp_ := TOK; clear hq_ hp_ TOK; go_must (obtain ⟨rest, hrep⟩ := HBK.out; have HREP := Hd.mk hrep; refine wpList_copy_own rfl (.tmp 31) (.tmp 32) 44 44 rfl 3 Tryd.underlying44 infoIs w.heap.size 0 m m ⟨b, o, none⟩ 1 c rfl rfl _ 3 hrep (List.replicate 1 (.int .i64 k)) (by rw [List.length_replicate]; exact (Nat.min_eq_left h1).symm) (fun j v hj => ?src) (by simp; omega) (fun v hv => by rw [List.mem_replicate] at hv; rw [hv.2]; rfl) ?_; (case src => exact (by obtain ⟨hj1, hj2⟩ := List.getElem?_eq_some_iff.1 hj; rw [List.getElem_replicate] at hj2; rw [List.length_replicate] at hj1; obtain rfl : j = 0 := (by omega); rw [← hj2]; have ha : (⟨b, o, none⟩ : Addr).add 0 = ⟨b, o, none⟩ := (by unfold Addr.add; simp); rw [ha]; exact cell_keep HXC.out HB1.out hbl)); (generalize hW : World.setRow _ _ _ = w2); have HR2 : Hd (RepB w2 w.heap.size 1 m k rest) := ⟨by rw [← hW]; exact repB_step HREP.out (by omega)⟩; have HB2 : Hd (Below w.heap.size w w2) := ⟨by rw [← hW]; exact below_setRow HB1.out (Nat.le_refl _) _⟩; clear hrep hW)))
  go_loopw [8] (fun i wr => ∃ q : Nat, 1 ≤ q ∧ q ≤ m ∧ i = .int .i64 q ∧ Hd (RepB wr w.heap.size q m k rest) ∧ Hd (Below w.heap.size w wr)) (fun i _ => m - (intOf i).toNat)
  case atStart => exact ⟨1, Nat.le_refl _, h1, rfl, HR2, HB2⟩
  case round =>
    obtain ⟨q, hq1, hq, rfl, HR, HB⟩ := hrel
    by_cases hlt : q < m
    · have hlo := cut_low w.heap.size 0 m m q hq (Nat.le_refl _)
      have hhi := cut_high w.heap.size m q hlt
      go_wp2
      refine wp_region_can (.q [0, 1, 2, 3, 4, 5, 6] (.e 7 false (.q [8, 9] (.done)))) (clsB _) (by kernel_rfl) (by kernel_rfl) (by intro _ _ d _ _ h; cases d <;> exact h) (clsB_drew _) ?_
      refine can_q (l := [⟨_,_,_,_,_,_⟩, ⟨_,_,_,_,_,_⟩, ⟨_,_,_,_,_,_⟩, ⟨_,_,_,_,_,_⟩, ⟨_,_,_,_,_,_⟩, ⟨_,_,_,_,_,_⟩, ⟨_,_,_,_,_,_⟩]) rfl ?_
      repeat (go_big_quiet_step (fail))
      refine wpQuiet_nil ?_
      refine can_e (o := ⟨_,_,_,_,_,_⟩) rfl (fun K hK => ?_)
      have TOK := Hd.mk trivial
      obtain ⟨j9, hj9⟩ : ∃ j, Nat.min q (m - q) = j := ⟨_, rfl⟩
      have hj8 : 1 ≤ j9 ∧ j9 ≤ q ∧ q + j9 ≤ m := by rw [← hj9]; exact ⟨Nat.le_min.2 ⟨hq1, by omega⟩, Nat.min_le_left _ _, by have := Nat.min_le_right q (m - q); show q + min q (m - q) ≤ m; omega⟩
      have HJ9 := Hd.mk hj9
      clear hj9
      go_wp2_with (have hp_ := TOK; clear hp_ TOK; go_must (refine wpList_copy_own rfl (.tmp 41) (.tmp 44) 44 44 rfl 3 Tryd.underlying44 infoIs w.heap.size q (m - q) (m - q) ⟨w.heap.size, 0, none⟩ q m rfl rfl _ 3 (blk_drew HR.out) (List.replicate j9 (.int .i64 k)) (by rw [List.length_replicate]; exact HJ9.out.symm) (fun j v hj => ?src) (by simp; omega) (fun v hv => by rw [List.mem_replicate] at hv; rw [hv.2]; rfl) ?_; (case src => exact (by obtain ⟨hj1, hj2⟩ := List.getElem?_eq_some_iff.1 hj; rw [List.getElem_replicate] at hj2; rw [List.length_replicate] at hj1; rw [← hj2]; have ha : (⟨w.heap.size, 0, none⟩ : Addr).add j = ⟨w.heap.size, j, none⟩ := (by unfold Addr.add; split <;> simp_all); rw [ha]; exact repB_at HR.out (by omega))); (generalize hW : World.setRow _ _ _ = w2); have HR2 : Hd (RepB w2 w.heap.size (q + j9) m k rest) := ⟨by rw [← hW]; exact repB_step HR.out (by omega)⟩; have HB2 : Hd (Below w.heap.size w w2) := ⟨by rw [← hW]; exact below_setRow (below_drew1 HB.out) (Nat.le_refl _) _⟩; clear hW))
      refine onK_normal (hK _ _ ⟨fun _ => True, trivial, (fun h => by cases h), ?_⟩)
      clear hK K
      refine can_q (l := [⟨_,_,_,_,_,_⟩, ⟨_,_,_,_,_,_⟩]) rfl ?_
      repeat (go_big_quiet_step (fail))
      refine wpQuiet_nil ?_
      refine can_done ?_
      go_wp2
      go_roundw
      case rel => exact ⟨q + j9, by omega, by omega, by go_num, HR2, HB2⟩
      case measure => simp [intOf]; omega
    · obtain rfl : q = m := by omega
      go_wp2
      go_ret
      refine ⟨w.heap.size, rfl, Nat.le_refl _, blk_lt HR.out, ⟨by rw [List.length_replicate], by omega, fun _ => ⟨w.heap.size, 0, rfl, rfl, fun j p hj => ⟨[.int .i64 p], rfl, fun i u hu => ?_⟩⟩⟩, HB.out⟩
      obtain ⟨hj1, hj2⟩ := List.getElem?_eq_some_iff.1 hj
      rw [List.getElem_replicate] at hj2
      rw [List.length_replicate] at hj1
      subst hj2
      have hi : i = 0 ∧ u = .int .i64 k := by
        cases i with
        | zero => exact ⟨rfl, by simpa using hu.symm⟩
        | succ i => simp at hu
      obtain ⟨rfl, rfl⟩ := hi
      have h9 := repB_at HR.out hj1
      have e9 : 0 + j * I.sz + 0 = j := by show 0 + j * 1 + 0 = j; omega
      rw [e9]
      exact h9
end Go.Proofs.YtpcnekdilecakaaDoor.Tb
