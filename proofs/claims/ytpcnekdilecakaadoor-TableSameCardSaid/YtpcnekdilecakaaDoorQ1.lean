/- A lexer's bytes, by the document: one, two, classes. -/
import Derived.Test.YtpcnekdilecakaaDoorP6
set_option linter.unusedVariables false
set_option linter.unusedSimpArgs false
namespace Go.Proofs.YtpcnekdilecakaaDoor.Tb
open Go Go.RowKit Go.Proofs.YtpcnekdilecakaaDoor.Can Go.Proofs.YtpcnekdilecakaaDoor.Base
attribute [local go_sem] clsB AB.cell

/-- A text of bytes. -/
def bs (l : List UInt8) : ByteArray := ⟨l.toArray⟩
theorem bs_bl (s : ByteArray) : bs (bl s) = s := rfl
theorem bl_bs (l : List UInt8) : bl (bs l) = l := by simp [bl, bs]
theorem bs_len (l : List UInt8) : (bs l).size = l.length := by rw [← bl_len, bl_bs]
theorem bs_inj {a b : List UInt8} (h : bs a = bs b) : a = b := by rw [← bl_bs a, h, bl_bs]
theorem bs_app (a b : List UInt8) : bs a ++ bs b = bs (a ++ b) := bl_inj (by rw [bl_app, bl_bs, bl_bs, bl_bs])
theorem add_bs (a b : List UInt8) (h : a.length + b.length ≤ 9223372036854775807) (W : World) : (Op.stringOp .add (bs a) (bs b)).run Tryd.prog W = .ok (.string (bs (a ++ b))) W := by
  rw [run_string_add_sum (w := W) (bs a) (bs b) (by rw [bs_len, bs_len]; exact h), bs_app]
theorem add_str (a : List UInt8) (s : ByteArray) (h : a.length + s.size ≤ 9223372036854775807) (W : World) : (Op.stringOp .add (bs a) s).run Tryd.prog W = .ok (.string (bs (a ++ bl s))) W := add_bs a (bl s) h W
theorem row_one {U : World} {g : Nat} {a : UInt8} {t : TypeId} {fr : Nat × Nat} (h : U.heap[g]? = some (.cells #[.int .u8 ((a.toNat : Nat) : Int)] t fr)) : Row bT U (fun k => k = g) (some ⟨g, 0, none⟩) 1 [a] := by
  refine ⟨rfl, by omega, fun _ => ⟨g, 0, rfl, rfl, fun j p hj => ⟨uE p, rfl, fun i u hu => ?_⟩⟩⟩
  have hi : i = 0 ∧ u = .int .u8 (p.toNat : Int) := by
    cases i with
    | zero => exact ⟨rfl, by simpa [uE] using hu.symm⟩
    | succ i => simp [uE] at hu
  obtain ⟨rfl, rfl⟩ := hi
  match j, hj with
  | 0, hj => obtain rfl : a = p := by simpa using hj
             exact blk_cell h 0 _ rfl
  | j + 1, hj => simp at hj
set_option maxRecDepth 20000 in
theorem rone_calls (w : World) (n : Int) : Calls Tryd.prog 41 #[.int .i64 n] w fun e w' => e = .returned (.string (bs (w1 n))) ∧ Below w.heap.size w w' := by
  have hcv : (convert 29 9 (.slice (some ⟨w.heap.size, 0, none⟩) 1 1)).run Tryd.prog (w.alloc (.cells #[.int .u8 (n % 256)] 5)) = .ok (.string (bs (w1 n))) (w.alloc (.cells #[.int .u8 (n % 256)] 5)) :=
    conv_back 29 9 5 Tryd.underlying29 Tryd.underlying5 Tryd.underlying9 (row_one (a := by8 n) (by rw [by8_val]; exact blk_new _ _ _ rfl)) (by show 1 ≤ _; omega)
  go_enter Tryd.func41, Tryd.ntmps41
  go_wp2
  go_ret
  exact ⟨rfl, below_alloc (Below.refl _ _) _⟩
set_option maxRecDepth 20000 in
theorem rtwo_calls (w : World) (n : Int) (hn : 0 ≤ n) (hn2 : n ≤ 9223372036854775807) : Calls Tryd.prog 43 #[.int .i64 n] w fun e w' => e = .returned (.string (bs (w2 n))) ∧ Below w.heap.size w w' := by
  have hcv : (convert 29 9 (.slice (some ⟨w.heap.size, 0, none⟩) 2 2)).run Tryd.prog (w.alloc (.cells #[.int .u8 (n / 256 % 256), .int .u8 (n % 256)] 5)) = .ok (.string (bs (w2 n))) (w.alloc (.cells #[.int .u8 (n / 256 % 256), .int .u8 (n % 256)] 5)) :=
    conv_back 29 9 5 Tryd.underlying29 Tryd.underlying5 Tryd.underlying9 (row_two (a := by8 (n / 256)) (b := by8 n) (by rw [by8_val, by8_val]; exact blk_new _ _ _ rfl)) (by show 2 ≤ _; omega)
  have hd : Int.tdiv n 256 = n / 256 := Int.tdiv_eq_ediv_of_nonneg hn
  have hm : Int.tmod n 256 = n % 256 := Int.tmod_eq_emod_of_nonneg hn
  have hw : wrap64 (n / 256) = n / 256 := by unfold wrap64; omega
  go_enter Tryd.func43, Tryd.ntmps43
  go_wp2
  go_ret
  exact ⟨rfl, below_alloc (Below.refl _ _) _⟩
end Go.Proofs.YtpcnekdilecakaaDoor.Tb
