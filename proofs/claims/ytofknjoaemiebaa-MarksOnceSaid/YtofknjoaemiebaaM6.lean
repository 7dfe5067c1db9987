/- What the reference's table is in memory; its Find, Set, Release. -/
import Derived.Test.YtofknjoaemiebaaM5
namespace Go.Proofs.Ytofknjoaemiebaa.Fn
open Go Go.RowKit Go.Proofs.Ytofknjoaemiebaa.Can Go.Proofs.Ytofknjoaemiebaa.Base
attribute [local go_sem] clsB AB.cell clsX AX.cell

structure MM where
  id : Int
  v : Int
  low : Int
def mE (x : MM) : List Value := [.int .i64 x.id, .int .i64 x.v, .int .i64 x.low]
theorem m_len (x : MM) : (mE x).length = 3 := rfl
def nE (n : Nat) : List Value := [.int .i64 n]
theorem n_len (n : Nat) : (nE n).length = 1 := rfl
def refM (m i : Nat) (s : Slot Int) : MM := if s.taken then ⟨numb m i s, s.v, s.low⟩ else ⟨-1, 0, 0⟩
def refL (L : List (Slot Int)) : List MM := L.mapIdx (fun i s => refM L.length i s)
theorem refL_get {L : List (Slot Int)} {i m : Nat} {s : Slot Int} (hm : L.length = m) (hx : L[i]? = some s) : (refL L)[i]? = some (refM m i s) := by subst hm; simp [refL, hx]
theorem refL_set {L : List (Slot Int)} {i m : Nat} {s : Slot Int} (hm : L.length = m) : refL (L.set i s) = (refL L).set i (refM m i s) := by
  subst hm
  apply List.ext_getElem?
  intro j
  simp only [refL, List.getElem?_mapIdx, List.length_set, List.getElem?_set, List.length_mapIdx]
  by_cases h : i = j
  · subst h
    by_cases h2 : i < L.length <;> simp [h2]
  · simp [h]
theorem times_get {L : List (Slot Int)} {i : Nat} {s : Slot Int} (hx : L[i]? = some s) : (L.map (·.times))[i]? = some s.times := by simp [hx]
theorem times_set {L : List (Slot Int)} {i : Nat} {s : Slot Int} : (L.set i s).map (·.times) = (L.map (·.times)).set i s.times := by rw [List.map_set]
theorem times_same {L : List (Slot Int)} {i : Nat} {s s' : Slot Int} (hx : L[i]? = some s) (h : s'.times = s.times) : (L.set i s').map (·.times) = L.map (·.times) := by
  rw [times_set, h]
  apply List.ext_getElem?
  intro j
  rw [List.getElem?_set]
  split
  · rename_i h; subst h
    obtain ⟨hlt, rfl⟩ := List.getElem?_eq_some_iff.1 hx
    simp [hlt]
  · rfl
theorem find_hit {L : List (Slot Int)} {m k : Nat} {s : Slot Int} {id : Int} (hm : L.length = m) (hx : L[k]? = some s) (ht : s.taken = true) (hn : (numb m k s : Int) = id) : findL L id = some k := by
  subst hm
  have hk : k < L.length := (List.getElem?_eq_some_iff.1 hx).1
  subst hn
  have h1 : numb L.length k s % L.length = k := by unfold numb; rw [Nat.add_mul_mod_self_left, Nat.mod_eq_of_lt hk]
  unfold findL
  rw [if_neg (by omega)]
  simp only [Int.toNat_natCast, h1, hx, ht]
  simp

/-- The reference's table: the struct in block q, the marks in block b1, how often each was released in block b2. -/
structure RefT (w : World) (q b1 b2 m c1 c2 B : Nat) (L : List (Slot Int)) : Prop where
  str : w.heap[q]? = some (.cells #[.slice (some ⟨b1, 0, none⟩) m c1, .slice (some ⟨b2, 0, none⟩) m c2] 41 (0, 0))
  ms : Blk mE w 37 b1 (refL L)
  ts : Blk nE w 3 b2 (L.map (·.times))
  len : L.length = m
  ne1 : q ≠ b1
  ne2 : q ≠ b2
  ne3 : b1 ≠ b2
  cap1 : m ≤ c1
  cap2 : m ≤ c2
  max : m ≤ 4096
  tms : ∀ s ∈ L, s.times ≤ B
section
variable {w w' : World} {q b1 b2 m c1 c2 B : Nat} {L : List (Slot Int)}
theorem RefT.move (h : RefT w q b1 b2 m c1 c2 B L) (hq : w'.heap[q]? = w.heap[q]?) (h1 : w'.heap[b1]? = w.heap[b1]?) (h2 : w'.heap[b2]? = w.heap[b2]?) : RefT w' q b1 b2 m c1 c2 B L :=
  ⟨hq.trans h.str, h.ms.move h1, h.ts.move h2, h.len, h.ne1, h.ne2, h.ne3, h.cap1, h.cap2, h.max, h.tms⟩
theorem RefT.below (h : RefT w q b1 b2 m c1 c2 B L) (hb : Below w.heap.size w w') : RefT w' q b1 b2 m c1 c2 B L := h.move (hb.block _ (blk_lt h.str)) (hb.block _ h.ms.lt) (hb.block _ h.ts.lt)
theorem RefT.by {X : Nat → Prop} (h : RefT w q b1 b2 m c1 c2 B L) (hf : Fr X w w') (hq : ¬ X q) (h1 : ¬ X b1) (h2 : ¬ X b2) : RefT w' q b1 b2 m c1 c2 B L := h.move (hf.same _ (blk_lt h.str) hq) (hf.same _ h.ms.lt h1) (hf.same _ h.ts.lt h2)
theorem RefT.more {B' : Nat} (h : RefT w q b1 b2 m c1 c2 B L) (hB : B ≤ B') : RefT w q b1 b2 m c1 c2 B' L := ⟨h.str, h.ms, h.ts, h.len, h.ne1, h.ne2, h.ne3, h.cap1, h.cap2, h.max, fun s hs => Nat.le_trans (h.tms s hs) hB⟩
theorem RefT.free {i : Nat} {s : Slot Int} (h : RefT w q b1 b2 m c1 c2 B L) (hx : L[i]? = some s) (ht : s.taken = false) : w.cell? ⟨b1, i * 3, none⟩ = some (.int .i64 (-1)) ∧ w.cell? ⟨b1, i * 3 + 1, none⟩ = some (.int .i64 0) ∧ w.cell? ⟨b1, i * 3 + 2, none⟩ = some (.int .i64 0) := by
  have hg := refL_get h.len hx
  have he : refM m i s = ⟨-1, 0, 0⟩ := by unfold refM; rw [ht]; rfl
  rw [he] at hg
  exact ⟨h.ms.cell (j := 0) m_len hg rfl, h.ms.cell (j := 1) m_len hg rfl, h.ms.cell (j := 2) m_len hg rfl⟩
theorem RefT.taken {i : Nat} {s : Slot Int} (h : RefT w q b1 b2 m c1 c2 B L) (hx : L[i]? = some s) (ht : s.taken = true) : w.cell? ⟨b1, i * 3, none⟩ = some (.int .i64 (numb m i s : Nat)) ∧ w.cell? ⟨b1, i * 3 + 1, none⟩ = some (.int .i64 s.v) ∧ w.cell? ⟨b1, i * 3 + 2, none⟩ = some (.int .i64 s.low) := by
  have hg := refL_get h.len hx
  have he : refM m i s = ⟨numb m i s, s.v, s.low⟩ := by unfold refM; rw [ht]; rfl
  rw [he] at hg
  exact ⟨h.ms.cell (j := 0) m_len hg rfl, h.ms.cell (j := 1) m_len hg rfl, h.ms.cell (j := 2) m_len hg rfl⟩
theorem RefT.time {i : Nat} {s : Slot Int} (h : RefT w q b1 b2 m c1 c2 B L) (hx : L[i]? = some s) : w.cell? ⟨b2, i, none⟩ = some (.int .i64 s.times) := by
  have := h.ts.cell (j := 0) n_len (times_get hx) rfl
  simpa using this
end

theorem rfindno_calls {q b1 b2 m c1 c2 B : Nat} {L} {id : Int} {w : World} (h : RefT w q b1 b2 m c1 c2 B L) (hf : findL L id = none) : Calls Try.prog 12 #[.pointer (some ⟨q, 0, none⟩), .int .i64 id] w fun e w' => e = .returned (.int .i64 (-1)) ∧ Below w.heap.size w w' := by
  have h1 := h.max
  have hs := h.str
  have hsc0 := blk_cell hs 0 _ rfl; have hsf0 := blk_frozen hs 0; have hsc1 := blk_cell hs 1 _ rfl; have hsf1 := blk_frozen hs 1; have hsl := blk_lt hs
  have HF := Hd.mk hf
  have H := Hd.mk h; clear h hf
  have hl1 := H.out.ms.lt
  go_enter Try.func12, Try.ntmps12
  go_wp2
  go_loopw [5] (fun i wr => ∃ k : Nat, k ≤ m ∧ i = .int .i64 k ∧ wr = w) (fun i _ => m - (intOf i).toNat)
  case atStart => exact ⟨0, Nat.zero_le _, rfl, rfl⟩
  case round =>
    obtain ⟨k, hk, rfl, rfl⟩ := hrel
    by_cases hlt : k < m
    · obtain ⟨s, hx⟩ : ∃ s, L[k]? = some s := ⟨_, List.getElem?_eq_getElem (by rw [H.out.len]; exact hlt)⟩
      by_cases hid : 0 ≤ id
      · cases ht : s.taken with
        | false =>
          obtain ⟨hm0, -, -⟩ := H.out.free hx ht
          have hne : ¬ (-1 : Int) = id := by omega
          clear hx ht
          go_wp2
          go_roundw
          case rel => exact ⟨k + 1, by omega, by go_num, trivial⟩
          case measure => simp [intOf]; omega
        | true =>
          obtain ⟨hm0, -, -⟩ := H.out.taken hx ht
          have hne : ¬ (numb m k s : Int) = id := fun he => by have := find_hit H.out.len hx ht he; rw [HF.out] at this; cases this
          clear hx ht
          go_wp2
          go_roundw
          case rel => exact ⟨k + 1, by omega, by go_num, trivial⟩
          case measure => simp [intOf]; omega
      · clear hx
        go_wp2
        go_roundw
        case rel => exact ⟨k + 1, by omega, by go_num, trivial⟩
        case measure => simp [intOf]; omega
    · obtain rfl : k = m := by omega
      go_wp2
      go_ret
      exact ⟨rfl, (by repeat (first | (with_reducible assumption) | (with_reducible exact Below.refl _ _) | (with_reducible apply below_drewL) | (with_reducible apply below_alloc) | (with_reducible apply below_drew1) | (with_reducible apply below_drewN) | (refine below_set ?_ (by first | omega | (simp only [size_alloc, size_drew, size_set]; omega)) _ _)))⟩
theorem rfind_calls {q b1 b2 m c1 c2 B i : Nat} {L} {id : Int} {w : World} (h : RefT w q b1 b2 m c1 c2 B L) (hf : findL L id = some i) : Calls Try.prog 12 #[.pointer (some ⟨q, 0, none⟩), .int .i64 id] w fun e w' => e = .returned (.int .i64 i) ∧ Below w.heap.size w w' := by
  have h1 := h.max
  have hs := h.str
  have hsc0 := blk_cell hs 0 _ rfl; have hsf0 := blk_frozen hs 0; have hsc1 := blk_cell hs 1 _ rfl; have hsf1 := blk_frozen hs 1; have hsl := blk_lt hs
  obtain ⟨s, hx, ht, hn⟩ := findL_slot hf
  rw [h.len] at hn
  have hi : i < m := by rw [← h.len]; exact (List.getElem?_eq_some_iff.1 hx).1
  have hid : 0 ≤ id := by rw [← hn]; omega
  have HF := Hd.mk hf
  have H := Hd.mk h; clear h hf
  have hl1 := H.out.ms.lt
  obtain ⟨hm0, -, -⟩ := H.out.taken hx ht
  rw [hn] at hm0
  clear hx ht hn
  go_enter Try.func12, Try.ntmps12
  go_wp2
  go_loopw [5] (fun x wr => ∃ k : Nat, k ≤ i ∧ x = .int .i64 k ∧ wr = w) (fun x _ => m - (intOf x).toNat)
  case atStart => exact ⟨0, Nat.zero_le _, rfl, rfl⟩
  case round =>
    obtain ⟨k, hk, rfl, rfl⟩ := hrel
    by_cases hlt : k < i
    · obtain ⟨s, hx⟩ : ∃ s, L[k]? = some s := ⟨_, List.getElem?_eq_getElem (by rw [H.out.len]; omega)⟩
      cases ht : s.taken with
      | false =>
        obtain ⟨hm1, -, -⟩ := H.out.free hx ht
        have hne : ¬ (-1 : Int) = id := by omega
        clear hx ht
        go_wp2
        go_roundw
        case rel => exact ⟨k + 1, by omega, by go_num, trivial⟩
        case measure => simp [intOf]; omega
      | true =>
        obtain ⟨hm1, -, -⟩ := H.out.taken hx ht
        have hne : ¬ (numb m k s : Int) = id := fun he => by have := find_hit H.out.len hx ht he; rw [HF.out] at this; injection this; omega
        clear hx ht
        go_wp2
        go_roundw
        case rel => exact ⟨k + 1, by omega, by go_num, trivial⟩
        case measure => simp [intOf]; omega
    · obtain rfl : k = i := by omega
      go_wp2
      go_ret
      exact ⟨rfl, (by repeat (first | (with_reducible assumption) | (with_reducible exact Below.refl _ _) | (with_reducible apply below_drewL) | (with_reducible apply below_alloc) | (with_reducible apply below_drew1) | (with_reducible apply below_drewN) | (refine below_set ?_ (by first | omega | (simp only [size_alloc, size_drew, size_set]; omega)) _ _)))⟩

theorem rsetfull_calls {q b1 b2 m c1 c2 B : Nat} {L} (v low : Int) {w : World} (h : RefT w q b1 b2 m c1 c2 B L) (hf : ∀ s ∈ L, s.taken = true) : Calls Try.prog 10 #[.pointer (some ⟨q, 0, none⟩), .int .i64 v, .int .i64 low] w fun e w' => e = .returned (.int .i64 (-1)) ∧ Below w.heap.size w w' := by
  have h1 := h.max
  have hs := h.str
  have hsc0 := blk_cell hs 0 _ rfl; have hsf0 := blk_frozen hs 0; have hsc1 := blk_cell hs 1 _ rfl; have hsf1 := blk_frozen hs 1; have hsl := blk_lt hs
  have HF := Hd.mk hf
  have H := Hd.mk h; clear h hf
  have hl1 := H.out.ms.lt
  go_enter Try.func10, Try.ntmps10
  go_wp2
  go_loopw [7] (fun i wr => ∃ k : Nat, k ≤ m ∧ i = .int .i64 k ∧ wr = w) (fun i _ => m - (intOf i).toNat)
  case atStart => exact ⟨0, Nat.zero_le _, rfl, rfl⟩
  case round =>
    obtain ⟨k, hk, rfl, rfl⟩ := hrel
    by_cases hlt : k < m
    · obtain ⟨s, hx⟩ : ∃ s, L[k]? = some s := ⟨_, List.getElem?_eq_getElem (by rw [H.out.len]; exact hlt)⟩
      obtain ⟨hm0, -, -⟩ := H.out.taken hx (HF.out s (List.mem_of_getElem? hx))
      have hne : ¬ (numb m k s : Int) < 0 := by omega
      clear hx
      go_wp2
      go_roundw
      case rel => exact ⟨k + 1, by omega, by go_num, trivial⟩
      case measure => simp [intOf]; omega
    · obtain rfl : k = m := by omega
      go_wp2
      go_ret
      exact ⟨rfl, (by repeat (first | (with_reducible assumption) | (with_reducible exact Below.refl _ _) | (with_reducible apply below_drewL) | (with_reducible apply below_alloc) | (with_reducible apply below_drew1) | (with_reducible apply below_drewN) | (refine below_set ?_ (by first | omega | (simp only [size_alloc, size_drew, size_set]; omega)) _ _)))⟩
theorem rset_calls {q b1 b2 m c1 c2 B i : Nat} {L s} (v low : Int) {w : World} (h : RefT w q b1 b2 m c1 c2 B L) (hB : B ≤ 1000000) (hf : ∀ j, j < i → ∀ s, L[j]? = some s → s.taken = true) (hx : L[i]? = some s) (ht : s.taken = false) :
    Calls Try.prog 10 #[.pointer (some ⟨q, 0, none⟩), .int .i64 v, .int .i64 low] w fun e w' => e = .returned (.int .i64 (numb m i s : Nat)) ∧ RefT w' q b1 b2 m c1 c2 B (L.set i (took s v low)) ∧ Fr (fun b => b = b1) w w' := by
  have h1 := h.max
  have hs := h.str
  have hi : i < m := by rw [← h.len]; exact (List.getElem?_eq_some_iff.1 hx).1
  have hsc0 := blk_cell hs 0 _ rfl; have hsf0 := blk_frozen hs 0; have hsc1 := blk_cell hs 1 _ rfl; have hsf1 := blk_frozen hs 1; have hsl := blk_lt hs
  obtain ⟨hm0, hm1, hm2⟩ := h.free hx ht
  have ht2 := h.time hx
  have hl2 := h.ts.lt
  have hf0 := h.ms.frozen (i * 3); have hf1 := h.ms.frozen (i * 3 + 1); have hf2 := h.ms.frozen (i * 3 + 2)
  have hn1 : ¬ q = b1 := h.ne1
  have hn2 : ¬ b1 = q := Ne.symm h.ne1
  have hn3 : ¬ b2 = b1 := Ne.symm h.ne3
  obtain ⟨N, hN⟩ : ∃ N, m * s.times = N := ⟨_, rfl⟩
  have hN1 : N ≤ 4096 * 1000000 := by rw [← hN]; exact Nat.mul_le_mul h1 (Nat.le_trans (h.tms s (List.mem_of_getElem? hx)) hB)
  have hNI : (m : Int) * (s.times : Int) = N := by rw [← hN]; simp
  have hnum : numb m i s = i + N := by unfold numb; rw [hN]
  have HNU := Hd.mk hnum
  have HF := Hd.mk hf; have HX := Hd.mk hx; have HT := Hd.mk ht; have HS := Hd.mk hs
  have H := Hd.mk h; clear h hf hx ht hnum hN hs
  have hl1 := H.out.ms.lt
  go_enter Try.func10, Try.ntmps10
  go_wp2
  go_loopw [7] (fun x wr => ∃ k : Nat, k ≤ i ∧ x = .int .i64 k ∧ wr = w) (fun x _ => m - (intOf x).toNat)
  case atStart => exact ⟨0, Nat.zero_le _, rfl, rfl⟩
  case round =>
    obtain ⟨k, hk, rfl, rfl⟩ := hrel
    by_cases hlt : k < i
    · obtain ⟨s', hx⟩ : ∃ s', L[k]? = some s' := ⟨_, List.getElem?_eq_getElem (by rw [H.out.len]; omega)⟩
      obtain ⟨hm3, -, -⟩ := H.out.taken hx (HF.out k hlt s' hx)
      have hne : ¬ (numb m k s' : Int) < 0 := by omega
      clear hx
      go_wp2
      go_roundw
      case rel => exact ⟨k + 1, by omega, by go_num, trivial⟩
      case measure => simp [intOf]; omega
    · obtain rfl : k = i := by omega
      go_wp2
      refine wp_region_can (.q [0, 1, 2, 3, 4, 5, 6, 7, 8, 9, 10, 11, 12, 13, 14, 15, 16, 17, 18, 19, 20, 21, 22, 23] (.e 24 false (.done))) (clsB _) (by kernel_rfl) (by kernel_rfl) (by intro _ _ d _ _ h; cases d <;> exact h) (clsB_drew _) ?_
      refine can_q (l := [⟨_,_,_,_,_,_⟩, ⟨_,_,_,_,_,_⟩, ⟨_,_,_,_,_,_⟩, ⟨_,_,_,_,_,_⟩, ⟨_,_,_,_,_,_⟩, ⟨_,_,_,_,_,_⟩, ⟨_,_,_,_,_,_⟩, ⟨_,_,_,_,_,_⟩, ⟨_,_,_,_,_,_⟩, ⟨_,_,_,_,_,_⟩, ⟨_,_,_,_,_,_⟩, ⟨_,_,_,_,_,_⟩, ⟨_,_,_,_,_,_⟩, ⟨_,_,_,_,_,_⟩, ⟨_,_,_,_,_,_⟩, ⟨_,_,_,_,_,_⟩, ⟨_,_,_,_,_,_⟩, ⟨_,_,_,_,_,_⟩, ⟨_,_,_,_,_,_⟩, ⟨_,_,_,_,_,_⟩, ⟨_,_,_,_,_,_⟩, ⟨_,_,_,_,_,_⟩, ⟨_,_,_,_,_,_⟩, ⟨_,_,_,_,_,_⟩]) rfl ?_
      repeat (go_big_quiet_step (fail))
      refine wpQuiet_nil ?_
      refine can_e (o := ⟨_,_,_,_,_,_⟩) rfl (fun K hK => ?_)
      go_wp2_with fail
      refine onK_normal (hK _ _ ⟨fun _ => True, trivial, (fun h => by cases h), ?_⟩)
      clear hK K
      refine can_done ?_
      go_wp2
      go_ret
      have hil : k < (refL L).length := by simp [refL, H.out.len]; exact hi
      have hg := refL_get H.out.len HX.out
      have he : refM m k s = ⟨-1, 0, 0⟩ := by unfold refM; rw [HT.out]; rfl
      rw [he] at hg
      have q0 := H.out.ms.set0 (x := ⟨-1, 0, 0⟩) (y := ⟨(k : Int) + N, 0, 0⟩) (v := .int .i64 ((k : Int) + N)) m_len hg (by decide) rfl
      have q1 := q0.set (j := 1) (x := ⟨(k : Int) + N, 0, 0⟩) (y := ⟨(k : Int) + N, v, 0⟩) (v := .int .i64 v) m_len (by rw [List.getElem?_set_self hil]) (by decide) rfl
      have q2 := q1.set (j := 2) (x := ⟨(k : Int) + N, v, 0⟩) (y := ⟨(k : Int) + N, v, low⟩) (v := .int .i64 low) m_len (by rw [List.getElem?_set_self (by simpa using hil)]) (by decide) rfl
      simp only [List.set_set] at q2
      have he2 : refM m k (took s v low) = ⟨(k : Int) + N, v, low⟩ := by
        have : numb m k (took s v low) = numb m k s := rfl
        unfold refM; rw [this, HNU.out]; simp [took]
      rw [← he2, ← refL_set H.out.len] at q2
      refine ⟨ret_int (by rw [HNU.out]; simp), ⟨blk_drew (blk_far (blk_far (blk_far HS.out hn1 _) hn1 _) hn1 _), q2.move rfl, ?_, by rw [List.length_set]; exact H.out.len, H.out.ne1, H.out.ne2, H.out.ne3, H.out.cap1, H.out.cap2, h1, fun x hx' => ?_⟩, ?_⟩
      · rw [times_same (s' := took s v low) HX.out rfl]
        exact ((((H.out.ts.far (p := ⟨b1, k * 3, none⟩) hn3 _).far (p := ⟨b1, k * 3 + 1, none⟩) hn3 _).far (p := ⟨b1, k * 3 + 2, none⟩) hn3 _)).move rfl
      · rcases List.mem_or_eq_of_mem_set hx' with hx' | rfl
        · exact H.out.tms x hx'
        · exact H.out.tms s (List.mem_of_getElem? HX.out)
      · exact (Fr.set (Fr.set (Fr.set (Fr.refl (fun b => b = b1) _) (.inl rfl) _ _) (.inl rfl) _ _) (.inl rfl) _ _).drew
theorem rrelno_calls {q b1 b2 m c1 c2 B : Nat} {L} {id : Int} {w : World} (h : RefT w q b1 b2 m c1 c2 B L) (hf : findL L id = none) : Calls Try.prog 14 #[.pointer (some ⟨q, 0, none⟩), .int .i64 id] w fun e w' => e = .returned (.bool false) ∧ Below w.heap.size w w' := by
  have H := Hd.mk h; have HF := Hd.mk hf; clear h hf
  go_enter Try.func14, Try.ntmps14
  go_wp2_with (go_at_call 12; go_must (refine Calls.mono (rfindno_calls (H.out.below (by repeat (first | (with_reducible assumption) | (with_reducible exact Below.refl _ _) | (with_reducible apply below_drewL) | (with_reducible apply below_alloc) | (with_reducible apply below_drew1) | (with_reducible apply below_drewN) | (refine below_set ?_ (by first | omega | (simp only [size_alloc, size_drew, size_set]; omega)) _ _)))) HF.out) ?_; rintro e w1 ⟨rfl, hb1⟩))
  go_ret
  exact ⟨rfl, hb1⟩
theorem rrel_calls {q b1 b2 m c1 c2 B i : Nat} {L s} {id : Int} {w : World} (h : RefT w q b1 b2 m c1 c2 B L) (hB : B ≤ 1000000) (hf : findL L id = some i) (hx : L[i]? = some s) : Calls Try.prog 14 #[.pointer (some ⟨q, 0, none⟩), .int .i64 id] w fun e w' => e = .returned (.bool true) ∧ RefT w' q b1 b2 m c1 c2 (B + 1) (L.set i (freed 0 s)) ∧ Fr (fun b => b = b1 ∨ b = b2) w w' := by
  have h1 := h.max
  have hi : i < m := by rw [← h.len]; exact (List.getElem?_eq_some_iff.1 hx).1
  have hn1 : ¬ q = b1 := h.ne1
  have hn2 : ¬ b1 = q := Ne.symm h.ne1
  have hn3 : ¬ b2 = b1 := Ne.symm h.ne3
  have hn4 : ¬ b1 = b2 := h.ne3
  have hn5 : ¬ q = b2 := h.ne2
  have hn6 : ¬ b2 = q := Ne.symm h.ne2
  have htm : s.times ≤ 1000000 := Nat.le_trans (h.tms s (List.mem_of_getElem? hx)) hB
  have ht : s.taken = true := by
    obtain ⟨s', hx', ht, _⟩ := findL_slot hf
    rw [hx] at hx'; cases hx'; exact ht
  have H := Hd.mk h; have HF := Hd.mk hf; have HX := Hd.mk hx; have HT := Hd.mk ht; clear h hf hx ht
  go_enter Try.func14, Try.ntmps14
  go_wp2_with (go_at_call 12; go_must (refine Calls.mono (rfind_calls (H.out.below (by repeat (first | (with_reducible assumption) | (with_reducible exact Below.refl _ _) | (with_reducible apply below_drewL) | (with_reducible apply below_alloc) | (with_reducible apply below_drew1) | (with_reducible apply below_drewN) | (refine below_set ?_ (by first | omega | (simp only [size_alloc, size_drew, size_set]; omega)) _ _)))) HF.out) ?_; rintro e w1 ⟨rfl, hb1⟩; have H1 := Hd.mk (H.out.below hb1); have hs := H1.out.str; have hsc0 := blk_cell hs 0 _ rfl; have hsf0 := blk_frozen hs 0; have hsc1 := blk_cell hs 1 _ rfl; have hsf1 := blk_frozen hs 1; have hsl := blk_lt hs; obtain ⟨hm0, hm1, hm2⟩ := H1.out.taken HX.out HT.out; have ht2 := H1.out.time HX.out; have hl1 := H1.out.ms.lt; have hl2 := H1.out.ts.lt; have hf0 := H1.out.ms.frozen (i * 3); have hf1 := H1.out.ms.frozen (i * 3 + 1); have hf2 := H1.out.ms.frozen (i * 3 + 2); have hf3 := H1.out.ts.frozen i))
  refine wp_region_can (.q [0, 1, 2, 3, 4, 5, 6, 7, 8, 9, 10, 11, 12, 13] (.e 14 false (.done))) (clsB _) (by kernel_rfl) (by kernel_rfl) (by intro _ _ d _ _ h; cases d <;> exact h) (clsB_drew _) ?_
  refine can_q (l := [⟨_,_,_,_,_,_⟩, ⟨_,_,_,_,_,_⟩, ⟨_,_,_,_,_,_⟩, ⟨_,_,_,_,_,_⟩, ⟨_,_,_,_,_,_⟩, ⟨_,_,_,_,_,_⟩, ⟨_,_,_,_,_,_⟩, ⟨_,_,_,_,_,_⟩, ⟨_,_,_,_,_,_⟩, ⟨_,_,_,_,_,_⟩, ⟨_,_,_,_,_,_⟩, ⟨_,_,_,_,_,_⟩, ⟨_,_,_,_,_,_⟩, ⟨_,_,_,_,_,_⟩]) rfl ?_
  repeat (go_big_quiet_step (fail))
  refine wpQuiet_nil ?_
  refine can_e (o := ⟨_,_,_,_,_,_⟩) rfl (fun K hK => ?_)
  go_wp2_with fail
  refine onK_normal (hK _ _ ⟨fun _ => True, trivial, (fun h => by cases h), ?_⟩)
  clear hK K
  refine can_done ?_
  go_wp2
  go_ret
  have hil : i < (refL L).length := by simp [refL, H.out.len]; exact hi
  have hg := refL_get H.out.len HX.out
  have q0 := H1.out.ms.set0 (x := refM m i s) (y := ⟨-1, (refM m i s).v, (refM m i s).low⟩) (v := .int .i64 (-1)) m_len hg (by decide) rfl
  have q1 := q0.set (j := 1) (x := ⟨-1, (refM m i s).v, (refM m i s).low⟩) (y := ⟨-1, 0, (refM m i s).low⟩) (v := .int .i64 0) m_len (by rw [List.getElem?_set_self hil]) (by decide) rfl
  have q2 := q1.set (j := 2) (x := ⟨-1, 0, (refM m i s).low⟩) (y := ⟨-1, 0, 0⟩) (v := .int .i64 0) m_len (by rw [List.getElem?_set_self (by simpa using hil)]) (by decide) rfl
  simp only [List.set_set] at q2
  have he2 : refM m i (freed 0 s) = ⟨-1, 0, 0⟩ := rfl
  rw [← he2, ← refL_set H.out.len] at q2
  have p0 := (((H1.out.ts.far (p := ⟨b1, i * 3, none⟩) hn3 (.int .i64 (-1))).far (p := ⟨b1, i * 3 + 1, none⟩) hn3 (.int .i64 0)).far (p := ⟨b1, i * 3 + 2, none⟩) hn3 (.int .i64 0))
  have p1 := p0.set0 (i := i) (y := s.times + 1) (v := .int .i64 ((s.times : Int) + 1)) n_len (times_get HX.out) (by decide) rfl
  rw [Nat.mul_one, show s.times + 1 = (freed 0 s).times from rfl, ← times_set] at p1
  refine ⟨rfl, ⟨?_, ?_, ?_, by rw [List.length_set]; exact H.out.len, H.out.ne1, H.out.ne2, H.out.ne3, H.out.cap1, H.out.cap2, h1, fun x hx' => ?_⟩, ?_⟩
  · exact blk_drew (blk_far (blk_far (blk_far (blk_far hs hn1 _) hn1 _) hn1 _) hn5 _)
  · exact (q2.far (p := ⟨b2, i, none⟩) hn4 _).move rfl
  · exact p1.move rfl
  · rcases List.mem_or_eq_of_mem_set hx' with hx' | rfl
    · have := H.out.tms x hx'; omega
    · have := H.out.tms s (List.mem_of_getElem? HX.out); simp only [freed]; omega
  · exact (Fr.set (Fr.set (Fr.set (Fr.set (Fr.of_below (X := fun b => b = b1 ∨ b = b2) hb1) (.inl (.inl rfl)) _ _) (.inl (.inl rfl)) _ _) (.inl (.inl rfl)) _ _) (.inl (.inr rfl)) _ _).drew
end Go.Proofs.Ytofknjoaemiebaa.Fn
