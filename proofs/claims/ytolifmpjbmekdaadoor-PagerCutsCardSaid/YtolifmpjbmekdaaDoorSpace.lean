/-
The places of a space, as bits of words: Many, in, Used; conditions: the space lies in memory as told.
-/
import Derived.Test.YtolifmpjbmekdaaDoorBytes
import Derived.Test.YtolifmpjbmekdaaDoorCount
import Derived.Laws.BitsLemmas
import Derived.Outline
namespace Go.Proofs.YtolifmpjbmekdaaDoor
open Go.RowKit Go.Lib
/-- A space lies in block p, its words in bw: which places are used. -/
structure Spc (p bw many : Nat) (U : Nat → Bool) (w : World) : Prop where
  blk : w.heap[p]? = some (.cells #[.int .i64 many, .slice (some ⟨bw, 0, none⟩) ((many + 63) / 64) ((many + 63) / 64)] 101 (0, 0))
  words : ∃ arr, w.heap[bw]? = some (.cells arr 35 (0, 0)) ∧ arr.size = (many + 63) / 64 ∧ ∀ i, i < (many + 63) / 64 → ∃ x : Nat, arr[i]? = some (.int .u64 x) ∧ x < 18446744073709551616 ∧ ∀ j, j < 64 → x.testBit j = U (64 * i + j)
  top : ∀ n, many ≤ n → U n = false
  few : many ≤ 16384
  ne : p ≠ bw
variable {p bw many : Nat} {U : Nat → Bool} {w : World}
theorem keptc {q : Nat} (W : World) (i : Nat) (u : Value) : Kept (fun b => b = q) W (W.setCell ⟨q, i, none⟩ u) := (Kept.refl (fun b => b = q) W).setCell (p := ⟨q, i, none⟩) (.inl rfl) u
theorem Spc.lt (h : Spc p bw many U w) : p < w.heap.size ∧ bw < w.heap.size := by
  obtain ⟨a, ha, _⟩ := h.words
  exact ⟨blk_lt h.blk, blk_lt ha⟩
theorem Spc.kept {G : Nat → Prop} {w' : World} (h : Spc p bw many U w) (hk : Kept G w w') (h1 : ¬ G p) (h2 : ¬ G bw) : Spc p bw many U w' := by
  obtain ⟨a, ha, r⟩ := h.words
  exact ⟨hk.at h.blk h1, ⟨a, hk.at ha h2, r⟩, h.top, h.few, h.ne⟩
theorem Spc.new {w' : World} (h : Spc p bw many U w) (hk : New w w') : Spc p bw many U w' := h.kept hk id id
theorem Spc.word (h : Spc p bw many U w) {i : Nat} (hi : i < (many + 63) / 64) : ∃ x : Nat, w.cell? ⟨bw, i, none⟩ = some (.int .u64 x) ∧ w.frozen? ⟨bw, i, none⟩ = false ∧ x < 18446744073709551616 ∧ ∀ j, j < 64 → x.testBit j = U (64 * i + j) := by
  obtain ⟨a, ha, _, hx⟩ := h.words
  obtain ⟨x, h1, h2, h3⟩ := hx i hi
  exact ⟨x, (cell_at ha i).trans h1, frozen_at ha i, h2, h3⟩
theorem Spc.c0 (h : Spc p bw many U w) : w.cell? ⟨p, 0, none⟩ = some (.int .i64 many) := (cell_at h.blk 0).trans rfl
theorem Spc.c1 (h : Spc p bw many U w) : w.cell? ⟨p, 1, none⟩ = some (.slice (some ⟨bw, 0, none⟩) ((many + 63) / 64) ((many + 63) / 64)) := (cell_at h.blk 1).trans rfl
theorem many_calls (h : Spc p bw many U w) : Calls Tryd.prog 42 #[.pointer (some ⟨p, 0, none⟩)] w fun e w' => e = .returned (.int .i64 many) ∧ w = w' := by
  have c0 := h.c0
  clear h
  go_enter Tryd.func42, Tryd.ntmps42
  go_wp2
  go_ret
  exact ⟨rfl, rfl⟩
theorem in_yes (h : Spc p bw many U w) {n : Nat} (hn : n < many) : Calls Tryd.prog 57 #[.pointer (some ⟨p, 0, none⟩), .int .i64 n] w fun e w' => e = .returned (.bool true) ∧ w = w' := by
  have c0 := h.c0
  clear h
  have h1 : (0 : Int) ≤ n := by omega
  have h2 : decide (n < many) = true := decide_eq_true hn
  go_enter Tryd.func57, Tryd.ntmps57
  go_wp2
  go_ret
  exact ⟨rfl, rfl⟩
theorem in_no (h : Spc p bw many U w) {n : Int} (hn : n < 0 ∨ (many : Int) ≤ n) : Calls Tryd.prog 57 #[.pointer (some ⟨p, 0, none⟩), .int .i64 n] w fun e w' => e = .returned (.bool false) ∧ w = w' := by
  have c0 := h.c0
  clear h
  rcases (by omega : n < 0 ∨ 0 ≤ n ∧ (many : Int) ≤ n) with hn | ⟨hn, hn2⟩
  · have h1 : decide (0 ≤ n) = false := decide_eq_false (by omega)
    go_enter Tryd.func57, Tryd.ntmps57
    go_wp2
    go_ret
    exact ⟨rfl, rfl⟩
  · have h1 : decide (n < (many : Int)) = false := decide_eq_false (by omega)
    go_enter Tryd.func57, Tryd.ntmps57
    go_wp2
    go_ret
    exact ⟨rfl, rfl⟩
theorem wraps_u64 (n : Int) (h₀ : 0 ≤ n) (h₁ : n < 2 ^ 64) : IntKind.u64.wrap n = n := by
  rw [IntKind.wrap_u64]
  omega
theorem and_u64 {a b : Nat} (ha : a < 2 ^ 64) (hb : b < 2 ^ 64) : Go.bits .and .u64 (a : Int) (b : Int) = ((a &&& b : Nat) : Int) := (bits_nat .u64 64 (by decide) wraps_u64 a b ha hb).1
theorem or_u64 {a b : Nat} (ha : a < 2 ^ 64) (hb : b < 2 ^ 64) : Go.bits .or .u64 (a : Int) (b : Int) = ((a ||| b : Nat) : Int) := (bits_nat .u64 64 (by decide) wraps_u64 a b ha hb).2
theorem bit_test {x : Nat} (hx : x < 18446744073709551616) (k : Nat) : (Go.bits .and .u64 ((x : Int) / 2 ^ k) 1 == 1) = x.testBit k := by
  have e : (x : Int) / 2 ^ k = ((x / 2 ^ k : Nat) : Int) := by
    rw [Int.natCast_ediv]
    simp
  have hl : x / 2 ^ k < 2 ^ 64 := Nat.lt_of_le_of_lt (Nat.div_le_self _ _) hx
  rw [e, show (1 : Int) = ((1 : Nat) : Int) from rfl, and_u64 hl (by decide), Nat.and_one_is_mod, Nat.testBit_eq_decide_div_mod_eq]
  by_cases h : x / 2 ^ k % 2 = 1
  · simp [h]
  · have h0 : x / 2 ^ k % 2 = 0 := by omega
    simp [h0]
theorem used_in (h : Spc p bw many U w) {n : Nat} (hn : n < many) : Calls Tryd.prog 41 #[.pointer (some ⟨p, 0, none⟩), .int .i64 n] w fun e w' => e = .returned (.bool (U n)) ∧ w = w' := by
  have HI := hid (in_yes h hn)
  have hf := h.few
  have c1 := h.c1
  obtain ⟨x, c, _, hx, hb⟩ := h.word (i := n / 64) (by omega)
  have hb := hb (n % 64) (by omega)
  rw [show 64 * (n / 64) + n % 64 = n by omega] at hb
  have HB := hid hb
  clear h hb
  go_enter Tryd.func41, Tryd.ntmps41
  go_wp2_with (first | (go_at_call 57; (with_reducible refine HI.out.mono ?_); rintro e w1 ⟨rfl, rfl⟩))
  go_ret
  exact ⟨by rw [← HB.out, ← bit_test hx]; rfl, rfl⟩
theorem used_out (h : Spc p bw many U w) {n : Int} (hn : n < 0 ∨ (many : Int) ≤ n) : Calls Tryd.prog 41 #[.pointer (some ⟨p, 0, none⟩), .int .i64 n] w fun e w' => e = .returned (.bool true) ∧ w = w' := by
  have HI := hid (in_no h hn)
  clear h
  go_enter Tryd.func41, Tryd.ntmps41
  go_wp2_with (first | (go_at_call 57; (with_reducible refine HI.out.mono ?_); rintro e w1 ⟨rfl, rfl⟩))
  go_ret
  exact ⟨rfl, rfl⟩
theorem use_no (h : Spc p bw many U w) {n : Int} (hn : n < 0 ∨ (many : Int) ≤ n) : Calls Tryd.prog 33 #[.pointer (some ⟨p, 0, none⟩), .int .i64 n] w fun e w' => e = .returned (.bool false) ∧ w = w' := by
  have HI := hid (used_out h hn)
  clear h
  go_enter Tryd.func33, Tryd.ntmps33
  go_wp2_with (first | (go_at_call 41; (with_reducible refine HI.out.mono ?_); rintro e w1 ⟨rfl, rfl⟩))
  go_ret
  exact ⟨rfl, rfl⟩
theorem use_used (h : Spc p bw many U w) {n : Nat} (hn : n < many) (hu : U n = true) : Calls Tryd.prog 33 #[.pointer (some ⟨p, 0, none⟩), .int .i64 n] w fun e w' => e = .returned (.bool false) ∧ w = w' := by
  have HI := used_in h hn
  rw [hu] at HI
  have HI := hid HI
  clear h
  go_enter Tryd.func33, Tryd.ntmps33
  go_wp2_with (first | (go_at_call 41; (with_reducible refine HI.out.mono ?_); rintro e w1 ⟨rfl, rfl⟩))
  go_ret
  exact ⟨rfl, rfl⟩
theorem wrap_pow {k : Nat} (hk : k < 64) : IntKind.u64.wrap (2 ^ k : Int) = ((2 ^ k : Nat) : Int) ∧ 2 ^ k < 18446744073709551616 := by
  have h : (2 : Nat) ^ k < 2 ^ 64 := Nat.pow_lt_pow_right (by decide) hk
  have e : (2 ^ k : Int) = ((2 ^ k : Nat) : Int) := by simp
  refine ⟨?_, h⟩
  rw [e]
  exact wraps_u64 _ (Int.natCast_nonneg _) (by exact_mod_cast h)
theorem or_pow {x k : Nat} (hx : x < 18446744073709551616) (hk : k < 64) : ∃ y : Nat, Go.bits .or .u64 (x : Int) (IntKind.u64.wrap (2 ^ k)) = (y : Int) ∧ y < 18446744073709551616 ∧ ∀ j, j < 64 → y.testBit j = (x.testBit j || decide (j = k)) := by
  obtain ⟨h1, h2⟩ := wrap_pow hk
  rw [h1, or_u64 hx h2]
  refine ⟨_, rfl, Nat.or_lt_two_pow (n := 64) hx h2, fun j hj => ?_⟩
  rw [Nat.testBit_or, Nat.testBit_two_pow]
  congr 1
  by_cases e : j = k
  · simp [e]
  · simp [e, Ne.symm e]
theorem andNot_pow {x k : Nat} (hk : k < 64) : ∃ y : Nat, Go.bits .andNot .u64 (x : Int) (IntKind.u64.wrap (2 ^ k)) = (y : Int) ∧ y < 18446744073709551616 ∧ ∀ j, j < 64 → y.testBit j = (x.testBit j && !decide (j = k)) := by
  obtain ⟨h1, h2⟩ := wrap_pow hk
  rw [h1]
  have hp : (2 : Nat) ^ IntKind.u64.bits = 18446744073709551616 := rfl
  refine ⟨(BitVec.ofNat 64 x &&& ~~~ BitVec.ofNat 64 (2 ^ k)).toNat, ?_, (BitVec.ofNat 64 x &&& ~~~ BitVec.ofNat 64 (2 ^ k)).isLt, fun j hj => ?_⟩
  · have e : Go.bits .andNot .u64 (x : Int) ((2 ^ k : Nat) : Int) = IntKind.u64.wrap (((BitVec.ofInt 64 (x : Int) &&& ~~~BitVec.ofInt 64 ((2 ^ k : Nat) : Int)).toNat : Nat) : Int) := rfl
    rw [e, BitVec.ofInt_natCast, BitVec.ofInt_natCast]
    exact wraps_u64 _ (Int.natCast_nonneg _) (by exact_mod_cast BitVec.isLt _)
  · rw [← BitVec.getLsbD, BitVec.getLsbD_and, BitVec.getLsbD_not, BitVec.getLsbD_ofNat, BitVec.getLsbD_ofNat, Nat.testBit_two_pow]
    by_cases e : j = k
    · simp [e, hk]
    · simp [hj, e, Ne.symm e]
def setU (U : Nat → Bool) (n : Nat) (b : Bool) : Nat → Bool := fun k => if k = n then b else U k
/-- A word is another one. -/
theorem Spc.set (h : Spc p bw many U w) {n y : Nat} (hn : n < many) (b : Bool) (hy : y < 18446744073709551616) (hb : ∀ j, j < 64 → y.testBit j = setU U n b (64 * (n / 64) + j)) : Spc p bw many (setU U n b) (w.setCell ⟨bw, n / 64, none⟩ (.int .u64 y)) := by
  obtain ⟨a, ha, hs, hx⟩ := h.words
  have hk : Kept (fun b => b = bw) w (w.setCell ⟨bw, n / 64, none⟩ (.int .u64 y)) := (Kept.refl (fun b => b = bw) w).setCell (p := ⟨bw, n / 64, none⟩) (.inl rfl) _
  refine ⟨hk.at h.blk h.ne, ⟨_, heap_setCell_same ha, by simpa using hs, fun i hi => ?_⟩, fun k hk => ?_, h.few, h.ne⟩
  · by_cases e : i = n / 64
    · subst e
      exact ⟨y, by rw [Array.getElem?_setIfInBounds]; simp; omega, hy, hb⟩
    · obtain ⟨x, h1, h2, h3⟩ := hx i hi
      refine ⟨x, by rw [Array.getElem?_setIfInBounds_ne (Ne.symm e)]; exact h1, h2, fun j hj => ?_⟩
      rw [h3 j hj]
      unfold setU
      rw [if_neg (by omega)]
  · unfold setU
    rw [if_neg (by omega)]
    exact h.top k hk
set_option maxHeartbeats 1600000 in
theorem use_yes (h : Spc p bw many U w) {n : Nat} (hn : n < many) (hu : U n = false) : Calls Tryd.prog 33 #[.pointer (some ⟨p, 0, none⟩), .int .i64 n] w fun e w' => e = .returned (.bool true) ∧ Spc p bw many (setU U n true) w' ∧ Kept (fun b => b = bw) w w' := by
  have HI := used_in h hn
  rw [hu] at HI
  have HI := hid HI
  have hf := h.few
  have c1 := h.c1
  obtain ⟨x, c, cf, hx, hb⟩ := h.word (i := n / 64) (by omega)
  have HB := hid hb
  have H := hid h
  clear h hb
  go_enter Tryd.func33, Tryd.ntmps33
  go_wp2_with (first | (go_at_call 41; (with_reducible refine HI.out.mono ?_); rintro e w1 ⟨rfl, rfl⟩))
  go_region
  go_wp2
  go_ret
  obtain ⟨y, hy, hy1, hy2⟩ := or_pow hx (k := n % 64) (by omega)
  rw [hy]
  refine ⟨rfl, (H.out.set hn true hy1 fun j hj => ?_).new (Kept.refl _ _).drew, (keptc w _ _).drew⟩
  rw [hy2 j hj, HB.out j hj]
  unfold setU
  by_cases e : 64 * (n / 64) + j = n
  · rw [if_pos e, decide_eq_true (by omega : j = n % 64), Bool.or_true]
  · rw [if_neg e, decide_eq_false (by omega : ¬ j = n % 64), Bool.or_false]
theorem free_no (h : Spc p bw many U w) {n : Int} (hn : n < 0 ∨ (many : Int) ≤ n) : Calls Tryd.prog 40 #[.pointer (some ⟨p, 0, none⟩), .int .i64 n] w fun e w' => e = .returned (.bool false) ∧ w = w' := by
  have HI := hid (in_no h hn)
  clear h
  go_enter Tryd.func40, Tryd.ntmps40
  go_wp2_with (first | (go_at_call 57; (with_reducible refine HI.out.mono ?_); rintro e w1 ⟨rfl, rfl⟩))
  go_ret
  exact ⟨rfl, rfl⟩
theorem free_free (h : Spc p bw many U w) {n : Nat} (hn : n < many) (hu : U n = false) : Calls Tryd.prog 40 #[.pointer (some ⟨p, 0, none⟩), .int .i64 n] w fun e w' => e = .returned (.bool false) ∧ w = w' := by
  have HI := hid (in_yes h hn)
  have HU := used_in h hn
  rw [hu] at HU
  have HU := hid HU
  clear h
  go_enter Tryd.func40, Tryd.ntmps40
  go_wp2_with (first
    | (go_at_call 57; (with_reducible refine HI.out.mono ?_); rintro e w1 ⟨rfl, rfl⟩)
    | (go_at_call 41; (with_reducible refine HU.out.mono ?_); rintro e w1 ⟨rfl, rfl⟩))
  go_ret
  exact ⟨rfl, rfl⟩
set_option maxHeartbeats 1600000 in
theorem free_yes (h : Spc p bw many U w) {n : Nat} (hn : n < many) (hu : U n = true) : Calls Tryd.prog 40 #[.pointer (some ⟨p, 0, none⟩), .int .i64 n] w fun e w' => e = .returned (.bool true) ∧ Spc p bw many (setU U n false) w' ∧ Kept (fun b => b = bw) w w' := by
  have HI := hid (in_yes h hn)
  have HU := used_in h hn
  rw [hu] at HU
  have HU := hid HU
  have hf := h.few
  have c1 := h.c1
  obtain ⟨x, c, cf, hx, hb⟩ := h.word (i := n / 64) (by omega)
  have HB := hid hb
  have H := hid h
  clear h hb
  go_enter Tryd.func40, Tryd.ntmps40
  go_wp2_with (first
    | (go_at_call 57; (with_reducible refine HI.out.mono ?_); rintro e w1 ⟨rfl, rfl⟩)
    | (go_at_call 41; (with_reducible refine HU.out.mono ?_); rintro e w1 ⟨rfl, rfl⟩))
  go_region
  go_wp2
  go_ret
  obtain ⟨y, hy, hy1, hy2⟩ := andNot_pow (x := x) (k := n % 64) (by omega)
  rw [hy]
  refine ⟨rfl, (H.out.set hn false hy1 fun j hj => ?_).new (Kept.refl _ _).drew, (keptc w _ _).drew⟩
  rw [hy2 j hj, HB.out j hj]
  unfold setU
  by_cases e : 64 * (n / 64) + j = n
  · rw [if_pos e, decide_eq_true (by omega : j = n % 64)]
    simp
  · rw [if_neg e, decide_eq_false (by omega : ¬ j = n % 64)]
    simp
end Go.Proofs.YtolifmpjbmekdaaDoor
