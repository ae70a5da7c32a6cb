/-
The lowest bit of a number, by the library's table; conditions: the table lies in memory as the program's text lays it.
-/
import Derived.Test.YtolifmpjbmekdaaDoorSpaceL
namespace Go.Proofs.YtolifmpjbmekdaaDoor
open Go.RowKit Go.Lib
def dbTab : List Nat := [0, 1, 56, 2, 57, 49, 28, 3, 61, 58, 42, 50, 38, 29, 17, 4, 62, 47, 59, 36, 45, 43, 51, 22, 53, 39, 33, 30, 24, 18, 12, 5, 63, 55, 48, 27, 60, 41, 37, 16, 46, 35, 44, 21, 52, 32, 23, 11, 54, 26, 40, 15, 34, 20, 31, 10, 25, 14, 19, 9, 13, 8, 7, 6]
/-- The library's table lies in the block of its variable. -/
def Tabs (w : World) : Prop := 0 < w.heap.size ∧ ∀ i, i < 64 → w.cell? ⟨0, i, none⟩ = some (.int .u8 (dbTab.getD i 0 : Nat))
theorem Tabs.kept {F : Nat → Prop} {w w' : World} (h : Tabs w) (hk : Kept F w w') (hF : ¬ F 0) : Tabs w' :=
  ⟨Nat.lt_of_lt_of_le h.1 hk.size, fun i hi => (World.cell?_of_block (hk.block _ h.1 hF)).trans (h.2 i hi)⟩
theorem Tabs.new {w w' : World} (h : Tabs w) (hk : New w w') : Tabs w' := h.kept hk id
theorem db_at : ∀ k : Fin 64, dbTab.getD ((2 ^ k.val * 285870213051353865 % 18446744073709551616) / 288230376151711744) 0 = k.val := by decide +kernel
theorem db_lt (y : Nat) : y % 18446744073709551616 / 288230376151711744 < 64 := by omega
/-- The lowest bit. -/
def low : Nat → Nat → Nat
  | 0, _ => 0
  | f + 1, x => if x % 2 = 1 then 0 else low f (x / 2) + 1
theorem low_spec : ∀ (f x : Nat), 0 < x → x < 2 ^ f → ∃ m, x = 2 ^ low f x * (2 * m + 1) ∧ low f x < f
  | 0, x, h0, h1 => by simp at h1; omega
  | f + 1, x, h0, h1 => by
    by_cases h : x % 2 = 1
    · exact ⟨x / 2, by simp only [low, if_pos h]; omega, by simp only [low, if_pos h]; omega⟩
    · obtain ⟨m, hm, hl⟩ := low_spec f (x / 2) (by omega) (by rw [Nat.pow_succ] at h1; omega)
      refine ⟨m, ?_, by simp only [low, if_neg h]; omega⟩
      simp only [low, if_neg h, Nat.pow_succ]
      have : x = 2 * (x / 2) := by omega
      rw [this]
      have h2 : x / 2 = 2 ^ low f (x / 2) * (2 * m + 1) := hm
      have h3 : 2 * (x / 2) / 2 = x / 2 := by omega
      rw [h3]
      generalize low f (x / 2) = k at *
      rw [h2, Nat.mul_comm (2 ^ k) 2, Nat.mul_assoc]
theorem and_comp {j m : Nat} (h : m < 2 ^ j) : m &&& (2 ^ j - (m + 1)) = 0 := by
  apply Nat.eq_of_testBit_eq
  intro i
  rw [Nat.testBit_and, Nat.testBit_two_pow_sub_succ h, Nat.zero_testBit]
  cases m.testBit i <;> simp
theorem and_neg {k j m : Nat} (h : 2 * m + 1 < 2 ^ (j + 1)) : (2 ^ k * (2 * m + 1)) &&& (2 ^ (k + (j + 1)) - 2 ^ k * (2 * m + 1)) = 2 ^ k := by
  have hm : m < 2 ^ j := by rw [Nat.pow_succ] at h; omega
  have e : 2 ^ (k + (j + 1)) - 2 ^ k * (2 * m + 1) = 2 ^ k * (1 + 2 ^ 1 * (2 ^ j - (m + 1))) := by
    rw [Nat.pow_add, ← Nat.mul_sub]
    congr 1
    rw [Nat.pow_succ]
    omega
  have e2 : 2 * m + 1 = 1 + 2 ^ 1 * m := by omega
  have h1 := and_add (k := k) (a := 0) (c := 0) (b := 1 + 2 ^ 1 * m) (e := 1 + 2 ^ 1 * (2 ^ j - (m + 1))) (Nat.two_pow_pos _) (Nat.two_pow_pos _)
  have h2 := and_add (k := 1) (a := 1) (c := 1) (b := m) (e := 2 ^ j - (m + 1)) (by decide) (by decide)
  rw [and_comp hm] at h2
  rw [h2] at h1
  simp only [Nat.zero_add, Nat.and_self] at h1
  rw [e, e2, h1]
  simp
theorem low_bit {x : Nat} (h0 : 0 < x) (h1 : x < 18446744073709551616) : x &&& (18446744073709551616 - x) = 2 ^ low 64 x ∧ low 64 x < 64 ∧ x.testBit (low 64 x) = true ∧ ∀ j, j < low 64 x → x.testBit j = false := by
  obtain ⟨m, hm, hl⟩ := low_spec 64 x h0 h1
  generalize low 64 x = k at *
  obtain ⟨j, hj⟩ : ∃ j, k + (j + 1) = 64 := ⟨63 - k, by omega⟩
  have hlt : 2 * m + 1 < 2 ^ (j + 1) := by
    have : 2 ^ k * (2 * m + 1) < 2 ^ k * 2 ^ (j + 1) := by
      rw [← Nat.pow_add, hj, ← hm]
      exact h1
    exact Nat.lt_of_mul_lt_mul_left this
  have ha := and_neg (k := k) hlt
  rw [hj, ← hm] at ha
  refine ⟨ha, hl, ?_, fun i hi => ?_⟩
  · rw [hm, Nat.testBit_eq_decide_div_mod_eq, Nat.mul_div_cancel_left _ (Nat.two_pow_pos _)]
    simp
  · rw [hm, Nat.testBit_two_pow_mul]
    simp
    omega
/-- Where the lowest bit stands; 64: there is none. -/
def tz (x : Nat) : Nat := if x = 0 then 64 else low 64 x
theorem tz_n3 (k : Nat) : IntKind.u64.wrap ((2 : Int) ^ k * 285870213051353865) / 288230376151711744 = ((2 ^ k * 285870213051353865 % 18446744073709551616 / 288230376151711744 : Nat) : Int) := by
  have e : (2 : Int) ^ k * 285870213051353865 = ((2 ^ k * 285870213051353865 : Nat) : Int) := by
    rw [Int.natCast_mul]
    simp
  rw [e, IntKind.wrap_u64]
  generalize 2 ^ k * 285870213051353865 = y
  omega
theorem tz_facts {x : Nat} (hx : x < 18446744073709551616) (h0 : x ≠ 0) : ∃ k i : Nat, tz x = k ∧ k < 64 ∧ i < 64 ∧ dbTab.getD i 0 = k ∧ IntKind.u64.wrap (-(x : Int)) = ((18446744073709551616 - x : Nat) : Int) ∧ Go.bits .and .u64 (x : Int) ((18446744073709551616 - x : Nat) : Int) = (2 : Int) ^ k ∧ IntKind.u64.wrap ((2 : Int) ^ k * 285870213051353865) / 288230376151711744 = (i : Int) := by
  obtain ⟨hb, hl, -⟩ := low_bit (Nat.pos_of_ne_zero h0) hx
  refine ⟨low 64 x, _, if_neg h0, hl, db_lt (2 ^ low 64 x * 285870213051353865), db_at ⟨low 64 x, hl⟩, ?_, ?_, tz_n3 _⟩
  · rw [IntKind.wrap_u64]; omega
  · rw [and_u64 hx (by omega), hb]
    simp
set_option maxRecDepth 10000 in
theorem tz_calls {x : Nat} (hx : x < 18446744073709551616) {w : World} (ht : Tabs w) : Calls Tryd.prog 52 #[.int .u64 x] w fun e w' => e = .returned (.int .i64 (tz x)) ∧ w = w' := by
  by_cases h0 : x = 0
  · subst h0
    clear ht
    go_enter Tryd.func52, Tryd.ntmps52
    go_wp2
    go_ret
    exact ⟨rfl, rfl⟩
  · obtain ⟨k, i, ez, hkl, hi, hk, n1, n2, n3⟩ := tz_facts hx h0
    have hc := ht.2 _ hi
    rw [hk] at hc
    have hz : ((x : Int) == 0) = false := beq_eq_false_iff_ne.2 (by omega)
    rw [ez]
    clear hk ht ez
    generalize 18446744073709551616 - x = y at *
    go_enter Tryd.func52, Tryd.ntmps52
    go_wp2
    go_ret
    exact ⟨rfl, rfl⟩
end Go.Proofs.YtolifmpjbmekdaaDoor
