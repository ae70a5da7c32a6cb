/-
What the reference's reader of numbers comes to; conditions: none.
-/
import Derived.Test.YtlimgnpkbelmcaaNum
import Derived.Test.YtlimgnpkbelmcaaF18
namespace Go.Proofs.Ytlimgnpkbelmcaa.Pure
open Go.RowKit Go.Proofs.Ytlimgnpkbelmcaa.F Go.Proofs.YtlimgnpkbelmcaaW.PrintWords Go.Proofs.YtlimgnpkbelmcaaW.PrintLast Go.Proofs.YtlimgnpkbelmcaaW.PrintMore Go.Proofs.Ytlimgnpkbelmcaa.Math
/-! ### The reference's reader -/
def ref_told (l : List UInt8) : Got → ByteArray × Int × Int
  | .err e => (str l, (e : Int), 0)
  | .got n i => (str (l.drop i), 0, (n : Int))
theorem ref_fail_ok (s : ByteArray) (e : Int) : keywayref03_R_fail.f s 0 e = some (s, e) := by unfold keywayref03_R_fail.f; rw [if_pos rfl]
theorem ref_reader_dec (most : Nat) (l : List UInt8) : ∀ d i acc : Nat, i + d = 10 → i ≤ l.length → acc < 128 ^ i →
    Ev (fun k => keywayref03_R_Num.l0 k (most : Int) (acc : Int) (i : Int) (str l) 0) (ref_told l (dec most l d i acc))
  | 0, i, acc, hi, _, _ => by
    refine Ev.step (f := fun _ => some (ref_told l (dec most l 0 i acc))) (fun k => ?_) (Ev.now _)
    simp only [keywayref03_R_Num.l0]
    rw [if_neg (by omega), ref_fail_ok]
    rfl
  | d + 1, i, acc, hi, hl, ha => by
    by_cases h : i < l.length
    · have hb := l[i].toNat_lt
      have hbt := bt_str l i h
      have hwb : IntKind.u64.wrap (l[i].toNat : Int) = (l[i].toNat : Int) := wrap_u64 (by omega) (by omega)
      have hw7 : IntKind.u64.wrap (wrap64 (7 * (i : Int))) = ((7 * i : Nat) : Int) := by
        have : wrap64 (7 * (i : Int)) = ((7 * i : Nat) : Int) := by unfold wrap64; omega
        rw [this, wrap_u64 (by omega) (by omega)]
      have hw1 : wrap64 ((i : Int) + 1) = ((i + 1 : Nat) : Int) := by unfold wrap64; omega
      have key : Ev (fun k => keywayref03_R_Num.j1 k (most : Int) (acc : Int) (i : Int) (l[i].toNat : Int) (decide ((i = 9 ∧ 1 < l[i].toNat) ∨ (0 < i ∧ l[i].toNat = 0))) (str l) 0) (ref_told l (dec most l (d + 1) i acc)) := by
        by_cases hbad : (i = 9 ∧ 1 < l[i].toNat) ∨ (0 < i ∧ l[i].toNat = 0)
        · refine Ev.step (f := fun _ => some (ref_told l (dec most l (d + 1) i acc))) (fun k => ?_) (Ev.now _)
          simp only [keywayref03_R_Num.j1]
          rw [if_pos (decide_eq_true hbad), ref_fail_ok]
          simp only [dec, dif_pos h, if_pos hbad]
          rfl
        · have hx : l[i].toNat % 128 < 128 := Nat.mod_lt _ (by decide)
          have h9 : i = 9 → l[i].toNat % 128 ≤ 1 := fun e => by
            have : ¬ 1 < l[i].toNat := fun hh => hbad (.inl ⟨e, hh⟩)
            omega
          obtain ⟨hs, hlt⟩ := shl_seven (l[i].toNat % 128) i (by omega) hx h9
          have hp : 128 ^ i ≤ 128 ^ 9 := Nat.pow_le_pow_right (by decide) (by omega)
          have hsum : acc + l[i].toNat % 128 * 128 ^ i < 18446744073709551616 := by
            by_cases h9' : i = 9
            · have h3 : l[i].toNat % 128 * 128 ^ i ≤ 1 * 128 ^ i := Nat.mul_le_mul (h9 h9') (Nat.le_refl _)
              omega
            · have h3 := acc_next (b := l[i].toNat) ha
              have h4 : 128 ^ (i + 1) ≤ 128 ^ 9 := Nat.pow_le_pow_right (by decide) (by omega)
              omega
          have hm : Int.tmod (l[i].toNat : Int) 128 = ((l[i].toNat % 128 : Nat) : Int) := by rw [Int.tmod_eq_emod_of_nonneg (by omega)]; omega
          have hor : IntKind.u64.wrap ((acc : Int) + ((l[i].toNat % 128 * 128 ^ i : Nat) : Int)) = ((acc + l[i].toNat % 128 * 128 ^ i : Nat) : Int) := by
            rw [wrap_u64 (by omega) (by omega)]; omega
          by_cases hlow : l[i].toNat < 128
          · refine Ev.step (f := fun _ => some (ref_told l (dec most l (d + 1) i acc))) (fun k => ?_) (Ev.now _)
            simp only [keywayref03_R_Num.j1]
            rw [if_neg (by simpa using hbad), hw7, if_pos (by omega), if_pos (by omega), hm, hs, hor]
            simp only [dec, dif_pos h, if_neg hbad, if_pos hlow]
            by_cases hm : most < acc + l[i].toNat % 128 * 128 ^ i
            · rw [if_pos (by omega), if_pos hm, ref_fail_ok]
              rfl
            · rw [if_neg (by omega), if_neg hm, hw1, if_pos (by omega), str_size, if_pos (by omega), Int.toNat_natCast, extract_rest]
              rfl
          · have ih := ref_reader_dec most l d (i + 1) (acc + l[i].toNat % 128 * 128 ^ i) (by omega) (by omega) (acc_next ha)
            have e : dec most l (d + 1) i acc = dec most l d (i + 1) (acc + l[i].toNat % 128 * 128 ^ i) := by
              simp only [dec, dif_pos h, if_neg hbad, if_neg hlow]
            rw [e]
            refine Ev.step (fun k => ?_) ih
            simp only [keywayref03_R_Num.j1]
            rw [if_neg (by simpa using hbad), hw7, if_pos (by omega), if_neg (by omega), hm, hs, hor, hw1]
      refine Ev.step (fun k => ?_) key
      simp only [keywayref03_R_Num.l0]
      rw [if_pos (by omega), str_size, if_neg (by omega), if_pos (by omega), if_pos (by omega), hbt, hwb]
      by_cases hi9 : i = 9
      · rw [if_pos (by omega)]
        by_cases h1 : 1 < l[i].toNat
        · rw [if_pos (by omega), decide_eq_true (.inl ⟨hi9, h1⟩)]
        · rw [if_neg (by omega), if_pos (by omega)]
          congr 1
          by_cases hz : l[i].toNat = 0
          · rw [decide_eq_true (.inr ⟨by omega, hz⟩)]; simp [hz]
          · rw [decide_eq_false (by omega)]; simp; omega
      · rw [if_neg (by omega)]
        by_cases h0 : 0 < i
        · rw [if_pos (by omega)]
          congr 1
          by_cases hz : l[i].toNat = 0
          · rw [decide_eq_true (.inr ⟨by omega, hz⟩)]; simp [hz]
          · rw [decide_eq_false (by omega)]; simp; omega
        · rw [if_neg (by omega), decide_eq_false (by omega)]
    · have hil : i = l.length := by omega
      refine Ev.step (f := fun _ => some (ref_told l (dec most l (d + 1) i acc))) (fun k => ?_) (Ev.now _)
      simp only [keywayref03_R_Num.l0]
      rw [if_pos (by omega), str_size, if_pos (by omega), ref_fail_ok]
      simp only [dec, dif_neg h]
      rfl
theorem ref_reader_Num_tells (most : Nat) (l : List UInt8) : Ev (fun k => keywayref03_R_Num.f k (str l) 0 (most : Int)) (ref_told l (dec most l 10 0 0)) := by
  unfold keywayref03_R_Num.f
  refine few_rows rfl ?_
  exact ref_reader_dec most l 10 0 0 rfl (Nat.zero_le _) (by decide)
end Go.Proofs.Ytlimgnpkbelmcaa.Pure
