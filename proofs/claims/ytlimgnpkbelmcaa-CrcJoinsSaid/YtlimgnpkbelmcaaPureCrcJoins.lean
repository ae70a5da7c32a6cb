/-
The pure statement of CrcJoins: for every two texts the checks of both come to that of the joined text; conditions: each text has at most 140737488351232 bytes.
-/
import Derived.Test.YtlimgnpkbelmcaaOf
namespace Go.Proofs.Ytlimgnpkbelmcaa.Pure
open Go.RowKit Go.Proofs.Ytlimgnpkbelmcaa.F Go.Proofs.YtlimgnpkbelmcaaW.PrintWords Go.Proofs.YtlimgnpkbelmcaaW.PrintLast Go.Proofs.Ytlimgnpkbelmcaa.Math

theorem and32 {a b : Nat} (ha : a < 4294967296) (hb : b < 4294967296) : Go.bits .and .u32 (a : Int) (b : Int) = ((a &&& b : Nat) : Int) := by
  have hp : (2 : Nat) ^ IntKind.u32.bits = 4294967296 := rfl
  have hx : a &&& b < 4294967296 := Nat.and_lt_two_pow (n := 32) a hb
  simp only [Go.bits, BitVec.ofInt_natCast, BitVec.toNat_and, BitVec.toNat_ofNat, hp, Nat.mod_eq_of_lt ha, Nat.mod_eq_of_lt hb]
  rw [IntKind.wrap_u32]
  omega
theorem and_bit (a n : Nat) : (a &&& 2 ^ n = 0) ↔ a / 2 ^ n % 2 ≠ 1 := by
  have ht : (a.testBit n = true) ↔ a / 2 ^ n % 2 = 1 := by rw [Nat.testBit_eq_decide_div_mod_eq]; simp
  constructor
  · intro h hq
    have h2 := congrArg (fun z => Nat.testBit z n) h
    simp only [Nat.testBit_and, Nat.testBit_two_pow_self, Bool.and_true, Nat.zero_testBit] at h2
    rw [ht.2 hq] at h2
    exact absurd h2 (by decide)
  · intro h
    apply Nat.eq_of_testBit_eq
    intro i
    rw [Nat.testBit_and, Nat.zero_testBit]
    by_cases hi : n = i
    · subst hi
      have : a.testBit n = false := by cases hb : a.testBit n with | true => exact absurd (ht.1 hb) h | false => rfl
      rw [this]; rfl
    · rw [Nat.testBit_two_pow_of_ne hi, Bool.and_false]

/-! ### times -/
theorem times_loop : ∀ (n : Nat) (a b o : Nat), n ≤ 32 → a < 4294967296 → b < 4294967296 → o < 4294967296 →
    Ev (fun k => crc_times.l0 k (a : Int) (b : Int) (o : Int) ((2 ^ n / 2 : Nat) : Int)) ((prodN n a b o : Nat) : Int)
  | 0, a, b, o, _, _, _, _ => by
    refine Ev.step (f := fun _ => some (o : Int)) (fun k => ?_) (Ev.now _)
    simp only [crc_times.l0]
    rw [show ((2 ^ 0 / 2 : Nat) : Int) = 0 from rfl]
    simp
  | n + 1, a, b, o, hn, ha, hb, ho => by
    have hp : 2 ^ (n + 1) / 2 = 2 ^ n := by rw [Nat.pow_succ]; omega
    have hp1 : 0 < 2 ^ n := Nat.two_pow_pos n
    have hp2 : 2 ^ n < 4294967296 := Nat.lt_of_lt_of_le (Nat.pow_lt_pow_succ (a := 2) (n := n) (by decide)) (Nat.pow_le_pow_right (n := 2) (by decide) (by omega : n + 1 ≤ 32))
    have hh : ((2 ^ n : Nat) : Int) / 2 = ((2 ^ n / 2 : Nat) : Int) := by omega
    have hb1 : Go.bits .and .u32 (b : Int) 1 = ((b % 2 : Nat) : Int) := by
      rw [show (1 : Int) = ((1 : Nat) : Int) from rfl, and32 hb (by decide), Nat.and_one_is_mod]
    have hd : (b : Int) / 2 = ((b / 2 : Nat) : Int) := by omega
    have hx : o ^^^ b < 4294967296 := Nat.xor_lt_two_pow (n := 32) ho hb
    have ho2 : (if a / 2 ^ n % 2 = 1 then o ^^^ b else o) < 4294967296 := by split <;> assumption
    refine Ev.step (f := fun k => crc_times.l0 k (a : Int) (bit1 b : Int) ((if a / 2 ^ n % 2 = 1 then o ^^^ b else o : Nat) : Int) ((2 ^ n / 2 : Nat) : Int)) (fun k => ?_) (times_loop n a (bit1 b) _ (by omega) ha (bit1_lt hb) ho2)
    simp only [crc_times.l0]
    rw [hp, if_neg (by omega), and32 ha hp2, hb1, hh, hd, show (3988292384 : Int) = ((3988292384 : Nat) : Int) from rfl, xor32 (by omega) (by decide), xor32 ho hb]
    have hc := and_bit a n
    unfold bit1
    by_cases hz : a &&& 2 ^ n = 0
    · rw [if_pos (by omega), if_neg (hc.1 hz)]
      by_cases hq : b % 2 = 1
      · rw [if_pos (by omega), if_pos hq]
      · rw [if_neg (by omega), if_neg hq, Nat.xor_zero]
    · have h1 : a / 2 ^ n % 2 = 1 := by
        refine Classical.byContradiction fun h => hz (hc.2 h)
      rw [if_neg (by omega), if_pos h1]
      by_cases hq : b % 2 = 1
      · rw [if_pos (by omega), if_pos hq]
      · rw [if_neg (by omega), if_neg hq, Nat.xor_zero]
theorem times_tells {a b : Nat} (ha : a < 4294967296) (hb : b < 4294967296) : Ev (fun k => crc_times.f k (a : Int) (b : Int)) ((prod a b : Nat) : Int) :=
  times_loop 32 a b 0 (by decide) ha hb (by decide)
theorem times_powers (m : Nat) {b : Nat} (hb : b < 4294967296) : Ev (fun k => crc_times.f k (bitN m 2147483648 : Int) (b : Int)) ((bitN m b : Nat) : Int) := by
  have h := times_tells (bitN_lt m (c := 2147483648) (by decide)) hb
  rw [prod_power m hb] at h
  exact h

/-! ### power and Join -/
theorem and1_i64 (n : Nat) (h : n < 9223372036854775808) : Go.bits .and .i64 (n : Int) 1 = ((n % 2 : Nat) : Int) := by
  have h1 := bits_mask .i64 63 (by decide) (fun x h0 h1 => by rw [IntKind.wrap_i64]; omega) 1 (by decide) (n : Int) (by omega) (by omega)
  rw [show ((2 : Int) ^ 1 - 1) = 1 from rfl] at h1
  rw [h1]
  omega
theorem power_loop : ∀ (f n p q : Nat), n ≤ f → n < 9223372036854775808 →
    Ev (fun k => crc_power.l0 k (n : Int) (bitN p 2147483648 : Int) (bitN q 2147483648 : Int)) ((bitN (p + q * n) 2147483648 : Nat) : Int)
  | f, 0, p, q, _, _ => by
    refine Ev.step (f := fun _ => some (bitN p 2147483648 : Int)) (fun k => ?_) (Ev.now _)
    simp only [crc_power.l0]
    rw [if_neg (by omega)]
  | 0, n + 1, _, _, h, _ => by omega
  | f + 1, n + 1, p, q, hf, hn => by
    have hq := bitN_lt q (c := 2147483648) (by decide)
    have hd : (((n + 1 : Nat) : Int)) / 2 = (((n + 1) / 2 : Nat) : Int) := by omega
    have sq := times_powers q hq
    rw [← bitN_add] at sq
    by_cases h1 : (n + 1) % 2 = 1
    · have ih := power_loop f ((n + 1) / 2) (q + p) (q + q) (by omega) (by omega)
      have e : q + p + (q + q) * ((n + 1) / 2) = p + q * (n + 1) := by
        have : n + 1 = 2 * ((n + 1) / 2) + 1 := by omega
        generalize (n + 1) / 2 = m at this ⊢
        rw [this, ← Nat.two_mul, Nat.mul_add, Nat.mul_one, Nat.mul_assoc, ← Nat.mul_assoc q 2, Nat.mul_comm q 2, Nat.mul_assoc]
        omega
      rw [e] at ih
      have pr := times_powers p hq
      rw [← bitN_add] at pr
      refine Ev.step (f := fun k => (crc_times.f k (bitN p 2147483648 : Int) (bitN q 2147483648 : Int)).bind fun t116 => ((crc_times.f k (bitN q 2147483648 : Int) (bitN q 2147483648 : Int)).bind fun t117 => (crc_power.l0 k (((n + 1) / 2 : Nat) : Int) t116 t117))) (fun k => ?_) ?_
      · simp only [crc_power.l0]
        rw [if_pos (by omega), and1_i64 _ hn, if_pos (by omega), hd]
      · exact Ev.bind pr (Ev.bind sq ih)
    · have ih := power_loop f ((n + 1) / 2) p (q + q) (by omega) (by omega)
      have e : p + (q + q) * ((n + 1) / 2) = p + q * (n + 1) := by
        have : n + 1 = 2 * ((n + 1) / 2) := by omega
        generalize (n + 1) / 2 = m at this ⊢
        rw [this, ← Nat.two_mul, Nat.mul_assoc, ← Nat.mul_assoc q 2, Nat.mul_comm q 2, Nat.mul_assoc]
      rw [e] at ih
      refine Ev.step (f := fun k => (crc_times.f k (bitN q 2147483648 : Int) (bitN q 2147483648 : Int)).bind fun t118 => (crc_power.l0 k (((n + 1) / 2 : Nat) : Int) (bitN p 2147483648 : Int) t118)) (fun k => ?_) ?_
      · simp only [crc_power.l0]
        rw [if_pos (by omega), and1_i64 _ hn, if_neg (by omega), hd]
      · exact Ev.bind sq ih
theorem power_tells (n : Nat) (hn : n < 9223372036854775808) : Ev (fun k => crc_power.f k (n : Int)) ((bitN (8 * n) 2147483648 : Nat) : Int) := by
  have h := power_loop n n 0 8 (Nat.le_refl _) hn
  rw [Nat.zero_add] at h
  have e : bitN 8 2147483648 = 8388608 := by decide
  rw [e] at h
  exact h
theorem join_tells {a b : Nat} (ha : a < 4294967296) (hb : b < 4294967296) (n : Nat) (hn : n < 9223372036854775808) :
    Ev (fun k => crc_Join.f k (a : Int) (b : Int) (n : Int)) ((bitN (8 * n) a ^^^ (if n = 0 then 0 else b) : Nat) : Int) := by
  unfold crc_Join.f
  by_cases h : n = 0
  · subst h
    refine Ev.congr (f := fun _ => some (a : Int)) (fun k => ?_) ?_
    · rw [if_pos (by omega)]
    · rw [if_pos rfl, Nat.xor_zero]
      exact Ev.now _
  · rw [if_neg h]
    refine Ev.congr (f := fun k => (crc_power.f k (n : Int)).bind fun t119 => ((crc_times.f k t119 (a : Int)).bind fun t120 => (some (Go.bits .xor .u32 t120 (b : Int))))) (fun k => ?_) ?_
    · rw [if_neg (by omega)]
    · refine Ev.bind (power_tells n hn) (Ev.bind (times_powers (8 * n) ha) ?_)
      rw [xor32 (bitN_lt _ ha) hb]
      exact Ev.now _
theorem check_nil : check [] = 0 := by decide

theorem CrcJoins : keywaylaw01_CrcJoins.Pure := by
  intro s t _ ht
  have h6 := few_size s
  have h7 := few_size t
  have e : (few s ++ few t).data.toList = (few s).data.toList ++ (few t).data.toList := by simp
  have h8 : (few s).size + (few t).size ≤ 9223372036854775807 := by omega
  have hl : (few t).data.toList.length = (few t).size := by simp
  have hj : (bitN (8 * (few t).size) (check (few s).data.toList) ^^^ (if (few t).size = 0 then 0 else check (few t).data.toList)) = check (few s ++ few t).data.toList := by
    rw [e, check_join, hl]
    by_cases h0 : (few t).size = 0
    · rw [if_pos h0]
      have : (few t).data.toList = [] := List.eq_nil_of_length_eq_zero (by rw [hl, h0])
      rw [this, check_nil]
    · rw [if_neg h0]
  have j1 := join_tells (check_lt (few s).data.toList) (check_lt (few t).data.toList) (few t).size (by omega)
  rw [hj] at j1
  have hw : wrap64 (-(t.size : Int)) ≤ 0 := by unfold wrap64; omega
  refine Ev.rounds ?_
  unfold keywaylaw01_CrcJoins.f
  simp only [awake_tells, few_tells, Option.bind_some, if_true, crc_Of_tells (s := few s) (by omega), crc_Of_tells (s := few t) (by omega), if_pos h8]
  refine Ev.bind j1 (Ev.bind (ref_Of_tells (s := few s ++ few t) (by rw [ByteArray.size_append]; omega)) ?_)
  simp only [if_true]
  refine Ev.bind (a := (check (few s).data.toList : Int)) ?_ (Ev.step (f := fun _ => some true) (fun _ => by simp) (Ev.now _))
  unfold crc_Join.f
  exact Ev.congr (f := fun _ => some _) (fun k => by rw [if_pos hw]) (Ev.now _)

end Go.Proofs.Ytlimgnpkbelmcaa.Pure
