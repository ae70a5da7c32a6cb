/-
How many bits of a number are 1: the sums by which the library counts them; conditions: the number has 64 bits.
-/
namespace Go.Proofs.YtolifmpjbmekdaaDoor
/-- A number of digits of w bits, the lowest first. -/
def V (w : Nat) : Nat → (Nat → Nat) → Nat
  | 0, _ => 0
  | n + 1, d => d 0 + 2 ^ w * V w n (fun i => d (i + 1))
theorem V_lt (w : Nat) : ∀ (n : Nat) (d : Nat → Nat), (∀ i, d i < 2 ^ w) → V w n d < 2 ^ (w * n)
  | 0, _, _ => by simp [V]
  | n + 1, d, h => by
    have ih := V_lt w n (fun i => d (i + 1)) fun i => h (i + 1)
    have h0 := h 0
    simp only [V, Nat.mul_succ, Nat.pow_add]
    have h1 : 2 ^ w * V w n (fun i => d (i + 1)) ≤ 2 ^ w * (2 ^ (w * n) - 1) := Nat.mul_le_mul_left _ (by omega)
    rw [Nat.mul_sub, Nat.mul_one] at h1
    have h2 : 2 ^ w ≤ 2 ^ w * 2 ^ (w * n) := Nat.le_mul_of_pos_right _ (Nat.two_pow_pos _)
    rw [Nat.mul_comm (2 ^ (w * n))]
    omega
theorem and_add {k a b c e : Nat} (ha : a < 2 ^ k) (hc : c < 2 ^ k) : (a + 2 ^ k * b) &&& (c + 2 ^ k * e) = (a &&& c) + 2 ^ k * (b &&& e) := by
  have hac : a &&& c < 2 ^ k := Nat.lt_of_le_of_lt Nat.and_le_left ha
  apply Nat.eq_of_testBit_eq
  intro j
  rw [Nat.testBit_and, Nat.add_comm a, Nat.add_comm c, Nat.add_comm (a &&& c), Nat.testBit_two_pow_mul_add _ ha, Nat.testBit_two_pow_mul_add _ hc, Nat.testBit_two_pow_mul_add _ hac]
  split <;> simp
theorem V_and (w : Nat) : ∀ (n : Nat) (d : Nat → Nat), (∀ i, d i < 2 ^ w) → V w (2 * n) d &&& V (2 * w) n (fun _ => 2 ^ w - 1) = V (2 * w) n (fun i => d (2 * i))
  | 0, _, _ => by simp [V]
  | n + 1, d, h => by
    have ih := V_and w n (fun i => d (i + 2)) fun i => h (i + 2)
    have h0 := h 0
    have h1 := h 1
    have hp : 2 ^ (2 * w) = 2 ^ w * 2 ^ w := by rw [Nat.two_mul, Nat.pow_add]
    have hl : d 0 + 2 ^ w * d 1 < 2 ^ (2 * w) := by
      have : 2 ^ w * d 1 ≤ 2 ^ w * (2 ^ w - 1) := Nat.mul_le_mul_left _ (by omega)
      rw [Nat.mul_sub, Nat.mul_one] at this
      have : 2 ^ w ≤ 2 ^ w * 2 ^ w := Nat.le_mul_of_pos_right _ (Nat.two_pow_pos _)
      omega
    have hm : 2 ^ w - 1 < 2 ^ (2 * w) := by
      have : 2 ^ w ≤ 2 ^ w * 2 ^ w := Nat.le_mul_of_pos_right _ (Nat.two_pow_pos _)
      have := Nat.two_pow_pos w
      omega
    have e : V w (2 * (n + 1)) d = (d 0 + 2 ^ w * d 1) + 2 ^ (2 * w) * V w (2 * n) (fun i => d (i + 2)) := by
      show d 0 + 2 ^ w * (d 1 + 2 ^ w * V w (2 * n) (fun i => d (i + 1 + 1))) = _
      rw [hp, Nat.mul_add, Nat.mul_assoc, Nat.add_assoc]
    have em : V (2 * w) (n + 1) (fun _ => 2 ^ w - 1) = (2 ^ w - 1) + 2 ^ (2 * w) * V (2 * w) n (fun _ => 2 ^ w - 1) := rfl
    rw [e, em, and_add hl hm, ih, Nat.and_two_pow_sub_one_eq_mod]
    have hmod : (d 0 + 2 ^ w * d 1) % 2 ^ w = d 0 := by rw [Nat.add_mul_mod_self_left, Nat.mod_eq_of_lt h0]
    rw [hmod]
    rfl
theorem V_shift (w n : Nat) (d : Nat → Nat) (h : d 0 < 2 ^ w) : V w (n + 1) d >>> w = V w n (fun i => d (i + 1)) := by
  rw [Nat.shiftRight_eq_div_pow]
  show (d 0 + 2 ^ w * _) / 2 ^ w = _
  rw [Nat.add_mul_div_left _ _ (Nat.two_pow_pos _), Nat.div_eq_of_lt h, Nat.zero_add]
theorem V_more (w : Nat) : ∀ (n : Nat) (d : Nat → Nat), d n = 0 → V w (n + 1) d = V w n d
  | 0, d, h => by simp [V, h]
  | n + 1, d, h => by
    have ih := V_more w n (fun i => d (i + 1)) h
    show d 0 + 2 ^ w * V w (n + 1) (fun i => d (i + 1)) = d 0 + 2 ^ w * V w n (fun i => d (i + 1))
    rw [ih]
theorem V_shift' (w n : Nat) (d : Nat → Nat) (h : ∀ i, d i < 2 ^ w) (hz : ∀ i, n ≤ i → d i = 0) : V w n d >>> w = V w n (fun i => d (i + 1)) := by
  cases n with
  | zero => simp [V]
  | succ n =>
    rw [V_shift w n d (h 0), V_more w n (fun i => d (i + 1)) (hz _ (Nat.le_refl _))]
theorem V_add (w : Nat) : ∀ (n : Nat) (d e : Nat → Nat), V w n d + V w n e = V w n (fun i => d i + e i)
  | 0, _, _ => rfl
  | n + 1, d, e => by
    have ih := V_add w n (fun i => d (i + 1)) (fun i => e (i + 1))
    simp only [V]
    rw [← ih, Nat.mul_add]
    omega
theorem V_congr (w : Nat) : ∀ (n : Nat) (d e : Nat → Nat), (∀ i, i < n → d i = e i) → V w n d = V w n e
  | 0, _, _, _ => rfl
  | n + 1, d, e, h => by
    simp only [V]
    rw [h 0 (by omega), V_congr w n (fun i => d (i + 1)) (fun i => e (i + 1)) fun i hi => h (i + 1) (by omega)]
def bitN (x i : Nat) : Nat := if i < 64 ∧ x.testBit i then 1 else 0
theorem V_bits : ∀ (n x : Nat), x < 2 ^ n → V 1 n (fun i => (x.testBit i).toNat) = x
  | 0, x, h => by simp at h; simp [V, h]
  | n + 1, x, h => by
    have ih := V_bits n (x / 2) (by rw [Nat.pow_succ] at h; omega)
    simp only [V, Nat.testBit_succ, Nat.testBit_zero]
    rw [ih]
    rcases Nat.mod_two_eq_zero_or_one x with h | h <;> simp [h] <;> omega
theorem V_bits64 {x : Nat} (h : x < 2 ^ 64) : V 1 64 (bitN x) = x := by
  rw [← V_bits 64 x h]
  refine V_congr _ _ _ _ fun i hi => ?_
  rw [V_bits 64 x h]
  unfold bitN
  cases x.testBit i <;> simp [hi]
/-- How many of the first bits are 1. -/
def cnt : Nat → (Nat → Nat) → Nat
  | 0, _ => 0
  | n + 1, d => d 0 + cnt n (fun i => d (i + 1))
def pop (x : Nat) : Nat := cnt 64 (bitN x)
/-- The sums of neighbours. -/
def pair (d : Nat → Nat) : Nat → Nat := fun i => d (2 * i + 1) + d (2 * i)
theorem stage {w n : Nat} {d : Nat → Nat} {M : Nat} (hM : M = V (2 * w) n (fun _ => 2 ^ w - 1)) (h : ∀ i, d i < 2 ^ w) (hz : ∀ i, 2 * n ≤ i → d i = 0) : ((V w (2 * n) d >>> w) &&& M) + (V w (2 * n) d &&& M) = V (2 * w) n (pair d) := by
  subst hM
  rw [V_shift' w (2 * n) d h hz, V_and w n _ fun i => h (i + 1), V_and w n d h, V_add]
  rfl
theorem pair_le {d : Nat → Nat} {m : Nat} (h : ∀ i, d i ≤ m) : ∀ i, pair d i ≤ 2 * m := fun i => by
  have h1 := h (2 * i + 1)
  have h2 := h (2 * i)
  unfold pair
  omega
theorem pair_zero {d : Nat → Nat} {n : Nat} (h : ∀ i, 2 * n ≤ i → d i = 0) : ∀ i, n ≤ i → pair d i = 0 := fun i hi => by
  unfold pair
  rw [h _ (by omega), h _ (by omega)]
theorem cnt_pair : ∀ (n : Nat) (d : Nat → Nat), cnt n (pair d) = cnt (2 * n) d
  | 0, _ => rfl
  | n + 1, d => by
    have ih := cnt_pair n (fun i => d (i + 2))
    have e : (fun i => pair d (i + 1)) = pair (fun i => d (i + 2)) := by
      funext i
      show d (2 * (i + 1) + 1) + d (2 * (i + 1)) = d (2 * i + 1 + 2) + d (2 * i + 2)
      rfl
    show pair d 0 + cnt n (fun i => pair d (i + 1)) = d 0 + (d 1 + cnt (2 * n) (fun i => d (i + 2)))
    rw [e, ih]
    show d 1 + d 0 + _ = _
    omega
/-- The library's sums. -/
def popSums (x : Nat) : Nat :=
  let a := ((x >>> 1) &&& 6148914691236517205) + (x &&& 6148914691236517205)
  let b := ((a >>> 2) &&& 3689348814741910323) + (a &&& 3689348814741910323)
  let c := ((b >>> 4) + b) &&& 1085102592571150095
  let d := c + (c >>> 8)
  let e := d + (d >>> 16)
  let f := e + (e >>> 32)
  f &&& 127
theorem bitN_le (x i : Nat) : bitN x i ≤ 1 := by unfold bitN; split <;> omega
theorem popSums_eq {x : Nat} (h : x < 2 ^ 64) :
    ((x >>> 1) &&& 6148914691236517205) + (x &&& 6148914691236517205) < 2 ^ 64 ∧ popSums x = pop x := by
  have hb := V_bits64 h
  have d1 : ∀ i, bitN x i < 2 ^ 1 := fun i => by have := bitN_le x i; omega
  have z1 : ∀ i, 2 * 32 ≤ i → bitN x i = 0 := fun i hi => by unfold bitN; rw [if_neg (by omega)]
  have s1 := stage (w := 1) (n := 32) (M := 6148914691236517205) (by decide) d1 z1
  rw [show V 1 (2 * 32) (bitN x) = x from hb] at s1
  have l2 : ∀ i, pair (bitN x) i ≤ 2 := pair_le (bitN_le x)
  have d2 : ∀ i, pair (bitN x) i < 2 ^ (2 * 1) := fun i => by have := l2 i; omega
  have z2 := pair_zero z1
  have s2 := stage (w := 2) (n := 16) (M := 3689348814741910323) (by decide) d2 z2
  have l3 : ∀ i, pair (pair (bitN x)) i ≤ 4 := pair_le l2
  have z3 := pair_zero (n := 16) z2
  have d3 : ∀ i, pair (pair (bitN x)) i < 2 ^ 4 := fun i => by have := l3 i; omega
  refine ⟨?_, ?_⟩
  · rw [s1]; exact V_lt 2 32 _ d2
  unfold popSums
  simp only
  rw [s1]
  rw [show V (2 * 1) 32 (pair (bitN x)) = V 2 (2 * 16) (pair (bitN x)) from rfl, s2]
  generalize hD : pair (pair (bitN x)) = D at *
  have s3 : (V 4 16 D >>> 4) + V 4 16 D = V 4 (2 * 8) (fun i => D (i + 1) + D i) := by
    rw [V_shift' 4 16 D d3 z3, V_add]
  rw [show V (2 * 2) 16 D = V 4 16 D from rfl, s3, show (1085102592571150095 : Nat) = V (2 * 4) 8 (fun _ => 2 ^ 4 - 1) by decide, V_and 4 8 _ fun i => by have := l3 i; have := l3 (i + 1); omega]
  generalize hE : (fun i => D (2 * i + 1) + D (2 * i)) = E
  have hE' : E = pair D := hE.symm
  have lE : ∀ i, E i ≤ 8 := by rw [hE']; exact pair_le l3
  have zE : ∀ i, 8 ≤ i → E i = 0 := by rw [hE']; exact pair_zero (n := 8) z3
  have t1 : V (2 * 4) 8 E + V (2 * 4) 8 E >>> 8 = V 8 8 (fun i => E i + E (i + 1)) := by
    rw [show V (2 * 4) 8 E = V 8 8 E from rfl, V_shift' 8 8 E (fun i => by have := lE i; omega) zE, V_add]
  rw [t1]
  generalize hG : (fun i => E i + E (i + 1)) = G
  have lG : ∀ i, G i ≤ 16 := fun i => by rw [← hG]; have := lE i; have := lE (i + 1); show E i + E (i + 1) ≤ 16; omega
  have zG : ∀ i, 8 ≤ i → G i = 0 := fun i hi => by rw [← hG]; show E i + E (i + 1) = 0; rw [zE i hi, zE (i + 1) (by omega)]
  have t2 : V 8 8 G + V 8 8 G >>> 16 = V 8 8 (fun i => G i + G (i + 2)) := by
    rw [show (16 : Nat) = 8 + 8 from rfl, Nat.shiftRight_add, V_shift' 8 8 G (fun i => by have := lG i; omega) zG, V_shift' 8 8 _ (fun i => by have := lG (i + 1); show G (i + 1) < _; omega) (fun i hi => zG _ (by omega)), V_add]
  rw [t2]
  generalize hH : (fun i => G i + G (i + 2)) = H
  have lH : ∀ i, H i ≤ 32 := fun i => by rw [← hH]; have := lG i; have := lG (i + 2); show G i + G (i + 2) ≤ 32; omega
  have zH : ∀ i, 8 ≤ i → H i = 0 := fun i hi => by rw [← hH]; show G i + G (i + 2) = 0; rw [zG i hi, zG (i + 2) (by omega)]
  have t3 : V 8 8 H + V 8 8 H >>> 32 = V 8 8 (fun i => H i + H (i + 4)) := by
    rw [show (32 : Nat) = 8 + (8 + (8 + 8)) from rfl, Nat.shiftRight_add, Nat.shiftRight_add, Nat.shiftRight_add, V_shift' 8 8 H (fun i => by have := lH i; omega) zH, V_shift' 8 8 _ (fun i => by have := lH (i + 1); show H (i + 1) < _; omega) (fun i hi => zH _ (by omega)), V_shift' 8 8 _ (fun i => by have h := lH (i + 1 + 1); show H (i + 1 + 1) < _; omega) (fun i hi => zH _ (by omega)), V_shift' 8 8 _ (fun i => by have h := lH (i + 1 + 1 + 1); show H (i + 1 + 1 + 1) < _; omega) (fun i hi => zH _ (by omega)), V_add]
  rw [t3, show (127 : Nat) = 2 ^ 7 - 1 from rfl, Nat.and_two_pow_sub_one_eq_mod]
  have hfin : H 0 + H (0 + 4) = pop x := by
    have e1 : pop x = cnt 8 E := by
      rw [hE', ← hD]
      unfold pop
      rw [cnt_pair 8, cnt_pair 16, cnt_pair 32]
    rw [e1, ← hH, ← hG]
    simp only [cnt, Nat.zero_add, Nat.reduceAdd]
    omega
  have hv : V 8 8 (fun i => H i + H (i + 4)) = (H 0 + H (0 + 4)) + 2 ^ 7 * (2 * V 8 7 (fun i => H (i + 1) + H (i + 1 + 4))) := by
    show (H 0 + H (0 + 4)) + 2 ^ 8 * V 8 7 (fun i => H (i + 1) + H (i + 1 + 4)) = _
    omega
  have hl0 := lH 0
  have hl4 := lH 4
  rw [hv, Nat.add_mul_mod_self_left, Nat.mod_eq_of_lt (by show H 0 + H 4 < 128; omega), hfin]
end Go.Proofs.YtolifmpjbmekdaaDoor
