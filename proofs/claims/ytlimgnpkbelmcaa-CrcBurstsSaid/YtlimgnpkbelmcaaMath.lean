/-
Plain mathematics of the check CRC-32 over natural numbers below 2^32, without any program: the step of one bit (bit1) is additive and injective,
bytes and bits come to one, the product of the field moves over the step. No conditions but those that each theorem names.
-/
namespace Go.Proofs.Ytlimgnpkbelmcaa.Math

/-- One bit: times x in the field, the bits turned. -/
def bit1 (c : Nat) : Nat := (c / 2) ^^^ (if c % 2 = 1 then 3988292384 else 0)
/-- n bits. -/
def bitN : Nat → Nat → Nat
  | 0, c => c
  | n + 1, c => bitN n (bit1 c)

theorem bit1_lt {c : Nat} (h : c < 4294967296) : bit1 c < 4294967296 := by
  unfold bit1
  have h1 : c / 2 < 2 ^ 32 := by omega
  have h2 : (if c % 2 = 1 then 3988292384 else 0) < 2 ^ 32 := by split <;> decide
  exact Nat.xor_lt_two_pow h1 h2
theorem bitN_lt : ∀ (n : Nat) {c : Nat}, c < 4294967296 → bitN n c < 4294967296
  | 0, _, h => h
  | n + 1, _, h => bitN_lt n (bit1_lt h)
theorem bitN_add : ∀ (m n c : Nat), bitN (m + n) c = bitN n (bitN m c)
  | 0, n, c => by rw [Nat.zero_add]; rfl
  | m + 1, n, c => by rw [Nat.add_right_comm]; exact bitN_add m n (bit1 c)
theorem bitN_succ (n c : Nat) : bitN (n + 1) c = bit1 (bitN n c) := by rw [bitN_add n 1]; rfl

theorem xor_mod_two (a b : Nat) : (a ^^^ b) % 2 = (a + b) % 2 := by
  have h : (a ^^^ b) % 2 ^ 1 = (a % 2 ^ 1) ^^^ (b % 2 ^ 1) := Nat.xor_mod_two_pow
  simp only [Nat.pow_one] at h
  rw [h]
  rcases Nat.mod_two_eq_zero_or_one a with ha | ha <;> rcases Nat.mod_two_eq_zero_or_one b with hb | hb <;> rw [ha, hb] <;> simp <;> omega
theorem div_xor1 (a b : Nat) : (a ^^^ b) / 2 = a / 2 ^^^ b / 2 := by
  apply Nat.eq_of_testBit_eq
  intro i
  rw [Nat.testBit_xor, ← Nat.testBit_add_one, ← Nat.testBit_add_one, ← Nat.testBit_add_one, Nat.testBit_xor]
theorem bit1_xor (a b : Nat) : bit1 (a ^^^ b) = bit1 a ^^^ bit1 b := by
  unfold bit1
  have hd : (a ^^^ b) / 2 = a / 2 ^^^ b / 2 := by
    exact div_xor1 a b
  have hm := xor_mod_two a b
  rw [hd]
  rcases Nat.mod_two_eq_zero_or_one a with ha | ha <;> rcases Nat.mod_two_eq_zero_or_one b with hb | hb
  · rw [if_neg (by omega), if_neg (by omega), if_neg (by omega)]; simp
  · rw [if_pos (by omega), if_neg (by omega), if_pos (by omega)]; simp [Nat.xor_assoc]
  · rw [if_pos (by omega), if_pos (by omega), if_neg (by omega)]; rw [Nat.xor_zero, Nat.xor_assoc, Nat.xor_assoc, Nat.xor_comm (b / 2)]
  · rw [if_neg (by omega), if_pos (by omega), if_pos (by omega), Nat.xor_zero]
    rw [Nat.xor_assoc, ← Nat.xor_assoc 3988292384, Nat.xor_comm 3988292384 (b / 2), Nat.xor_assoc (b / 2), Nat.xor_self, Nat.xor_zero]
theorem bitN_xor : ∀ (n a b : Nat), bitN n (a ^^^ b) = bitN n a ^^^ bitN n b
  | 0, _, _ => rfl
  | n + 1, a, b => by show bitN n (bit1 (a ^^^ b)) = _; rw [bit1_xor]; exact bitN_xor n _ _
theorem bitN_zero : ∀ n : Nat, bitN n 0 = 0
  | 0 => rfl
  | n + 1 => bitN_zero n

theorem bit1_zero {c : Nat} (hc : c < 4294967296) (h : bit1 c = 0) : c = 0 := by
  unfold bit1 at h
  split at h
  · exfalso
    have e : c / 2 = 3988292384 := by
      have := congrArg (· ^^^ 3988292384) h
      simpa [Nat.xor_assoc] using this
    omega
  · simp at h
    omega
theorem bitN_eq_zero : ∀ (n : Nat) {c : Nat}, c < 4294967296 → bitN n c = 0 → c = 0
  | 0, _, _, h => h
  | n + 1, _, hc, h => bit1_zero hc (bitN_eq_zero n (bit1_lt hc) h)
theorem xor_eq_zero {a b : Nat} (h : a ^^^ b = 0) : a = b := by
  have := congrArg (· ^^^ b) h
  simpa [Nat.xor_assoc] using this
theorem bitN_inj (n : Nat) {a b : Nat} (ha : a < 4294967296) (hb : b < 4294967296) (h : bitN n a = bitN n b) : a = b := by
  refine xor_eq_zero (bitN_eq_zero n (Nat.xor_lt_two_pow (n := 32) ha hb) ?_)
  rw [bitN_xor, h, Nat.xor_self]
theorem bit1_even (x : Nat) : bit1 (2 * x) = x := by
  unfold bit1
  rw [if_neg (by omega), Nat.xor_zero]
  omega
theorem bitN_shift : ∀ (n x : Nat), bitN n (2 ^ n * x) = x
  | 0, x => by simp [bitN]
  | n + 1, x => by
    show bitN n (bit1 (2 ^ (n + 1) * x)) = x
    rw [Nat.pow_succ, Nat.mul_comm (2 ^ n), Nat.mul_assoc, bit1_even]
    exact bitN_shift n x

/-- A byte, as the document has it. -/
def byteStep (c b : Nat) : Nat := bitN 8 (c ^^^ b)
theorem byteStep_lt {c b : Nat} (hc : c < 4294967296) (hb : b < 256) : byteStep c b < 4294967296 := bitN_lt 8 (Nat.xor_lt_two_pow (n := 32) hc (by omega))
theorem low_high (u : Nat) : u = (u % 256) ^^^ (2 ^ 8 * (u / 256)) := by
  apply Nat.eq_of_testBit_eq
  intro i
  rw [Nat.testBit_xor, show u % 256 = u % 2 ^ 8 from rfl, Nat.testBit_mod_two_pow, Nat.testBit_two_pow_mul, show u / 256 = u / 2 ^ 8 from rfl, Nat.testBit_div_two_pow]
  by_cases hi : i < 8
  · rw [decide_eq_true hi, decide_eq_false (show ¬ 8 ≤ i by omega)]
    simp
  · simp [hi, show 8 ≤ i by omega, show i - 8 + 8 = i by omega]
theorem byte_div {c b : Nat} (hb : b < 256) : (c ^^^ b) / 256 = c / 256 := by
  apply Nat.eq_of_testBit_eq
  intro i
  rw [show (256 : Nat) = 2 ^ 8 from rfl, Nat.testBit_div_two_pow, Nat.testBit_div_two_pow, Nat.testBit_xor, Nat.testBit_lt_two_pow (x := b) (i := i + 8)]
  · simp
  · exact Nat.lt_of_lt_of_le hb (Nat.pow_le_pow_right (n := 2) (by decide) (by omega : 8 ≤ i + 8))
theorem byte_mod {c b : Nat} (hb : b < 256) : (c ^^^ b) % 256 = (c % 256) ^^^ b := by
  have h : (c ^^^ b) % 2 ^ 8 = (c % 2 ^ 8) ^^^ (b % 2 ^ 8) := Nat.xor_mod_two_pow
  rw [show b % 2 ^ 8 = b from Nat.mod_eq_of_lt hb] at h
  exact h
/-- A byte by a table of 256 numbers. -/
theorem byteStep_table {c b : Nat} (hb : b < 256) : byteStep c b = bitN 8 ((c % 256) ^^^ b) ^^^ (c / 256) := by
  unfold byteStep
  rw [low_high (c ^^^ b), bitN_xor, bitN_shift, byte_div hb, byte_mod hb]

/-- All bytes. -/
def fold (c : Nat) (l : List UInt8) : Nat := l.foldl (fun x b => byteStep x b.toNat) c
theorem fold_nil (c : Nat) : fold c [] = c := rfl
theorem fold_cons (c : Nat) (b : UInt8) (l : List UInt8) : fold c (b :: l) = fold (byteStep c b.toNat) l := rfl
theorem fold_append (c : Nat) (l m : List UInt8) : fold c (l ++ m) = fold (fold c l) m := List.foldl_append
theorem fold_lt : ∀ (l : List UInt8) {c : Nat}, c < 4294967296 → fold c l < 4294967296
  | [], _, h => h
  | b :: l, _, h => fold_lt l (byteStep_lt h b.toNat_lt)
/-- What stood ahead moves on alone. -/
theorem fold_split : ∀ (l : List UInt8) (c d : Nat), fold (c ^^^ d) l = bitN (8 * l.length) c ^^^ fold d l
  | [], c, d => rfl
  | b :: l, c, d => by
    rw [fold_cons, fold_cons, List.length_cons, show 8 * (l.length + 1) = 8 + 8 * l.length by omega, bitN_add, ← fold_split l]
    unfold byteStep
    rw [Nat.xor_assoc, bitN_xor]

/-- The check of bytes. -/
def check (l : List UInt8) : Nat := fold 4294967295 l ^^^ 4294967295
theorem check_lt (l : List UInt8) : check l < 4294967296 := Nat.xor_lt_two_pow (n := 32) (fold_lt l (by decide)) (by decide)
theorem check_append (l m : List UInt8) : check (l ++ m) = fold (check l ^^^ 4294967295) m ^^^ 4294967295 := by
  unfold check
  rw [fold_append, Nat.xor_assoc, Nat.xor_self, Nat.xor_zero]
theorem check_join (l m : List UInt8) : check (l ++ m) = bitN (8 * m.length) (check l) ^^^ check m := by
  rw [check_append, fold_split]
  unfold check
  rw [Nat.xor_assoc]

end Go.Proofs.Ytlimgnpkbelmcaa.Math
