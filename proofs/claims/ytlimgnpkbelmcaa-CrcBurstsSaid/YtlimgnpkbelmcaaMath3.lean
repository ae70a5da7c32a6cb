/-
Plain mathematics: two texts that differ within four bytes that follow one another have unlike checks; conditions: those that each theorem names.
-/
import Derived.Test.YtlimgnpkbelmcaaMath
namespace Go.Proofs.Ytlimgnpkbelmcaa.Math

theorem byteStep_inj {c d b : Nat} (hc : c < 4294967296) (hd : d < 4294967296) (hb : b < 256) (h : byteStep c b = byteStep d b) : c = d := by
  have h1 := bitN_inj 8 (Nat.xor_lt_two_pow (n := 32) hc (by omega)) (Nat.xor_lt_two_pow (n := 32) hd (by omega)) h
  have := congrArg (· ^^^ b) h1
  simpa [Nat.xor_assoc] using this
theorem fold_inj : ∀ (l : List UInt8) {c d : Nat}, c < 4294967296 → d < 4294967296 → fold c l = fold d l → c = d
  | [], _, _, _, _, h => h
  | b :: l, _, _, hc, hd, h => byteStep_inj hc hd b.toNat_lt (fold_inj l (byteStep_lt hc b.toNat_lt) (byteStep_lt hd b.toNat_lt) h)
/-- Bytes as one number, the first one lowest. -/
def word : List UInt8 → Nat
  | [] => 0
  | b :: l => b.toNat ^^^ (2 ^ 8 * word l)
theorem fold_word : ∀ l : List UInt8, fold 0 l = bitN (8 * l.length) (word l)
  | [] => rfl
  | b :: l => by
    rw [fold_cons, List.length_cons, show 8 * (l.length + 1) = 8 + 8 * l.length by omega, bitN_add]
    unfold byteStep
    rw [Nat.zero_xor, word, bitN_xor, bitN_shift, bitN_xor, ← fold_word l]
    have h := fold_split l (bitN 8 b.toNat) 0
    rw [Nat.xor_zero] at h
    exact h
theorem word_parts (b : UInt8) (l : List UInt8) : word (b :: l) % 256 = b.toNat ∧ word (b :: l) / 256 = word l := by
  have hb := b.toNat_lt
  have h1 : (2 ^ 8 * word l) % 256 = 0 := by omega
  have h2 : (2 ^ 8 * word l) / 256 = word l := by omega
  have hm := byte_mod (c := 2 ^ 8 * word l) hb
  have hd := byte_div (c := 2 ^ 8 * word l) hb
  rw [Nat.xor_comm] at hm hd
  constructor
  · show (b.toNat ^^^ 2 ^ 8 * word l) % 256 = _
    rw [hm, h1, Nat.zero_xor]
  · show (b.toNat ^^^ 2 ^ 8 * word l) / 256 = _
    rw [hd, h2]
theorem word_inj : ∀ l m : List UInt8, l.length = m.length → word l = word m → l = m
  | [], [], _, _ => rfl
  | [], _ :: _, h, _ => by simp at h
  | _ :: _, [], h, _ => by simp at h
  | b :: l, c :: m, h, hw => by
    obtain ⟨b1, b2⟩ := word_parts b l
    obtain ⟨c1, c2⟩ := word_parts c m
    have e : b = c := UInt8.toNat_inj.1 (by rw [← b1, ← c1, hw])
    rw [e, word_inj l m (by simpa using h) (by rw [← b2, ← c2, hw])]
theorem word_lt : ∀ l : List UInt8, word l < 256 ^ l.length
  | [] => by simp [word]
  | b :: l => by
    have ih := word_lt l
    obtain ⟨b1, b2⟩ := word_parts b l
    have hb := b.toNat_lt
    rw [List.length_cons, Nat.pow_succ]
    have : word (b :: l) = 256 * (word (b :: l) / 256) + word (b :: l) % 256 := (Nat.div_add_mod _ _).symm
    rw [b1, b2] at this
    omega
/-- Two texts that are alike but for at most four bytes that follow one another, and have one check, are one. -/
theorem burst (p m m' q : List UInt8) (hl : m.length = m'.length) (h4 : m.length ≤ 4) (h : check (p ++ (m ++ q)) = check (p ++ (m' ++ q))) : m = m' := by
  unfold check at h
  have hx := congrArg (· ^^^ 4294967295) h
  simp only [Nat.xor_assoc, Nat.xor_self, Nat.xor_zero] at hx
  rw [fold_append, fold_append, fold_append, fold_append] at hx
  have hs := fold_lt p (c := 4294967295) (by decide)
  have h1 := fold_inj q (fold_lt m hs) (fold_lt m' hs) hx
  have e1 := fold_split m (fold 4294967295 p) 0
  have e2 := fold_split m' (fold 4294967295 p) 0
  rw [Nat.xor_zero] at e1 e2
  rw [e1, e2, ← hl] at h1
  have h2 : fold 0 m = fold 0 m' := by
    have := congrArg (bitN (8 * m.length) (fold 4294967295 p) ^^^ ·) h1
    simpa [← Nat.xor_assoc] using this
  rw [fold_word, fold_word, ← hl] at h2
  have hp : 256 ^ m.length ≤ 256 ^ 4 := Nat.pow_le_pow_right (by decide) h4
  have w1 := word_lt m
  have w2 := word_lt m'
  rw [← hl] at w2
  exact word_inj m m' hl (bitN_inj _ (by omega) (by omega) h2)
/-- One byte. -/
theorem burst_one (p q : List UInt8) (b c : UInt8) (h : check (p ++ b :: q) = check (p ++ c :: q)) : b = c := by
  have := burst p [b] [c] q rfl (by simp) h
  simpa using this
end Go.Proofs.Ytlimgnpkbelmcaa.Math
