/-
What crc.More and the reference's Of come to, in plain numbers: for every text of fewer than 2^63 bytes both tell the check of Math.check.
-/
import Derived.Test.YtlimgnpkbelmcaaF3
import Derived.Test.YtlimgnpkbelmcaaMath
namespace Go.Proofs.Ytlimgnpkbelmcaa.Pure
open Go.RowKit Go.Proofs.Ytlimgnpkbelmcaa.F Go.Proofs.YtlimgnpkbelmcaaW.PrintWords Go.Proofs.YtlimgnpkbelmcaaW.PrintLast Go.Proofs.YtlimgnpkbelmcaaW.PrintMore Go.Proofs.Ytlimgnpkbelmcaa.Math

theorem xor32 {a b : Nat} (ha : a < 4294967296) (hb : b < 4294967296) : Go.bits .xor .u32 (a : Int) (b : Int) = ((a ^^^ b : Nat) : Int) := by
  have hp : (2 : Nat) ^ IntKind.u32.bits = 4294967296 := rfl
  have hx : a ^^^ b < 4294967296 := Nat.xor_lt_two_pow (n := 32) ha hb
  simp only [Go.bits, BitVec.ofInt_natCast, BitVec.toNat_xor, BitVec.toNat_ofNat, hp, Nat.mod_eq_of_lt ha, Nat.mod_eq_of_lt hb]
  rw [IntKind.wrap_u32]
  omega
theorem xor8 {a b : Nat} (ha : a < 256) (hb : b < 256) : Go.bits .xor .u8 (a : Int) (b : Int) = ((a ^^^ b : Nat) : Int) := by
  have hp : (2 : Nat) ^ IntKind.u8.bits = 256 := rfl
  have hx : a ^^^ b < 256 := Nat.xor_lt_two_pow (n := 8) ha hb
  simp only [Go.bits, BitVec.ofInt_natCast, BitVec.toNat_xor, BitVec.toNat_ofNat, hp, Nat.mod_eq_of_lt ha, Nat.mod_eq_of_lt hb]
  rw [IntKind.wrap_u8]
  omega

/-! ### crc.More -/
theorem tab_bits : ∀ i : Fin 256, tabAt (i.val : Int) = (bitN 8 i.val : Int) := by decide +kernel
theorem crcStep_byte {c : Nat} (hc : c < 4294967296) (b : UInt8) : crcStep (c : Int) b = (byteStep c b.toNat : Int) := by
  have hb := b.toNat_lt
  have hm : c % 256 < 256 := Nat.mod_lt _ (by decide)
  have hx : (c % 256) ^^^ b.toNat < 256 := Nat.xor_lt_two_pow (n := 8) hm hb
  unfold crcStep
  rw [IntKind.wrap_u8, show (c : Int) % 256 = ((c % 256 : Nat) : Int) by omega, xor8 hm hb, tab_bits ⟨_, hx⟩, show (c : Int) / 256 = ((c / 256 : Nat) : Int) by omega,
    xor32 (bitN_lt 8 (by omega)) (by omega), byteStep_table hb]
theorem crcFold_fold : ∀ (l : List UInt8) {c : Nat}, c < 4294967296 → crcFold (c : Int) l = (fold c l : Int)
  | [], _, _ => rfl
  | b :: l, c, h => by
    show crcFold (crcStep c b) l = _
    rw [crcStep_byte h, crcFold_fold l (byteStep_lt h b.toNat_lt), fold_cons]
theorem crcMore_fold {c : Nat} (hc : c < 4294967296) (s : ByteArray) : crcMore (c : Int) s = ((fold (c ^^^ 4294967295) s.data.toList ^^^ 4294967295 : Nat) : Int) := by
  have hx : c ^^^ 4294967295 < 4294967296 := Nat.xor_lt_two_pow (n := 32) hc (by decide)
  unfold crcMore
  rw [show (4294967295 : Int) = ((4294967295 : Nat) : Int) from rfl, xor32 hc (by decide), crcFold_fold _ hx, xor32 (fold_lt _ hx) (by decide)]
theorem crc_More_tells {c : Nat} (hc : c < 4294967296) {s : ByteArray} (hs : s.size ≤ 9223372036854775807) : crc_More.f (c : Int) s = some ((fold (c ^^^ 4294967295) s.data.toList ^^^ 4294967295 : Nat) : Int) := by
  unfold crc_More.f
  rw [if_pos hs, crcMore_fold hc]
theorem crc_Of_tells {s : ByteArray} (hs : s.size ≤ 9223372036854775807) : crc_Of.f s = some ((check s.data.toList : Nat) : Int) := by
  unfold crc_Of.f
  rw [show (0 : Int) = ((0 : Nat) : Int) from rfl, crc_More_tells (by decide) hs, Nat.zero_xor]
  rfl
theorem awake_tells : keywaylaw01_awake.f = some true := by
  have h : crcMore 0 (⟨#[49, 50, 51, 52, 53, 54, 55, 56, 57]⟩ : ByteArray) = 3421780262 := by decide +kernel
  unfold keywaylaw01_awake.f crc_Of.f crc_More.f
  rw [if_pos (by decide), h]
  rfl

/-! ### The reference -/
theorem wrap64_in {x : Int} (h0 : -9223372036854775808 ≤ x) (h1 : x ≤ 9223372036854775807) : wrap64 x = x := by unfold wrap64; omega
theorem ref_bits (s : ByteArray) (i : Int) (r : Int) : ∀ (j c : Nat), j ≤ 8 → c < 4294967296 → Ev (fun k => keywayref01_Of.l0 k s (bitN j c : Int) (wrap64 (i + 1))) r → Ev (fun k => keywayref01_Of.l1 k s (c : Int) i ((8 - j : Nat) : Int)) r
  | 0, c, _, _, h => Ev.step (f := fun k => keywayref01_Of.l0 k s (c : Int) (wrap64 (i + 1))) (fun k => by simp only [keywayref01_Of.l1]; rw [if_neg (by omega)]) h
  | j + 1, c, hj, hc, h => by
    have hd : (Int.tdiv (c : Int) 2) % 4294967296 = ((c / 2 : Nat) : Int) := by rw [Int.tdiv_eq_ediv_of_nonneg (by omega)]; omega
    have hm : Int.tmod (c : Int) 2 = ((c % 2 : Nat) : Int) := by rw [Int.tmod_eq_emod_of_nonneg (by omega)]; omega
    have hw : wrap64 (((8 - (j + 1) : Nat) : Int) + 1) = ((8 - j : Nat) : Int) := by unfold wrap64; omega
    refine Ev.step (f := fun k => keywayref01_Of.l1 k s (bit1 c : Int) i ((8 - j : Nat) : Int)) (fun k => ?_) (ref_bits s i r j (bit1 c) (by omega) (bit1_lt hc) h)
    simp only [keywayref01_Of.l1]
    rw [if_pos (by omega), hd, hm, hw]
    unfold bit1
    by_cases hp : c % 2 = 1
    · rw [if_pos (by omega), if_pos hp, show (3988292384 : Int) = ((3988292384 : Nat) : Int) from rfl, xor32 (by omega) (by decide)]
    · rw [if_neg (by omega), if_neg hp, Nat.xor_zero]
theorem ref_bytes (s : ByteArray) (hs : s.size ≤ 9223372036854775806) : ∀ (d n c : Nat), n + d = s.size → c < 4294967296 →
    Ev (fun k => keywayref01_Of.l0 k s (c : Int) (n : Int)) ((fold c (s.data.toList.drop n) ^^^ 4294967295 : Nat) : Int)
  | 0, n, c, hn, hc => by
    have e : s.data.toList.drop n = [] := List.drop_eq_nil_of_le (by simp; omega)
    rw [e, fold_nil]
    refine Ev.step (f := fun _ => some ((c ^^^ 4294967295 : Nat) : Int)) (fun k => ?_) (Ev.now _)
    simp only [keywayref01_Of.l0]
    rw [if_neg (by omega), show (4294967295 : Int) = ((4294967295 : Nat) : Int) from rfl, xor32 hc (by decide)]
  | d + 1, n, c, hn, hc => by
    have hlt : n < s.size := by omega
    have hl : n < s.data.toList.length := by simpa using hlt
    have e : s.data.toList.drop n = s[n] :: s.data.toList.drop (n + 1) := by rw [List.drop_eq_getElem_cons hl]; rfl
    have hb := s[n].toNat_lt
    have ht : bt s (n : Int) = (s[n].toNat : Int) := (bt_at s (n : Int) (by simpa using hlt)).symm
    have hx : c ^^^ s[n].toNat < 4294967296 := Nat.xor_lt_two_pow (n := 32) hc (by omega)
    rw [e, fold_cons]
    refine Ev.step (f := fun k => keywayref01_Of.l1 k s ((c ^^^ s[n].toNat : Nat) : Int) (n : Int) ((8 - 8 : Nat) : Int)) (fun k => ?_) (ref_bits s n _ 8 _ (by omega) hx ?_)
    · simp only [keywayref01_Of.l0]
      rw [if_pos (by omega), if_pos (by omega), ht, show (s[n].toNat : Int) % 4294967296 = (s[n].toNat : Int) by omega, xor32 hc (by omega)]
      rfl
    · rw [show wrap64 ((n : Int) + 1) = ((n + 1 : Nat) : Int) by unfold wrap64; omega]
      exact ref_bytes s hs d (n + 1) _ (by omega) (bitN_lt 8 hx)
theorem ref_Of_tells {s : ByteArray} (hs : s.size ≤ 9223372036854775806) : Ev (fun k => keywayref01_Of.f k s) ((check s.data.toList : Nat) : Int) := by
  have h := ref_bytes s hs s.size 0 4294967295 (by omega) (by decide)
  rw [List.drop_zero] at h
  exact h

/-! ### Few bytes -/
def few (s : ByteArray) : ByteArray := s.extract 0 (min s.size 600)
theorem few_size (s : ByteArray) : (few s).size ≤ 600 := by unfold few; rw [ByteArray.size_extract]; omega
theorem few_tells (s : ByteArray) : keywaylaw01_few.f s = some (few s) := by
  have e : (mn (s.size : Int) 600).toNat = min s.size 600 := by unfold mn; split <;> omega
  have h0 : 0 ≤ mn (s.size : Int) 600 := by unfold mn; split <;> omega
  have h1 : mn (s.size : Int) 600 ≤ s.size := by unfold mn; split <;> omega
  unfold keywaylaw01_few.f few
  rw [if_pos h0, if_pos h1, e]
end Go.Proofs.Ytlimgnpkbelmcaa.Pure
