/-
What wire.Num and its reader come to: numbers as bytes, seven bits each; conditions: the numbers are below 2^64.
-/
import Derived.Test.YtmlnjheiogmlaaaF2
namespace Go.Proofs.Ytmlnjheiogmlaaa.Pure
open Go.RowKit Go.Proofs.Ytmlnjheiogmlaaa.F Go.Proofs.YtmlnjheiogmlaaaW.PrintWords Go.Proofs.YtmlnjheiogmlaaaW.PrintLast Go.Proofs.YtmlnjheiogmlaaaW.PrintMore
def str (l : List UInt8) : ByteArray := ⟨l.toArray⟩
theorem str_size (l : List UInt8) : (str l).size = l.length := by simp [str, ByteArray.size]
theorem str_toList (l : List UInt8) : (str l).data.toList = l := by simp [str]
theorem str_append (l m : List UInt8) : str l ++ str m = str (l ++ m) := by
  apply ByteArray.ext
  simp [str]
theorem str_of (s : ByteArray) : str s.data.toList = s := by
  apply ByteArray.ext
  simp [str]
theorem toList_data (s : ByteArray) : s.toList = s.data.toList := ByteArray.toList_eq s

theorem nums_snoc (l : List Int) (x : Int) : strOfNums (l ++ [x]) = strOfNums l ++ str [UInt8.ofNat x.toNat] := by
  apply ByteArray.ext
  simp [strOfNums, str]
theorem wrap_u64 {x : Int} (h0 : 0 ≤ x) (h1 : x < 18446744073709551616) : IntKind.u64.wrap x = x := by
  simp only [IntKind.wrap, IntKind.bits, IntKind.signed]
  simp
  omega

theorem extract_front (l : List UInt8) (n : Nat) : (str l).extract 0 n = str (l.take n) := by
  apply ByteArray.ext
  simp [str]
theorem extract_back (l : List UInt8) (n : Nat) : (str l).extract n (str l).size = str (l.drop n) := by
  apply ByteArray.ext
  simp only [str, ByteArray.size, ByteArray.data_extract, List.size_toArray, List.extract_toArray]
  rw [List.extract_eq_take_drop, List.take_of_length_le (by simp)]
theorem bt_str (l : List UInt8) (i : Nat) (h : i < l.length) : bt (str l) (i : Int) = (l[i].toNat : Int) := by
  have hs : ((i : Int)).toNat < (str l).size := by rw [str_size]; simpa using h
  rw [← bt_at (str l) (i : Int) hs]
  rfl
/-- A number as bytes. -/
def num (n : Nat) : List UInt8 := if n < 128 then [UInt8.ofNat n] else UInt8.ofNat (128 + n % 128) :: num (n / 128)
termination_by n
decreasing_by omega
theorem num_low {n : Nat} (h : n < 128) : num n = [UInt8.ofNat n] := by rw [num, if_pos h]
theorem num_high {n : Nat} (h : ¬ n < 128) : num n = UInt8.ofNat (128 + n % 128) :: num (n / 128) := by rw [num, if_neg h]
theorem or_u8 (n : Nat) : Go.bits .or .u8 ((n : Int) % 256) 128 = ((128 + n % 128 : Nat) : Int) := by
  have hq : ((n : Int) % 256) = ((n % 256 : Nat) : Int) := by omega
  rw [hq, show (128 : Int) = ((128 : Nat) : Int) from rfl]
  have h1 : ∀ m : Fin 256, Go.bits .or .u8 ((m.val : Nat) : Int) ((128 : Nat) : Int) = ((128 + m.val % 128 : Nat) : Int) := by decide +kernel
  have h2 := h1 ⟨n % 256, by omega⟩
  rw [h2]
  have : n % 256 % 128 = n % 128 := by omega
  simp only [this]
theorem wire_Num_loop : ∀ (f n : Nat) (l : List Int), n < 128 ^ f * 128 → l.length + f < 140737488355328 → Ev (fun k => wire_Num.l0 k (n : Int) l) (strOfNums l ++ str (num n))
  | f, n, l, hn, hl => by
    by_cases h : n < 128
    · refine Ev.step (f := fun _ => some (strOfNums l ++ str (num n))) (fun k => ?_) (Ev.now _)
      simp only [wire_Num.l0]
      have e : ((n : Int) % 256).toNat = n := by omega
      rw [if_neg (by omega), if_pos (by omega), nums_snoc, e, num_low h]
    · cases f with
      | zero => simp at hn; omega
      | succ f =>
        have ih := wire_Num_loop f (n / 128) (l ++ [((128 + n % 128 : Nat) : Int)]) (by rw [Nat.pow_succ] at hn; omega) (by simp; omega)
        have e : strOfNums (l ++ [((128 + n % 128 : Nat) : Int)]) ++ str (num (n / 128)) = strOfNums l ++ str (num n) := by
          rw [nums_snoc, ByteArray.append_assoc, str_append, num_high h, Int.toNat_natCast]
          rfl
        rw [e] at ih
        refine Ev.step (f := fun k => wire_Num.l0 k ((n / 128 : Nat) : Int) (l ++ [((128 + n % 128 : Nat) : Int)])) (fun k => ?_) ih
        simp only [wire_Num.l0]
        rw [if_pos (by omega), if_pos (by omega), or_u8, show (n : Int) / 128 = ((n / 128 : Nat) : Int) by omega]
theorem wire_Num_tells (n : Nat) (hn : n < 18446744073709551616) : Ev (fun k => wire_Num.f k (n : Int)) (str (num n)) := by
  have h := wire_Num_loop 10 n [] (by omega) (by simp)
  have e : strOfNums [] ++ str (num n) = str (num n) := by apply ByteArray.ext; simp [strOfNums, str]
  rw [e] at h
  exact h
theorem num_length : ∀ (f n : Nat), n < 128 ^ f * 128 → (num n).length ≤ f + 1
  | f, n, hn => by
    by_cases h : n < 128
    · rw [num_low h]; simp
    · cases f with
      | zero => simp at hn; omega
      | succ f =>
        have := num_length f (n / 128) (by rw [Nat.pow_succ] at hn; omega)
        rw [num_high h, List.length_cons]
        omega
/-! ### Reading -/
/-- What reading tells: an error, or a number and how many bytes it took. -/
inductive Got where
  | err (e : Nat)
  | got (n i : Nat)
def dec (most : Nat) (l : List UInt8) : Nat → Nat → Nat → Got
  | 0, _, _ => .err 3
  | d + 1, i, acc => if h : i < l.length then
      (if (i = 9 ∧ 1 < l[i].toNat) ∨ (0 < i ∧ l[i].toNat = 0) then .err 3
       else if l[i].toNat < 128 then (if most < acc + l[i].toNat % 128 * 128 ^ i then .err 4 else .got (acc + l[i].toNat % 128 * 128 ^ i) (i + 1))
       else dec most l d (i + 1) (acc + l[i].toNat % 128 * 128 ^ i))
    else .err 2
def told (l : List UInt8) : Got → Int × ByteArray × Int
  | .err e => (0, str l, (e : Int))
  | .got n i => ((n : Int), str (l.drop i), 0)
theorem and127 (b : Nat) (hb : b < 256) : Go.bits .and .u8 (b : Int) 127 = ((b % 128 : Nat) : Int) := by
  have h1 : ∀ m : Fin 256, Go.bits .and .u8 ((m.val : Nat) : Int) 127 = ((m.val % 128 : Nat) : Int) := by decide +kernel
  exact h1 ⟨b, hb⟩
theorem and128 (b : Nat) (hb : b < 256) : (Go.bits .and .u8 (b : Int) 128 = 0) ↔ b < 128 := by
  have h1 : ∀ m : Fin 256, (Go.bits .and .u8 ((m.val : Nat) : Int) 128 = 0) ↔ m.val < 128 := by decide +kernel
  exact h1 ⟨b, hb⟩
theorem pow_seven (i : Nat) : (2 : Nat) ^ (7 * i) = 128 ^ i := by rw [Nat.pow_mul]
theorem shl_seven (x i : Nat) (hi : i ≤ 9) (hx : x < 128) (h9 : i = 9 → x ≤ 1) : shl .u64 (x : Int) ((7 * i : Nat) : Int) = ((x * 128 ^ i : Nat) : Int) ∧ x * 128 ^ i < 18446744073709551616 := by
  have hlt : x * 128 ^ i < 18446744073709551616 := by
    rcases Nat.lt_or_ge i 9 with h | h
    · have h2 : 128 ^ i ≤ 128 ^ 8 := Nat.pow_le_pow_right (by decide) (by omega)
      have h3 : x * 128 ^ i ≤ 127 * 128 ^ 8 := Nat.mul_le_mul (by omega) h2
      omega
    · have : i = 9 := by omega
      subst this
      have := h9 rfl
      have h3 : x * 128 ^ 9 ≤ 1 * 128 ^ 9 := Nat.mul_le_mul this (Nat.le_refl _)
      omega
  refine ⟨?_, hlt⟩
  unfold shl
  have hm : min ((7 * i : Nat) : Int).toNat IntKind.u64.bits = 7 * i := by
    have : IntKind.u64.bits = 64 := rfl
    rw [this, Int.toNat_natCast]; omega
  have hp : (x : Int) * 2 ^ (7 * i) = ((x * 128 ^ i : Nat) : Int) := by
    rw [← pow_seven]; push_cast; rfl
  rw [hm, hp]
  exact wrap_u64 (by omega) (by omega)
theorem or_acc (acc x i : Nat) (hi : i ≤ 9) (ha : acc < 128 ^ i) (hx : x * 128 ^ i < 18446744073709551616) : Go.bits .or .u64 (acc : Int) ((x * 128 ^ i : Nat) : Int) = ((acc + x * 128 ^ i : Nat) : Int) := by
  have wr : ∀ n : Int, 0 ≤ n → n < 2 ^ 64 → IntKind.u64.wrap n = n := fun n h0 h1 => wrap_u64 h0 (by simpa using h1)
  have hp : 128 ^ i ≤ 128 ^ 9 := Nat.pow_le_pow_right (by decide) hi
  have hor := (bits_nat .u64 64 (by decide) wr acc (x * 128 ^ i) (by omega) (by simpa using hx)).2
  have hd : acc ||| x * 128 ^ i = acc + x * 128 ^ i := by
    rw [← pow_seven] at ha ⊢
    rw [Nat.or_comm, Nat.mul_comm x, ← Nat.two_pow_add_eq_or_of_lt ha x]
    omega
  rw [hor, hd]
theorem fail_ok (s : ByteArray) (e : Int) : wire_Reader_Fail.f s 0 e = some (s, e) := by unfold wire_Reader_Fail.f; rw [if_pos rfl]
theorem extract_rest (l : List UInt8) (n : Nat) : (str l).extract n l.length = str (l.drop n) := by
  have := extract_back l n
  rw [str_size] at this
  exact this
theorem acc_next {acc b i : Nat} (ha : acc < 128 ^ i) : acc + b % 128 * 128 ^ i < 128 ^ (i + 1) := by
  have h1 : b % 128 * 128 ^ i ≤ 127 * 128 ^ i := Nat.mul_le_mul (by omega) (Nat.le_refl _)
  rw [Nat.pow_succ]
  omega
theorem reader_dec (most : Nat) (l : List UInt8) : ∀ d i acc : Nat, i + d = 10 → i ≤ l.length → acc < 128 ^ i →
    Ev (fun k => wire_Reader_Num.l0 k (most : Int) (acc : Int) (i : Int) (str l) 0) (told l (dec most l d i acc))
  | 0, i, acc, hi, _, _ => by
    refine Ev.step (f := fun _ => some (told l (dec most l 0 i acc))) (fun k => ?_) (Ev.now _)
    simp only [wire_Reader_Num.l0]
    rw [if_neg (by omega), fail_ok]
    rfl
  | d + 1, i, acc, hi, hl, ha => by
    by_cases h : i < l.length
    · have hb := l[i].toNat_lt
      have hbt := bt_str l i h
      have hw7 : wrap64 (7 * (i : Int)) = ((7 * i : Nat) : Int) := by unfold wrap64; omega
      have hw1 : wrap64 ((i : Int) + 1) = ((i + 1 : Nat) : Int) := by unfold wrap64; omega
      -- behind the test
      have key : Ev (fun k => wire_Reader_Num.j1 k (most : Int) (acc : Int) (i : Int) (l[i].toNat : Int) (i : Int) (decide ((i = 9 ∧ 1 < l[i].toNat) ∨ (0 < i ∧ l[i].toNat = 0))) (str l) 0) (told l (dec most l (d + 1) i acc)) := by
        by_cases hbad : (i = 9 ∧ 1 < l[i].toNat) ∨ (0 < i ∧ l[i].toNat = 0)
        · refine Ev.step (f := fun _ => some (told l (dec most l (d + 1) i acc))) (fun k => ?_) (Ev.now _)
          simp only [wire_Reader_Num.j1]
          rw [if_pos (decide_eq_true hbad), fail_ok]
          simp only [dec, dif_pos h, if_pos hbad]
          rfl
        · have hx : l[i].toNat % 128 < 128 := Nat.mod_lt _ (by decide)
          have h9 : i = 9 → l[i].toNat % 128 ≤ 1 := fun e => by
            have : ¬ 1 < l[i].toNat := fun hh => hbad (.inl ⟨e, hh⟩)
            omega
          obtain ⟨hs, hlt⟩ := shl_seven (l[i].toNat % 128) i (by omega) hx h9
          have hor := or_acc acc (l[i].toNat % 128) i (by omega) ha hlt
          by_cases hlow : l[i].toNat < 128
          · refine Ev.step (f := fun _ => some (told l (dec most l (d + 1) i acc))) (fun k => ?_) (Ev.now _)
            simp only [wire_Reader_Num.j1]
            rw [if_neg (by simpa using hbad), hw7, if_pos (by omega), if_pos ((and128 _ hb).2 hlow), and127 _ hb, wrap_u64 (x := ((l[i].toNat % 128 : Nat) : Int)) (by omega) (by omega), hs, hor]
            simp only [dec, dif_pos h, if_neg hbad, if_pos hlow]
            by_cases hm : most < acc + l[i].toNat % 128 * 128 ^ i
            · rw [if_pos (by omega), if_pos hm, fail_ok]
              rfl
            · rw [if_neg (by omega), if_neg hm, hw1, if_pos (by omega), str_size, if_pos (by omega), Int.toNat_natCast, extract_rest]
              rfl
          · have ih := reader_dec most l d (i + 1) (acc + l[i].toNat % 128 * 128 ^ i) (by omega) (by omega) (acc_next ha)
            have e : dec most l (d + 1) i acc = dec most l d (i + 1) (acc + l[i].toNat % 128 * 128 ^ i) := by
              simp only [dec, dif_pos h, if_neg hbad, if_neg hlow]
            rw [e]
            refine Ev.step (fun k => ?_) ih
            simp only [wire_Reader_Num.j1]
            rw [if_neg (by simpa using hbad), hw7, if_pos (by omega), if_neg (fun hh => hlow ((and128 _ hb).1 hh)), and127 _ hb, wrap_u64 (x := ((l[i].toNat % 128 : Nat) : Int)) (by omega) (by omega), hs, hor, hw1]
      refine Ev.step (fun k => ?_) key
      simp only [wire_Reader_Num.l0]
      rw [if_pos (by omega), str_size, if_neg (by omega), if_pos (by omega), if_pos (by omega), hbt]
      by_cases hi9 : i = 9
      · rw [if_pos (by omega)]
        by_cases h1 : 1 < l[i].toNat
        · rw [if_pos (by omega), decide_eq_true (.inl ⟨hi9, h1⟩)]
        · rw [if_neg (by omega), if_pos (by omega)]
          congr 1
          by_cases hz : l[i].toNat = 0
          · rw [decide_eq_true (.inr ⟨by omega, hz⟩)]; simp [hz]
          · rw [decide_eq_false (by omega)]; simp; omega
      · rw [if_neg (by omega)]
        by_cases h0 : 0 < i
        · rw [if_pos (by omega)]
          congr 1
          by_cases hz : l[i].toNat = 0
          · rw [decide_eq_true (.inr ⟨by omega, hz⟩)]; simp [hz]
          · rw [decide_eq_false (by omega)]; simp; omega
        · rw [if_neg (by omega), decide_eq_false (by omega)]
    · have hil : i = l.length := by omega
      refine Ev.step (f := fun _ => some (told l (dec most l (d + 1) i acc))) (fun k => ?_) (Ev.now _)
      simp only [wire_Reader_Num.l0]
      rw [if_pos (by omega), str_size, if_pos (by omega), fail_ok]
      simp only [dec, dif_neg h]
      rfl
theorem reader_Num_tells (most : Nat) (l : List UInt8) : Ev (fun k => wire_Reader_Num.f k (str l) 0 (most : Int)) (told l (dec most l 10 0 0)) := by
  unfold wire_Reader_Num.f wire_Reader_Err.f
  simp only [Option.bind_some, if_true]
  exact reader_dec most l 10 0 0 rfl (Nat.zero_le _) (by decide)

/-! ### Reading and writing undo each other -/
theorem dec_num (most : Nat) (rest : List UInt8) : ∀ (d i n acc : Nat) (pre : List UInt8), pre.length = i → i + d = 10 → n < 128 ^ d → (0 < i → 0 < n) → n * 128 ^ i < 18446744073709551616 → acc + n * 128 ^ i ≤ most → 0 < d →
    dec most (pre ++ (num n ++ rest)) d i acc = .got (acc + n * 128 ^ i) (i + (num n).length)
  | 0, _, _, _, _, _, _, _, _, _, _, hd => absurd hd (by omega)
  | d + 1, i, n, acc, pre, hp, hi, hn, hz, h9, hm, _ => by
    by_cases h : n < 128
    · have hb : (UInt8.ofNat n).toNat = n := by simp; omega
      have hlt : i < (pre ++ (num n ++ rest)).length := by rw [num_low h]; simp; omega
      have hg : (pre ++ (num n ++ rest))[i] = UInt8.ofNat n := by
        simp only [num_low h]
        rw [List.getElem_append_right (by omega)]
        simp [hp]
      have h10 : i = 9 → n ≤ 1 := fun e => by subst e; omega
      have hbad : ¬ ((i = 9 ∧ 1 < n) ∨ (0 < i ∧ n = 0)) := by omega
      have e2 : n % 128 = n := by omega
      simp only [dec, dif_pos hlt, hg, hb, if_neg hbad, if_pos h, e2]
      rw [if_neg (by omega), num_low h]
      rfl
    · have hq : 128 + n % 128 < 256 := by omega
      have hb : (UInt8.ofNat (128 + n % 128)).toNat = 128 + n % 128 := by simp; omega
      have hlt : i < (pre ++ (num n ++ rest)).length := by rw [num_high h]; simp; omega
      have hg : (pre ++ (num n ++ rest))[i] = UInt8.ofNat (128 + n % 128) := by
        simp only [num_high h]
        rw [List.getElem_append_right (by omega)]
        simp [hp]
      have h10 : i ≠ 9 := fun e => by subst e; omega
      have hbad : ¬ ((i = 9 ∧ 1 < 128 + n % 128) ∨ (0 < i ∧ 128 + n % 128 = 0)) := by omega
      have e2 : (128 + n % 128) % 128 = n % 128 := by omega
      have hd2 : 0 < d := by
        cases d with
        | zero => simp at hn; omega
        | succ d => omega
      have hsum : acc + n % 128 * 128 ^ i + n / 128 * 128 ^ (i + 1) = acc + n * 128 ^ i := by
        have : n * 128 ^ i = n % 128 * 128 ^ i + n / 128 * 128 ^ (i + 1) := by
          conv => lhs; rw [← Nat.mod_add_div n 128]
          rw [Nat.add_mul, Nat.pow_succ, Nat.mul_comm 128, Nat.mul_assoc, Nat.mul_comm 128]
        omega
      have ih := dec_num most rest d (i + 1) (n / 128) (acc + n % 128 * 128 ^ i) (pre ++ [UInt8.ofNat (128 + n % 128)]) (by simp [hp]) (by omega) (by rw [Nat.pow_succ] at hn; omega) (fun _ => by omega) (by omega) (by omega) hd2
      have el : (pre ++ [UInt8.ofNat (128 + n % 128)]) ++ (num (n / 128) ++ rest) = pre ++ (num n ++ rest) := by rw [num_high h]; simp
      rw [el, hsum] at ih
      simp only [dec, dif_pos hlt, hg, hb, if_neg hbad, e2]
      rw [if_neg (by omega), ih, num_high h, List.length_cons]
      congr 1
      omega

theorem dec_of_num (most n : Nat) (rest : List UInt8) (hn : n < 18446744073709551616) (hm : n ≤ most) : dec most (num n ++ rest) 10 0 0 = .got n (num n).length := by
  have h := dec_num most rest 10 0 n 0 [] rfl rfl (by omega) (by omega) (by omega) (by omega) (by decide)
  simpa using h
/-- What is read is what was written. -/
theorem num_of_dec (most : Nat) (l : List UInt8) : ∀ (d i acc n j : Nat), i + d = 10 → acc < 128 ^ i → dec most l d i acc = .got n j → ∃ m, n = acc + m * 128 ^ i ∧ (l.drop i).take (j - i) = num m ∧ i < j ∧ j ≤ l.length ∧ (0 < i → 0 < m) ∧ n ≤ most
  | 0, i, acc, n, j, _, _, h => by simp [dec] at h
  | d + 1, i, acc, n, j, hi, ha, h => by
    by_cases hl : i < l.length
    · have hb := l[i].toNat_lt
      simp only [dec, dif_pos hl] at h
      by_cases hbad : (i = 9 ∧ 1 < l[i].toNat) ∨ (0 < i ∧ l[i].toNat = 0)
      · rw [if_pos hbad] at h; exact absurd h (by simp)
      · rw [if_neg hbad] at h
        by_cases hlow : l[i].toNat < 128
        · rw [if_pos hlow] at h
          by_cases hm : most < acc + l[i].toNat % 128 * 128 ^ i
          · rw [if_pos hm] at h; exact absurd h (by simp)
          · rw [if_neg hm] at h
            injection h with h1 h2
            refine ⟨l[i].toNat, ?_, ?_, by omega, by omega, fun h0 => ?_, by omega⟩
            · rw [← h1, Nat.mod_eq_of_lt hlow]
            · rw [show j - i = 1 by omega, List.drop_eq_getElem_cons hl, num_low hlow, show UInt8.ofNat l[i].toNat = l[i] by simp]
              rfl
            · have : ¬ l[i].toNat = 0 := fun hz => hbad (.inr ⟨h0, hz⟩)
              omega
        · rw [if_neg hlow] at h
          obtain ⟨m, e1, e2, e3, e4, e5, e6⟩ := num_of_dec most l d (i + 1) _ n j (by omega) (acc_next ha) h
          have hm0 := e5 (by omega)
          have hr : (l[i].toNat % 128 + 128 * m) % 128 = l[i].toNat % 128 := by omega
          have hq : (l[i].toNat % 128 + 128 * m) / 128 = m := by omega
          refine ⟨l[i].toNat % 128 + 128 * m, ?_, ?_, by omega, e4, fun _ => by omega, e6⟩
          · rw [e1, Nat.add_mul, Nat.pow_succ, Nat.mul_comm 128 m, Nat.mul_assoc, Nat.mul_comm 128, Nat.add_assoc]
          · rw [num_high (by omega), hr, hq, List.drop_eq_getElem_cons hl, show j - i = (j - (i + 1)) + 1 by omega, List.take_succ_cons, e2]
            have : 128 + l[i].toNat % 128 = l[i].toNat := by omega
            rw [this]
            simp
    · simp only [dec, dif_neg hl] at h
      exact absurd h (by simp)
theorem dec_all (most : Nat) (l : List UInt8) (n j : Nat) (h : dec most l 10 0 0 = .got n j) (hj : l.drop j = []) : l = num n ∧ n ≤ most := by
  obtain ⟨m, e1, e2, e3, e4, _, e6⟩ := num_of_dec most l 10 0 0 n j rfl (by decide) h
  simp at e1 e2
  have hlen : l.length ≤ j := by simpa using hj
  subst e1
  refine ⟨?_, e6⟩
  rw [← e2, List.take_of_length_le hlen]
end Go.Proofs.Ytmlnjheiogmlaaa.Pure
