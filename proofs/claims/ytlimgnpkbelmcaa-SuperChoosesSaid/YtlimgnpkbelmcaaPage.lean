/-
What the program's and the reference's pages come to, in plain numbers and bytes: both lay and read the same sector; conditions: the numbers are of their kinds.
-/
import Derived.Test.YtlimgnpkbelmcaaOf
import Derived.Test.YtlimgnpkbelmcaaF6
import Derived.Test.YtlimgnpkbelmcaaF7
namespace Go.Proofs.Ytlimgnpkbelmcaa.Pure
open Go.RowKit Go.Proofs.Ytlimgnpkbelmcaa.F Go.Proofs.YtlimgnpkbelmcaaW.PrintWords Go.Proofs.YtlimgnpkbelmcaaW.PrintLast Go.Proofs.YtlimgnpkbelmcaaW.PrintMore Go.Proofs.Ytlimgnpkbelmcaa.Math

/-- A number's lowest k bytes, the lowest first. -/
def le : Nat → Nat → List UInt8
  | 0, _ => []
  | k + 1, n => UInt8.ofNat (n % 256) :: le k (n / 256)
/-- The number of such bytes. -/
def unle : List UInt8 → Nat
  | [] => 0
  | b :: l => b.toNat + 256 * unle l
theorem le_length : ∀ k n, (le k n).length = k
  | 0, _ => rfl
  | k + 1, n => by simp [le, le_length k]
theorem unle_le : ∀ k n, unle (le k n) = n % 256 ^ k
  | 0, n => by simp [le, unle, Nat.mod_one]
  | k + 1, n => by
    have hb : (UInt8.ofNat (n % 256)).toNat = n % 256 := by simp
    simp only [le, unle, hb, unle_le k]
    rw [Nat.pow_succ, Nat.mul_comm (256 ^ k), Nat.mod_mul]
theorem unle_lt : ∀ l : List UInt8, unle l < 256 ^ l.length
  | [] => by simp [unle]
  | b :: l => by
    have := unle_lt l
    have hb := b.toNat_lt
    simp only [unle, List.length_cons, Nat.pow_succ]
    omega
theorem le_unle : ∀ l : List UInt8, le l.length (unle l) = l
  | [] => rfl
  | b :: l => by
    have hb := b.toNat_lt
    have h1 : (b.toNat + 256 * unle l) % 256 = b.toNat := by omega
    have h2 : (b.toNat + 256 * unle l) / 256 = unle l := by omega
    simp only [List.length_cons, le, unle, h1, h2, le_unle l]
    simp
theorem unle_append : ∀ l m : List UInt8, unle (l ++ m) = unle l + 256 ^ l.length * unle m
  | [], m => by simp [unle]
  | b :: l, m => by
    simp only [List.cons_append, unle, List.length_cons, unle_append l m, Nat.pow_succ]
    rw [Nat.mul_comm (256 ^ l.length) 256, Nat.mul_assoc, Nat.mul_add, Nat.add_assoc]
theorem le_append_mod (k n : Nat) (h : n < 256 ^ k) : unle (le k n) = n := by rw [unle_le, Nat.mod_eq_of_lt h]

/-- Bytes as a string. -/
def str (l : List UInt8) : ByteArray := ⟨l.toArray⟩
theorem str_size (l : List UInt8) : (str l).size = l.length := by simp [str, ByteArray.size]
theorem str_toList (l : List UInt8) : (str l).data.toList = l := by simp [str]
theorem str_append (l m : List UInt8) : str l ++ str m = str (l ++ m) := by
  apply ByteArray.ext
  simp [str]
theorem str_of (s : ByteArray) : str s.data.toList = s := by
  apply ByteArray.ext
  simp [str]
theorem toList_data (s : ByteArray) : s.toList = s.data.toList := ByteArray.toList_eq s

/-! ### wire.Fixed, and the reference's -/
theorem nums_snoc (l : List Int) (x : Int) : strOfNums (l ++ [x]) = strOfNums l ++ str [UInt8.ofNat x.toNat] := by
  apply ByteArray.ext
  simp [strOfNums, str]
theorem wire_Fixed_loop (b : Nat) (hb : b ≤ 8) : ∀ (d i n : Nat) (l : List Int), i + d = b → l.length = i → n < 18446744073709551616 →
    Ev (fun k => wire_Fixed.l0 k (n : Int) l (b : Int) (i : Int)) (strOfNums l ++ str (le d n))
  | 0, i, n, l, hi, _, _ => by
    have e : strOfNums l ++ str (le 0 n) = strOfNums l := by apply ByteArray.ext; simp [le, str]
    rw [e]
    refine Ev.step (f := fun _ => some (strOfNums l)) (fun k => ?_) (Ev.now _)
    simp only [wire_Fixed.l0]
    rw [if_neg (by omega)]
  | d + 1, i, n, l, hi, hl, hn => by
    have ih := wire_Fixed_loop b hb d (i + 1) (n / 256) (l ++ [(n : Int) % 256]) (by omega) (by simp [hl]) (by omega)
    have e : strOfNums (l ++ [(n : Int) % 256]) ++ str (le d (n / 256)) = strOfNums l ++ str (le (d + 1) n) := by
      rw [nums_snoc, ByteArray.append_assoc, str_append]
      have : ((n : Int) % 256).toNat = n % 256 := by omega
      rw [this]
      rfl
    rw [e] at ih
    refine Ev.step (f := fun k => wire_Fixed.l0 k ((n / 256 : Nat) : Int) (l ++ [(n : Int) % 256]) (b : Int) ((i + 1 : Nat) : Int)) (fun k => ?_) ih
    simp only [wire_Fixed.l0]
    rw [if_pos (by omega), if_pos (by omega), show wrap64 ((i : Int) + 1) = ((i + 1 : Nat) : Int) by unfold wrap64; omega, show (n : Int) / 256 = ((n / 256 : Nat) : Int) by omega]
theorem wire_Fixed_tells (b n : Nat) (hb : b ≤ 8) (hn : n < 18446744073709551616) : Ev (fun k => wire_Fixed.f k (n : Int) (b : Int)) (str (le b n)) := by
  have h := wire_Fixed_loop b hb b 0 n [] (by omega) rfl hn
  have e : strOfNums [] ++ str (le b n) = str (le b n) := by apply ByteArray.ext; simp [strOfNums, str]
  have em : mn (mx (b : Int) 0) 8 = (b : Int) := by unfold mn mx; (repeat' split) <;> omega
  rw [e] at h
  unfold wire_Fixed.f
  rw [em]
  exact h
theorem ref_Fixed_loop (b : Nat) (hb : b ≤ 8) : ∀ (d i n : Nat) (s : ByteArray), i + d = b → s.size = i → n < 18446744073709551616 →
    Ev (fun k => keywayref03_Fixed.l0 k (n : Int) (b : Int) s (i : Int)) (s ++ str (le d n))
  | 0, i, n, s, hi, _, _ => by
    have e : s ++ str (le 0 n) = s := by apply ByteArray.ext; simp [le, str]
    rw [e]
    refine Ev.step (f := fun _ => some s) (fun k => ?_) (Ev.now _)
    simp only [keywayref03_Fixed.l0]
    rw [if_neg (by omega)]
  | d + 1, i, n, s, hi, hs, hn => by
    have e1 : strOfNums [(Int.tmod (n : Int) 256) % 256] = str [UInt8.ofNat (n % 256)] := by
      have : ((Int.tmod (n : Int) 256) % 256).toNat = n % 256 := by rw [Int.tmod_eq_emod_of_nonneg (by omega)]; omega
      apply ByteArray.ext
      simp only [strOfNums, List.map_cons, List.map_nil, this, str]
    have ed : IntKind.u64.wrap (Int.tdiv (n : Int) 256) = ((n / 256 : Nat) : Int) := by
      rw [Int.tdiv_eq_ediv_of_nonneg (by omega)]
      simp only [IntKind.wrap, IntKind.bits, IntKind.signed]
      simp
      omega
    have ih := ref_Fixed_loop b hb d (i + 1) (n / 256) (s ++ str [UInt8.ofNat (n % 256)]) (by omega) (by rw [ByteArray.size_append, str_size, hs]; rfl) (by omega)
    have e : (s ++ str [UInt8.ofNat (n % 256)]) ++ str (le d (n / 256)) = s ++ str (le (d + 1) n) := by rw [ByteArray.append_assoc, str_append]; rfl
    rw [e] at ih
    refine Ev.step (f := fun k => keywayref03_Fixed.l0 k ((n / 256 : Nat) : Int) (b : Int) (s ++ str [UInt8.ofNat (n % 256)]) ((i + 1 : Nat) : Int)) (fun k => ?_) ih
    simp only [keywayref03_Fixed.l0, Option.bind_some, e1, ed]
    rw [if_pos (by omega), if_pos (by omega), str_size, if_pos (by rw [hs]; simp only [List.length_cons, List.length_nil]; omega), show wrap64 ((i : Int) + 1) = ((i + 1 : Nat) : Int) by unfold wrap64; omega]
theorem ref_Fixed_tells (b n : Nat) (hb : b ≤ 8) (hn : n < 18446744073709551616) : Ev (fun k => keywayref03_Fixed.f k (n : Int) (b : Int)) (str (le b n)) := by
  have h := ref_Fixed_loop b hb b 0 n ⟨#[]⟩ (by omega) rfl hn
  have e : (⟨#[]⟩ : ByteArray) ++ str (le b n) = str (le b n) := by apply ByteArray.ext; simp [str]
  rw [e] at h
  exact h

/-! ### A page's sector -/
def mayB (kind number : Int) (data : ByteArray) : Bool := decide (1 ≤ kind) && decide (kind ≤ 4) && decide (0 ≤ number) && decide (number < 16384) && decide (data.size ≤ 237)
/-- What stands in a sector ahead of its check. -/
def body (kind number gen : Nat) (data : List UInt8) : List UInt8 := le 1 kind ++ le 4 number ++ le 8 gen ++ le 2 data.length ++ data ++ List.replicate (237 - data.length) 0
def sector (kind number gen : Nat) (data : List UInt8) : List UInt8 := body kind number gen data ++ le 4 (check (body kind number gen data))
theorem body_length (kind number gen : Nat) (data : List UInt8) (h : data.length ≤ 237) : (body kind number gen data).length = 252 := by
  simp only [body, List.length_append, le_length, List.length_replicate]
  omega
theorem sector_length (kind number gen : Nat) (data : List UInt8) (h : data.length ≤ 237) : (sector kind number gen data).length = 256 := by
  rw [sector, List.length_append, body_length _ _ _ _ h, le_length]
def putB (kind number gen : Int) (data : ByteArray) : ByteArray := if mayB kind number data = true then str (sector kind.toNat number.toNat gen.toNat data.data.toList) else ⟨#[]⟩

theorem may_tells (kind number gen : Int) (data : ByteArray) : page_May.f kind number gen data = some (mayB kind number data) := by
  unfold page_May.f mayB
  by_cases h1 : 1 ≤ kind <;> by_cases h2 : kind ≤ 4 <;> by_cases h3 : 0 ≤ number <;> by_cases h4 : number < 16384 <;> simp [h1, h2, h3, h4]
  omega
theorem ref_May_tells (kind number gen : Int) (data : ByteArray) : keywayref05_May.f kind number gen data = some (mayB kind number data) := may_tells kind number gen data
theorem wrap_u64 {x : Int} (h0 : 0 ≤ x) (h1 : x < 18446744073709551616) : IntKind.u64.wrap x = x := by
  simp only [IntKind.wrap, IntKind.bits, IntKind.signed]
  simp
  omega

theorem may_iff {kind number : Int} {data : ByteArray} : mayB kind number data = true ↔ 1 ≤ kind ∧ kind ≤ 4 ∧ 0 ≤ number ∧ number < 16384 ∧ data.size ≤ 237 := by
  unfold mayB
  simp only [Bool.and_eq_true, decide_eq_true_eq, and_assoc]
theorem zeros_str (n : Nat) : strOfNums (List.replicate n 0) = str (List.replicate n 0) := by
  apply ByteArray.ext
  simp [strOfNums, str]
theorem few_rows {α : Type} {c : Prop} [Decidable c] {g h : Nat → Option α} {r : α} (hc : c) (k : Ev g r) : Ev (fun n => if c then g n else h n) r := Ev.congr (fun _ => if_pos hc) k
theorem not_rows {α : Type} {c : Prop} [Decidable c] {g h : Nat → Option α} {r : α} (hc : ¬ c) (k : Ev h r) : Ev (fun n => if c then g n else h n) r := Ev.congr (fun _ => if_neg hc) k
theorem cat4 (a b c d e f g : List UInt8) : ((((((str a ++ str b) ++ str c) ++ str d) ++ str e) ++ str f) ++ str g) = str (a ++ b ++ c ++ d ++ e ++ f ++ g) := by simp only [str_append]
theorem put_tells (kind number gen : Int) (data : ByteArray) (hg0 : 0 ≤ gen) (hg1 : gen < 18446744073709551616) : Ev (fun k => page_Put.f k kind number gen data) (putB kind number gen data) := by
  unfold page_Put.f
  simp only [may_tells, Option.bind_some]
  by_cases hm : mayB kind number data = true
  · obtain ⟨h1, h2, h3, h4, h5⟩ := may_iff.1 hm
    obtain ⟨K, rfl⟩ := Int.eq_ofNat_of_zero_le (show 0 ≤ kind by omega)
    obtain ⟨N, rfl⟩ := Int.eq_ofNat_of_zero_le h3
    obtain ⟨G, rfl⟩ := Int.eq_ofNat_of_zero_le hg0
    have hl : data.data.toList.length = data.size := by simp
    have hb := body_length K N G data.data.toList (by rw [hl]; exact h5)
    have e1 : (str (le 1 K)).size = 1 := by rw [str_size, le_length]
    have e4 : (str (le 4 N)).size = 4 := by rw [str_size, le_length]
    have e8 : (str (le 8 G)).size = 8 := by rw [str_size, le_length]
    have e2 : (str (le 2 data.size)).size = 2 := by rw [str_size, le_length]
    have ez : (str (List.replicate (237 - data.size) (0 : UInt8))).size = 237 - data.size := by rw [str_size, List.length_replicate]
    have ec : (str (le 4 (check (body K N G data.data.toList)))).size = 4 := by rw [str_size, le_length]
    have ew : wrap64 (252 - (((1 : Nat) : Int) + ((4 : Nat) : Int) + ((8 : Nat) : Int) + ((2 : Nat) : Int) + (data.size : Int))) = ((237 - data.size : Nat) : Int) := by unfold wrap64; omega
    have hcat : ((((str (le 1 K) ++ str (le 4 N)) ++ str (le 8 G)) ++ str (le 2 data.size)) ++ data) ++ str (List.replicate (237 - data.size) 0) = str (body K N G data.data.toList) := by
      have happ : ∀ x : ByteArray, x ++ data = x ++ str data.data.toList := fun x => by rw [str_of]
      rw [happ]
      simp only [str_append]
      unfold body
      rw [hl]
    have hput : putB (K : Int) (N : Int) (G : Int) data = str (body K N G data.data.toList) ++ str (le 4 (check (body K N G data.data.toList))) := by
      unfold putB sector
      rw [if_pos hm, str_append]
      simp
    refine few_rows hm ?_
    rw [wrap_u64 (x := (K : Int)) (by omega) (by omega), wrap_u64 (x := (N : Int)) (by omega) (by omega), wrap_u64 (x := (data.size : Int)) (by omega) (by omega)]
    refine Ev.bind (wire_Fixed_tells 1 K (by decide) (by omega)) (Ev.bind (wire_Fixed_tells 4 N (by decide) (by omega)) (few_rows (by omega) (Ev.bind (wire_Fixed_tells 8 G (by decide) (by omega)) (few_rows (by omega) (Ev.bind (wire_Fixed_tells 2 data.size (by decide) (by omega)) ?_)))))
    rw [e1, e4, e8, e2, ew]
    refine few_rows (by omega) (few_rows (by omega) (few_rows (by omega) (few_rows (by omega) ?_)))
    simp only [Int.toNat_natCast, zeros_str, ez]
    refine few_rows (by omega) ?_
    rw [hcat, crc_Of_tells (s := str (body K N G data.data.toList)) (by rw [str_size, hb]; omega), str_toList]
    simp only [Option.bind_some]
    have hck := check_lt (body K N G data.data.toList)
    rw [wrap_u64 (x := ((check (body K N G data.data.toList) : Nat) : Int)) (by omega) (by omega)]
    refine Ev.bind (wire_Fixed_tells 4 _ (by decide) (by omega)) ?_
    rw [ec]
    refine few_rows (by omega) ?_
    rw [hput]
    exact Ev.now _
  · refine not_rows hm ?_
    unfold putB
    rw [if_neg hm]
    exact Ev.now _
theorem ref_zeros (r : ByteArray) : ∀ (d : Nat) (l : List UInt8), l.length + d = 252 → Ev (fun k => keywayref05_Put.l0 k (str (l ++ List.replicate d 0))) r → Ev (fun k => keywayref05_Put.l0 k (str l)) r
  | 0, l, _, h => by simpa using h
  | d + 1, l, hl, h => by
    have e : (l ++ [0]) ++ List.replicate d 0 = l ++ List.replicate (d + 1) (0 : UInt8) := by rw [List.append_assoc, List.replicate_succ]; rfl
    refine Ev.step (f := fun k => keywayref05_Put.l0 k (str (l ++ [0]))) (fun k => ?_) (ref_zeros r d (l ++ [0]) (by simp; omega) (by rw [e]; exact h))
    rw [keywayref05_Put.l0.e1, str_size, if_pos (by omega), if_pos (by omega)]
    rw [← str_append]
    rfl
theorem ref_Put_tells (kind number gen : Int) (data : ByteArray) (hg0 : 0 ≤ gen) (hg1 : gen < 18446744073709551616) : Ev (fun k => keywayref05_Put.f k kind number gen data) (putB kind number gen data) := by
  unfold keywayref05_Put.f
  simp only [ref_May_tells, Option.bind_some]
  by_cases hm : mayB kind number data = true
  · obtain ⟨h1, h2, h3, h4, h5⟩ := may_iff.1 hm
    obtain ⟨K, rfl⟩ := Int.eq_ofNat_of_zero_le (show 0 ≤ kind by omega)
    obtain ⟨N, rfl⟩ := Int.eq_ofNat_of_zero_le h3
    obtain ⟨G, rfl⟩ := Int.eq_ofNat_of_zero_le hg0
    have hl : data.data.toList.length = data.size := by simp
    have hb := body_length K N G data.data.toList (by rw [hl]; exact h5)
    have e1 : (str (le 1 K)).size = 1 := by rw [str_size, le_length]
    have e4 : (str (le 4 N)).size = 4 := by rw [str_size, le_length]
    have e8 : (str (le 8 G)).size = 8 := by rw [str_size, le_length]
    have e2 : (str (le 2 data.size)).size = 2 := by rw [str_size, le_length]
    have ec : (str (le 4 (check (body K N G data.data.toList)))).size = 4 := by rw [str_size, le_length]
    have hcat : ((((str (le 1 K) ++ str (le 4 N)) ++ str (le 8 G)) ++ str (le 2 data.size)) ++ data) = str (le 1 K ++ le 4 N ++ le 8 G ++ le 2 data.data.toList.length ++ data.data.toList) := by
      have happ : ∀ x : ByteArray, x ++ data = x ++ str data.data.toList := fun x => by rw [str_of]
      rw [happ]
      simp only [str_append]
      rw [hl]
    have hput : putB (K : Int) (N : Int) (G : Int) data = str (body K N G data.data.toList) ++ str (le 4 (check (body K N G data.data.toList))) := by
      unfold putB sector
      rw [if_pos hm, str_append]
      simp
    refine few_rows hm ?_
    rw [wrap_u64 (x := (K : Int)) (by omega) (by omega), wrap_u64 (x := (N : Int)) (by omega) (by omega), wrap_u64 (x := (data.size : Int)) (by omega) (by omega)]
    refine Ev.bind (ref_Fixed_tells 1 K (by decide) (by omega)) (Ev.bind (ref_Fixed_tells 4 N (by decide) (by omega)) (few_rows (by omega) (Ev.bind (ref_Fixed_tells 8 G (by decide) (by omega)) (few_rows (by omega) (Ev.bind (ref_Fixed_tells 2 data.size (by decide) (by omega)) ?_)))))
    rw [e1, e4, e8, e2]
    refine few_rows (by omega) (few_rows (by omega) ?_)
    rw [hcat]
    refine ref_zeros _ (237 - data.data.toList.length) _ (by simp only [List.length_append, le_length, hl]; omega) ?_
    show Ev (fun k => keywayref05_Put.l0 k (str (body K N G data.data.toList))) _
    have hck := check_lt (body K N G data.data.toList)
    refine Ev.step (f := fun k => ((keywayref01_Of.f k (str (body K N G data.data.toList))).bind fun t157 => ((keywayref03_Fixed.f k (IntKind.u64.wrap (t157)) 4).bind fun t158 => (if (str (body K N G data.data.toList)).size + t158.size ≤ 9223372036854775807 then (some (str (body K N G data.data.toList) ++ t158)) else (none))))) (fun k => ?_) ?_
    · rw [keywayref05_Put.l0.e1, str_size, hb, if_neg (by omega)]
    · have ho := ref_Of_tells (s := str (body K N G data.data.toList)) (by rw [str_size, hb]; omega)
      rw [str_toList] at ho
      refine Ev.bind ho ?_
      rw [wrap_u64 (x := ((check (body K N G data.data.toList) : Nat) : Int)) (by omega) (by omega)]
      refine Ev.bind (ref_Fixed_tells 4 _ (by decide) (by omega)) ?_
      rw [ec, str_size, hb]
      refine few_rows (by omega) ?_
      rw [hput]
      exact Ev.now _
  · refine not_rows hm ?_
    unfold putB
    rw [if_neg hm]
    exact Ev.now _
end Go.Proofs.Ytlimgnpkbelmcaa.Pure
