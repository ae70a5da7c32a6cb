/-
What page.Get comes to: the page whose sector some bytes are, or none; conditions: none.
-/
import Derived.Test.YtlimgnpkbelmcaaPage
import Derived.Test.YtlimgnpkbelmcaaF8
namespace Go.Proofs.Ytlimgnpkbelmcaa.Pure
open Go.RowKit Go.Proofs.Ytlimgnpkbelmcaa.F Go.Proofs.YtlimgnpkbelmcaaW.PrintWords Go.Proofs.YtlimgnpkbelmcaaW.PrintLast Go.Proofs.YtlimgnpkbelmcaaW.PrintMore Go.Proofs.Ytlimgnpkbelmcaa.Math
theorem extract_front (l : List UInt8) (n : Nat) : (str l).extract 0 n = str (l.take n) := by
  apply ByteArray.ext
  simp [str]
theorem extract_back (l : List UInt8) (n : Nat) : (str l).extract n (str l).size = str (l.drop n) := by
  apply ByteArray.ext
  simp only [str, ByteArray.size, ByteArray.data_extract, List.size_toArray, List.extract_toArray]
  rw [List.extract_eq_take_drop, List.take_of_length_le (by simp)]
theorem bt_str (l : List UInt8) (i : Nat) (h : i < l.length) : bt (str l) (i : Int) = (l[i].toNat : Int) := by
  have hs : ((i : Int)).toNat < (str l).size := by rw [str_size]; simpa using h
  rw [← bt_at (str l) (i : Int) hs]
  rfl
theorem or_u64 (x b : Nat) (hx : x < 72057594037927936) (hb : b < 256) : Go.bits .or .u64 (IntKind.u64.wrap ((x : Int) * 256)) (IntKind.u64.wrap (b : Int)) = ((b + 256 * x : Nat) : Int) := by
  have wr : ∀ n : Int, 0 ≤ n → n < 2 ^ 64 → IntKind.u64.wrap n = n := fun n h0 h1 => wrap_u64 h0 (by simpa using h1)
  rw [wrap_u64 (by omega) (by omega), wrap_u64 (by omega) (by omega), bits_join .u64 64 (by decide) wr 8 _ _ (by omega) (by omega) (by omega) (by omega) (by omega) (by omega)]
  omega
/-! ### wire.Reader -/
theorem take_tells (l : List UInt8) (n : Nat) (h : n ≤ l.length) : wire_Reader_Take.f (str l) 0 (n : Int) = some (str (l.take n), str (l.drop n), 0) := by
  unfold wire_Reader_Take.f wire_Reader_Err.f
  simp only [Option.bind_some, if_true, str_size]
  rw [if_neg (by omega), if_neg (by omega), if_pos (by omega), if_pos (by omega)]
  simp only [Int.toNat_natCast, extract_front]
  rw [← str_size l, extract_back]
theorem unle_take_succ (l : List UInt8) (i : Nat) (h : i < l.length) : unle (l.drop i) = l[i].toNat + 256 * unle (l.drop (i + 1)) := by
  rw [List.drop_eq_getElem_cons h]
  rfl
theorem reader_loop (l : List UInt8) (hl : l.length ≤ 8) (s : ByteArray) (e : Int) : ∀ i : Nat, i ≤ l.length →
    Ev (fun k => wire_Reader_Fixed.l0 k (str l) ((unle (l.drop i) : Nat) : Int) ((i : Int) - 1) s e) (((unle l : Nat) : Int), s, e)
  | 0, _ => by
    refine Ev.step (f := fun _ => some (((unle l : Nat) : Int), s, e)) (fun k => ?_) (Ev.now _)
    simp only [wire_Reader_Fixed.l0]
    rw [if_neg (by omega)]
    simp
  | i + 1, hi => by
    have hb := l[i].toNat_lt
    have hu : unle (l.drop (i + 1)) < 72057594037927936 := by
      have h1 := unle_lt (l.drop (i + 1))
      have h2 : 256 ^ (l.drop (i + 1)).length ≤ 256 ^ 7 := Nat.pow_le_pow_right (by decide) (by rw [List.length_drop]; omega)
      omega
    have ih := reader_loop l hl s e i (by omega)
    refine Ev.step (f := fun k => wire_Reader_Fixed.l0 k (str l) ((unle (l.drop i) : Nat) : Int) ((i : Int) - 1) s e) (fun k => ?_) ih
    simp only [wire_Reader_Fixed.l0]
    rw [show ((i + 1 : Nat) : Int) - 1 = (i : Int) by omega, if_pos (by omega), if_pos (by omega), str_size, if_pos (by omega), bt_str l i (by omega), or_u64 _ _ hu hb, unle_take_succ l i (by omega), show wrap64 ((i : Int) - 1) = (i : Int) - 1 by unfold wrap64; omega]
theorem reader_Fixed_tells (l : List UInt8) (b : Nat) (hb : b ≤ 8) (h : b ≤ l.length) : Ev (fun k => wire_Reader_Fixed.f k (str l) 0 (b : Int)) (((unle (l.take b) : Nat) : Int), str (l.drop b), 0) := by
  have em : mn (mx (b : Int) 0) 8 = (b : Int) := by unfold mn mx; (repeat' split) <;> omega
  have hlen : (l.take b).length = b := by rw [List.length_take]; omega
  unfold wire_Reader_Fixed.f
  rw [em, take_tells l b h]
  simp only [Option.bind_some]
  have ih := reader_loop (l.take b) (by omega) (str (l.drop b)) 0 (l.take b).length (Nat.le_refl _)
  rw [List.drop_length] at ih
  refine Ev.congr (fun k => ?_) ih
  rw [str_size, show wrap64 (((l.take b).length : Int) - 1) = ((l.take b).length : Int) - 1 by unfold wrap64; omega]
  rfl
/-! ### Get -/
def kindOf (l : List UInt8) : Nat := unle (l.take 1)
def numberOf (l : List UInt8) : Nat := unle ((l.drop 1).take 4)
def genOf (l : List UInt8) : Nat := unle ((l.drop 5).take 8)
def manyOf (l : List UInt8) : Nat := unle ((l.drop 13).take 2)
def dataOf (l : List UInt8) : List UInt8 := (l.drop 15).take (manyOf l)
/-- Are these bytes the sector of some page? -/
def isB (s : ByteArray) : Bool := decide (s.size = 256) && decide (manyOf s.data.toList ≤ 237) && decide (putB (kindOf s.data.toList) (numberOf s.data.toList) (genOf s.data.toList) (str (dataOf s.data.toList)) = s)
theorem unle_take (l : List UInt8) (a b : Nat) : unle ((l.drop a).take b) < 256 ^ b := by
  have h := unle_lt ((l.drop a).take b)
  exact Nat.lt_of_lt_of_le h (Nat.pow_le_pow_right (by decide) (by rw [List.length_take]; omega))
theorem get_tells (s : ByteArray) : Ev (fun k => page_Get.f k s) (if isB s = true then ((kindOf s.data.toList : Int), (numberOf s.data.toList : Int), (genOf s.data.toList : Int), str (dataOf s.data.toList), 0) else (0, 0, 0, (⟨#[]⟩ : ByteArray), 3)) := by
  obtain ⟨l, rfl⟩ : ∃ l, s = str l := ⟨_, (str_of s).symm⟩
  unfold page_Get.f isB
  rw [str_toList, str_size]
  have hk := unle_take l 0 1
  have hn := unle_take l 1 4
  have hg := unle_take l 5 8
  have hm := unle_take l 13 2
  rw [List.drop_zero] at hk
  by_cases h : l.length = 256
  · refine few_rows (by omega) ?_
    unfold wire_New.f
    simp only [Option.bind_some]
    refine Ev.bind (reader_Fixed_tells l 1 (by decide) (by omega)) (Ev.bind (reader_Fixed_tells (l.drop 1) 4 (by decide) (by rw [List.length_drop]; omega)) ?_)
    simp only [List.drop_drop]
    refine Ev.bind (reader_Fixed_tells (l.drop 5) 8 (by decide) (by rw [List.length_drop]; omega)) ?_
    simp only [List.drop_drop]
    refine Ev.bind (reader_Fixed_tells (l.drop 13) 2 (by decide) (by rw [List.length_drop]; omega)) ?_
    simp only [List.drop_drop]
    have wm : wrap64 ((unle ((l.drop 13).take 2) : Nat) : Int) = (manyOf l : Int) := by unfold wrap64 manyOf; omega
    have wk : wrap64 ((unle (l.take 1) : Nat) : Int) = (kindOf l : Int) := by unfold wrap64 kindOf; omega
    have wn : wrap64 ((unle ((l.drop 1).take 4) : Nat) : Int) = (numberOf l : Int) := by unfold wrap64 numberOf; omega
    rw [wm, wk, wn]
    by_cases h2 : manyOf l ≤ 237
    · refine not_rows (by omega) ?_
      rw [take_tells (l.drop 15) (manyOf l) (by rw [List.length_drop]; omega)]
      simp only [Option.bind_some]
      refine Ev.bind (put_tells (kindOf l) (numberOf l) (genOf l) (str (dataOf l)) (by omega) (by unfold genOf; omega)) ?_
      by_cases h3 : putB (kindOf l) (numberOf l) (genOf l) (str (dataOf l)) = str l
      · refine few_rows (by rw [h3]) ?_
        rw [if_pos (by simp [h, h2, h3])]
        exact Ev.now _
      · refine not_rows (fun he => h3 ?_) ?_
        · rw [toList_data, toList_data] at he
          rw [← str_of (putB (kindOf l) (numberOf l) (genOf l) (str (dataOf l))), he, str_of]
        · rw [if_neg (by simp [h3])]
          exact Ev.now _
    · refine few_rows (by omega) ?_
      rw [if_neg (by simp [h2])]
      exact Ev.now _
  · refine not_rows (by omega) ?_
    rw [if_neg (by simp [h])]
    exact Ev.now _
end Go.Proofs.Ytlimgnpkbelmcaa.Pure
