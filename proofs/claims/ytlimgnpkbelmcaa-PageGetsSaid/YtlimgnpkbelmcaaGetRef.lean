/-
What the reference's Get comes to: the page whose sector some bytes are, or none; conditions: none.
-/
import Derived.Test.YtlimgnpkbelmcaaGet
import Derived.Test.YtlimgnpkbelmcaaF11
namespace Go.Proofs.Ytlimgnpkbelmcaa.Pure
open Go.RowKit Go.Proofs.Ytlimgnpkbelmcaa.F Go.Proofs.YtlimgnpkbelmcaaW.PrintWords Go.Proofs.YtlimgnpkbelmcaaW.PrintLast Go.Proofs.YtlimgnpkbelmcaaW.PrintMore Go.Proofs.Ytlimgnpkbelmcaa.Math
/-! ### The reference's reader -/
theorem ref_take_tells (l : List UInt8) (n : Nat) (h : n ≤ l.length) : keywayref03_R_Take.f (str l) 0 (n : Int) = some (str (l.drop n), 0, str (l.take n)) := by
  unfold keywayref03_R_Take.f
  simp only [if_true, str_size]
  rw [if_neg (by omega), if_neg (by omega), if_pos (by omega), if_pos (by omega)]
  simp only [Int.toNat_natCast, extract_front]
  rw [← str_size l, extract_back]
theorem ref_add (x b : Nat) (hx : x < 72057594037927936) (hb : b < 256) : IntKind.u64.wrap (IntKind.u64.wrap ((x : Int) * 256) + IntKind.u64.wrap (b : Int)) = ((b + 256 * x : Nat) : Int) := by
  rw [wrap_u64 (x := (x : Int) * 256) (by omega) (by omega), wrap_u64 (x := (b : Int)) (by omega) (by omega), wrap_u64 (by omega) (by omega)]
  omega
theorem ref_reader_loop (l : List UInt8) (hl : l.length ≤ 8) (s : ByteArray) (e : Int) : ∀ i : Nat, i ≤ l.length →
    Ev (fun k => keywayref03_R_Fixed.l0 k (str l) ((unle (l.drop i) : Nat) : Int) ((i : Int) - 1) s e) (s, e, ((unle l : Nat) : Int))
  | 0, _ => by
    refine Ev.step (f := fun _ => some (s, e, ((unle l : Nat) : Int))) (fun k => ?_) (Ev.now _)
    simp only [keywayref03_R_Fixed.l0]
    rw [if_neg (by omega)]
    simp
  | i + 1, hi => by
    have hb := l[i].toNat_lt
    have hu : unle (l.drop (i + 1)) < 72057594037927936 := by
      have h1 := unle_lt (l.drop (i + 1))
      have h2 : 256 ^ (l.drop (i + 1)).length ≤ 256 ^ 7 := Nat.pow_le_pow_right (by decide) (by rw [List.length_drop]; omega)
      omega
    have ih := ref_reader_loop l hl s e i (by omega)
    refine Ev.step (f := fun k => keywayref03_R_Fixed.l0 k (str l) ((unle (l.drop i) : Nat) : Int) ((i : Int) - 1) s e) (fun k => ?_) ih
    simp only [keywayref03_R_Fixed.l0]
    rw [show ((i + 1 : Nat) : Int) - 1 = (i : Int) by omega, if_pos (by omega), if_pos (by omega), str_size, if_pos (by omega), bt_str l i (by omega), ref_add _ _ hu hb, unle_take_succ l i (by omega), show wrap64 ((i : Int) - 1) = (i : Int) - 1 by unfold wrap64; omega]
theorem ref_reader_Fixed_tells (l : List UInt8) (b : Nat) (hb : b ≤ 8) (h : b ≤ l.length) : Ev (fun k => keywayref03_R_Fixed.f k (str l) 0 (b : Int)) (str (l.drop b), 0, ((unle (l.take b) : Nat) : Int)) := by
  have hlen : (l.take b).length = b := by rw [List.length_take]; omega
  unfold keywayref03_R_Fixed.f
  refine not_rows (by omega) ?_
  refine Ev.step (f := fun k => keywayref03_R_Fixed.j1 k (b : Int) (str l) 0) (fun k => ?_) ?_
  · simp only [keywayref03_R_Fixed.j0]
    rw [if_neg (by omega)]
  have ih := ref_reader_loop (l.take b) (by omega) (str (l.drop b)) 0 (l.take b).length (Nat.le_refl _)
  rw [List.drop_length] at ih
  refine Ev.step (fun k => ?_) ih
  simp only [keywayref03_R_Fixed.j1, ref_take_tells l b h, Option.bind_some]
  rw [str_size, show wrap64 (((l.take b).length : Int) - 1) = ((l.take b).length : Int) - 1 by unfold wrap64; omega]
  rfl
/-- The reference tells the parts, whether they are a page's or not, where there are enough bytes and not too many are said. -/
theorem ref_get_tells (s : ByteArray) : Ev (fun k => keywayref05_Get.f k s) (if s.size = 256 ∧ manyOf s.data.toList ≤ 237 then ((kindOf s.data.toList : Int), (numberOf s.data.toList : Int), (genOf s.data.toList : Int), str (dataOf s.data.toList), isB s) else (0, 0, 0, (⟨#[]⟩ : ByteArray), false)) := by
  obtain ⟨l, rfl⟩ : ∃ l, s = str l := ⟨_, (str_of s).symm⟩
  unfold keywayref05_Get.f isB
  rw [str_toList, str_size]
  have hk := unle_take l 0 1
  have hn := unle_take l 1 4
  have hg := unle_take l 5 8
  have hm := unle_take l 13 2
  rw [List.drop_zero] at hk
  by_cases h : l.length = 256
  · refine few_rows (by omega) ?_
    refine Ev.bind (ref_reader_Fixed_tells l 1 (by decide) (by omega)) (Ev.bind (ref_reader_Fixed_tells (l.drop 1) 4 (by decide) (by rw [List.length_drop]; omega)) ?_)
    simp only [List.drop_drop]
    refine Ev.bind (ref_reader_Fixed_tells (l.drop 5) 8 (by decide) (by rw [List.length_drop]; omega)) ?_
    simp only [List.drop_drop]
    refine Ev.bind (ref_reader_Fixed_tells (l.drop 13) 2 (by decide) (by rw [List.length_drop]; omega)) ?_
    simp only [List.drop_drop]
    have wm : wrap64 ((unle ((l.drop 13).take 2) : Nat) : Int) = (manyOf l : Int) := by unfold wrap64 manyOf; omega
    have wk : wrap64 ((unle (l.take 1) : Nat) : Int) = (kindOf l : Int) := by unfold wrap64 kindOf; omega
    have wn : wrap64 ((unle ((l.drop 1).take 4) : Nat) : Int) = (numberOf l : Int) := by unfold wrap64 numberOf; omega
    rw [wm, wk, wn]
    by_cases h2 : manyOf l ≤ 237
    · refine not_rows (by unfold manyOf at h2; omega) ?_
      rw [ref_take_tells (l.drop 15) (manyOf l) (by rw [List.length_drop]; omega)]
      simp only [Option.bind_some]
      refine Ev.bind (ref_Put_tells (kindOf l) (numberOf l) (genOf l) (str (dataOf l)) (by omega) (by unfold genOf; omega)) ?_
      rw [if_pos ⟨h, h2⟩]
      have e : ((putB (kindOf l) (numberOf l) (genOf l) (str (dataOf l))).toList == (str l).toList) = (decide (l.length = 256) && decide (manyOf l ≤ 237) && decide (putB (kindOf l) (numberOf l) (genOf l) (str (dataOf l)) = str l)) := by
        rw [decide_eq_true h, decide_eq_true h2, Bool.true_and, Bool.true_and, toList_data, toList_data, str_toList]
        by_cases h3 : putB (kindOf l) (numberOf l) (genOf l) (str (dataOf l)) = str l
        · rw [decide_eq_true h3, h3, str_toList]
          simp
        · rw [decide_eq_false h3]
          refine beq_eq_false_iff_ne.2 fun he => h3 ?_
          rw [← str_of (putB (kindOf l) (numberOf l) (genOf l) (str (dataOf l))), he]
      rw [e]
      exact Ev.now _
    · refine few_rows (by unfold manyOf at h2; omega) ?_
      rw [if_neg (by simp [h2])]
      exact Ev.now _
  · refine not_rows (by omega) ?_
    rw [if_neg (by simp [h])]
    exact Ev.now _
end Go.Proofs.Ytlimgnpkbelmcaa.Pure
