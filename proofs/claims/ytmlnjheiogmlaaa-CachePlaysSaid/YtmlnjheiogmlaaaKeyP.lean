/-
What wire.Key comes to: a number's bytes, the highest first, behind how many there are; unlike numbers have unlike bytes; conditions: the numbers are below 2^64.
-/
import Derived.Test.YtmlnjheiogmlaaaNumP
namespace Go.Proofs.Ytmlnjheiogmlaaa.Pure
open Go.RowKit Go.Proofs.Ytmlnjheiogmlaaa.F Go.Proofs.YtmlnjheiogmlaaaW.PrintWords Go.Proofs.YtmlnjheiogmlaaaW.PrintLast Go.Proofs.YtmlnjheiogmlaaaW.PrintMore
/-- A number's bytes, the highest first. -/
def be (n : Nat) : List UInt8 := if n = 0 then [] else be (n / 256) ++ [UInt8.ofNat n]
termination_by n
decreasing_by omega
theorem be_zero : be 0 = [] := by rw [be, if_pos rfl]
theorem be_pos {n : Nat} (h : n ≠ 0) : be n = be (n / 256) ++ [UInt8.ofNat n] := by rw [be, if_neg h]
def key (n : Nat) : List UInt8 := UInt8.ofNat (be n).length :: be n
theorem be_length : ∀ (f n : Nat), n < 256 ^ f → (be n).length ≤ f
  | 0, n, h => by
    have : n = 0 := by simpa using h
    rw [this, be_zero]; simp
  | f + 1, n, h => by
    by_cases h0 : n = 0
    · rw [h0, be_zero]; simp
    · rw [be_pos h0, List.length_append]
      have := be_length f (n / 256) (by rw [Nat.pow_succ] at h; omega)
      simp; omega
theorem wire_Key_loop : ∀ (f n : Nat) (l : List UInt8), n < 256 ^ f → l.length + f < 250 →
    Ev (fun k => wire_Key.l0 k (n : Int) (l.map fun b => (b.toNat : Int))) (str (UInt8.ofNat (be n ++ l).length :: (be n ++ l)))
  | f, n, l, hn, hl => by
    by_cases h : n = 0
    · subst h
      refine Ev.step (f := fun _ => some (str (UInt8.ofNat (be 0 ++ l).length :: (be 0 ++ l)))) (fun k => ?_) (Ev.now _)
      simp only [wire_Key.l0]
      rw [if_neg (by simp), be_zero]
      simp only [Option.bind_some, List.length_map, List.length_cons, List.length_nil, List.nil_append]
      rw [if_pos (by omega)]
      congr 1
      apply ByteArray.ext
      simp only [strOfNums, str, List.cons_append, List.nil_append, List.map_cons, List.map_map]
      have e : ((l.length : Int) % 256).toNat = l.length := by omega
      rw [e]
      congr 2
      conv => rhs; rw [← List.map_id l]
      exact List.map_congr_left (fun b _ => by simp)
    · cases f with
      | zero => simp at hn; omega
      | succ f =>
        have ih := wire_Key_loop f (n / 256) (UInt8.ofNat n :: l) (by rw [Nat.pow_succ] at hn; omega) (by simp; omega)
        have e : be (n / 256) ++ UInt8.ofNat n :: l = be n ++ l := by rw [be_pos h, List.append_assoc]; rfl
        rw [e] at ih
        refine Ev.step (f := fun k => wire_Key.l0 k ((n / 256 : Nat) : Int) ((UInt8.ofNat n :: l).map fun b => (b.toNat : Int))) (fun k => ?_) ih
        simp only [wire_Key.l0]
        rw [if_pos (by omega)]
        simp only [Option.bind_some, List.length_map, List.length_cons, List.length_nil, List.map_cons]
        rw [if_pos (by omega), show (n : Int) / 256 = ((n / 256 : Nat) : Int) by omega]
        have e2 : (n : Int) % 256 = ((UInt8.ofNat n).toNat : Int) := by
          rw [UInt8.toNat_ofNat']
          omega
        rw [e2]
        rfl
theorem wire_Key_tells (n : Nat) (hn : n < 18446744073709551616) : Ev (fun k => wire_Key.f k (n : Int)) (str (key n)) := by
  have h := wire_Key_loop 8 n [] (by simpa using hn) (by simp)
  rw [List.append_nil] at h
  exact h
/-- The number that bytes say. -/
def unbe (l : List UInt8) : Nat := l.foldl (fun a b => a * 256 + b.toNat) 0
theorem unbe_be (n : Nat) : unbe (be n) = n := by
  induction n using be.induct with
  | case1 => rw [be_zero]; rfl
  | case2 n h ih =>
    rw [be_pos h]
    unfold unbe at *
    rw [List.foldl_append, ih]
    simp
    omega
theorem key_inj {n m : Nat} (h : key n = key m) : n = m := by
  have h2 : be n = be m := (List.cons.inj h).2
  rw [← unbe_be n, ← unbe_be m, h2]
theorem key_length (n : Nat) (hn : n < 18446744073709551616) : (key n).length ≤ 9 := by
  have := be_length 8 n (by simpa using hn)
  simp [key]; omega
theorem str_inj {l m : List UInt8} (h : str l = str m) : l = m := by
  have := congrArg (fun b : ByteArray => b.data.toList) h
  simpa [str] using this
end Go.Proofs.Ytmlnjheiogmlaaa.Pure
