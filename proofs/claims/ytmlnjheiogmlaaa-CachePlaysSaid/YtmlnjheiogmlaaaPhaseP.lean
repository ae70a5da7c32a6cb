/-
Records: what phase.Text writes, phase.Of reads; conditions: the numbers are of their kinds.
-/
import Derived.Test.YtmlnjheiogmlaaaNumP
namespace Go.Proofs.Ytmlnjheiogmlaaa.Pure
open Go.RowKit Go.Proofs.Ytmlnjheiogmlaaa.F Go.Proofs.YtmlnjheiogmlaaaW.PrintWords Go.Proofs.YtmlnjheiogmlaaaW.PrintLast Go.Proofs.YtmlnjheiogmlaaaW.PrintMore
theorem few_rows {α : Type} {c : Prop} [Decidable c] {g h : Nat → Option α} {r : α} (hc : c) (k : Ev g r) : Ev (fun n => if c then g n else h n) r := Ev.congr (fun _ => if_pos hc) k
theorem not_rows {α : Type} {c : Prop} [Decidable c] {g h : Nat → Option α} {r : α} (hc : ¬ c) (k : Ev h r) : Ev (fun n => if c then g n else h n) r := Ev.congr (fun _ => if_neg hc) k
theorem end_tells (l : List UInt8) (e : Nat) : Ev (fun k => wire_Reader_End.f k (str l) (e : Int)) (if e = 0 ∧ l ≠ [] then (5, str l, 5) else ((e : Int), str l, (e : Int))) := by
  unfold wire_Reader_End.f wire_Reader_Err.f
  simp only [Option.bind_some]
  by_cases h0 : e = 0
  · subst h0
    refine few_rows rfl ?_
    cases l with
    | nil =>
      refine Ev.step (f := fun _ => some (0, str [], 0)) (fun k => ?_) (Ev.now _)
      simp only [wire_Reader_End.j0]
      rw [if_neg (by decide)]
      rfl
    | cons b l =>
      refine Ev.step (f := fun _ => some (5, str (b :: l), 5)) (fun k => ?_) ?_
      · simp only [wire_Reader_End.j0]
        rw [if_pos (by rw [str_size]; simp)]
        unfold wire_Reader_Fail.f wire_Reader_Err.f
        rfl
      · rw [if_pos ⟨rfl, by simp⟩]
        exact Ev.now _
  · refine not_rows (by omega) ?_
    refine Ev.step (f := fun _ => some ((e : Int), str l, (e : Int))) (fun k => ?_) ?_
    · simp only [wire_Reader_End.j0]
      rw [if_neg (by decide)]
      rfl
    · rw [if_neg (fun h => h0 h.1)]
      exact Ev.now _
/-- A record that may be. -/
def pmay (a b c : Int) : Prop := 0 ≤ a ∧ a ≤ 7 ∧ b < 4611686018427387904 ∧ c < 4611686018427387904
instance (a b c : Int) : Decidable (pmay a b c) := by unfold pmay; exact inferInstance
theorem phase_may_tells (a b c : Int) : phase_May.f a b c = some (decide (pmay a b c)) := by
  unfold phase_May.f pmay
  by_cases h1 : 0 ≤ a <;> by_cases h2 : a ≤ 7 <;> by_cases h3 : b < 4611686018427387904 <;> simp [h1, h2, h3]
theorem phase_text_tells (a b c : Nat) (h : pmay a b c) : Ev (fun k => phase_Text.f k a b c) (str (num a ++ num b ++ num c)) := by
  have h' := h
  obtain ⟨h1, h2, h3, h4⟩ := h'
  unfold phase_Text.f
  simp only [phase_may_tells, Option.bind_some]
  refine few_rows (decide_eq_true h) ?_
  have l1 := num_length 9 a (by omega)
  have l2 := num_length 9 b (by omega)
  have l3 := num_length 9 c (by omega)
  rw [wrap_u64 (by omega) (by omega)]
  refine Ev.bind (wire_Num_tells _ (by omega)) (Ev.bind (wire_Num_tells _ (by omega)) ?_)
  refine few_rows (by rw [str_size, str_size]; omega) (Ev.bind (wire_Num_tells _ (by omega)) ?_)
  refine few_rows (by rw [str_size, str_size, str_size]; omega) ?_
  rw [str_append, str_append]
  exact Ev.now _
theorem told_num (most n : Nat) (rest : List UInt8) (hn : n < 18446744073709551616) (hm : n ≤ most) : Ev (fun k => wire_Reader_Num.f k (str (num n ++ rest)) 0 (most : Int)) ((n : Int), str rest, 0) := by
  have h := reader_Num_tells most (num n ++ rest)
  rw [dec_of_num most n rest hn hm] at h
  simpa [told] using h
theorem phase_of_tells (a b c : Nat) (h : pmay a b c) : Ev (fun k => phase_Of.f k (str (num a ++ num b ++ num c))) ((a : Int), (b : Int), (c : Int), 0) := by
  obtain ⟨h1, h2, h3, h4⟩ := h
  unfold phase_Of.f wire_New.f
  simp only [Option.bind_some]
  have e1 := told_num 7 a (num b ++ num c) (by omega) (by omega)
  have e2 := told_num 4611686018427387903 b (num c) (by omega) (by omega)
  have e3 := told_num 4611686018427387903 c [] (by omega) (by omega)
  rw [← List.append_assoc] at e1
  rw [List.append_nil] at e3
  have e4 := end_tells [] 0
  rw [if_neg (by simp)] at e4
  refine Ev.bind e1 (Ev.bind e2 (Ev.bind e3 (Ev.bind e4 (few_rows rfl ?_))))
  rw [show wrap64 (a : Int) = a by unfold wrap64; omega]
  exact Ev.now _
theorem phase_awake : Ev (fun k => keywaylaw17_awake.f k) true := by
  have hm : pmay ((1 : Nat) : Int) ((5 : Nat) : Int) ((2 : Nat) : Int) := by decide
  have h := Ev.bind (f := fun k t => (phase_Of.f k t).bind fun bt154 => (if bt154.2.2.2 = 0 then (if bt154.2.1 = 5 then (if bt154.1 = 1 then (some (bt154.2.2.1 == 2)) else (some false)) else (some false)) else (some false))) (phase_text_tells 1 5 2 hm) (Ev.bind (phase_of_tells 1 5 2 hm) (Ev.now true))
  exact h
end Go.Proofs.Ytmlnjheiogmlaaa.Pure
