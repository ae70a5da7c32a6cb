/-
SuperPuts: for every state the law's Lean function answers true, and so does the Go call; conditions: the numbers are of their kinds.
-/
import Derived.Test.YtlimgnpkbelmcaaSuper
import Derived.Test.YtlimgnpkbelmcaaF17
namespace Go.Proofs.Ytlimgnpkbelmcaa.Pure
open Go.RowKit Go.Proofs.Ytlimgnpkbelmcaa.F Go.Proofs.YtlimgnpkbelmcaaW.PrintWords Go.Proofs.YtlimgnpkbelmcaaW.PrintLast Go.Proofs.YtlimgnpkbelmcaaW.PrintMore Go.Proofs.Ytlimgnpkbelmcaa.Math
theorem super_puts (gen root : Int) (h0 : 0 ≤ gen) (h1 : gen < 18446744073709551616) : ∃ k, keywaylaw07_SuperPuts.f k gen root = some true := by
  refine Ev.rounds ?_
  unfold keywaylaw07_SuperPuts.f
  refine Ev.bind (super_put_tells gen root h0 h1) ?_
  simp only [where_tells gen h0 h1, Option.bind_some]
  have e1 : wrap64 (1 - gen % 2) = 1 - gen % 2 := by unfold wrap64; omega
  have e2 : wrap64 (Int.tmod gen 2) = gen % 2 := by rw [Int.tmod_eq_emod_of_nonneg h0]; unfold wrap64; omega
  rw [e1]
  by_cases h : smay gen root
  · rw [if_pos h]
    have hne := sput_ne h
    have hno : ¬ ∃ g q, Tells (sputB gen root) (1 - gen % 2) g q := by
      rintro ⟨g, q, m, e, e3⟩
      obtain ⟨_, _, k3, _, _⟩ := parts_sput m
      obtain ⟨_, _, k3', _, _⟩ := parts_sput h
      rw [← e] at k3
      omega
    refine Ev.bind (super_get_yes (at_ := gen % 2) ⟨h, rfl, rfl⟩) (Ev.bind (super_get_no hno) (Ev.bind super_awake (few_rows rfl ?_)))
    have hp := law_put_tells gen root h0 h1
    rw [if_pos h] at hp
    refine Ev.bind hp (few_rows rfl ?_)
    simp only [super_may_tells, Option.bind_some, e2]
    exact Ev.congr (f := fun _ => some true) (fun k => by simp [h, hne]) (Ev.now _)
  · rw [if_neg h]
    have hno : ∀ a, ¬ ∃ g q, Tells (⟨#[]⟩ : ByteArray) a g q := by
      rintro a ⟨g, q, m, e, e3⟩
      have := put_size (gen := g) (smay_page m)
      have h2 : (sputB g q).size = 256 := this
      rw [← e] at h2
      exact absurd h2 (by decide)
    have hl : (⟨#[]⟩ : ByteArray).toList = ([] : List UInt8) := by rw [toList_data]
    refine Ev.bind (super_get_no (hno _)) (Ev.bind (super_get_no (hno _)) (Ev.bind super_awake (few_rows rfl ?_)))
    have hp := law_put_tells gen root h0 h1
    rw [if_neg h] at hp
    refine Ev.bind hp (few_rows rfl ?_)
    simp only [super_may_tells, Option.bind_some, e2]
    exact Ev.congr (f := fun _ => some true) (fun k => by simp [h, hl]) (Ev.now _)
theorem superPuts_walk (a0_0 a0_1 : Int) (w : World) (h0 : (Lit.int .u64 a0_0).wf = true) (_ : (Lit.int .i64 a0_1).wf = true) :
    Calls Try.prog 10 #[.agg #[.int .u64 a0_0, .int .i64 a0_1]] w fun e w' => e = .returned (.bool true) ∧ Below w.heap.size w w' := by
  obtain ⟨k, h⟩ := super_puts a0_0 a0_1 (u64_range h0).1 (u64_range h0).2
  exact keywaylaw07_SuperPuts.calls k a0_0 a0_1 true ⟨rfl⟩ w h
end Go.Proofs.Ytlimgnpkbelmcaa.Pure
