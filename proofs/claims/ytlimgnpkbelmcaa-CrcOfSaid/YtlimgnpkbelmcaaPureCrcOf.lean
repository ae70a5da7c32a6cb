/-
The pure statement of CrcOf: for every text the program's check is the reference's; condition: the text has at most 140737488351232 bytes.
-/
import Derived.Test.YtlimgnpkbelmcaaOf
namespace Go.Proofs.Ytlimgnpkbelmcaa.Pure
open Go.RowKit Go.Proofs.Ytlimgnpkbelmcaa.F Go.Proofs.YtlimgnpkbelmcaaW.PrintWords Go.Proofs.YtlimgnpkbelmcaaW.PrintLast Go.Proofs.Ytlimgnpkbelmcaa.Math

theorem CrcOf : keywaylaw01_CrcOf.Pure := by
  intro s _
  have h6 := few_size s
  refine Ev.rounds ?_
  unfold keywaylaw01_CrcOf.f
  simp only [awake_tells, few_tells, Option.bind_some, if_true, crc_Of_tells (s := few s) (by omega)]
  exact Ev.bind (ref_Of_tells (s := few s) (by omega)) (Ev.step (f := fun _ => some true) (fun _ => by simp) (Ev.now _))

end Go.Proofs.Ytlimgnpkbelmcaa.Pure
