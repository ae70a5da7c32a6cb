/-
The pure statement of CrcMore: for every two texts the check of the second behind the first is reckoned from the first one's check; conditions: each text has at most 140737488351232 bytes.
-/
import Derived.Test.YtlimgnpkbelmcaaOf
namespace Go.Proofs.Ytlimgnpkbelmcaa.Pure
open Go.RowKit Go.Proofs.Ytlimgnpkbelmcaa.F Go.Proofs.YtlimgnpkbelmcaaW.PrintWords Go.Proofs.YtlimgnpkbelmcaaW.PrintLast Go.Proofs.Ytlimgnpkbelmcaa.Math

theorem CrcMore : keywaylaw01_CrcMore.Pure := by
  intro s t _ _
  have h6 := few_size s
  have h7 := few_size t
  have e : (few s ++ few t).data.toList = (few s).data.toList ++ (few t).data.toList := by simp
  have h8 : (few s).size + (few t).size ≤ 9223372036854775807 := by omega
  refine Ev.rounds ?_
  unfold keywaylaw01_CrcMore.f
  simp only [awake_tells, few_tells, Option.bind_some, if_true, crc_Of_tells (s := few s) (by omega), crc_More_tells (check_lt _) (s := few t) (by omega), ← check_append, ← e, if_pos h8]
  exact Ev.bind (ref_Of_tells (s := few s ++ few t) (by rw [ByteArray.size_append]; omega)) (Ev.step (f := fun _ => some true) (fun _ => by simp) (Ev.now _))

end Go.Proofs.Ytlimgnpkbelmcaa.Pure
