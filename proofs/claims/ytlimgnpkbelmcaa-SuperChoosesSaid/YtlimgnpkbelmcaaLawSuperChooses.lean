/- The given statement SuperChoosesSaid: for every input the law returns true, and each argument reads afterwards as it read before; no condition of our own. -/
import Derived.Test.YtlimgnpkbelmcaaRows
import Derived.Test.YtlimgnpkbelmcaaPureSuperChooses
import Derived.WalkKit
import Derived.ProofKit
import Derived.OpenShut
import Derived.ShutString
import Derived.ChangeOld
import Derived.Below
import Derived.SizedLaws
import Derived.Lib.SmallJoins
namespace Go.Proofs.Ytlimgnpkbelmcaa.superChooses
open Go.ChangeShapes Go.WideShapes Go.ChangeAt Go.RowKit Go.Joins
open Go.ChangeMaps (open_string shut_string)
set_option linter.unusedVariables false
theorem own : ownKnob Try.prog.godebug = none := by kernel_rfl
theorem cells47 : Try.prog.cellsOf 47 = 2 := by kernel_rfl
set_option maxRecDepth 100000 in
set_option maxHeartbeats 1000000 in
theorem lifted (os : Os) (started : os.Started) (H : Type) (enc : TypeId × Value → H) :
    ReturnsInHanded {} Try.checked os 12 .any (Rows.superChoosesSpec.pre6 enc Try.prog Try.f12 Rows.superChoosesRow.domain false) (Rows.superChoosesSpec.post enc Try.prog Try.f12 false true false false) := by
  refine returnsInHanded_of_change_sized (C := Try.checked) own started (by kernel_rfl) Try.func12
    (ChangeSpec.witness6 (enc := enc) (C := Try.checked) false ⟨#[], #[.agg #[.int .u64 0, .int .i64 0], .agg #[.int .u64 0, .int .i64 0], .int .i64 0], []⟩ 8 (by kernel_rfl) (by kernel_rfl) (by kernel_rfl) (by kernel_rfl)) ?_
  intro W base args ds gs before hval0 hW hcnd hsz0 _
  have hval : ∀ (j : Nat) t v, Try.f12.params[j]? = some t → args[j]? = some v → Value.okWide Try.prog W .any base t v := hval0
  have hW' := hW
  obtain ⟨p, q, hA0, hV, rfl, hfz, hnd⟩ := hW
  have hA : DataW.TrodAll enc Try.prog W 0 (fun _ => true) true Try.f12.params.toList args.toList ds p := hA0
  rw [Try.params12] at hA hval
  obtain ⟨v0, vs0, d0, ds0, p0, q0, hargs, rfl, rfl, h0, r0⟩ := trodAll_cons hA
  obtain ⟨v1, vs1, d1, ds1, p1, q1, rfl, rfl, rfl, h1, r1⟩ := trodAll_cons r0
  obtain ⟨v2, vs2, d2, ds2, p2, q2, rfl, rfl, rfl, h2, r2⟩ := trodAll_cons r1
  obtain ⟨rfl, rfl, rfl⟩ := trodAll_nil r2
  obtain rfl : args = #[v0, v1, v2] := by cases args; simp_all
  obtain ⟨rfl, rfl⟩ := trodVars_none hV
  obtain ⟨c0_0, c0_1, z0_0, z0_1, m0, rfl, rfl, rfl, hz0_0, hz0_1⟩ := open_agg2 Try.underlying47 (by kernel_rfl) cells47 (hval 0 47 v0 rfl rfl) h0
  obtain ⟨a0_0, e0_0, rfl, w0_0⟩ := DataW.trod_int Try.underlying33 hz0_0
  obtain ⟨a0_1, e0_1, rfl, w0_1⟩ := DataW.trod_int Try.underlying3 hz0_1
  obtain rfl := List.singleton_inj.1 e0_0
  obtain rfl := List.singleton_inj.1 e0_1
  obtain ⟨c1_0, c1_1, z1_0, z1_1, m1, rfl, rfl, rfl, hz1_0, hz1_1⟩ := open_agg2 Try.underlying47 (by kernel_rfl) cells47 (hval 1 47 v1 rfl rfl) h1
  obtain ⟨a1_0, e1_0, rfl, w1_0⟩ := DataW.trod_int Try.underlying33 hz1_0
  obtain ⟨a1_1, e1_1, rfl, w1_1⟩ := DataW.trod_int Try.underlying3 hz1_1
  obtain rfl := List.singleton_inj.1 e1_0
  obtain rfl := List.singleton_inj.1 e1_1
  obtain ⟨a2, rfl, rfl, rfl, w2⟩ := open_int Try.underlying3 (hval 2 3 v2 rfl rfl) h2
  clear hA0 hval0 hsz0
  simp only [List.append_nil] at hW'
  refine (Pure.superChooses_walk a0_0 a0_1 a1_0 a1_1 a2 W w0_0 w0_1 w1_0 w1_1 w2).mono fun e W' ⟨he, bel⟩ => ?_
  subst he
  exact ⟨_, rfl, _, _, _, [], _, [], hW', trodAll_mk1 (shut_bool Try.underlying4 _), (trodAll_cons_mk (shut_agg2 (y0 := (.lit (.int .u64 a0_0), [])) (y1 := (.lit (.int .i64 a0_1), [])) Try.underlying47 (by kernel_rfl) cells47 (shut_int Try.underlying33 w0_0) (shut_int Try.underlying3 w0_1)) (trodAll_cons_mk (shut_agg2 (y0 := (.lit (.int .u64 a1_0), [])) (y1 := (.lit (.int .i64 a1_1), [])) Try.underlying47 (by kernel_rfl) cells47 (shut_int Try.underlying33 w1_0) (shut_int Try.underlying3 w1_1)) (trodAll_cons_mk (shut_int Try.underlying3 w2) trodAll_mk0))), rfl, bel.frame _, fun h => by cases h⟩
theorem over : Rows.superChoosesRow.holds Try.pinned (OpenSpec.ofChange Rows.superChoosesSpec) :=
  OpenClaim.holds_of_wide 12 Try.f12 rfl rfl rfl rfl rfl rfl rfl ⟨rfl, rfl, rfl, rfl, rfl⟩ rfl rfl rfl rfl rfl (by kernel_rfl) Try.func12 (by kernel_rfl)
    (of_decide_eq_true (by kernel_rfl)) (by unfold Func.isWrapper; first | (rw [if_pos (by decide +kernel)]; kernel_rfl) | (rw [if_neg (by decide +kernel)]; exact ⟨rfl, rfl⟩))
    (fun os started H enc _ => lifted os started H enc)
theorem proved : Rows.SuperChoosesSaid := over
#print axioms proved
end Go.Proofs.Ytlimgnpkbelmcaa.superChooses
namespace Go.Proofs.Ytlimgnpkbelmcaa
/-- The row, under a short name, for the claim. -/
theorem superChooses_holds : Rows.SuperChoosesSaid := superChooses.proved
end Go.Proofs.Ytlimgnpkbelmcaa
