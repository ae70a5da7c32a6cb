/-
The given statement PagerCutsCardSaid: for every input the law returns true, each argument reads afterwards as it read before, and the listed table is tied to the program's text; no condition of our own.
-/
import Derived.Test.YtolifmpjbmekdaaDoorCards
import Derived.Test.YtolifmpjbmekdaaDoorTie
import Derived.Test.YtolifmpjbmekdaaDoorTied
import Derived.Test.YtolifmpjbmekdaaDoorPCutsW
import Derived.Test.YtolifmpjbmekdaaDoorCutOpen
import Derived.ChangeOld
import Derived.Lib.SmallJoins
import Derived.Below
import Derived.WalkKit
import Derived.ShutString
import Derived.SevenTiedAt
namespace Go.Proofs.YtolifmpjbmekdaaDoor.pagerCuts
open Go.ChangeShapes Go.WideShapes Go.ChangeAt Go.RowKit Go.Joins
open Go.ChangeMaps (open_string shut_string)
theorem laidOut : laidOutB Tryd.prog = true := by kernel_rfl
set_option maxRecDepth 100000 in
theorem lifted (os : Os) (started : os.Started) (H : Type) (enc : TypeId × Value → H) :
    ReturnsInHanded {} Tryd.checked os 4 .any (fun w args => (Rows.pagerCutsSpec.pre enc Tryd.prog Tryd.f4 [] false w args ∧ laidMetH Tryd.prog laidT w) ∧ sizedMet enc Tryd.prog Tryd.f4 (OpenSpec.ofChange Rows.pagerCutsSpec) false w args)
      (Rows.pagerCutsSpec.post enc Tryd.prog Tryd.f4 false true false false) := by
  refine returnsInHanded_of_change_and (C := Tryd.checked) (X := fun w _ => laidMetH Tryd.prog laidT w) (fun _ _ _ hh h => h.of_heap hh) Tryd.own started (by kernel_rfl) Tryd.func4
    (ChangeSpec.witness_shaped (enc := enc) (C := Tryd.checked) (os := os) (X := fun w _ => laidMetH Tryd.prog laidT w) false (World.doorLaid Tryd.prog 400 os) #[.string ByteArray.empty, .string ByteArray.empty, .agg #[.int .i64 0, .slice none 0 0]] 8 rfl (World.shaped_of_RefB (by kernel_rfl) (by kernel_rfl)) (by kernel_rfl) (by kernel_rfl) (by kernel_rfl) (door_met os _)) ?_
  intro W base args ds gs before hval0 hW _ hsz0 hL _
  have hval : ∀ (j : Nat) t v, Tryd.f4.params[j]? = some t → args[j]? = some v → Value.okWide Tryd.prog W .any base t v := hval0
  have hW' := hW
  obtain ⟨p, q, hA0, hV, rfl, hfz, hnd⟩ := hW
  have hA : DataW.TrodAll enc Tryd.prog W 0 (fun _ => true) true Tryd.f4.params.toList args.toList ds p := hA0
  rw [Tryd.params4] at hA hval
  obtain ⟨v0, vs0, d0, ds0, p0, q0, hargs, rfl, rfl, h0, r0⟩ := trodAll_cons hA
  obtain ⟨v1, vs1, d1, ds1, p1, q1, rfl, rfl, rfl, h1, r1⟩ := trodAll_cons r0
  obtain ⟨v2, vs2, d2, ds2, p2, q2, rfl, rfl, rfl, h2, r2⟩ := trodAll_cons r1
  obtain ⟨rfl, rfl, rfl⟩ := trodAll_nil r2
  obtain rfl : args = #[v0, v1, v2] := by cases args; simp_all
  obtain ⟨rfl, rfl⟩ := trodVars_none hV
  obtain ⟨sa, rfl, rfl, rfl, wa⟩ := open_string Tryd.underlying9 (hval 0 9 v0 rfl rfl) h0
  obtain ⟨sb, rfl, rfl, rfl, wb⟩ := open_string Tryd.underlying9 (hval 1 9 v1 rfl rfl) h1
  have k0 := h2
  have lt0 : ∀ x ∈ p2, x.block < W.heap.size := by obtain ⟨m, hm⟩ := k0; exact DataW.trod_lt m _ _ _ hm
  obtain ⟨c0_0, c0_1, z0_0, z0_1, m0, rfl, rfl, rfl, hz0_0, hz0_1⟩ := open_agg2 Tryd.underlying24 (by kernel_rfl) cells_cut (hval 2 24 v2 rfl rfl) h2
  obtain ⟨a0, e0, _, w0⟩ := DataW.trod_int Tryd.underlying3 hz0_0
  obtain rfl := List.singleton_inj.1 e0
  have hsz : (DataW.weightsEach Tryd.prog (Tryd.f4.params.toList ++ Rows.pagerCutsSpec.plain.varTypes Tryd.prog) ([.lit (.string sa.data.toList), .lit (.string sb.data.toList), .agg [z0_0.1, z0_1.1]] ++ [])).all (· ≤ reachBytes) = true := hsz0
  rw [Tryd.params4] at hsz
  obtain ⟨l, hl⟩ := ints_open hz0_1 fun e s he => cut_weight (j := 2) (k := z0_0.1) (e := e) (s := s) hsz rfl (by simp [he])
  clear hA0 hval0
  simp only [List.append_nil] at hW'
  refine (pagerCuts_calls sa sb wa wb a0 c0_1 l _ W (tabs_of_laid hL) hl).mono fun e W' ⟨he, hn⟩ => ?_
  subst he
  have bel : Below W.heap.size W W' := hn.below (Nat.le_refl _) fun _ e => e.elim
  exact ⟨_, rfl, _, _, _, [], _, [], hW', trodAll_mk1 (shut_bool Tryd.underlying4 _), (trodAll_cons_mk (shut_string Tryd.underlying9 wa) (trodAll_cons_mk (shut_string Tryd.underlying9 wb) (trodAll_cons_mk (Below.trod laidOut (by kernel_rfl) (of_decide_eq_true (by kernel_rfl)) k0 bel lt0) trodAll_mk0))), rfl, bel.frame _, fun h => by cases h⟩
theorem said : Rows.PagerCutsSaid :=
  OpenClaim.holds_of_wide 4 Tryd.f4 rfl rfl rfl rfl rfl rfl rfl ⟨rfl, rfl, rfl, rfl, rfl⟩ rfl rfl rfl rfl rfl (by kernel_rfl) Tryd.func4 (by kernel_rfl)
    (of_decide_eq_true (by kernel_rfl)) (by unfold Func.isWrapper; first | (rw [if_pos (by decide +kernel)]; kernel_rfl) | (rw [if_neg (by decide +kernel)]; exact ⟨rfl, rfl⟩))
    (fun os started H enc _ => lifted os started H enc)
theorem carded : Rows.PagerCutsCardSaid :=
  Claim7.holds_tied_plain_at .later [] [.data] true (true, "f331ab3dc81688df84f9d0728d38256e2e4c1eb43bdd7ba8ecf2bb409497eb69") false
    said (fun _ h => by cases h) (by kernel_rfl) (fun _ h => by cases h) pagerCuts_row_tie rfl ⟨rfl, rfl⟩ (by kernel_rfl) rfl
    (fun f fn hf hfn => by
      obtain rfl : f = 4 := Option.some.inj ((show Tryd.prog.funcNamed "keyway/keywaylaw08.PagerCuts" = some 4 by kernel_rfl).symm.trans hf) |>.symm
      obtain rfl : fn = Tryd.f4 := (Option.some.inj (Tryd.func4.symm.trans hfn)).symm
      exact ⟨by kernel_rfl, fun j t ht => by
        rw [Tryd.params4] at ht
        have hm : t ∈ [9, 9, 24] := by simpa using Array.mem_of_getElem? ht
        have hall : ([9, 9, 24].all fun u => !Tryd.prog.wantsStandIn u) = true := by kernel_rfl
        exact (show Tryd.prog.wantsStandIn t = false by simpa using List.all_eq_true.1 hall t hm)⟩)
    (by kernel_rfl)
end Go.Proofs.YtolifmpjbmekdaaDoor.pagerCuts
namespace Go.Proofs.YtolifmpjbmekdaaDoor
/-- The given statement, under a short name, for the claim. -/
theorem pagerCuts_holds : Rows.PagerCutsCardSaid := pagerCuts.carded
#print axioms pagerCuts_holds
end Go.Proofs.YtolifmpjbmekdaaDoor
