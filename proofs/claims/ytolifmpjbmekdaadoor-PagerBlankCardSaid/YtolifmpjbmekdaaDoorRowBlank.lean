/-
The given statement PagerBlankCardSaid: for every input the law returns true, each argument reads afterwards as it read before, and the listed table is tied to the program's text; no condition of our own.
-/
import Derived.Test.YtolifmpjbmekdaaDoorCards
import Derived.Test.YtolifmpjbmekdaaDoorTie
import Derived.Test.YtolifmpjbmekdaaDoorTied
import Derived.Test.YtolifmpjbmekdaaDoorPBlankW
import Derived.Test.YtolifmpjbmekdaaDoorCutOpen
import Derived.ChangeOld
import Derived.Lib.SmallJoins
import Derived.Below
import Derived.WalkKit
import Derived.ShutString
import Derived.SevenTiedAt
namespace Go.Proofs.YtolifmpjbmekdaaDoor.pagerBlank
open Go.ChangeShapes Go.WideShapes Go.ChangeAt Go.RowKit Go.Joins
open Go.ChangeMaps (open_string shut_string)
theorem laidOut : laidOutB Tryd.prog = true := by kernel_rfl
set_option maxRecDepth 100000 in
theorem lifted (os : Os) (started : os.Started) (H : Type) (enc : TypeId × Value → H) :
    ReturnsInHanded {} Tryd.checked os 3 .any (fun w args => (Rows.pagerBlankSpec.pre enc Tryd.prog Tryd.f3 [] false w args ∧ laidMetH Tryd.prog laidT w) ∧ sizedMet enc Tryd.prog Tryd.f3 (OpenSpec.ofChange Rows.pagerBlankSpec) false w args)
      (Rows.pagerBlankSpec.post enc Tryd.prog Tryd.f3 false true false false) := by
  refine returnsInHanded_of_change_and (C := Tryd.checked) (X := fun w _ => laidMetH Tryd.prog laidT w) (fun _ _ _ hh h => h.of_heap hh) Tryd.own started (by kernel_rfl) Tryd.func3
    (ChangeSpec.witness_shaped (enc := enc) (C := Tryd.checked) (os := os) (X := fun w _ => laidMetH Tryd.prog laidT w) false (World.doorLaid Tryd.prog 400 os) #[.agg #[.int .i64 0, .slice none 0 0]] 8 rfl (World.shaped_of_RefB (by kernel_rfl) (by kernel_rfl)) (by kernel_rfl) (by kernel_rfl) (by kernel_rfl) (door_met os _)) ?_
  intro W base args ds gs before hval0 hW _ hsz0 hL _
  have hval : ∀ (j : Nat) t v, Tryd.f3.params[j]? = some t → args[j]? = some v → Value.okWide Tryd.prog W .any base t v := hval0
  have hW' := hW
  obtain ⟨p, q, hA0, hV, rfl, hfz, hnd⟩ := hW
  have hA : DataW.TrodAll enc Tryd.prog W 0 (fun _ => true) true Tryd.f3.params.toList args.toList ds p := hA0
  rw [Tryd.params3] at hA hval
  obtain ⟨v0, vs0, d0, ds0, p0, q0, hargs, rfl, rfl, h0, r0⟩ := trodAll_cons hA
  obtain ⟨rfl, rfl, rfl⟩ := trodAll_nil r0
  obtain rfl : args = #[v0] := by cases args; simp_all
  obtain ⟨rfl, rfl⟩ := trodVars_none hV
  have k0 := h0
  have lt0 : ∀ x ∈ p0, x.block < W.heap.size := by obtain ⟨m, hm⟩ := k0; exact DataW.trod_lt m _ _ _ hm
  obtain ⟨c0_0, c0_1, z0_0, z0_1, m0, rfl, rfl, rfl, hz0_0, hz0_1⟩ := open_agg2 Tryd.underlying24 (by kernel_rfl) cells_cut (hval 0 24 v0 rfl rfl) h0
  obtain ⟨a0, e0, _, w0⟩ := DataW.trod_int Tryd.underlying3 hz0_0
  obtain rfl := List.singleton_inj.1 e0
  have hsz : (DataW.weightsEach Tryd.prog (Tryd.f3.params.toList ++ Rows.pagerBlankSpec.plain.varTypes Tryd.prog) ([.agg [z0_0.1, z0_1.1]] ++ [])).all (· ≤ reachBytes) = true := hsz0
  rw [Tryd.params3] at hsz
  obtain ⟨l, hl⟩ := ints_open hz0_1 fun e s he => cut_weight (j := 0) (k := z0_0.1) (e := e) (s := s) hsz rfl (by simp [he])
  clear hA0 hval0
  simp only [List.append_nil] at hW'
  refine (pagerBlank_calls a0 c0_1 l _ W (tabs_of_laid hL) hl).mono fun e W' ⟨he, hn⟩ => ?_
  subst he
  have bel : Below W.heap.size W W' := hn.below (Nat.le_refl _) fun _ e => e.elim
  exact ⟨_, rfl, _, _, _, [], _, [], hW', trodAll_mk1 (shut_bool Tryd.underlying4 _), (trodAll_cons_mk (Below.trod laidOut (by kernel_rfl) (of_decide_eq_true (by kernel_rfl)) k0 bel lt0) trodAll_mk0), rfl, bel.frame _, fun h => by cases h⟩
theorem said : Rows.PagerBlankSaid :=
  OpenClaim.holds_of_wide 3 Tryd.f3 rfl rfl rfl rfl rfl rfl rfl ⟨rfl, rfl, rfl, rfl, rfl⟩ rfl rfl rfl rfl rfl (by kernel_rfl) Tryd.func3 (by kernel_rfl)
    (of_decide_eq_true (by kernel_rfl)) (by unfold Func.isWrapper; first | (rw [if_pos (by decide +kernel)]; kernel_rfl) | (rw [if_neg (by decide +kernel)]; exact ⟨rfl, rfl⟩))
    (fun os started H enc _ => lifted os started H enc)
theorem carded : Rows.PagerBlankCardSaid :=
  Claim7.holds_tied_plain_at .later [] [.data] true (true, "f331ab3dc81688df84f9d0728d38256e2e4c1eb43bdd7ba8ecf2bb409497eb69") false
    said (fun _ h => by cases h) (by kernel_rfl) (fun _ h => by cases h) pagerBlank_row_tie rfl ⟨rfl, rfl⟩ (by kernel_rfl) rfl
    (fun f fn hf hfn => by
      obtain rfl : f = 3 := Option.some.inj ((show Tryd.prog.funcNamed "keyway/keywaylaw08.PagerBlank" = some 3 by kernel_rfl).symm.trans hf) |>.symm
      obtain rfl : fn = Tryd.f3 := (Option.some.inj (Tryd.func3.symm.trans hfn)).symm
      exact ⟨by kernel_rfl, fun j t ht => by
        rw [Tryd.params3] at ht
        have hm : t ∈ [24] := by simpa using Array.mem_of_getElem? ht
        have hall : ([24].all fun u => !Tryd.prog.wantsStandIn u) = true := by kernel_rfl
        exact (show Tryd.prog.wantsStandIn t = false by simpa using List.all_eq_true.1 hall t hm)⟩)
    (by kernel_rfl)
end Go.Proofs.YtolifmpjbmekdaaDoor.pagerBlank
namespace Go.Proofs.YtolifmpjbmekdaaDoor
/-- The given statement, under a short name, for the claim. -/
theorem pagerBlank_holds : Rows.PagerBlankCardSaid := pagerBlank.carded
#print axioms pagerBlank_holds
end Go.Proofs.YtolifmpjbmekdaaDoor
