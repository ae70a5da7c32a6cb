/-
The library's table, as the rows list it, lies in memory (Tabs); the door's own heap meets that; conditions: none.
-/
import Derived.Test.YtolifmpjbmekdaaDoorRows
import Derived.Test.YtolifmpjbmekdaaDoorTz
import Derived.ProofKit
import Derived.LaidMore
import Derived.OpenShut
import Derived.Stop.Joined
namespace Go.Proofs.YtolifmpjbmekdaaDoor
open Go.ChangeShapes Go.WideShapes Go.ChangeAt Go.RowKit
abbrev laidT : List (String × DataW Unit) := [("math/bits.deBruijn64tab", Rows.laid_math_bits_deBruijn64tab)]
theorem Tryd.own : ownKnob Tryd.prog.godebug = none := by kernel_rfl
theorem gTab : Tryd.prog.globalNamed "math/bits.deBruijn64tab" = some 0 := by kernel_rfl
theorem tTab : (Tryd.prog.globals[0]?).map (·.type) = some 113 := by kernel_rfl
theorem cells_u8 : Tryd.prog.cellsOf 5 = 1 := by kernel_rfl
set_option maxRecDepth 100000 in
theorem door_met (os : Os) (args : Array Value) : laidMetH Tryd.prog laidT ((World.doorLaid Tryd.prog 400 os).forCall (fun _ _ => 0) ⟨#[], args, []⟩).memory :=
  laidMetH_of_parts3 (fuel := 8) (laidMet_of_run' 8 (by kernel_rfl) (by kernel_rfl)) (by kernel_rfl) (by kernel_rfl)
theorem tabs_of_laid {W : World} (h : laidMetH Tryd.prog laidT W) : Tabs W := by
  rw [MakeChecks.laidMetH_plain _ _ _ (by kernel_rfl)] at h
  obtain ⟨ps, ⟨g0, t0, cs0, f0, p0, q0, hg0, ht0, hv0, hd0, _⟩, _⟩ := h
  obtain rfl := Option.some.inj (gTab.symm.trans hg0)
  obtain rfl := Option.some.inj (tTab.symm.trans ht0)
  obtain ⟨xs, m, rfl, hx, hl, hn, hel⟩ := DataW.trod_array Tryd.underlying113 hd0
  rw [cells_u8] at hel
  have hx1 : (DataW.agg (xs.map (·.1)) : DataW Unit) = .agg (dbTab.map fun n : Nat => .lit (.int .u8 (n : Int))) := (congrArg Prod.fst hx).symm
  have hx2 : xs.map (·.1) = dbTab.map fun n : Nat => (.lit (.int .u8 (n : Int)) : DataW Unit) := by injection hx1
  have hcell : ∀ i, i < 64 → W.cell? ⟨0, i, none⟩ = some (.int .u8 (dbTab.getD i 0 : Nat)) := fun i hi => by
    have h1 := hel i hi
    have h2 : i < xs.length := by omega
    rw [List.getElem?_eq_getElem h2] at h1
    obtain ⟨k, e1, e2, _⟩ := DataW.trod_int Tryd.underlying5 h1
    have h3 : (xs.map (·.1))[i]? = some (.lit (.int .u8 k)) := by
      rw [List.getElem?_map, List.getElem?_eq_getElem h2, e2]; rfl
    rw [hx2, List.getElem?_map] at h3
    have hd : dbTab[i]? = some (dbTab.getD i 0) := by
      have : i < dbTab.length := hi
      simp [List.getD, List.getElem?_eq_getElem this]
    rw [hd] at h3
    have hk : k = (dbTab.getD i 0 : Nat) := by simpa using h3.symm
    rw [Nat.mul_one] at e1
    have h4 := World.var?_cell hg0 hv0 i
    rw [h4, ← Array.getElem?_toList]
    have h5 : cs0.toList[i]? = some (.int .u8 k) := by
      have := congrArg (fun l : List Value => l[0]?) e1
      simpa [List.getElem?_take, List.getElem?_drop] using this
    rw [h5, hk]
  refine ⟨?_, hcell⟩
  have := hcell 0 (by decide)
  rcases Nat.eq_zero_or_pos W.heap.size with h0 | h0
  · have hb : W.heap[0]? = none := Array.getElem?_eq_none (by omega)
    simp [World.cell?, hb] at this
  · exact h0
end Go.Proofs.YtolifmpjbmekdaaDoor
