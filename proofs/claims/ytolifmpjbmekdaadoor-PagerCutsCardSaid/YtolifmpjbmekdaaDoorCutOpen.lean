/-
A cut that came in as an argument: its numbers in memory, out of its reading; conditions: none.
-/
import Derived.Test.YtolifmpjbmekdaaDoorDs
import Derived.Deep.Slices
import Derived.ChangeSlices
import Derived.ProofKit
import Derived.OpenShut
import Derived.SizedLaws
namespace Go.Proofs.YtolifmpjbmekdaaDoor
open Go.RowKit Go.Lib Go.Deep Go.ChangeShapes Go.WideShapes
theorem cells_int : Tryd.prog.cellsOf 3 = 1 := by kernel_rfl
theorem cells_cut : Tryd.prog.cellsOf 24 = 2 := by kernel_rfl
theorem bytes_int : Tryd.prog.bytesOf 3 = 8 := by kernel_rfl
theorem ints_open {H : Type} {enc : TypeId × Value → H} {w : World} {spare : Nat → Bool} {held : Bool} {fuel : Nat} {c : Value} {x : DataW H × List MemPlace}
    (h : DataW.trod enc Tryd.prog w 0 spare held fuel 22 [c] = some x) (hs : ∀ e s, x.1 = .slice e s → (e.length + s.length) * 8 ≤ 140737488355328) : ∃ l, IntsAt (fun _ => True) c l w := by
  rcases open_ints Tryd.underlying22 Tryd.underlying3 cells_int h with ⟨hcs, _⟩ | ⟨ad, len, cap, zs, hcs, _, hl, _, hz, hx, hc, _⟩
  · obtain rfl := List.singleton_inj.1 hcs
    exact ⟨[], none, 0, rfl, by simp, fun _ => rfl, fun e => absurd rfl e⟩
  · obtain rfl := List.singleton_inj.1 hcs
    have hzl : len ≤ zs.length := by rw [hz]; split <;> omega
    have hsz := hs _ _ (congrArg Prod.fst hx)
    have hlen : (zs.take len).length = len := by rw [List.length_take]; omega
    simp only [lits, List.length_map, List.length_take, List.length_drop] at hsz
    refine ⟨zs.take len, some ad, cap, by rw [hlen], by rw [hlen]; omega, (fun e => by cases e), fun hne => ?_⟩
    have hpos : 0 < len := by
      rcases Nat.eq_zero_or_pos len with h0 | h0
      · subst h0; simp at hne
      · exact h0
    have h0 := hc 0 (by omega)
    obtain ⟨b, off, sp⟩ := ad
    have hsp : sp = none := by simpa [Addr.add] using World.cell?_spot h0
    subst hsp
    refine ⟨b, off, rfl, trivial, World.block_lt_of_cell? w _ h0, fun i v hv => ?_⟩
    have hi : i < len := by
      have := (List.getElem?_eq_some_iff.1 hv).1
      omega
    rw [List.getElem?_take_of_lt hi] at hv
    have h1 := hc i (by omega)
    rw [add_plain] at h1
    rw [h1, show zs.getD i 0 = v by simp [List.getD, hv]]
/-- How much a cut weighs. -/
theorem cut_weight {H : Type} {ts : List TypeId} {ds : List (DataW H)} (h : (DataW.weightsEach Tryd.prog ts ds).all (· ≤ reachBytes) = true) {j : Nat} {k : DataW H} {e s : List (DataW H)} (ht : ts[j]? = some 24) (hd : ds[j]? = some (.agg [k, .slice e s])) : (e.length + s.length) * 8 ≤ 140737488355328 := by
  have hm : (e.length + s.length) * 8 ∈ (DataW.agg [k, .slice e s]).weights Tryd.prog 24 := by
    unfold DataW.weights
    rw [Tryd.underlying24]
    simp only [List.map_cons, List.map_nil, DataW.weightsEach, DataW.weights, Tryd.underlying22, bytes_int, List.append_nil]
    exact List.mem_append_right _ (.head _)
  have := List.all_eq_true.1 h _ (DataW.weights_mem_each ht hd _ hm)
  simp at this
  have h2 := reachBytes_lt
  omega
end Go.Proofs.YtolifmpjbmekdaaDoor
