/-
slices.Sort at []string, by the shelf's contract: the row is a permutation of what it was; conditions: the row lies in memory as told.
-/
import Derived.Test.YtmlnjheiogmlaaaMem
import Derived.Shelf.SortM.Plain
import Derived.Shelf.SlGeneric
import Derived.Ground.SlgmProg
import Derived.Sort.OwnSorted
namespace Go.Proofs.Ytmlnjheiogmlaaa
open Go.RowKit Go.Lib Go.Shelf Go.Sort
shelf_lay_g SlLaysM.n6 Slgm 6 at Try 46 as Try.lsort
abbrev strRow (xs : List ByteArray) : List Value := xs.map Value.string
theorem sort_strs {b cap base : Nat} {xs : List ByteArray} {w : World} (h : w.ownsRow base 9 1 (.slice (some ⟨b, 0, none⟩) xs.length cap) xs.length (strRow xs)) (hs : xs.length < 1000000) :
    Calls Try.prog 46 #[.slice (some ⟨b, 0, none⟩) xs.length cap] w fun e w' => e = .returned (.tuple #[]) ∧ ∃ ys : List ByteArray, ys.Perm xs ∧ w'.ownsRow base 9 1 (.slice (some ⟨b, 0, none⟩) xs.length cap) xs.length (strRow ys) ∧ Kept (fun i => i = b) w w' := by
  have hb : b < w.heap.size := own_lt h rfl
  have hH : Holds encStr w b 0 (xs.map fun x => x.data.toList).toArray := by
    intro j hj
    obtain ⟨a, cap', e, _, _, hc⟩ := owns_cells h
    obtain ⟨b', hb1, hb2, _, hcc⟩ := hc (by simp at hj; omega)
    have : b = b' := by simpa [Value.ownBlock] using hb2
    subst this
    simp at hj
    have := hcc j (.string xs[j]) (by simp [hj])
    rw [Nat.zero_add]
    refine ⟨this.1.trans ?_, this.2⟩
    simp [encStr, hj, getElem!_pos]
  have hc := AnyM.slices_Sort_string Try.lsort b 0 cap (xs.map fun x => x.data.toList) w hH hb (by simp; omega)
  change Calls Try.prog 46 _ _ _ at hc
  rw [List.length_map] at hc
  refine hc.mono ?_
  rintro e w' ⟨rfl, n, os, hw⟩
  rcases h.2 with ⟨h0, _⟩ | ⟨g, cap', cur, hv, hbase, hbk, h1, h2, h3, _⟩
  · cases h0
  · cases hv
    have hl : ((xs.map fun x => x.data.toList).mergeSort fun x y => decide (x ≤ y)).length = (xs.map fun x => x.data.toList).length := by simp
    have hO := ownsRow_sorted (w := w) (n := n) (os := os) (base := base) (ss := xs.map fun x => x.data.toList) hl hbase hbk (by simpa using h1) h2 h3
    have hG := grownBy_sorted (w := w) (g := b) (n := n) (os := os) (((xs.map fun x => x.data.toList).mergeSort fun x y => decide (x ≤ y)).toArray)
    rw [← hw] at hO hG
    rw [List.length_map] at hO
    refine ⟨rfl, ((xs.map fun x => x.data.toList).mergeSort fun x y => decide (x ≤ y)).map (fun l => ⟨l.toArray⟩), ?_, ?_, (Kept.refl _ _).grown hG fun k e => .inl (by cases e; rfl)⟩
    · have hp := (List.mergeSort_perm (xs.map fun x => x.data.toList) (fun x y => decide (x ≤ y))).map (fun l : List UInt8 => (⟨l.toArray⟩ : ByteArray))
      simpa [List.map_map, Function.comp_def] using hp
    · rw [show strRow ((List.mergeSort (xs.map fun x => x.data.toList) fun x y => decide (x ≤ y)).map fun l => ⟨l.toArray⟩) = (List.mergeSort (xs.map fun x => x.data.toList) fun x y => decide (x ≤ y)).map encStr by simp [strRow, List.map_map, Function.comp_def]]
      exact hO
end Go.Proofs.Ytmlnjheiogmlaaa
