/-
slices.Sort at []int, by the shelf's contract, and the numbers that are collected from a map of pages; conditions: the row lies in memory as told.
-/
import Derived.Test.YtolifmpjbmekdaaDoorPgDrop
import Derived.Shelf.SortM.Plain
import Derived.Shelf.SortM.SortNone
import Derived.Shelf.SlGeneric
import Derived.Ground.SlgmProg
import Derived.Sort.OwnSortedInts
namespace Go.Proofs.YtolifmpjbmekdaaDoor
open Go.RowKit Go.Lib Go.Shelf Go.Sort
shelf_lay_g SlLaysM.n5 Slgm 5 at Tryd 38 as Tryd.lsortI
theorem isort_none {w : World} : Calls Tryd.prog 38 #[.slice none 0 0] w fun e w' => e = .returned (.tuple #[]) ∧ w' = w := by
  have hc := AnyM.slices_Sort_int_none Tryd.lsortI none 0 w
  change Calls Tryd.prog 38 _ _ _ at hc
  exact hc
theorem isort_calls {b cap base : Nat} {xs : List Nat} {w : World} (h : w.ownsRow base 3 1 (.slice (some ⟨b, 0, none⟩) xs.length cap) xs.length (ints xs)) (hs : xs.length < 1000000) :
    Calls Tryd.prog 38 #[.slice (some ⟨b, 0, none⟩) xs.length cap] w fun e w' => e = .returned (.tuple #[]) ∧ ∃ ys : List Nat, ys.Perm xs ∧ ys.Pairwise (· ≤ ·) ∧ w'.ownsRow base 3 1 (.slice (some ⟨b, 0, none⟩) xs.length cap) xs.length (ints ys) ∧ Kept (fun i => i = b) w w' := by
  have hb : b < w.heap.size := own_lt h rfl
  have hH : Holds (Value.int .i64) w b 0 (xs.map fun n : Nat => (n : Int)).toArray := by
    intro j hj
    obtain ⟨a, cap', e, _, _, hc⟩ := owns_cells h
    obtain ⟨b', hb1, hb2, _, hcc⟩ := hc (by simp at hj; omega)
    have : b = b' := by simpa [Value.ownBlock] using hb2
    subst this
    simp at hj
    have := hcc j (.int .i64 (xs[j] : Nat)) (by simp [hj])
    rw [Nat.zero_add]
    refine ⟨this.1.trans ?_, this.2⟩
    simp [hj]
  have hc := AnyM.slices_Sort_int Tryd.lsortI b 0 cap (xs.map fun n : Nat => (n : Int)) w hH hb (by simp; omega)
  change Calls Tryd.prog 38 _ _ _ at hc
  rw [List.length_map] at hc
  refine hc.mono ?_
  rintro e w' ⟨rfl, n, os, hw⟩
  rcases h.2 with ⟨h0, _⟩ | ⟨g, cap', cur, hv, hbase, hbk, h1, h2, h3, _⟩
  · cases h0
  · cases hv
    have hl : ((xs.map fun n : Nat => (n : Int)).mergeSort fun x y => decide (x ≤ y)).length = (xs.map fun n : Nat => (n : Int)).length := by simp
    have hO := ownsRow_sortedI (w := w) (n := n) (os := os) (base := base) (ss := xs.map fun n : Nat => (n : Int)) hl hbase hbk (by simpa using h1) h2 h3
    have hG := grownBy_sortedI (w := w) (g := b) (n := n) (os := os) (((xs.map fun n : Nat => (n : Int)).mergeSort fun x y => decide (x ≤ y)).toArray)
    rw [← hw] at hO hG
    rw [List.length_map] at hO
    have hp := List.mergeSort_perm (xs.map fun n : Nat => (n : Int)) (fun x y => decide (x ≤ y))
    have hs := List.pairwise_mergeSort (le := fun x y : Int => decide (x ≤ y)) (fun a b c h1 h2 => by simp at *; omega) (fun a b => by simp; omega) (xs.map fun n : Nat => (n : Int))
    generalize ((xs.map fun n : Nat => (n : Int)).mergeSort fun x y => decide (x ≤ y)) = zs at *
    have hz : ∀ z ∈ zs, 0 ≤ z := fun z hz => by
      have := hp.mem_iff.1 hz
      simp at this
      obtain ⟨a, _, rfl⟩ := this
      omega
    have e1 : (zs.map Int.toNat).map (fun n : Nat => (n : Int)) = zs := by
      rw [List.map_map]
      refine (List.map_congr_left fun z hm => ?_).trans (List.map_id zs)
      have := hz z hm
      simp; omega
    refine ⟨rfl, zs.map Int.toNat, ?_, ?_, ?_, (Kept.refl _ _).grown hG fun k e => .inl (by cases e; rfl)⟩
    · have := hp.map Int.toNat
      rw [List.map_map] at this
      simpa [Function.comp_def] using this
    · refine List.pairwise_map.2 (hs.imp fun {a b} h => ?_)
      simp at h; omega
    · have e2 : ints (zs.map Int.toNat) = zs.map (Value.int .i64) := by
        rw [← e1]; simp [ints, List.map_map, Function.comp_def]
      rw [e2]; exact hO
end Go.Proofs.YtolifmpjbmekdaaDoor
