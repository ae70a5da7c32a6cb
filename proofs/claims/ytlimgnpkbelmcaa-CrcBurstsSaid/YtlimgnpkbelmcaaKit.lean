/-
Small laws on memory: the bytes that a string is turned into, one of them stored anew, and the string that they are turned back into; conditions: those that each theorem names.
-/
import Derived.Test.YtlimgnpkbelmcaaProg
import Derived.WalkKit
import Derived.Below
import Derived.Lib.ConvBytes
import Derived.Laws.BytesArg
namespace Go.Proofs.Ytlimgnpkbelmcaa
open Go.RowKit Go.Lib

theorem bw_cell (w : World) (e : TypeId) (s : ByteArray) (j : Nat) (hj : j < s.size) : (bytesWorld w e s).cell? ⟨w.heap.size, j, none⟩ = some (.int .u8 s[j].toNat) := by
  rw [bytesWorld_cell w e s j hj]
  congr 2
  rw [List.getD_eq_getElem?_getD, List.getElem?_eq_getElem (by simpa using hj)]
  rfl
theorem bw_frozen (w : World) (e : TypeId) (s : ByteArray) (j : Nat) (hj : j < s.size) : (bytesWorld w e s).frozen? ⟨w.heap.size, j, none⟩ = false := by
  have h := bytesWorld_at_new w e s
  have hs : s.size ≤ (bytesCells w e s).size := by
    unfold bytesCells
    rw [Array.size_append, Array.size_map, ByteArray.size]
    exact Nat.le_add_right _ _
  simp only [World.frozen?, h]
  simp
  omega
theorem bw_below (w : World) (e : TypeId) (s : ByteArray) : Below w.heap.size w (bytesWorld w e s) :=
  ⟨rfl, rfl, rfl, by rw [bytesWorld_size]; omega, fun k hk => bytesWorld_at_old w e s k hk⟩
/-- The bytes, one of them stored anew, as a string. -/
theorem bw_back {P : Program} (w : World) (src dst e : TypeId) (hs : P.underlying src = some (.slice e)) (he : P.underlying e = some (.int .u8)) (hd : P.underlying dst = some .string) (s : ByteArray) (k : Nat) (hk : k < s.size) (v : Nat) (hv : v < 256) (cap : Nat) :
    (convert src dst (.slice (some ⟨w.heap.size, 0, none⟩) s.size cap)).run P ((bytesWorld w e s).setCell ⟨w.heap.size, k, none⟩ (.int .u8 v)) = .ok (.string ⟨(s.data.toList.set k (UInt8.ofNat v)).toArray⟩) ((bytesWorld w e s).setCell ⟨w.heap.size, k, none⟩ (.int .u8 v)) := by
  have hlen : s.data.toList.length = s.size := by rw [Array.length_toList]; rfl
  have h := run_convert_bytes_arg (P := P) ((bytesWorld w e s).setCell ⟨w.heap.size, k, none⟩ (.int .u8 v)) src e hs he w.heap.size 0 s.size cap ((s.data.toList.set k (UInt8.ofNat v)).map fun b => (b.toNat : Int)) (by simp [hlen]) (fun i hi => ?_) dst hd
  · rw [h]
    congr 2
    apply ByteArray.ext
    simp only [strOfNums, List.map_map]
    congr 1
    conv => rhs; rw [← List.map_id (s.data.toList.set k (UInt8.ofNat v))]
    exact List.map_congr_left (fun b _ => by simp)
  · have hg : ((s.data.toList.set k (UInt8.ofNat v)).map fun b => (b.toNat : Int)).getD i 0 = if k = i then (v : Int) else (s[i].toNat : Int) := by
      rw [List.getD_eq_getElem?_getD, List.getElem?_map, List.getElem?_set]
      by_cases hki : k = i
      · subst hki
        rw [if_pos rfl, if_pos rfl, if_pos (by omega)]
        simp
        omega
      · rw [if_neg hki, if_neg hki, List.getElem?_eq_getElem (by omega)]
        rfl
    rw [hg, Nat.zero_add]
    by_cases hki : k = i
    · subst hki
      rw [if_pos rfl]
      exact World.cell?_setCell_same _ _ _ (bw_cell w e s k hk)
    · rw [if_neg hki]
      exact (World.cell?_setCell_other _ _ _ _ (fun h => hki (by injection h))).trans (bw_cell w e s i hi)
end Go.Proofs.Ytlimgnpkbelmcaa
