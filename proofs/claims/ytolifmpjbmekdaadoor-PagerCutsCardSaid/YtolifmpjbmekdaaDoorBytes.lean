/-
Bytes that are made, and texts out of bytes; conditions: those that each theorem names.
-/
import Derived.Test.YtolifmpjbmekdaaDoorMem
import Derived.Laws.MakeOwn
import Derived.Lib.ConvBytes
import Derived.Laws.Slices
namespace Go.Proofs.YtolifmpjbmekdaaDoor
open Go.RowKit Go.Lib
/-- So many bytes of nought. -/
def zeros (n : Nat) : ByteArray := ⟨(List.replicate n (0 : UInt8)).toArray⟩
theorem zeros_size (n : Nat) : (zeros n).size = n := by simp [zeros, ByteArray.size]
theorem info_u8 : (Tryd.prog.info? 5).map (fun i => (i.zero, i.size, i.bytes)) = some (some (.int .u8 0), 1, 1) := by kernel_rfl
theorem made_one (v : Value) (hv : v.cells = #[v]) (n : Nat) : madeCells v.cells (n * 1) = Array.replicate n v := by
  rw [hv, Nat.mul_one]
  apply Array.ext (by simp [madeCells])
  intro i h1 h2
  simp [madeCells, Nat.mod_one]
theorem mk_bytes (w : World) {n : Nat} (hn : n ≤ 1000000) : (Instr.makeSlice 63 (.int .i64 n) (.int .i64 n)).run Tryd.prog w = .ok (.slice (some ⟨w.heap.size, 0, none⟩) n n) (w.alloc (.cells (Array.replicate n (.int .u8 0)) 5)) := by
  obtain ⟨i, hi, hz, hs, hb⟩ := info_parts info_u8
  have h := run_make (P := Tryd.prog) w 63 5 i (.int .u8 0) Tryd.underlying63 hi hz .i64 .i64 n n (by omega) (by omega) (by rw [hb]; omega) (by omega)
  rw [hs, Int.toNat_natCast, made_one _ rfl] at h
  exact h
def bytesOf (l : List UInt8) : List Int := l.map fun b => (b.toNat : Int)
theorem conv_zeros (w : World) (n : Nat) : (convert 63 9 (.slice (some ⟨w.heap.size, 0, none⟩) n n)).run Tryd.prog (w.alloc (.cells (Array.replicate n (.int .u8 0)) 5)) = .ok (.string (zeros n)) (w.alloc (.cells (Array.replicate n (.int .u8 0)) 5)) := by
  refine (run_convert_bytes_arg (w.alloc (.cells (Array.replicate n (.int .u8 0)) 5)) 63 5 Tryd.underlying63 Tryd.underlying5 w.heap.size 0 n n (List.replicate n 0) (by simp) (fun i hi => ?_) 9 Tryd.underlying9).trans ?_
  · rw [Nat.zero_add, cell_at (blk_new _ _) i]
    simp [hi]
  · congr 2
    simp [zeros, strOfNums]
end Go.Proofs.YtolifmpjbmekdaaDoor
