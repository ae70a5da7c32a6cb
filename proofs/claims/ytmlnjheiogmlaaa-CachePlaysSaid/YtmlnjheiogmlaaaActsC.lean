/-
Acts that came in: an int and two strings each; conditions: none.
-/
import Derived.Test.YtmlnjheiogmlaaaMem
namespace Go.Proofs.Ytmlnjheiogmlaaa
open Go.RowKit Go.Lib
/-- Acts that came in. -/
def ActsC (A : Option Addr) (zs : List (Int × ByteArray × ByteArray)) (w : World) : Prop :=
  zs ≠ [] → ∃ b off, A = some ⟨b, off, none⟩ ∧ b < w.heap.size ∧ ∀ (i : Nat) v, zs[i]? = some v → w.cell? ⟨b, off + i * 3, none⟩ = some (.int .i64 v.1) ∧ w.cell? ⟨b, off + i * 3 + 1, none⟩ = some (.string v.2.1) ∧ w.cell? ⟨b, off + i * 3 + 2, none⟩ = some (.string v.2.2) ∧ v.2.1.size ≤ maxLen ∧ v.2.2.size ≤ maxLen
end Go.Proofs.Ytmlnjheiogmlaaa
