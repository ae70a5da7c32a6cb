/-
The small functions of a queue: its keys, whether there is one; conditions: the queue lies in memory as told.
-/
import Derived.Test.YtmlnjheiogmlaaaMem
import Derived.Outline
namespace Go.Proofs.Ytmlnjheiogmlaaa
open Go.RowKit Go.Lib
/-- Keys and texts whose blocks lie in F; all new blocks do. -/
structure KVs (g : Nat) (F : Nat → Prop) (l : List (ByteArray × ByteArray)) (w : World) : Prop where
  ex : ∃ vk vt, KVat g vk vt l w ∧ ∀ b, foot g vk vt b → F b
  up : ∀ b, w.heap.size ≤ b → F b
theorem KVs.of_puts {g : Nat} {F : Nat → Prop} {vk vt : Value} {l : List (ByteArray × ByteArray)} {w w' : World} (h : Puts g vk vt l w w') (hF : ∀ b, foot g vk vt b → F b) (hu : ∀ b, w.heap.size ≤ b → F b) : KVs g F l w' ∧ Kept F w w' := by
  obtain ⟨vk', vt', h1, h2, h3⟩ := h
  refine ⟨⟨⟨vk', vt', h1, fun b hb => (h3 b hb).elim (hF b) (hu b)⟩, fun b hb => hu b (Nat.le_trans h2.size hb)⟩, h2.mono fun x _ hx => hF x hx⟩
theorem KVs.new {g : Nat} {F : Nat → Prop} {l : List (ByteArray × ByteArray)} {w w' : World} (h : KVs g F l w) (hn : New w w') : KVs g F l w' := by
  obtain ⟨⟨vk, vt, h1, h2⟩, h3⟩ := h
  exact ⟨⟨vk, vt, h1.kept hn fun _ _ => id, h2⟩, fun b hb => h3 b (Nat.le_trans hn.size hb)⟩
theorem new_of_below {w w' : World} (h : Below w.heap.size w w') : New w w' := Kept.of_below h
/-- A queue of a name lies in block q. -/
structure Que (q g : Nat) (nm : ByteArray) (w : World) : Prop where
  blk : w.heap[q]? = some (.cells #[.iface 23 (.pointer (some ⟨g, 0, none⟩)), .string nm] 75 (0, 0))
theorem Que.kept {F : Nat → Prop} {q g : Nat} {nm : ByteArray} {w w' : World} (h : Que q g nm w) (hk : Kept F w w') (hF : ¬ F q) : Que q g nm w' := ⟨hk.at h.blk hF⟩
theorem Que.new {q g : Nat} {nm : ByteArray} {w w' : World} (h : Que q g nm w) (hk : New w w') : Que q g nm w' := h.kept hk id
theorem Que.cells {q g : Nat} {nm : ByteArray} {w : World} (h : Que q g nm w) : w.cell? ⟨q, 0, none⟩ = some (.iface 23 (.pointer (some ⟨g, 0, none⟩))) ∧ w.cell? ⟨q, 1, none⟩ = some (.string nm) := ⟨(cell_at h.blk 0).trans rfl, (cell_at h.blk 1).trans rfl⟩
/-- The methods of the interface, at keys and texts. -/
theorem nil_get (a : Addr) (w : World) : (nilAhead 243 23 (.pointer (some a)) "Get").run Try.prog w = .ok (some false) w := by kernel_rfl
theorem nil_put (a : Addr) (w : World) : (nilAhead 243 23 (.pointer (some a)) "Put").run Try.prog w = .ok (some false) w := by kernel_rfl
theorem nil_del (a : Addr) (w : World) : (nilAhead 243 23 (.pointer (some a)) "Delete").run Try.prog w = .ok (some false) w := by kernel_rfl
theorem is_get (a : Addr) (w : World) : (method 243 23 (.pointer (some a)) "Get").run Try.prog w = .ok (48, .pointer (some a)) w := by kernel_rfl
theorem is_put (a : Addr) (w : World) : (method 243 23 (.pointer (some a)) "Put").run Try.prog w = .ok (92, .pointer (some a)) w := by kernel_rfl
theorem is_del (a : Addr) (w : World) : (method 243 23 (.pointer (some a)) "Delete").run Try.prog w = .ok (91, .pointer (some a)) w := by kernel_rfl
theorem que_bad {q g : Nat} {nm : ByteArray} {w : World} (h : Que q g nm w) : Calls Try.prog 38 #[.pointer (some ⟨q, 0, none⟩)] w fun e w' => e = .returned (.bool false) ∧ w = w' := by
  obtain ⟨c0, c1⟩ := h.cells
  clear h
  go_enter Try.func38, Try.ntmps38
  go_wp2
  go_ret
  exact ⟨rfl, rfl⟩
theorem que_end {q g : Nat} {nm : ByteArray} {w : World} (s : ByteArray) (h : Que q g nm w) (hn : nm.size ≤ 1000) (hs : s.size ≤ 1000) : Calls Try.prog 37 #[.pointer (some ⟨q, 0, none⟩), .string s] w fun e w' => e = .returned (.string (nm ++ ⟨#[101]⟩ ++ s)) ∧ w = w' := by
  obtain ⟨c0, c1⟩ := h.cells
  clear h
  go_enter Try.func37, Try.ntmps37
  go_wp2
  go_ret
  exact ⟨rfl, rfl⟩
theorem que_new {g : Nat} {nm : ByteArray} {w : World} : Calls Try.prog 8 #[.iface 23 (.pointer (some ⟨g, 0, none⟩)), .string nm] w fun e w' => ∃ q, e = .returned (.pointer (some ⟨q, 0, none⟩)) ∧ Que q g nm w' ∧ w.heap.size ≤ q ∧ Below w.heap.size w w' := by
  go_enter Try.func8, Try.ntmps8
  go_wp2
  go_ret
  exact ⟨_, rfl, ⟨blk_new _ _⟩, Nat.le_refl _, (Below.refl _ _).alloc (Nat.le_refl _) _⟩
end Go.Proofs.Ytmlnjheiogmlaaa
