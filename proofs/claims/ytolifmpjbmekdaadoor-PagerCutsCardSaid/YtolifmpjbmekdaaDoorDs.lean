/-
A disk's state, in plain Lean: what each act does to it; and how it lies in memory; conditions: those that each theorem names.
-/
import Derived.Test.YtolifmpjbmekdaaDoorMem
import Derived.BigRegion
namespace Go.Proofs.YtolifmpjbmekdaaDoor
open Go.RowKit
/-- A disk's state: sectors, which are torn, writes that wait, where the power fails. -/
structure DS where
  n : Nat
  data : Nat → ByteArray
  torn : Nat → Bool
  wait : List (Nat × ByteArray)
  cuts : List (Int × List Int)
  acts : Int
  all : Int
  fails : Int
  dead : Bool
def upd {α : Type} (f : Nat → α) (i : Nat) (x : α) : Nat → α := fun j => if j = i then x else f j
theorem upd_same {α : Type} (f : Nat → α) (i : Nat) (x : α) : upd f i x i = x := if_pos rfl
theorem upd_other {α : Type} (f : Nat → α) {i j : Nat} (x : α) (h : j ≠ i) : upd f i x j = f j := if_neg h
/-- A write has its fate. -/
def DS.settle (D : DS) (x : Nat × ByteArray) (fate : Nat) : DS :=
  if fate = 1 then { D with data := upd D.data x.1 x.2, torn := upd D.torn x.1 false }
  else if fate = 2 then { D with data := upd D.data x.1 x.2, torn := upd D.torn x.1 true } else D
def fateOf (l : List Int) (i : Nat) : Nat := match l[i]? with
  | none => 0
  | some z => ((z.tmod 3 + 3).tmod 3).toNat
def DS.settles : DS → List Int → Nat → List (Nat × ByteArray) → DS
  | D, _, _, [] => D
  | D, f, i, x :: l => (D.settle x (fateOf f i)).settles f (i + 1) l
def DS.keeps : DS → List (Nat × ByteArray) → DS
  | D, [] => D
  | D, x :: l => (D.settle x 1).keeps l
def DS.tick (D : DS) : DS := { D with acts := wrap64 (D.acts + 1), all := wrap64 (D.all + 1) }
/-- An act; whether the power fails in it. -/
def DS.act (D : DS) : DS × Bool := match D.cuts with
  | [] => (D.tick, false)
  | c :: r => if D.tick.acts ≤ (if c.1 < 0 then 0 else c.1) then (D.tick, false) else ({ D.tick.settles c.2 0 D.wait with wait := [], cuts := r, dead := true, fails := wrap64 (D.fails + 1) }, true)
theorem tmod_range (z : Int) : (z.tmod 3 + 3).tmod 3 = ((z.tmod 3 + 3).tmod 3).toNat ∧ ((z.tmod 3 + 3).tmod 3).toNat ≤ 2 := by
  have h1 := Int.lt_tmod_of_pos z (show (0 : Int) < 3 by decide)
  have h2 := Int.tmod_lt_of_pos z (show (0 : Int) < 3 by decide)
  rw [Int.tmod_eq_emod_of_nonneg (by omega)]
  omega
theorem fateOf_le (l : List Int) (i : Nat) : fateOf l i ≤ 2 := by
  unfold fateOf
  split
  · omega
  · exact (tmod_range _).2
def wcells (l : List (Nat × ByteArray)) : List Value := l.flatMap fun p => [.int .i64 (p.1 : Int), .string p.2]
theorem wcells_append (l m : List (Nat × ByteArray)) : wcells (l ++ m) = wcells l ++ wcells m := by simp [wcells]
theorem wcells_length (l : List (Nat × ByteArray)) : (wcells l).length = l.length * 2 := by
  induction l with
  | nil => rfl
  | cons p l ih => simp [wcells] at ih ⊢; omega
theorem wcells_at : ∀ (l : List (Nat × ByteArray)) (i : Nat) (p : Nat × ByteArray), l[i]? = some p → (wcells l)[i * 2]? = some (.int .i64 (p.1 : Int)) ∧ (wcells l)[i * 2 + 1]? = some (.string p.2)
  | [], i, p, h => by simp at h
  | q :: l, 0, p, h => by
    simp at h
    subst h
    exact ⟨rfl, rfl⟩
  | q :: l, i + 1, p, h => by
    have := wcells_at l i p (by simpa using h)
    have e : wcells (q :: l) = .int .i64 (q.1 : Int) :: .string q.2 :: wcells l := rfl
    rw [e, show (i + 1) * 2 = i * 2 + 1 + 1 by omega, show i * 2 + 1 + 1 + 1 = (i * 2 + 1) + 1 + 1 by omega]
    simpa using this
theorem wcells_one (l : List (Nat × ByteArray)) : ∀ u ∈ wcells l, u.oneCell' = true := by
  intro u hu
  simp only [wcells, List.mem_flatMap] at hu
  obtain ⟨p, _, h⟩ := hu
  simp at h
  rcases h with rfl | rfl <;> rfl
/-- Integers that lie in a row. -/
def IntsAt (S : Nat → Prop) (v : Value) (l : List Int) (w : World) : Prop :=
  ∃ A cap, v = .slice A l.length cap ∧ l.length * 8 ≤ 140737488355328 ∧ (A = none → cap = 0) ∧ (l ≠ [] → ∃ b off, A = some ⟨b, off, none⟩ ∧ S b ∧ b < w.heap.size ∧ ∀ (i : Nat) x, l[i]? = some x → w.cell? ⟨b, off + i, none⟩ = some (.int .i64 x))
/-- Cuts that lie in a row. -/
def CutsAt (S : Nat → Prop) (v : Value) (l : List (Int × List Int)) (w : World) : Prop :=
  ∃ A cap, v = .slice A l.length cap ∧ l.length ≤ cap ∧ cap ≤ maxLen ∧ (l ≠ [] → ∃ b off, A = some ⟨b, off, none⟩ ∧ S b ∧ b < w.heap.size ∧ ∀ (i : Nat) c, l[i]? = some c → w.cell? ⟨b, off + i * 2, none⟩ = some (.int .i64 c.1) ∧ ∃ u, w.cell? ⟨b, off + i * 2 + 1, none⟩ = some u ∧ IntsAt S u c.2 w)
theorem cell_kept {F : Nat → Prop} {w w' : World} (hk : Kept F w w') {b : Nat} (hb : b < w.heap.size) (hF : ¬ F b) (i : Nat) : w'.cell? ⟨b, i, none⟩ = w.cell? ⟨b, i, none⟩ := World.cell?_of_block (hk.block b hb hF)
theorem IntsAt.kept {S F : Nat → Prop} {v : Value} {l : List Int} {w w' : World} (h : IntsAt S v l w) (hk : Kept F w w') (hF : ∀ b, b < w.heap.size → S b → ¬ F b) : IntsAt S v l w' := by
  obtain ⟨A, cap, e, hl, h0, h⟩ := h
  refine ⟨A, cap, e, hl, h0, fun hne => ?_⟩
  obtain ⟨b, off, e, hS, hb, hc⟩ := h hne
  exact ⟨b, off, e, hS, Nat.lt_of_lt_of_le hb hk.size, fun i x hx => (cell_kept hk hb (hF b hb hS) _).trans (hc i x hx)⟩
theorem CutsAt.kept {S F : Nat → Prop} {v : Value} {l : List (Int × List Int)} {w w' : World} (h : CutsAt S v l w) (hk : Kept F w w') (hF : ∀ b, b < w.heap.size → S b → ¬ F b) : CutsAt S v l w' := by
  obtain ⟨A, cap, e, hl, hc2, h⟩ := h
  refine ⟨A, cap, e, hl, hc2, fun hne => ?_⟩
  obtain ⟨b, off, e, hS, hb, hc⟩ := h hne
  refine ⟨b, off, e, hS, Nat.lt_of_lt_of_le hb hk.size, fun i c hi => ?_⟩
  obtain ⟨h1, u, h2, h3⟩ := hc i c hi
  exact ⟨(cell_kept hk hb (hF b hb hS) _).trans h1, u, (cell_kept hk hb (hF b hb hS) _).trans h2, h3.kept hk hF⟩
theorem IntsAt.mono {S S' : Nat → Prop} {v : Value} {l : List Int} {w : World} (h : IntsAt S v l w) (hS : ∀ b, b < w.heap.size → S b → S' b) : IntsAt S' v l w := by
  obtain ⟨A, cap, e, hl, h0, h⟩ := h
  refine ⟨A, cap, e, hl, h0, fun hne => ?_⟩
  obtain ⟨b, off, e, hs, hb, hc⟩ := h hne
  exact ⟨b, off, e, hS b hb hs, hb, hc⟩
theorem CutsAt.mono {S S' : Nat → Prop} {v : Value} {l : List (Int × List Int)} {w : World} (h : CutsAt S v l w) (hS : ∀ b, b < w.heap.size → S b → S' b) : CutsAt S' v l w := by
  obtain ⟨A, cap, e, hl, hc2, h⟩ := h
  refine ⟨A, cap, e, hl, hc2, fun hne => ?_⟩
  obtain ⟨b, off, e, hs, hb, hc⟩ := h hne
  refine ⟨b, off, e, hS b hb hs, hb, fun i c hi => ?_⟩
  obtain ⟨h1, u, h2, h3⟩ := hc i c hi
  exact ⟨h1, u, h2, h3.mono hS⟩
/-- A disk lies in block q, its sectors in bd and bt. -/
structure DiskAt (S : Nat → Prop) (q bd bt : Nat) (vw vc : Value) (D : DS) (w : World) : Prop where
  blk : w.heap[q]? = some (.cells #[.slice (some ⟨bd, 0, none⟩) D.n D.n, .slice (some ⟨bt, 0, none⟩) D.n D.n, vw, vc, .int .i64 D.acts, .int .i64 D.all, .int .i64 D.fails, .bool D.dead] 69 (0, 0))
  data : ∃ arr, w.heap[bd]? = some (.cells arr 9 (0, 0)) ∧ ∀ i, i < D.n → arr[i]? = some (.string (D.data i))
  torn : ∃ arr, w.heap[bt]? = some (.cells arr 4 (0, 0)) ∧ ∀ i, i < D.n → arr[i]? = some (.bool (D.torn i))
  wait : w.ownsRow 0 94 2 vw D.wait.length (wcells D.wait)
  cuts : CutsAt S vc D.cuts w
  ok : ∀ x ∈ D.wait, x.1 < D.n
  few : D.n ≤ 16384
  ne1 : q ≠ bd
  ne2 : q ≠ bt
  ne3 : bd ≠ bt
  nw : ∀ b, vw.ownBlock = some b → b ≠ q ∧ b ≠ bd ∧ b ≠ bt
  ns : ∀ b, S b → b ≠ q ∧ b ≠ bd ∧ b ≠ bt ∧ vw.ownBlock ≠ some b
theorem DiskAt.lt {S : Nat → Prop} {q bd bt : Nat} {vw vc : Value} {D : DS} {w : World} (h : DiskAt S q bd bt vw vc D w) : q < w.heap.size ∧ bd < w.heap.size ∧ bt < w.heap.size := by
  obtain ⟨a, ha, _⟩ := h.data
  obtain ⟨b, hb, _⟩ := h.torn
  exact ⟨blk_lt h.blk, blk_lt ha, blk_lt hb⟩
theorem DiskAt.kept {S F : Nat → Prop} {q bd bt : Nat} {vw vc : Value} {D : DS} {w w' : World} (h : DiskAt S q bd bt vw vc D w) (hk : Kept F w w') (h1 : ¬ F q) (h2 : ¬ F bd) (h3 : ¬ F bt) (h4 : ∀ b, vw.ownBlock = some b → ¬ F b) (h5 : ∀ b, b < w.heap.size → S b → ¬ F b) : DiskAt S q bd bt vw vc D w' := by
  obtain ⟨a, ha, ha2⟩ := h.data
  obtain ⟨b, hb, hb2⟩ := h.torn
  exact ⟨hk.at h.blk h1, ⟨a, hk.at ha h2, ha2⟩, ⟨b, hk.at hb h3, hb2⟩, owns_kept hk h.wait h4, h.cuts.kept hk h5, h.ok, h.few, h.ne1, h.ne2, h.ne3, h.nw, h.ns⟩
theorem DiskAt.new {S : Nat → Prop} {q bd bt : Nat} {vw vc : Value} {D : DS} {w w' : World} (h : DiskAt S q bd bt vw vc D w) (hk : New w w') : DiskAt S q bd bt vw vc D w' := h.kept hk id id id (fun _ _ => id) (fun _ _ _ => id)
theorem DiskAt.cell {S : Nat → Prop} {q bd bt : Nat} {vw vc : Value} {D : DS} {w : World} (h : DiskAt S q bd bt vw vc D w) (i : Nat) : w.cell? ⟨q, i, none⟩ = (#[.slice (some ⟨bd, 0, none⟩) D.n D.n, .slice (some ⟨bt, 0, none⟩) D.n D.n, vw, vc, .int .i64 D.acts, .int .i64 D.all, .int .i64 D.fails, .bool D.dead] : Array Value)[i]? := cell_at h.blk i
/-- A cell of the disk's own block is turned. -/
theorem DiskAt.field {S : Nat → Prop} {q bd bt : Nat} {vw vc vw' vc' : Value} {D D' : DS} {w w' : World} (h : DiskAt S q bd bt vw vc D w) (hk : Kept (fun b => b = q) w w')
    (hb : w'.heap[q]? = some (.cells #[.slice (some ⟨bd, 0, none⟩) D'.n D'.n, .slice (some ⟨bt, 0, none⟩) D'.n D'.n, vw', vc', .int .i64 D'.acts, .int .i64 D'.all, .int .i64 D'.fails, .bool D'.dead] 69 (0, 0)))
    (e1 : D'.n = D.n) (e2 : D'.data = D.data) (e3 : D'.torn = D.torn) (hw : w'.ownsRow 0 94 2 vw' D'.wait.length (wcells D'.wait)) (hw1 : ∀ x ∈ D'.wait, x ∈ D.wait) (hw2 : ∀ b, vw'.ownBlock = some b → vw.ownBlock = some b) (hc : CutsAt S vc' D'.cuts w') : DiskAt S q bd bt vw' vc' D' w' := by
  obtain ⟨a, ha, ha2⟩ := h.data
  obtain ⟨b, hb', hb2⟩ := h.torn
  refine ⟨hb, ⟨a, hk.at ha (Ne.symm h.ne1), ?_⟩, ⟨b, hk.at hb' (Ne.symm h.ne2), ?_⟩, hw, hc, ?_, by rw [e1]; exact h.few, h.ne1, h.ne2, h.ne3, fun b hb => h.nw b (hw2 b hb), fun b hb => ⟨(h.ns b hb).1, (h.ns b hb).2.1, (h.ns b hb).2.2.1, fun e => (h.ns b hb).2.2.2 (hw2 b e)⟩⟩
  · rw [e1, e2]; exact ha2
  · rw [e1, e3]; exact hb2
  · intro x hx
    rw [e1]
    exact h.ok x (hw1 x hx)
theorem keptq {q : Nat} (W : World) (i : Nat) (u : Value) : Kept (fun b => b = q) W (W.setCell ⟨q, i, none⟩ u) := (Kept.refl (fun b => b = q) W).setCell (p := ⟨q, i, none⟩) (.inl rfl) u
/-- A sector is stored. -/
theorem DiskAt.setData {S : Nat → Prop} {q bd bt : Nat} {vw vc : Value} {D : DS} {w : World} (h : DiskAt S q bd bt vw vc D w) {i : Nat} (hi : i < D.n) (s : ByteArray) : DiskAt S q bd bt vw vc { D with data := upd D.data i s } (w.setCell ⟨bd, i, none⟩ (.string s)) := by
  obtain ⟨a, ha, ha2⟩ := h.data
  obtain ⟨b, hb', hb2⟩ := h.torn
  have hk : Kept (fun b => b = bd) w (w.setCell ⟨bd, i, none⟩ (.string s)) := keptq w i _
  refine ⟨hk.at h.blk h.ne1, ⟨_, heap_setCell_same ha, fun j hj => ?_⟩, ⟨b, hk.at hb' (Ne.symm h.ne3), hb2⟩, owns_kept hk h.wait (fun k hb => (h.nw k hb).2.1), h.cuts.kept hk (fun k _ hb => (h.ns k hb).2.1), h.ok, h.few, h.ne1, h.ne2, h.ne3, h.nw, h.ns⟩
  have h1 := ha2 j hj
  by_cases e : j = i
  · subst e
    have hsz : j < a.size := (Array.getElem?_eq_some_iff.1 h1).1
    simp [upd, hsz]
  · rw [Array.getElem?_setIfInBounds_ne (Ne.symm e), h1]
    simp [upd, e]
theorem DiskAt.setTorn {S : Nat → Prop} {q bd bt : Nat} {vw vc : Value} {D : DS} {w : World} (h : DiskAt S q bd bt vw vc D w) {i : Nat} (hi : i < D.n) (s : Bool) : DiskAt S q bd bt vw vc { D with torn := upd D.torn i s } (w.setCell ⟨bt, i, none⟩ (.bool s)) := by
  obtain ⟨a, ha, ha2⟩ := h.data
  obtain ⟨b, hb', hb2⟩ := h.torn
  have hk : Kept (fun b => b = bt) w (w.setCell ⟨bt, i, none⟩ (.bool s)) := keptq w i _
  refine ⟨hk.at h.blk h.ne2, ⟨a, hk.at ha h.ne3, ha2⟩, ⟨_, heap_setCell_same hb', fun j hj => ?_⟩, owns_kept hk h.wait (fun k hb => (h.nw k hb).2.2), h.cuts.kept hk (fun k _ hb => (h.ns k hb).2.2.1), h.ok, h.few, h.ne1, h.ne2, h.ne3, h.nw, h.ns⟩
  have h1 := hb2 j hj
  by_cases e : j = i
  · subst e
    have hsz : j < b.size := (Array.getElem?_eq_some_iff.1 h1).1
    simp [upd, hsz]
  · rw [Array.getElem?_setIfInBounds_ne (Ne.symm e), h1]
    simp [upd, e]
end Go.Proofs.YtolifmpjbmekdaaDoor
