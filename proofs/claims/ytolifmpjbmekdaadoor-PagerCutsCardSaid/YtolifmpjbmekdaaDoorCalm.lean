/-
A disk without power cuts, in plain Lean: what its sectors say; conditions: nothing waits, no cut is to come.
-/
import Derived.Test.YtolifmpjbmekdaaDoorColl
namespace Go.Proofs.YtolifmpjbmekdaaDoor
open Go.RowKit
/-- So many sectors that say that, and what waits. -/
structure Busy (m : Nat) (f : Nat → ByteArray) (l : List (Nat × ByteArray)) (D : DS) : Prop where
  dead : D.dead = false
  cuts : D.cuts = []
  wait : D.wait = l
  n : D.n = m
  says : ∀ i, i < m → ({ D with wait := [] } : DS).at i = (f i, 0)
abbrev Calm (m : Nat) (f : Nat → ByteArray) (D : DS) : Prop := Busy m f [] D
variable {m : Nat} {f : Nat → ByteArray} {l : List (Nat × ByteArray)} {D : DS}
theorem pad_full {s : ByteArray} (h : s.size = 256) : pad s = s := by
  unfold pad
  rw [h]
  exact ByteArray.append_empty
theorem pad_nil : pad ⟨#[]⟩ = zeros 256 := by
  unfold pad
  exact ByteArray.empty_append
theorem supS_size (gen : Nat) (root : Int) : (supS gen root).size = 256 := sector_size _ _ _ (Nat.le_trans (numB_size _) (by decide))
theorem act_calm (h : D.cuts = []) : D.act = (D.tick, false) := by unfold DS.act; rw [h]
theorem Busy.ticked (h : Busy m f l D) : Busy m f l D.tick := ⟨h.dead, h.cuts, h.wait, h.n, h.says⟩
theorem calm_at (h : Calm m f D) {i : Nat} (hi : i < m) : D.at i = (f i, 0) := by
  have := h.says i hi
  rw [show ({ D with wait := [] } : DS) = D by have := h.wait; cases D; simp_all] at this
  exact this
theorem calm_read (h : Calm m f D) {i : Nat} (hi : i < m) : D.read i = (D.tick, f i, 0) ∧ Calm m f D.tick := by
  have e := calm_at h.ticked hi
  have hn := h.n
  refine ⟨?_, h.ticked⟩
  unfold DS.read
  rw [if_neg (by simp [h.dead]), if_neg (by omega), act_calm h.cuts, if_neg (by simp)]
  simp only [Int.toNat_natCast]
  rw [e]
theorem busy_write (h : Busy m f l D) {i : Nat} (hi : i < m) {s : ByteArray} (hs : s.size ≤ 256) : ∃ D', D.write i s = (D', 0) ∧ Busy m f (l ++ [(i, pad s)]) D' := by
  have hn := h.n
  refine ⟨(D.push i s).tick, ?_, ⟨h.dead, h.cuts, by show D.wait ++ _ = _; rw [h.wait], h.n, h.says⟩⟩
  unfold DS.write
  rw [if_neg (by simp [h.dead]), if_neg (by omega), if_neg (by omega)]
  have : (D.push i s).cuts = [] := h.cuts
  simp [act_calm this]
theorem settle_at (D : DS) (x : Nat × ByteArray) (hx : x.2 ≠ ⟨#[]⟩) (i : Nat) : ({ D.settle x 1 with wait := [] } : DS).at i = if i = x.1 then (x.2, 0) else ({ D with wait := [] } : DS).at i := by
  unfold DS.settle
  simp only [if_true]
  unfold DS.at
  simp only [lastW]
  by_cases e : i = x.1
  · subst e
    simp [upd, hx]
  · simp [upd, e]
theorem keeps_at : ∀ (l : List (Nat × ByteArray)) (D : DS) (f : Nat → ByteArray), (∀ x ∈ l, x.2 ≠ ⟨#[]⟩) → (∀ i, i < m → ({ D with wait := [] } : DS).at i = (f i, 0)) → ∀ i, i < m → ({ D.keeps l with wait := [] } : DS).at i = (l.foldl (fun f x => upd f x.1 x.2) f i, 0)
  | [], D, f, _, h => h
  | x :: l, D, f, hx, h => by
    show ∀ i, i < m → ({ (D.settle x 1).keeps l with wait := [] } : DS).at i = _
    refine keeps_at l _ _ (fun y hy => hx y (.tail _ hy)) fun i hi => ?_
    rw [settle_at D x (hx x (.head _))]
    show _ = (if i = x.1 then x.2 else f i, (0 : Int))
    split
    · rfl
    · exact h i hi
theorem busy_flush (h : Busy m f l D) (hl : ∀ x ∈ l, x.2 ≠ ⟨#[]⟩) : ∃ D', D.flush = (D', 0) ∧ Calm m (l.foldl (fun f x => upd f x.1 x.2) f) D' := by
  have hk := keeps_same D.tick.wait D.tick
  refine ⟨{ D.tick.keeps D.tick.wait with wait := [] }, ?_, ⟨?_, ?_, rfl, ?_, ?_⟩⟩
  · unfold DS.flush
    rw [if_neg (by simp [h.dead]), act_calm h.cuts, if_neg (by simp)]
  · exact hk.2.2.2.2.2.2.trans h.dead
  · exact hk.2.2.1.trans h.cuts
  · exact hk.1.trans h.n
  · rw [show D.tick.wait = l from h.wait]
    exact keeps_at l D.tick f hl h.says
theorem busy_puts : ∀ (p : List (Nat × ByteArray)) {l : List (Nat × ByteArray)} {D : DS}, Busy m f l D → (∀ x ∈ p, x.1 < m ∧ x.2.size ≤ 256) → ∃ D', D.puts p = (D', 0) ∧ Busy m f (l ++ p.map fun x => (x.1, pad x.2)) D'
  | [], l, D, h, _ => ⟨D, rfl, by simpa using h⟩
  | x :: p, l, D, h, hp => by
    obtain ⟨D1, e1, h1⟩ := busy_write h (hp x (.head _)).1 (hp x (.head _)).2
    obtain ⟨D2, e2, h2⟩ := busy_puts p h1 fun y hy => hp y (.tail _ hy)
    refine ⟨D2, ?_, by simpa using h2⟩
    rw [puts_cons, e1, if_neg (by simp), e2]
theorem pad_ne (s : ByteArray) (h : s.size ≤ 256) : pad s ≠ ⟨#[]⟩ := fun e => by
  have := congrArg ByteArray.size e
  rw [pad_size h] at this
  cases this
/-- What is committed, on a disk without cuts. -/
theorem calm_commit (h : Calm m f D) {p : List (Nat × ByteArray)} (hp : ∀ x ∈ p, x.1 < m ∧ x.2.size = 256) (hm : 2 ≤ m) (gen : Nat) (root : Int) :
    ∃ D', D.commit p gen root = (D', 0) ∧ Calm m (upd (p.foldl (fun f x => upd f x.1 x.2) f) (gen % 2) (supS gen root)) D' := by
  obtain ⟨D1, e1, h1⟩ := busy_puts p h fun x hx => ⟨(hp x hx).1, by rw [(hp x hx).2]; decide⟩
  obtain ⟨D2, e2, h2⟩ := busy_flush h1 fun x hx => by
    simp at hx
    obtain ⟨a, b, hx, rfl⟩ := hx
    exact pad_ne _ (by rw [(hp _ hx).2]; decide)
  obtain ⟨D3, e3, h3⟩ := busy_write h2 (i := gen % 2) (by omega) (s := supS gen root) (by rw [supS_size]; decide)
  obtain ⟨D4, e4, h4⟩ := busy_flush h3 fun x hx => by
    simp at hx
    subst hx
    exact pad_ne _ (by rw [supS_size]; decide)
  refine ⟨D4, ?_, ?_⟩
  · unfold DS.commit
    rw [e1]; simp only
    rw [if_neg (by simp), e2]; simp only
    rw [if_neg (by simp), e3]; simp only
    rw [if_neg (by simp), e4]
  · have e5 : (p.map fun x => (x.1, pad x.2)) = p := by
      refine (List.map_congr_left fun x hx => ?_).trans (List.map_id p)
      rw [pad_full (hp x hx).2]; rfl
    rw [pad_full (supS_size gen root)] at h4
    simp only [List.nil_append, List.foldl_cons, List.foldl_nil] at h4
    rw [e5] at h4
    exact h4
theorem calm_format (h : Calm m f D) (hm : 2 ≤ m) : ∃ D', D.format = (D', 0) ∧ Calm m (upd (upd (upd f 0 (zeros 256)) 1 (zeros 256)) 1 (supS 1 (-1))) D' := by
  obtain ⟨D1, e1, h1⟩ := busy_write h (i := 0) (by omega) (s := ⟨#[]⟩) (by decide)
  obtain ⟨D2, e2, h2⟩ := busy_write h1 (i := 1) (by omega) (s := ⟨#[]⟩) (by decide)
  obtain ⟨D3, e3, h3⟩ := busy_flush h2 fun x hx => by
    simp at hx
    rcases hx with rfl | rfl
    · exact pad_ne _ (by decide)
    · exact pad_ne _ (by decide)
  obtain ⟨D4, e4, h4⟩ := busy_write h3 (i := 1) (by omega) (s := supS 1 (-1)) (by rw [supS_size]; decide)
  obtain ⟨D5, e5, h5⟩ := busy_flush h4 fun x hx => by
    simp at hx
    subst hx
    exact pad_ne _ (by rw [supS_size]; decide)
  have e1' : D.write 0 ⟨#[]⟩ = (D1, 0) := e1
  have e2' : D1.write 1 ⟨#[]⟩ = (D2, 0) := e2
  have e4' : D3.write 1 (supS 1 (-1)) = (D4, 0) := e4
  refine ⟨D5, ?_, ?_⟩
  · unfold DS.format
    simp only [e1', e2', e3, e4', e5, ne_eq, not_true_eq_false, if_false]
  · rw [pad_full (supS_size 1 (-1)), pad_nil] at h5
    simpa using h5
theorem calm_new (m : Nat) : Calm m (fun _ => zeros 256) (DS.new m []) := ⟨rfl, rfl, rfl, rfl, fun i _ => by simp [DS.at, DS.new, lastW]⟩
end Go.Proofs.YtolifmpjbmekdaaDoor
