/-
The pager's Undo; conditions: the pager lies in memory as told.
-/
import Derived.Test.YtolifmpjbmekdaaDoorPgAdd
namespace Go.Proofs.YtolifmpjbmekdaaDoor
open Go.RowKit
open Go.Lib (hid)
variable {F : Nat → Prop} {p q pk bk pu bu mf mc : Nat} {v : Value} {S : PS} {D : DS} {w : World}
theorem undo_none (w : World) : Calls Tryd.prog 22 #[.pointer none] w fun e w' => e = .returned (.tuple #[]) ∧ w = w' := by
  go_enter Tryd.func22, Tryd.ntmps22
  go_wp2
  exact bodyPost_ret (v := .tuple #[]) (by simp [results, Tryd.results22, go_sem]) rfl ⟨rfl, rfl⟩
/-- The pager's own cells are set: a new space, nothing let go. -/
theorem PgrAt.turn (h : PgrAt F p q pk bk pu bu mf mc v S D w) {pu2 bu2 : Nat} {U2 : Nat → Bool} {w' : World} (hk : Kept (fun b => b = p) w w') (hb : w'.heap[p]? = some (.cells (pagerV q pk pu2 mf mc (.slice none 0 0) { S with U := U2, free := [] }) 83 (0, 0))) (hs : Spc pu2 bu2 S.many U2 w) (n1 : bk ≠ bu2) (n2 : pk ≠ pu2) (f1 : ¬ F pu2) (f2 : ¬ F bu2) :
    PgrAt F p q pk bk pu2 bu2 mf mc (.slice none 0 0) { S with U := U2, free := [] } D w' := by
  obtain ⟨a, b, c, d, e⟩ := h.apart
  obtain ⟨c1, k1, _⟩ := hs.words
  have t1 := tag_cells h.blk
  have t2 := tag_cells hs.blk
  have t3 := tag_cells k1
  have ne : ∀ {a b x y : Nat}, tagOf w a = x → tagOf w b = y → x ≠ y → a ≠ b := fun ha hb hxy e => by subst e; exact hxy (ha.symm.trans hb)
  have m1 : p ≠ pu2 := ne t1 t2 (by decide)
  have m2 : p ≠ bu2 := ne t1 t3 (by decide)
  have b1 : pk ≠ p := a.1.symm
  have b2 : bk ≠ p := a.2.1.symm
  have b3 : pu2 ≠ p := m1.symm
  have b4 : bu2 ≠ p := m2.symm
  have b5 : mf ≠ p := a.2.2.2.2.1.symm
  have b6 : mc ≠ p := a.2.2.2.2.2.symm
  exact ⟨hb, h.disk.kept hk (notAt h.np), h.keptS.kept hk b1 b2, hs.kept hk b3 b4, h.fresh.kept hk b5, h.clean.kept hk b6, nil_owns _ _ _ _, h.ng, by simp, h.same, n1, n2, h.ne3, h.np, h.npk, h.nbk, f1, f2, h.nmf, h.nmc, fun b hb => by cases hb⟩
theorem PgrAt.undone (h : PgrAt F p q pk bk pu bu mf mc v S D w) {w1 : World} (h1 : Spc (w.heap.size + 1) w.heap.size S.many S.K w1) (h2 : New w w1) (h3 : w1.heap.size = w.heap.size + 2) : ∃ w2, (Builtin.clear_ #[81] 0 #[.map (some mf)]).run Tryd.prog ((w1.setCell ⟨p, 4, none⟩ (.pointer (some ⟨w.heap.size + 1, 0, none⟩))).setCell ⟨p, 7, none⟩ (.slice none 0 0)) = .ok (.tuple #[]) w2 ∧ PgrAt (fun b => F b ∧ ¬ (w.heap.size ≤ b ∧ b < w1.heap.size)) p q pk bk (w.heap.size + 1) w.heap.size mf mc (.slice none 0 0) { S with U := S.K, free := [], fresh := fun _ => none } D w2 ∧ Kept (fun b => b = p ∨ b = mf) w w2 := by
  have l2 := h.keptS.lt
  have hk : Kept (fun b => b = p) w1 ((w1.setCell ⟨p, 4, none⟩ (.pointer (some ⟨w.heap.size + 1, 0, none⟩))).setCell ⟨p, 7, none⟩ (.slice none 0 0)) := (keptc w1 4 _).trans (keptc _ 7 _)
  have b0 := (h.new h2).blk
  have b1 : (w1.setCell ⟨p, 4, none⟩ (.pointer (some ⟨w.heap.size + 1, 0, none⟩))).heap[p]? = some (.cells (pagerV q pk (w.heap.size + 1) mf mc v S) 83 (0, 0)) := (heap_setCell_same b0).trans (by simp)
  have hb : ((w1.setCell ⟨p, 4, none⟩ (.pointer (some ⟨w.heap.size + 1, 0, none⟩))).setCell ⟨p, 7, none⟩ (.slice none 0 0)).heap[p]? = some (.cells (pagerV q pk (w.heap.size + 1) mf mc (.slice none 0 0) { S with U := S.K, free := [] }) 83 (0, 0)) := by
    exact (heap_setCell_same b1).trans (by simp)
  have P1 := (h.less h2).turn hk hb h1 (by omega) (by omega) (fun e => e.2 ⟨by omega, by omega⟩) (fun e => e.2 ⟨by omega, by omega⟩)
  obtain ⟨c, m1, m2⟩ := P1.fresh
  obtain ⟨w2, r1, r2, r3, r4⟩ := m1.clear 0
  exact ⟨w2, r1, P1.setFresh ⟨0, by simpa using r2, fun n hn => by cases hn⟩ r3, ((h2.mono fun _ _ e => e.elim).trans (hk.mono fun _ _ e => .inl e)).trans (r3.mono fun _ _ e => .inr e)⟩
set_option maxHeartbeats 1600000 in
set_option maxRecDepth 100000 in
theorem undo_calls (h : PgrAt F p q pk bk pu bu mf mc v S D w) : Calls Tryd.prog 22 #[ptr p] w fun e w' => e = .returned (.tuple #[]) ∧ (∃ F', PgrAt F' p q pk bk (w.heap.size + 1) w.heap.size mf mc (.slice none 0 0) { S with U := S.K, free := [], fresh := fun _ => none } D w' ∧ ∀ b, F' b → F b) ∧ Kept (fun b => b = p ∨ b = mf) w w' := by
  have c3 : w.cell? ⟨p, 3, none⟩ = some (ptr pk) := (h.cells 3).1
  have HC := hid (copy_calls h.keptS)
  have H := hid h
  clear h
  go_enter Tryd.func22, Tryd.ntmps22
  go_wp2_with (first
    | (go_at_call 34; (with_reducible refine HC.out.mono ?_); rintro e w1 ⟨rfl, x1, x2, x3⟩; have X1 := hid x1; have X2 := hid x2; have X3 := hid x3; clear x1 x2 x3; have B1 := hid (X2.out.at H.out.blk id); have d4 : w1.cell? ⟨p, 4, none⟩ = some (ptr pu) := cell_at B1.out 4; have e4 : w1.frozen? ⟨p, 4, none⟩ = false := frozen_at B1.out 4; have d7 : w1.cell? ⟨p, 7, none⟩ = some v := cell_at B1.out 7; have e7 : w1.frozen? ⟨p, 7, none⟩ = false := frozen_at B1.out 7; have d5 : w1.cell? ⟨p, 5, none⟩ = some (.map (some mf)) := cell_at B1.out 5; obtain ⟨w2, hrun, hz1, hz2⟩ := H.out.undone X1.out X2.out X3.out; have Z1 := hid hz1; have Z2 := hid hz2; clear hz1 hz2))
  go_end0
  exact ⟨rfl, ⟨_, Z1.out, fun _ e => e.1⟩, Z2.out⟩
end Go.Proofs.YtolifmpjbmekdaaDoor
