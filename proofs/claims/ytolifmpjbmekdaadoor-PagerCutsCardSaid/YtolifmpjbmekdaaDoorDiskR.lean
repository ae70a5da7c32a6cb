/-
The disk's functions: Dead, Sectors, Fails, Up, Read; conditions: the disk lies in memory as told.
-/
import Derived.Test.YtolifmpjbmekdaaDoorAct
import Derived.Test.YtolifmpjbmekdaaDoorBytes
namespace Go.Proofs.YtolifmpjbmekdaaDoor
open Go.RowKit Go.Lib
/-- A disk lies in block q; its blocks, and all new ones, are of F. -/
def Disk (q : Nat) (D : DS) (F : Nat → Prop) (w : World) : Prop := ∃ S bd bt vw vc, DiskAt S q bd bt vw vc D w ∧ (∀ b, S b → F b) ∧ F q ∧ F bd ∧ F bt ∧ (∀ b, vw.ownBlock = some b → F b) ∧ ∀ b, w.heap.size ≤ b → F b
variable {q : Nat} {D : DS} {F : Nat → Prop} {w : World}
theorem Disk.new {w' : World} (h : Disk q D F w) (hk : New w w') : Disk q D F w' := by
  obtain ⟨S, bd, bt, vw, vc, h1, h2, h3, h4, h5, h6, h7⟩ := h
  exact ⟨S, bd, bt, vw, vc, h1.new hk, h2, h3, h4, h5, h6, fun b hb => h7 b (Nat.le_trans hk.size hb)⟩
theorem Disk.kept {G : Nat → Prop} {w' : World} (h : Disk q D F w) (hk : Kept G w w') (hG : ∀ b, b < w.heap.size → F b → ¬ G b) : Disk q D F w' := by
  obtain ⟨S, bd, bt, vw, vc, h1, h2, h3, h4, h5, h6, h7⟩ := h
  have hl := h1.lt
  exact ⟨S, bd, bt, vw, vc, h1.kept hk (hG _ hl.1 h3) (hG _ hl.2.1 h4) (hG _ hl.2.2 h5) (fun b hb => hG b (own_lt h1.wait hb) (h6 b hb)) (fun b hb hs => hG b hb (h2 b hs)), h2, h3, h4, h5, h6, fun b hb => h7 b (Nat.le_trans hk.size hb)⟩
/-- New blocks are taken out of F. -/
theorem Disk.less {G : Nat → Prop} {w' : World} (h : Disk q D F w) (hk : New w w') (hG : ∀ b, G b → w.heap.size ≤ b ∧ b < w'.heap.size) : Disk q D (fun b => F b ∧ ¬ G b) w' := by
  obtain ⟨S, bd, bt, vw, vc, h1, h2, h3, h4, h5, h6, h7⟩ := h
  have hl := h1.lt
  have old : ∀ b, b < w.heap.size → ¬ G b := fun b hb hg => by have := (hG b hg).1; omega
  have h1' : DiskAt (fun b => S b ∧ b < w.heap.size) q bd bt vw vc D w := ⟨h1.blk, h1.data, h1.torn, h1.wait, h1.cuts.mono fun b hb hs => ⟨hs, hb⟩, h1.ok, h1.few, h1.ne1, h1.ne2, h1.ne3, h1.nw, fun b hb => h1.ns b hb.1⟩
  exact ⟨_, bd, bt, vw, vc, h1'.new hk, fun b hb => ⟨h2 b hb.1, old b hb.2⟩, ⟨h3, old _ hl.1⟩, ⟨h4, old _ hl.2.1⟩, ⟨h5, old _ hl.2.2⟩, fun b hb => ⟨h6 b hb, old b (own_lt h1.wait hb)⟩, fun b hb => ⟨h7 b (Nat.le_trans hk.size hb), fun hg => by have := (hG b hg).2; omega⟩⟩
theorem Disk.acted {S : Nat → Prop} {bd bt : Nat} {vw : Value} {D' : DS} {w' : World} (h : Acted S q bd bt vw D' w w') (h2 : ∀ b, S b → F b) (h3 : F q) (h4 : F bd) (h5 : F bt) (h6 : ∀ b, vw.ownBlock = some b → F b) (h7 : ∀ b, w.heap.size ≤ b → F b) : Disk q D' F w' ∧ Kept F w w' := by
  obtain ⟨vw', vc', h1, hv, hk⟩ := h
  refine ⟨⟨S, bd, bt, vw', vc', h1, h2, h3, h4, h5, fun b hb => ?_, fun b hb => h7 b (Nat.le_trans hk.size hb)⟩, hk.mono fun b _ e => ?_⟩
  · rcases hv with rfl | rfl
    · exact h6 b hb
    · cases hb
  · rcases e with rfl | rfl | rfl <;> assumption
theorem act_disk (h : Disk q D F w) : Calls Tryd.prog 47 #[.pointer (some ⟨q, 0, none⟩)] w fun e w' => e = .returned (.bool D.act.2) ∧ Disk q D.act.1 F w' ∧ Kept F w w' := by
  obtain ⟨S, bd, bt, vw, vc, h1, h2, h3, h4, h5, h6, h7⟩ := h
  exact (act_calls h1).mono fun e w' ⟨he, ha⟩ => ⟨he, Disk.acted ha h2 h3 h4 h5 h6 h7⟩
theorem Disk.cells (h : Disk q D F w) : ∃ bd bt vw vc, ∀ i, w.cell? ⟨q, i, none⟩ = (#[.slice (some ⟨bd, 0, none⟩) D.n D.n, .slice (some ⟨bt, 0, none⟩) D.n D.n, vw, vc, .int .i64 D.acts, .int .i64 D.all, .int .i64 D.fails, .bool D.dead] : Array Value)[i]? ∧ w.frozen? ⟨q, i, none⟩ = false := by
  obtain ⟨S, bd, bt, vw, vc, h1, -⟩ := h
  exact ⟨bd, bt, vw, vc, fun i => ⟨h1.cell i, frozen_at h1.blk i⟩⟩
theorem dead_calls (h : Disk q D F w) : Calls Tryd.prog 46 #[.pointer (some ⟨q, 0, none⟩)] w fun e w' => e = .returned (.bool D.dead) ∧ w = w' := by
  obtain ⟨bd, bt, vw, vc, hc⟩ := h.cells
  have c7 : w.cell? ⟨q, 7, none⟩ = some (.bool D.dead) := (hc 7).1
  clear hc h
  go_enter Tryd.func46, Tryd.ntmps46
  go_wp2
  go_ret
  exact ⟨rfl, rfl⟩
theorem fails_calls (h : Disk q D F w) : Calls Tryd.prog 19 #[.pointer (some ⟨q, 0, none⟩)] w fun e w' => e = .returned (.int .i64 D.fails) ∧ w = w' := by
  obtain ⟨bd, bt, vw, vc, hc⟩ := h.cells
  have c7 : w.cell? ⟨q, 6, none⟩ = some (.int .i64 D.fails) := (hc 6).1
  clear hc h
  go_enter Tryd.func19, Tryd.ntmps19
  go_wp2
  go_ret
  exact ⟨rfl, rfl⟩
theorem sectors_calls (h : Disk q D F w) : Calls Tryd.prog 25 #[.pointer (some ⟨q, 0, none⟩)] w fun e w' => e = .returned (.int .i64 D.n) ∧ w = w' := by
  obtain ⟨bd, bt, vw, vc, hc⟩ := h.cells
  have c7 : w.cell? ⟨q, 0, none⟩ = some (.slice (some ⟨bd, 0, none⟩) D.n D.n) := (hc 0).1
  clear hc h
  go_enter Tryd.func25, Tryd.ntmps25
  go_wp2
  go_ret
  exact ⟨rfl, rfl⟩
def DS.up (D : DS) : DS := if D.dead then { D with dead := false, acts := 0 } else D
theorem up_calls (h : Disk q D F w) : Calls Tryd.prog 10 #[.pointer (some ⟨q, 0, none⟩)] w fun e w' => e = .returned (.tuple #[]) ∧ Disk q D.up F w' ∧ Kept F w w' := by
  obtain ⟨bd, bt, vw, vc, hc⟩ := h.cells
  have c7 : w.cell? ⟨q, 7, none⟩ = some (.bool D.dead) := (hc 7).1
  have c4 : ∀ u, (w.setCell ⟨q, 7, none⟩ u).cell? ⟨q, 4, none⟩ = some (.int .i64 D.acts) := fun u => by
    obtain ⟨S, bd, bt, vw, vc, h1, -⟩ := h
    exact (cell_at (heap_setCell_same h1.blk) 4).trans (by simp)
  have f7 := (hc 7).2
  have f4 := (hc 4).2
  have H := hid h
  clear hc h
  cases hd : D.dead with
  | false =>
    rw [hd] at c7
    go_enter Tryd.func10, Tryd.ntmps10
    go_wp2
    go_end0
    have e : D.up = D := by unfold DS.up; rw [hd]; rfl
    rw [e]
    exact ⟨rfl, H.out, Kept.refl _ _⟩
  | true =>
    rw [hd] at c7
    go_enter Tryd.func10, Tryd.ntmps10
    go_wp2
    go_end0
    have e : D.up = { D with dead := false, acts := 0 } := by unfold DS.up; rw [hd]; rfl
    rw [e]
    obtain ⟨S, bd, bt, vw, vc, h1, h2, h3, h4, h5, h6, h7⟩ := H.out
    have hk : Kept (fun b => b = q) w ((w.setCell ⟨q, 7, none⟩ (.bool false)).setCell ⟨q, 4, none⟩ (.int .i64 0)) := (keptq w 7 _).trans (keptq _ 4 _)
    refine ⟨rfl, ⟨S, bd, bt, vw, vc, h1.field (D' := { D with dead := false, acts := 0 }) hk ((heap_setCell_same (heap_setCell_same h1.blk)).trans (by simp)) rfl rfl rfl (owns_kept hk h1.wait fun b hb => (h1.nw b hb).1) (fun _ => id) (fun _ => id) (h1.cuts.kept hk fun b _ hb => (h1.ns b hb).1), h2, h3, h4, h5, h6, fun b hb => h7 b (Nat.le_trans hk.size hb)⟩, hk.mono fun b _ e => e ▸ h3⟩
end Go.Proofs.YtolifmpjbmekdaaDoor
