/-
The pager's Read; conditions: the pager lies in memory as told, what page gives is told.
-/
import Derived.Test.YtolifmpjbmekdaaDoorPgRead
import Derived.Test.YtolifmpjbmekdaaDoorIdx
namespace Go.Proofs.YtolifmpjbmekdaaDoor
open Go.RowKit
open Go.Lib (hid)
variable {F : Nat → Prop} {p q pk bk pu bu mf mc : Nat} {v : Value} {S : PS} {D : DS} {w : World}
/-- What page gives, and what becomes of the pager and of the disk. -/
inductive Gives (S : PS) (D : DS) (n : Nat) (x : Pg) : PS → DS → Prop
  | fresh : S.fresh n = some x → Gives S D n x S D
  | clean : S.fresh n = none → S.clean n = some x → D.dead = false → Gives S D n x S D
  | read {s : ByteArray} {D' : DS} : S.fresh n = none → S.clean n = none → D.read n = (D', s, 0) → PSays s x → Gives S D n x { S with clean := updF S.clean n (some x) } D'
theorem page_calls (h : PgrAt F p q pk bk pu bu mf mc v S D w) {n : Nat} (hn : n < S.many) {x : Pg} {S' : PS} {D' : DS} (hg : Gives S D n x S' D') : Calls Tryd.prog 44 #[ptr p, .int .i64 n] w fun e w' => e = .returned (.tuple #[pgV x, .int .i64 0]) ∧ PgrAt F p q pk bk pu bu mf mc v S' D' w' ∧ Kept (fun b => F b ∨ b = mc) w w' := by
  cases hg with
  | fresh h1 => exact (page_fresh h hn h1).mono fun e w' he => ⟨he.1, h.new he.2, he.2.mono fun _ _ e => e.elim⟩
  | clean h1 h2 h3 => exact (page_clean h hn h1 h2 h3).mono fun e w' he => ⟨he.1, h.new he.2, he.2.mono fun _ _ e => e.elim⟩
  | read h1 h2 h3 h4 => exact page_read h hn h1 h2 h3 h4
theorem pread_none (n : Int) (v : Value) (w : World) : Calls Tryd.prog 18 #[.pointer none, .int .i64 n, v] w fun e w' => e = .returned (.tuple #[pgV pg0, .int .i64 1]) ∧ New w w' := by
  go_enter Tryd.func18, Tryd.ntmps18
  go_wp2
  exact bodyPost_ret (v := .tuple #[pageV 0 0 0 ⟨#[]⟩, .int .i64 1]) (by simp [results, Tryd.results18, go_sem]) rfl ⟨rfl, (Kept.refl _ _).alloc _⟩
theorem four_put {w1 : World} {b : Nat} {x0 x1 x2 x3 : Value} {t : TypeId} (h : w1.heap[b]? = some (.cells #[x0, x1, x2, x3] t (0, 0))) (u0 u1 u2 u3 : Value) (o : Obj) : (((((w1.setCell ⟨b, 0, none⟩ u0).setCell ⟨b, 1, none⟩ u1).setCell ⟨b, 2, none⟩ u2).setCell ⟨b, 3, none⟩ u3).alloc o).heap[b]? = some (.cells #[u0, u1, u2, u3] t (0, 0)) := by
  have h0 : (w1.setCell ⟨b, 0, none⟩ u0).heap[b]? = some (.cells #[u0, x1, x2, x3] t (0, 0)) := (heap_setCell_same h).trans (by simp)
  have h1 : ((w1.setCell ⟨b, 0, none⟩ u0).setCell ⟨b, 1, none⟩ u1).heap[b]? = some (.cells #[u0, u1, x2, x3] t (0, 0)) := (heap_setCell_same h0).trans (by simp)
  have h2 : (((w1.setCell ⟨b, 0, none⟩ u0).setCell ⟨b, 1, none⟩ u1).setCell ⟨b, 2, none⟩ u2).heap[b]? = some (.cells #[u0, u1, u2, x3] t (0, 0)) := (heap_setCell_same h1).trans (by simp)
  have h3 : ((((w1.setCell ⟨b, 0, none⟩ u0).setCell ⟨b, 1, none⟩ u1).setCell ⟨b, 2, none⟩ u2).setCell ⟨b, 3, none⟩ u3).heap[b]? = some (.cells #[u0, u1, u2, u3] t (0, 0)) := (heap_setCell_same h2).trans (by simp)
  exact blk_alloc h3 o
set_option maxHeartbeats 1600000 in
set_option maxRecDepth 100000 in
theorem pread_calls (h : PgrAt F p q pk bk pu bu mf mc v S D w) {n : Nat} (hn : n < S.many) {x : Pg} {S' : PS} {D' : DS} (hg : Gives S D n x S' D') (hx : x.num = n) {H : Nat → Prop} {u : Value} {k : Int} (hu : IntsAt H u [k] w) (hH : ∀ b, b < w.heap.size → H b → ¬ F b ∧ b ≠ mc) :
    Calls Tryd.prog 18 #[ptr p, .int .i64 n, u] w fun e w' => e = .returned (if x.kind = k then .tuple #[pgV x, .int .i64 0] else .tuple #[pgV pg0, .int .i64 82]) ∧ PgrAt F p q pk bk pu bu mf mc v S' D' w' ∧ Kept (fun b => F b ∨ b = mc) w w' := by
  have hnew : New w (w.alloc zpg) := (Kept.refl _ _).alloc zpg
  have hl5 := h.clean.lt
  have hcl : ∀ b, b < (w.alloc zpg).heap.size → H b → ¬ ((F b ∧ ¬ (w.heap.size ≤ b ∧ b < (w.alloc zpg).heap.size)) ∨ b = mc) := fun b hb hb2 e => by
    have hb' : b < w.heap.size + 1 := by simpa using hb
    have hz : ∀ {b}, b < w.heap.size → H b → ¬ F b ∧ b ≠ mc := fun {b} => hH b
    by_cases hlt : b < w.heap.size
    · rcases e with e | e
      · exact (hz hlt hb2).1 e.1
      · exact (hz hlt hb2).2 e
    · have e1 : b = w.heap.size := by omega
      subst e1
      rcases e with e | e
      · exact e.2 ⟨Nat.le_refl _, by simp⟩
      · omega
  have hP : Calls Tryd.prog 44 #[ptr p, .int .i64 n] (w.alloc zpg) fun e w1 => e = .returned (.tuple #[pgV x, .int .i64 0]) ∧ Hid (PgrAt (fun b => F b ∧ ¬ (w.heap.size ≤ b ∧ b < (w.alloc zpg).heap.size)) p q pk bk pu bu mf mc v S' D' w1 ∧ w1.heap[w.heap.size]? = some zpg ∧ IntsAt H u [k] w1 ∧ Kept (fun b => F b ∨ b = mc) w w1) :=
    (page_calls (h.less hnew) hn hg).mono fun e w1 he => ⟨he.1, hid ⟨he.2.1, he.2.2.at (blk_new w zpg) (fun e => by
      rcases e with e | e
      · exact e.2 ⟨Nat.le_refl _, by simp⟩
      · omega), (hu.kept hnew fun _ _ _ e => e).kept he.2.2 hcl, (hnew.mono fun _ _ e => e.elim).trans (he.2.2.mono fun _ _ e => e.imp And.left id)⟩⟩
  have HP := hid hP
  have HC := fun (W : World) (o : Obj) (hW : IntsAt H u [k] W) => contains_calls (hW.kept (F := fun _ => False) ((Kept.refl _ W).alloc o) fun _ _ _ e => e) x.kind
  have H0 := hid h
  have l1 := blk_lt h.blk
  have l2 := h.keptS.lt
  have l3 := h.usedS.lt
  have l4 := h.fresh.lt
  clear hP hu hH hnew h hg
  have key : ∀ (w1 : World) (o : Obj) (u0 u1 u2 u3 : Value), PgrAt (fun b => F b ∧ ¬ (w.heap.size ≤ b ∧ b < (w.alloc zpg).heap.size)) p q pk bk pu bu mf mc v S' D' w1 → Kept (fun b => F b ∨ b = mc) w w1 → ∀ W, W = (((((w1.setCell ⟨w.heap.size, 0, none⟩ u0).setCell ⟨w.heap.size, 1, none⟩ u1).setCell ⟨w.heap.size, 2, none⟩ u2).setCell ⟨w.heap.size, 3, none⟩ u3).alloc o) → PgrAt F p q pk bk pu bu mf mc v S' D' W ∧ Kept (fun b => F b ∨ b = mc) w W := fun w1 o u0 u1 u2 u3 hp hk W hW => by
    subst hW
    have hsz := hk.size
    have k4 := kept_four w1 w.heap.size u0 u1 u2 u3
    generalize ((((w1.setCell ⟨w.heap.size, 0, none⟩ u0).setCell ⟨w.heap.size, 1, none⟩ u1).setCell ⟨w.heap.size, 2, none⟩ u2).setCell ⟨w.heap.size, 3, none⟩ u3) = w2 at *
    have n1 : New w2 (w2.alloc o) := (Kept.refl _ _).alloc o
    refine ⟨((hp.kept k4 (fun b _ e hb => e.2 ⟨by omega, by rw [hb]; simp⟩) (by omega) (by omega) (by omega) (by omega) (by omega) (by omega) (by omega) (fun b hb => Nat.ne_of_lt (own_lt H0.out.free hb))).new n1).wider H0.out (fun _ e => e.1), ?_⟩
    exact (hk.trans' k4 fun x hx e => absurd hx (by omega)).trans (n1.mono fun _ _ e => e.elim)
  have HK := hid key
  clear key l1 l2 l3 l4
  have hnum : (x.num != (n : Int)) = false := by rw [hx]; simp
  obtain ⟨k1, k2, k3, k4⟩ := x
  simp only at hx hnum HC
  subst hx
  by_cases hk : k1 = k
  · have hc : ∀ (W : World) (o : Obj), IntsAt H u [k] W → Calls Tryd.prog 43 #[u, .int .i64 k1] (W.alloc o) fun e w' => e = .returned (.bool true) ∧ W.alloc o = w' := fun W o hW => by
      have := HC W o hW
      rw [show decide (k1 ∈ [k]) = true by simp [hk]] at this
      exact this
    clear HC
    have HC := hid hc
    rw [if_pos hk]
    have HK1 := hid hk
    clear hk hc
    go_enter Tryd.func18, Tryd.ntmps18
    go_wp2_with (first
      | (go_at_call 44; (with_reducible refine HP.out.mono ?_); rintro e w1 ⟨rfl, x1⟩; have X1 := hid x1; clear x1; obtain ⟨y0, y1, y2, y3, z0, z1, z2, z3⟩ := four_cells X1.out.2.1; have hne : w.heap.size < w1.heap.size := blk_lt X1.out.2.1)
      | (go_at_call 43; have hh := HC.out _ (.cells #[.int .i64 k1, .int .i64 (n : Int), .int .u64 k3, .string k4] 48) X1.out.2.2.1; (with_reducible refine hh.mono ?_); rintro e w2 ⟨rfl, hw⟩; clear hh; subst hw))
    obtain ⟨r1, r2⟩ := HK.out w1 _ _ _ _ _ X1.out.1 X1.out.2.2.2 _ rfl
    obtain ⟨g0, g1, g2, g3, -⟩ := four_cells (four_put X1.out.2.1 (.int .i64 k1) (.int .i64 (n : Int)) (.int .u64 k3) (.string k4) (.cells #[.int .i64 k1, .int .i64 (n : Int), .int .u64 k3, .string k4] 48))
    exact bodyPost_ret (v := .tuple #[pageV k1 n k3 k4, .int .i64 0]) (by simp [results, Tryd.results18, go_sem, g0, g1, g2, g3]) rfl ⟨rfl, r1, r2⟩
  · have hc : ∀ (W : World) (o : Obj), IntsAt H u [k] W → Calls Tryd.prog 43 #[u, .int .i64 k1] (W.alloc o) fun e w' => e = .returned (.bool false) ∧ W.alloc o = w' := fun W o hW => by
      have := HC W o hW
      rw [show decide (k1 ∈ [k]) = false by simp [hk]] at this
      exact this
    clear HC
    have HC := hid hc
    rw [if_neg hk]
    have HK1 := hid hk
    clear hk hc
    go_enter Tryd.func18, Tryd.ntmps18
    go_wp2_with (first
      | (go_at_call 44; (with_reducible refine HP.out.mono ?_); rintro e w1 ⟨rfl, x1⟩; have X1 := hid x1; clear x1; obtain ⟨y0, y1, y2, y3, z0, z1, z2, z3⟩ := four_cells X1.out.2.1; have hne : w.heap.size < w1.heap.size := blk_lt X1.out.2.1)
      | (go_at_call 43; have hh := HC.out _ (.cells #[.int .i64 k1, .int .i64 (n : Int), .int .u64 k3, .string k4] 48) X1.out.2.2.1; (with_reducible refine hh.mono ?_); rintro e w2 ⟨rfl, hw⟩; clear hh; subst hw))
    obtain ⟨r1, r2⟩ := HK.out w1 _ _ _ _ _ X1.out.1 X1.out.2.2.2 _ rfl
    obtain ⟨g0, g1, g2, g3, -⟩ := four_cells (four_put X1.out.2.1 (.int .i64 0) (.int .i64 0) (.int .u64 0) (.string ⟨#[]⟩) (.cells #[.int .i64 k1, .int .i64 (n : Int), .int .u64 k3, .string k4] 48))
    exact bodyPost_ret (v := .tuple #[pageV 0 0 0 ⟨#[]⟩, .int .i64 82]) (by simp [results, Tryd.results18, go_sem, g0, g1, g2, g3]) rfl ⟨rfl, r1, r2⟩
end Go.Proofs.YtolifmpjbmekdaaDoor
