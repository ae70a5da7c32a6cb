/-
The pager's Mark and page; conditions: the pager lies in memory as told, the page lies on the disk.
-/
import Derived.Test.YtolifmpjbmekdaaDoorPager
namespace Go.Proofs.YtolifmpjbmekdaaDoor
open Go.RowKit
open Go.Lib (hid)
variable {F : Nat → Prop} {p q pk bk pu bu mf mc : Nat} {v : Value} {S : PS} {D : DS} {w : World}
/-- What lies in a block: the type of its cells. -/
def tagOf (w : World) (b : Nat) : Nat := match w.heap[b]? with
  | some (.cells _ t _) => t + 1
  | _ => 0
theorem tag_cells {b t : Nat} {cs : Array Value} {x : Nat × Nat} (h : w.heap[b]? = some (.cells cs t x)) : tagOf w b = t + 1 := by simp [tagOf, h]
theorem tag_map {b c : Nat} {es : Array MapEntry} (h : w.heap[b]? = some (.map es c)) : tagOf w b = 0 := by simp [tagOf, h]
theorem tag_row {n t size : Nat} {u : Value} {xs : List Value} (h : w.ownsRow 0 t size u n xs) {b : Nat} (hb : u.ownBlock = some b) : tagOf w b = t + 1 := by
  rcases h.2 with ⟨rfl, _⟩ | ⟨g, cap, cur, rfl, _, hg, _⟩
  · cases hb
  · have : g = b := by simpa [Value.ownBlock] using hb
    exact this ▸ tag_cells hg
theorem PgrAt.apart (h : PgrAt F p q pk bk pu bu mf mc v S D w) : (p ≠ pk ∧ p ≠ bk ∧ p ≠ pu ∧ p ≠ bu ∧ p ≠ mf ∧ p ≠ mc) ∧ (bk ≠ pk ∧ bk ≠ pu ∧ bk ≠ bu ∧ bk ≠ mf ∧ bk ≠ mc) ∧ (bu ≠ pk ∧ bu ≠ pu ∧ bu ≠ mf ∧ bu ≠ mc) ∧ (mf ≠ pk ∧ mf ≠ pu ∧ mf ≠ mc ∧ mc ≠ pk ∧ mc ≠ pu) ∧
    ∀ b, v.ownBlock = some b → b ≠ p ∧ b ≠ pk ∧ b ≠ bk ∧ b ≠ pu ∧ b ≠ bu ∧ b ≠ mf ∧ b ≠ mc := by
  have t1 := tag_cells h.blk
  have t2 := tag_cells h.keptS.blk
  have t3 := tag_cells h.usedS.blk
  obtain ⟨c1, k1, _⟩ := h.keptS.words
  obtain ⟨c2, k2, _⟩ := h.usedS.words
  obtain ⟨e1, l1, m1⟩ := h.fresh.blk
  obtain ⟨e2, l2, m2⟩ := h.clean.blk
  have t4 := tag_cells k1
  have t5 := tag_cells k2
  have t6 := tag_map m1
  have t7 := tag_map m2
  have n1 := h.ne1
  have n3 := h.ne3
  have ne : ∀ {a b x y : Nat}, tagOf w a = x → tagOf w b = y → x ≠ y → a ≠ b := fun ha hb hxy e => by subst e; exact hxy (ha.symm.trans hb)
  refine ⟨⟨ne t1 t2 (by decide), ne t1 t4 (by decide), ne t1 t3 (by decide), ne t1 t5 (by decide), ne t1 t6 (by decide), ne t1 t7 (by decide)⟩, ⟨ne t4 t2 (by decide), ne t4 t3 (by decide), n1, ne t4 t6 (by decide), ne t4 t7 (by decide)⟩, ⟨ne t5 t2 (by decide), ne t5 t3 (by decide), ne t5 t6 (by decide), ne t5 t7 (by decide)⟩, ⟨ne t6 t2 (by decide), ne t6 t3 (by decide), n3, ne t7 t2 (by decide), ne t7 t3 (by decide)⟩, fun b hb => ?_⟩
  have t8 := tag_row h.free hb
  exact ⟨ne t8 t1 (by decide), ne t8 t2 (by decide), ne t8 t4 (by decide), ne t8 t3 (by decide), ne t8 t5 (by decide), ne t8 t6 (by decide), ne t8 t7 (by decide)⟩
theorem notAt {b n : Nat} (hb : ¬ F b) : ∀ x, x < n → F x → ¬ x = b := fun _ _ hx e => hb (e ▸ hx)
theorem PgrAt.setK (h : PgrAt F p q pk bk pu bu mf mc v S D w) {w' : World} {K' : Nat → Bool} (hs : Spc pk bk S.many K' w') (hk : Kept (fun b => b = bk) w w') : PgrAt F p q pk bk pu bu mf mc v { S with K := K' } D w' := by
  obtain ⟨a, b, c, d, e⟩ := h.apart
  exact { h with blk := hk.at h.blk (by omega), disk := h.disk.kept hk (notAt h.nbk), keptS := hs, usedS := h.usedS.kept hk (by omega) (by omega), fresh := h.fresh.kept hk (by omega), clean := h.clean.kept hk (by omega), free := owns_kept hk h.free fun x hx => (e x hx).2.2.1 }
theorem PgrAt.setU (h : PgrAt F p q pk bk pu bu mf mc v S D w) {w' : World} {U' : Nat → Bool} (hs : Spc pu bu S.many U' w') (hk : Kept (fun b => b = bu) w w') : PgrAt F p q pk bk pu bu mf mc v { S with U := U' } D w' := by
  obtain ⟨a, b, c, d, e⟩ := h.apart
  exact { h with blk := hk.at h.blk (by omega), disk := h.disk.kept hk (notAt h.nbu), keptS := h.keptS.kept hk (by omega) (by omega), usedS := hs, fresh := h.fresh.kept hk (by omega), clean := h.clean.kept hk (by omega), free := owns_kept hk h.free fun x hx => (e x hx).2.2.2.2.1 }
theorem PgrAt.setFresh (h : PgrAt F p q pk bk pu bu mf mc v S D w) {w' : World} {g : Nat → Option Pg} (hs : Pages w' mf S.many g) (hk : Kept (fun b => b = mf) w w') : PgrAt F p q pk bk pu bu mf mc v { S with fresh := g } D w' := by
  obtain ⟨a, b, c, d, e⟩ := h.apart
  exact { h with blk := hk.at h.blk (by omega), disk := h.disk.kept hk (notAt h.nmf), keptS := h.keptS.kept hk (by omega) (by omega), usedS := h.usedS.kept hk (by omega) (by omega), fresh := hs, clean := h.clean.kept hk (by omega), free := owns_kept hk h.free fun x hx => (e x hx).2.2.2.2.2.1 }
theorem PgrAt.setClean (h : PgrAt F p q pk bk pu bu mf mc v S D w) {w' : World} {g : Nat → Option Pg} (hs : Pages w' mc S.many g) (hk : Kept (fun b => b = mc) w w') : PgrAt F p q pk bk pu bu mf mc v { S with clean := g } D w' := by
  obtain ⟨a, b, c, d, e⟩ := h.apart
  exact { h with blk := hk.at h.blk (by omega), disk := h.disk.kept hk (notAt h.nmc), keptS := h.keptS.kept hk (by omega) (by omega), usedS := h.usedS.kept hk (by omega) (by omega), fresh := h.fresh.kept hk (by omega), clean := hs, free := owns_kept hk h.free fun x hx => (e x hx).2.2.2.2.2.2 }
theorem mark_kept (h : PgrAt F p q pk bk pu bu mf mc v S D w) {n : Nat} (hn : n < S.many) (hk : S.K n = true) : Calls Tryd.prog 17 #[ptr p, .int .i64 n] w fun e w' => e = .returned (.bool false) ∧ w = w' := by
  have c3 : w.cell? ⟨p, 3, none⟩ = some (ptr pk) := (h.cells 3).1
  have HU := hid (use_used h.keptS hn hk)
  clear h
  go_enter Tryd.func17, Tryd.ntmps17
  go_wp2_with (first | (go_at_call 33; (with_reducible refine HU.out.mono ?_); rintro e w1 ⟨rfl, rfl⟩))
  go_ret
  exact ⟨rfl, rfl⟩
theorem mark_new (h : PgrAt F p q pk bk pu bu mf mc v S D w) {n : Nat} (hn : n < S.many) (hk : S.K n = false) (hu : S.U n = false) : Calls Tryd.prog 17 #[ptr p, .int .i64 n] w fun e w' => e = .returned (.bool true) ∧ PgrAt F p q pk bk pu bu mf mc v { S with K := setU S.K n true, U := setU S.U n true } D w' ∧ Kept (fun b => b = bk ∨ b = bu) w w' := by
  have c3 : w.cell? ⟨p, 3, none⟩ = some (ptr pk) := (h.cells 3).1
  have HU := hid (use_yes h.keptS hn hk)
  have HV := hid (fun (W : World) (hW : Spc pu bu S.many S.U W) => use_yes hW hn hu)
  have H := hid h
  clear h
  go_enter Tryd.func17, Tryd.ntmps17
  go_wp2_with (first
    | (go_at_call 33; (with_reducible refine HU.out.mono ?_); rintro e w1 ⟨rfl, x1, x2⟩; have X1 := hid (H.out.setK x1 x2); have X2 := hid x2; have c4 : w1.cell? ⟨p, 4, none⟩ = some (ptr pu) := (X1.out.cells 4).1; clear x1 x2)
    | (go_at_call 33; (with_reducible refine (HV.out _ X1.out.usedS).mono ?_); rintro e w2 ⟨rfl, x1, x2⟩; have Y1 := hid (X1.out.setU x1 x2); have Y2 := hid x2; clear x1 x2))
  go_ret
  exact ⟨rfl, Y1.out, (X2.out.mono fun _ _ e => .inl e).trans (Y2.out.mono fun _ _ e => .inr e)⟩
end Go.Proofs.YtolifmpjbmekdaaDoor
