/-
The pager in memory; State, Left, Mark; conditions: the pager lies in memory as told.
-/
import Derived.Test.YtolifmpjbmekdaaDoorPgm
import Derived.Test.YtolifmpjbmekdaaDoorSpaceF
import Derived.Test.YtolifmpjbmekdaaDoorFmt
namespace Go.Proofs.YtolifmpjbmekdaaDoor
open Go.RowKit
open Go.Lib (hid)
/-- What a pager has: what is committed (its generation, its root), which pages are kept and used, the pages that are new, those that were read, those that are let go. -/
structure PS where
  gen : Nat
  root : Int
  many : Nat
  K : Nat → Bool
  U : Nat → Bool
  fresh : Nat → Option Pg
  clean : Nat → Option Pg
  free : List Nat
abbrev ptr (b : Nat) : Value := .pointer (some ⟨b, 0, none⟩)
abbrev pagerV (q pk pu mf mc : Nat) (v : Value) (S : PS) : Array Value := #[ptr q, .int .u64 S.gen, .int .i64 S.root, ptr pk, ptr pu, .map (some mf), .map (some mc), v]
abbrev ints (l : List Nat) : List Value := l.map fun (n : Nat) => .int .i64 (n : Int)
structure PgrAt (F : Nat → Prop) (p q pk bk pu bu mf mc : Nat) (v : Value) (S : PS) (D : DS) (w : World) : Prop where
  blk : w.heap[p]? = some (.cells (pagerV q pk pu mf mc v S) 83 (0, 0))
  disk : Disk q D F w
  keptS : Spc pk bk S.many S.K w
  usedS : Spc pu bu S.many S.U w
  fresh : Pages w mf S.many S.fresh
  clean : Pages w mc S.many S.clean
  free : w.ownsRow 0 3 1 v S.free.length (ints S.free)
  ng : S.gen < 1000000
  nf : S.free.length ≤ 1000000
  same : D.n = S.many
  ne1 : bk ≠ bu
  ne2 : pk ≠ pu
  ne3 : mf ≠ mc
  np : ¬ F p
  npk : ¬ F pk
  nbk : ¬ F bk
  npu : ¬ F pu
  nbu : ¬ F bu
  nmf : ¬ F mf
  nmc : ¬ F mc
  nv : ∀ b, v.ownBlock = some b → ¬ F b
variable {F : Nat → Prop} {p q pk bk pu bu mf mc : Nat} {v : Value} {S : PS} {D : DS} {w : World}
theorem Pages.kept {H : Nat → Prop} {w' : World} {b m : Nat} {g : Nat → Option Pg} (h : Pages w b m g) (hk : Kept H w w') (hb : ¬ H b) : Pages w' b m g := by
  obtain ⟨c, h1, h2⟩ := h
  exact ⟨c, h1.kept hk hb, h2⟩
theorem Pages.blk {b m : Nat} {g : Nat → Option Pg} (h : Pages w b m g) : ∃ es c, w.heap[b]? = some (.map es c) := by
  obtain ⟨c, ⟨D, ⟨es, clock, hb, _⟩, _⟩, _⟩ := h
  exact ⟨es, clock, hb⟩
theorem Pages.lt {b m : Nat} {g : Nat → Option Pg} (h : Pages w b m g) : b < w.heap.size := by
  obtain ⟨_, _, h⟩ := h.blk
  exact blk_lt h
theorem PgrAt.kept {H : Nat → Prop} {w' : World} (h : PgrAt F p q pk bk pu bu mf mc v S D w) (hk : Kept H w w') (h0 : ∀ b, b < w.heap.size → F b → ¬ H b) (h1 : ¬ H p) (h2 : ¬ H pk) (h3 : ¬ H bk) (h4 : ¬ H pu) (h5 : ¬ H bu) (h6 : ¬ H mf) (h7 : ¬ H mc) (h8 : ∀ b, v.ownBlock = some b → ¬ H b) : PgrAt F p q pk bk pu bu mf mc v S D w' :=
  { h with blk := hk.at h.blk h1, disk := h.disk.kept hk h0, keptS := h.keptS.kept hk h2 h3, usedS := h.usedS.kept hk h4 h5, fresh := h.fresh.kept hk h6, clean := h.clean.kept hk h7, free := owns_kept hk h.free h8 }
theorem PgrAt.new {w' : World} (h : PgrAt F p q pk bk pu bu mf mc v S D w) (hk : New w w') : PgrAt F p q pk bk pu bu mf mc v S D w' :=
  h.kept hk (fun _ _ _ => id) id id id id id id id fun _ _ => id
/-- The disk has done something. -/
theorem PgrAt.acted {D' : DS} {w' : World} (h : PgrAt F p q pk bk pu bu mf mc v S D w) (hd : Disk q D' F w') (hn : D'.n = D.n) (hk : Kept F w w') : PgrAt F p q pk bk pu bu mf mc v S D' w' :=
  { h with blk := hk.at h.blk h.np, disk := hd, keptS := h.keptS.kept hk h.npk h.nbk, usedS := h.usedS.kept hk h.npu h.nbu, fresh := h.fresh.kept hk h.nmf, clean := h.clean.kept hk h.nmc, free := owns_kept hk h.free h.nv, same := hn.trans h.same }
/-- A pager whose blocks, the disk's, and all new ones are of G. -/
def Pgr (G : Nat → Prop) (p q : Nat) (S : PS) (D : DS) (w : World) : Prop :=
  ∃ F pk bk pu bu mf mc v, PgrAt F p q pk bk pu bu mf mc v S D w ∧ (∀ b, F b → G b) ∧ G p ∧ G pk ∧ G bk ∧ G pu ∧ G bu ∧ G mf ∧ G mc ∧ (∀ b, v.ownBlock = some b → G b)
theorem Disk.up (h : Disk q D F w) : ∀ b, w.heap.size ≤ b → F b := by
  obtain ⟨S, bd, bt, vw, vc, h1, h2, h3, h4, h5, h6, h7⟩ := h
  exact h7
theorem Disk.mine (h : Disk q D F w) : F q := by
  obtain ⟨S, bd, bt, vw, vc, h1, h2, h3, h4, h5, h6, h7⟩ := h
  exact h3
theorem Pgr.up {G : Nat → Prop} (h : Pgr G p q S D w) : ∀ b, w.heap.size ≤ b → G b := by
  obtain ⟨F, pk, bk, pu, bu, mf, mc, v, h, hF, _⟩ := h
  exact fun b hb => hF b (h.disk.up b hb)
theorem Pgr.new {G : Nat → Prop} {w' : World} (h : Pgr G p q S D w) (hk : New w w') : Pgr G p q S D w' := by
  obtain ⟨F, pk, bk, pu, bu, mf, mc, v, h, r⟩ := h
  exact ⟨F, pk, bk, pu, bu, mf, mc, v, h.new hk, r⟩
/-- The block's cells. -/
theorem PgrAt.cells (h : PgrAt F p q pk bk pu bu mf mc v S D w) (i : Nat) : w.cell? ⟨p, i, none⟩ = (pagerV q pk pu mf mc v S)[i]? ∧ w.frozen? ⟨p, i, none⟩ = false := ⟨cell_at h.blk i, frozen_at h.blk i⟩
theorem state_none (w : World) : Calls Tryd.prog 12 #[.pointer none] w fun e w' => e = .returned (supV 0 0) ∧ New w w' := by
  go_enter Tryd.func12, Tryd.ntmps12
  go_wp2
  exact bodyPost_ret (v := supV 0 0) (by simp [results, Tryd.results12, go_sem]) rfl ⟨rfl, (Kept.refl _ _).alloc _⟩
theorem state_calls (h : PgrAt F p q pk bk pu bu mf mc v S D w) : Calls Tryd.prog 12 #[ptr p] w fun e w' => e = .returned (supV S.gen S.root) ∧ New w w' := by
  have hn : ∀ o, New w (w.alloc o) := fun o => (Kept.refl _ _).alloc o
  have c1 : ∀ o, (w.alloc o).cell? ⟨p, 1, none⟩ = some (.int .u64 S.gen) := fun o => ((h.new (hn o)).cells 1).1
  have c2 : ∀ o, (w.alloc o).cell? ⟨p, 2, none⟩ = some (.int .i64 S.root) := fun o => ((h.new (hn o)).cells 2).1
  have hlt := blk_lt h.blk
  have hne : p ≠ w.heap.size := by omega
  clear h hn
  go_enter Tryd.func12, Tryd.ntmps12
  go_wp2
  exact bodyPost_ret (v := supV S.gen S.root) (by simp [results, Tryd.results12, go_sem]) rfl ⟨rfl, (Kept.refl _ _).alloc _⟩
theorem left_none (w : World) : Calls Tryd.prog 24 #[.pointer none] w fun e w' => e = .returned (.int .i64 0) ∧ w = w' := by
  go_enter Tryd.func24, Tryd.ntmps24
  go_wp2
  go_ret
  exact ⟨rfl, rfl⟩
theorem pleft_calls (h : PgrAt F p q pk bk pu bu mf mc v S D w) : Calls Tryd.prog 24 #[ptr p] w fun e w' => e = .returned (.int .i64 ((S.many - countU S.U S.many : Nat) : Int)) ∧ w = w' := by
  have c4 : w.cell? ⟨p, 4, none⟩ = some (ptr pu) := (h.cells 4).1
  have HL := hid (left_calls h.usedS)
  clear h
  go_enter Tryd.func24, Tryd.ntmps24
  go_wp2_with (first | (go_at_call 45; (with_reducible refine HL.out.mono ?_); rintro e w1 ⟨rfl, rfl⟩))
  go_ret
  exact ⟨rfl, rfl⟩
theorem mark_none (n : Int) (w : World) : Calls Tryd.prog 17 #[.pointer none, .int .i64 n] w fun e w' => e = .returned (.bool false) ∧ w = w' := by
  go_enter Tryd.func17, Tryd.ntmps17
  go_wp2
  go_ret
  exact ⟨rfl, rfl⟩
end Go.Proofs.YtolifmpjbmekdaaDoor
