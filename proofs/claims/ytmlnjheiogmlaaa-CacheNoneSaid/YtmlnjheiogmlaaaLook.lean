/-
What a key has, held then; conditions: the cache lies in memory as told.
-/
import Derived.Test.YtmlnjheiogmlaaaHold2
namespace Go.Proofs.Ytmlnjheiogmlaaa
open Go.RowKit Go.Lib Go.Maps
/-- Ahead of the holding: two entries of the call's own. -/
structure Lk (q m g B C : Nat) (F : Nat → Prop) (most now N c : Nat) (f : ByteArray → Option Ent) (l : List (ByteArray × ByteArray)) (x y : Ent) (w W : World) : Prop where
  ca : Cach q m g (fun b => (F b ∧ b ≠ B) ∧ b ≠ C) most now N c f l W
  eb : W.heap[B]? = some (entBlk x)
  ec : W.heap[C]? = some (entBlk y)
  kept : Kept (fun b => F b ∨ b = q ∨ b = m) w W
  nb : B ≠ q ∧ B ≠ m ∧ C ≠ q ∧ C ≠ m ∧ B ≠ C
  up : F B ∧ F C
theorem Lk.step {q m g B C : Nat} {F : Nat → Prop} {most now N c now' N' c' : Nat} {f f' : ByteArray → Option Ent} {l l' : List (ByteArray × ByteArray)} {x y : Ent} {w W w3 : World} (h : Lk q m g B C F most now N c f l x y w W) (hC : Cach q m g (fun b => (F b ∧ b ≠ B) ∧ b ≠ C) most now' N' c' f' l' w3) (hK : Kept (fun b => ((F b ∧ b ≠ B) ∧ b ≠ C) ∨ b = q ∨ b = m) W w3) :
    Lk q m g B C F most now' N' c' f' l' x y w w3 := by
  obtain ⟨n1, n2, n3, n4, n5⟩ := h.nb
  exact ⟨hC, hK.at h.eb fun e => e.elim (fun e => e.1.2 rfl) (fun e => e.elim n1 n2), hK.at h.ec fun e => e.elim (fun e => e.2 rfl) (fun e => e.elim n3 n4), h.kept.trans (hK.mono fun _ _ e => e.imp (fun e => e.1.1) id), h.nb, h.up⟩
theorem Lk.cells {q m g B C : Nat} {F : Nat → Prop} {most now N c : Nat} {f : ByteArray → Option Ent} {l : List (ByteArray × ByteArray)} {x y : Ent} {w W : World} (h : Lk q m g B C F most now N c f l x y w W) :
    (W.cell? ⟨C, 0, none⟩ = some (.string y.text) ∧ W.cell? ⟨C, 1, none⟩ = some (.bool y.is) ∧ W.cell? ⟨C, 2, none⟩ = some (.bool y.dirty) ∧ W.cell? ⟨C, 3, none⟩ = some (.int .u64 y.at_)) ∧
    (W.cell? ⟨B, 0, none⟩ = some (.string x.text) ∧ W.cell? ⟨B, 1, none⟩ = some (.bool x.is) ∧ W.cell? ⟨B, 2, none⟩ = some (.bool x.dirty) ∧ W.cell? ⟨B, 3, none⟩ = some (.int .u64 x.at_)) ∧
    (∀ i, W.frozen? ⟨B, i, none⟩ = false) ∧ (∀ i, W.frozen? ⟨C, i, none⟩ = false) :=
  ⟨⟨(cell_at h.ec 0).trans rfl, (cell_at h.ec 1).trans rfl, (cell_at h.ec 2).trans rfl, (cell_at h.ec 3).trans rfl⟩, ⟨(cell_at h.eb 0).trans rfl, (cell_at h.eb 1).trans rfl, (cell_at h.eb 2).trans rfl, (cell_at h.eb 3).trans rfl⟩, fun i => frozen_at h.eb i, fun i => frozen_at h.ec i⟩
theorem Lk.mk' {q m g : Nat} {F : Nat → Prop} {most now N c : Nat} {f : ByteArray → Option Ent} {l : List (ByteArray × ByteArray)} {w w1 : World} (x y : Ent) (h : Cach q m g F most now N c f l w1) (hz : w1.heap.size = w.heap.size) (hk : Kept (fun b => F b ∨ b = q ∨ b = m) w w1) :
    Lk q m g w.heap.size (w.heap.size + 1) F most now N c f l x y w ((w1.alloc (entBlk x)).alloc (entBlk y)) := by
  have h1 := h.protect (entBlk x)
  have h2 := h1.protect (entBlk y)
  have hz2 : (w1.alloc (entBlk x)).heap.size = w.heap.size + 1 := by simp [hz]
  obtain ⟨r, p, _, _, hb⟩ := h.blk
  have hq := blk_lt hb
  have hm := h.map.lt
  rw [hz2, hz] at h2
  exact ⟨h2, blk_alloc (blk_at _ _ hz) _, blk_at _ _ hz2, (hk.alloc _).alloc _, by omega, h.kv.up _ (by omega), h.kv.up _ (by omega)⟩
theorem cell_set_other {W : World} {p : Addr} {u v : Value} {b i : Nat} (hne : b ≠ p.block) (h : W.cell? ⟨b, i, none⟩ = some v) : (W.setCell p u).cell? ⟨b, i, none⟩ = some v :=
  (World.cell?_of_block (w := W) (Below.heap_setCell _ _ _ _ hne)).trans h
abbrev Four (C : Nat) (y : Ent) (W : World) : Prop := W.cell? ⟨C, 0, none⟩ = some (.string y.text) ∧ W.cell? ⟨C, 1, none⟩ = some (.bool y.is) ∧ W.cell? ⟨C, 2, none⟩ = some (.bool y.dirty) ∧ W.cell? ⟨C, 3, none⟩ = some (.int .u64 y.at_)
theorem Four.keep {C : Nat} {y : Ent} {W : World} {p : Addr} {u : Value} (hne : C ≠ p.block) (h : Four C y W) : Four C y (W.setCell p u) := ⟨cell_set_other hne h.1, cell_set_other hne h.2.1, cell_set_other hne h.2.2.1, cell_set_other hne h.2.2.2⟩
abbrev laid (B : Nat) (y : Ent) (W : World) : World := (((W.setCell ⟨B, 0, none⟩ (.string y.text)).setCell ⟨B, 1, none⟩ (.bool y.is)).setCell ⟨B, 2, none⟩ (.bool y.dirty)).setCell ⟨B, 3, none⟩ (.int .u64 y.at_)
theorem Lk.done {q m g B C : Nat} {F : Nat → Prop} {most now N c : Nat} {f : ByteArray → Option Ent} {l : List (ByteArray × ByteArray)} {x y : Ent} {w W : World} (h : Lk q m g B C F most now N c f l x y w W) (hq : ¬ F q) (hm : ¬ F m) :
    Cach q m g F most now N c f l (laid B y W) ∧ Kept (fun b => F b ∨ b = q ∨ b = m) w (laid B y W) ∧ (laid B y W).heap[B]? = some (entBlk y) := by
  have hk : Kept (fun b => b = B) W (laid B y W) := (((kept_set W ⟨B, 0, none⟩ _).trans (kept_set _ ⟨B, 1, none⟩ _)).trans (kept_set _ ⟨B, 2, none⟩ _)).trans (kept_set _ ⟨B, 3, none⟩ _)
  obtain ⟨r, p, hr, hp, hb⟩ := h.ca.blk
  refine ⟨⟨⟨r, p, hr, hp, hk.at hb fun e => h.nb.1 e.symm⟩, h.ca.map.kept hk fun e => h.nb.2.1 e.symm, (h.ca.kv.keep hk fun b e hF => hF.1.2 e).wider fun _ e => e.1.1, hq, hm, h.ca.ne, h.ca.room, h.ca.small, h.ca.len, h.ca.nowN, h.ca.fits⟩, h.kept.trans' hk fun b _ e => .inl (e ▸ h.up.1), ?_⟩
  exact (heap_setCell_same (heap_setCell_same (heap_setCell_same (heap_setCell_same h.eb)))).trans (by simp)
/-- One read more. -/
theorem Cach.read {q m g : Nat} {F : Nat → Prop} {most now N c : Nat} {f : ByteArray → Option Ent} {l : List (ByteArray × ByteArray)} {w : World} (h : Cach q m g F most now N c f l w) :
    ∃ r : Nat, r ≤ N ∧ w.cell? ⟨q, 4, none⟩ = some (.int .i64 r) ∧ Cach q m g F most now (N + 1) c f l (w.setCell ⟨q, 4, none⟩ (.int .i64 ((r : Int) + 1))) := by
  obtain ⟨r, p, hr, hp, hb⟩ := h.blk
  have hk := kept_set w ⟨q, 4, none⟩ (.int .i64 ((r : Int) + 1))
  have hl := h.len
  have hn := h.nowN
  refine ⟨r, hr, (cell_at hb 4).trans rfl, ⟨⟨r + 1, p, by omega, by omega, (heap_setCell_same hb).trans (by simp)⟩, h.map.kept hk (fun e => h.ne e.symm), h.kv.keep hk (fun b e hF => h.nq (by have e' : b = q := e; exact e' ▸ hF)), h.nq, h.nm, h.ne, h.room, h.small, by omega, by omega, h.fits⟩⟩
set_option maxHeartbeats 1600000 in
set_option maxRecDepth 100000 in
theorem cache_look1 {q m g : Nat} {F : Nat → Prop} {most now N c : Nat} {f : ByteArray → Option Ent} {l : List (ByteArray × ByteArray)} {w : World} {k : ByteArray} {x : Ent} (h : Cach q m g F most now N c f l w) (hN : N < 100000) (hx : f k = some x) :
    Calls Try.prog 44 #[.pointer (some ⟨q, 0, none⟩), .string k] w fun e w' => e = .returned (.tuple #[entV x, .int .i64 0]) ∧ Cach q m g F most (now + 1) (N + 1) c (updF f k (some ⟨x.text, x.is, x.dirty, now + 1⟩)) l w' ∧ Kept (fun b => F b ∨ b = q ∨ b = m) w w' := by
  obtain ⟨r, p, hr, hp, hb⟩ := h.blk
  have hks := h.fits.short k x hx
  have hk64 : CK.good k := Nat.le_trans hks (by decide)
  have c2 : ∀ o, (w.alloc o).cell? ⟨q, 2, none⟩ = some (.map (some m)) := fun o => (cell_at (blk_alloc hb o) 2).trans rfl
  have hlk : ∀ o, (Instr.lookup 86 (.map (some m)) (.string k) true).run Try.prog (w.alloc o) = .ok (.tuple #[entV x, .bool true]) (w.alloc o) := fun o => by
    have := (h.map.new ((Kept.refl _ _).alloc o)).look2 (x := k) hk64
    rw [hx] at this
    exact this
  have HL := hid (Lk.mk' ⟨⟨#[]⟩, false, false, 0⟩ x h rfl (Kept.refl _ _))
  have HH := hid (cache_hold1 (HL.out.ca.new (Kept.refl _ _).drew) hN hks (fun e => h.fits.clean k x hx e) (fun e => h.fits.no k x hx e) (.inl (by rw [hx]; rfl)))
  rw [hx, if_pos (show (some x).isSome = true from rfl)] at HH
  have H := hid h
  have HX := hid hx
  obtain ⟨text, is, dirty, at_⟩ := x
  clear h hb hx
  go_enter Try.func44, Try.ntmps44
  go_wp2
  generalize hW : (w.alloc (.cells #[.string ⟨#[]⟩, .bool false, .bool false, .int .u64 0] 92)).alloc (.cells #[.string text, .bool is, .bool dirty, .int .u64 at_] 92) = W at *
  obtain ⟨c1, -, -, -⟩ := HL.out.cells
  go_region_held3 (fun w' => w'.cell? ⟨w.heap.size + 1, 0, none⟩ = some (.string text) ∧ w'.cell? ⟨w.heap.size + 1, 1, none⟩ = some (.bool is) ∧ w'.cell? ⟨w.heap.size + 1, 2, none⟩ = some (.bool dirty) ∧ w'.cell? ⟨w.heap.size + 1, 3, none⟩ = some (.int .u64 at_)) (first | exact c1 | exact e1 | exact Four.keep (by simp) (Four.keep (by simp) (Four.keep (by simp) (Four.keep (y := ⟨text, is, dirty, at_⟩) (by simp) e1)))) (first | (go_at_call 45; (with_reducible refine HH.out.mono ?_); rintro e w3 ⟨rfl, hC, hK⟩; have HL3 := hid (HL.out.step hC (kept_drew hK)); obtain ⟨e1, ⟨b0, b1, b2, b3⟩, fz, -⟩ := HL3.out.cells; clear hC hK))
  go_wp2
  have HD := hid (HL3.out.done H.out.nq H.out.nm)
  simp only [laid] at HD
  generalize hW4 : (((w3.setCell ⟨w.heap.size, 0, none⟩ (.string text)).setCell ⟨w.heap.size, 1, none⟩ (.bool is)).setCell ⟨w.heap.size, 2, none⟩ (.bool dirty)).setCell ⟨w.heap.size, 3, none⟩ (.int .u64 at_) = W4 at *
  have r0 : W4.cell? ⟨w.heap.size, 0, none⟩ = some (.string text) := (cell_at HD.out.2.2 0).trans rfl
  have r1 : W4.cell? ⟨w.heap.size, 1, none⟩ = some (.bool is) := (cell_at HD.out.2.2 1).trans rfl
  have r2 : W4.cell? ⟨w.heap.size, 2, none⟩ = some (.bool dirty) := (cell_at HD.out.2.2 2).trans rfl
  have r3 : W4.cell? ⟨w.heap.size, 3, none⟩ = some (.int .u64 at_) := (cell_at HD.out.2.2 3).trans rfl
  refine bodyPost_ret (v := .tuple #[entV ⟨text, is, dirty, at_⟩, .int .i64 0]) (by simp [results, Try.results44, go_sem, r0, r1, r2, r3]) rfl ⟨rfl, HD.out.1, HD.out.2.1⟩
end Go.Proofs.Ytmlnjheiogmlaaa
