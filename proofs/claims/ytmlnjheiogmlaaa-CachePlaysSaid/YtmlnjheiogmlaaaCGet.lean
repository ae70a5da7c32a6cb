/-
What a key has, held then; conditions: the cache lies in memory as told.
-/
import Derived.Test.YtmlnjheiogmlaaaHold2
namespace Go.Proofs.Ytmlnjheiogmlaaa
open Go.RowKit Go.Lib Go.Maps
/-- Ahead of the holding: two entries of the call's own. -/
structure Lk (q m g B C : Nat) (F : Nat → Prop) (most now N c : Nat) (f : ByteArray → Option Ent) (l : List (ByteArray × ByteArray)) (x y : Ent) (w W : World) : Prop where
  ca : Cach q m g (fun b => (F b ∧ b ≠ B) ∧ b ≠ C) most now N c f l W
  eb : W.heap[B]? = some (entBlk x)
  ec : W.heap[C]? = some (entBlk y)
  kept : Kept (fun b => F b ∨ b = q ∨ b = m) w W
  nb : B ≠ q ∧ B ≠ m ∧ C ≠ q ∧ C ≠ m ∧ B ≠ C
  up : F B ∧ F C
theorem Lk.step {q m g B C : Nat} {F : Nat → Prop} {most now N c now' N' c' : Nat} {f f' : ByteArray → Option Ent} {l l' : List (ByteArray × ByteArray)} {x y : Ent} {w W w3 : World} (h : Lk q m g B C F most now N c f l x y w W) (hC : Cach q m g (fun b => (F b ∧ b ≠ B) ∧ b ≠ C) most now' N' c' f' l' w3) (hK : Kept (fun b => ((F b ∧ b ≠ B) ∧ b ≠ C) ∨ b = q ∨ b = m) W w3) :
    Lk q m g B C F most now' N' c' f' l' x y w w3 := by
  obtain ⟨n1, n2, n3, n4, n5⟩ := h.nb
  exact ⟨hC, hK.at h.eb fun e => e.elim (fun e => e.1.2 rfl) (fun e => e.elim n1 n2), hK.at h.ec fun e => e.elim (fun e => e.2 rfl) (fun e => e.elim n3 n4), h.kept.trans (hK.mono fun _ _ e => e.imp (fun e => e.1.1) id), h.nb, h.up⟩
theorem Lk.cells {q m g B C : Nat} {F : Nat → Prop} {most now N c : Nat} {f : ByteArray → Option Ent} {l : List (ByteArray × ByteArray)} {x y : Ent} {w W : World} (h : Lk q m g B C F most now N c f l x y w W) :
    (W.cell? ⟨C, 0, none⟩ = some (.string y.text) ∧ W.cell? ⟨C, 1, none⟩ = some (.bool y.is) ∧ W.cell? ⟨C, 2, none⟩ = some (.bool y.dirty) ∧ W.cell? ⟨C, 3, none⟩ = some (.int .u64 y.at_)) ∧
    (W.cell? ⟨B, 0, none⟩ = some (.string x.text) ∧ W.cell? ⟨B, 1, none⟩ = some (.bool x.is) ∧ W.cell? ⟨B, 2, none⟩ = some (.bool x.dirty) ∧ W.cell? ⟨B, 3, none⟩ = some (.int .u64 x.at_)) ∧
    (∀ i, W.frozen? ⟨B, i, none⟩ = false) ∧ (∀ i, W.frozen? ⟨C, i, none⟩ = false) :=
  ⟨⟨(cell_at h.ec 0).trans rfl, (cell_at h.ec 1).trans rfl, (cell_at h.ec 2).trans rfl, (cell_at h.ec 3).trans rfl⟩, ⟨(cell_at h.eb 0).trans rfl, (cell_at h.eb 1).trans rfl, (cell_at h.eb 2).trans rfl, (cell_at h.eb 3).trans rfl⟩, fun i => frozen_at h.eb i, fun i => frozen_at h.ec i⟩
theorem Lk.mk' {q m g : Nat} {F : Nat → Prop} {most now N c : Nat} {f : ByteArray → Option Ent} {l : List (ByteArray × ByteArray)} {w w1 : World} (x y : Ent) (h : Cach q m g F most now N c f l w1) (hz : w1.heap.size = w.heap.size) (hk : Kept (fun b => F b ∨ b = q ∨ b = m) w w1) :
    Lk q m g w.heap.size (w.heap.size + 1) F most now N c f l x y w ((w1.alloc (entBlk x)).alloc (entBlk y)) := by
  have h1 := h.protect (entBlk x)
  have h2 := h1.protect (entBlk y)
  have hz2 : (w1.alloc (entBlk x)).heap.size = w.heap.size + 1 := by simp [hz]
  obtain ⟨r, p, _, _, hb⟩ := h.blk
  have hq := blk_lt hb
  have hm := h.map.lt
  rw [hz2, hz] at h2
  exact ⟨h2, blk_alloc (blk_at _ _ hz) _, blk_at _ _ hz2, (hk.alloc _).alloc _, by omega, h.kv.up _ (by omega), h.kv.up _ (by omega)⟩
theorem cell_set_other {W : World} {p : Addr} {u v : Value} {b i : Nat} (hne : b ≠ p.block) (h : W.cell? ⟨b, i, none⟩ = some v) : (W.setCell p u).cell? ⟨b, i, none⟩ = some v :=
  (World.cell?_of_block (w := W) (Below.heap_setCell _ _ _ _ hne)).trans h
abbrev Four (C : Nat) (y : Ent) (W : World) : Prop := W.cell? ⟨C, 0, none⟩ = some (.string y.text) ∧ W.cell? ⟨C, 1, none⟩ = some (.bool y.is) ∧ W.cell? ⟨C, 2, none⟩ = some (.bool y.dirty) ∧ W.cell? ⟨C, 3, none⟩ = some (.int .u64 y.at_)
theorem Four.keep {C : Nat} {y : Ent} {W : World} {p : Addr} {u : Value} (hne : C ≠ p.block) (h : Four C y W) : Four C y (W.setCell p u) := ⟨cell_set_other hne h.1, cell_set_other hne h.2.1, cell_set_other hne h.2.2.1, cell_set_other hne h.2.2.2⟩
abbrev laid (B : Nat) (y : Ent) (W : World) : World := (((W.setCell ⟨B, 0, none⟩ (.string y.text)).setCell ⟨B, 1, none⟩ (.bool y.is)).setCell ⟨B, 2, none⟩ (.bool y.dirty)).setCell ⟨B, 3, none⟩ (.int .u64 y.at_)
theorem Lk.done {q m g B C : Nat} {F : Nat → Prop} {most now N c : Nat} {f : ByteArray → Option Ent} {l : List (ByteArray × ByteArray)} {x y : Ent} {w W : World} (h : Lk q m g B C F most now N c f l x y w W) (hq : ¬ F q) (hm : ¬ F m) :
    Cach q m g F most now N c f l (laid B y W) ∧ Kept (fun b => F b ∨ b = q ∨ b = m) w (laid B y W) ∧ (laid B y W).heap[B]? = some (entBlk y) := by
  have hk : Kept (fun b => b = B) W (laid B y W) := (((kept_set W ⟨B, 0, none⟩ _).trans (kept_set _ ⟨B, 1, none⟩ _)).trans (kept_set _ ⟨B, 2, none⟩ _)).trans (kept_set _ ⟨B, 3, none⟩ _)
  obtain ⟨r, p, hr, hp, hb⟩ := h.ca.blk
  refine ⟨⟨⟨r, p, hr, hp, hk.at hb fun e => h.nb.1 e.symm⟩, h.ca.map.kept hk fun e => h.nb.2.1 e.symm, (h.ca.kv.keep hk fun b e hF => hF.1.2 e).wider fun _ e => e.1.1, hq, hm, h.ca.ne, h.ca.room, h.ca.small, h.ca.len, h.ca.nowN, h.ca.fits⟩, h.kept.trans' hk fun b _ e => .inl (e ▸ h.up.1), ?_⟩
  exact (heap_setCell_same (heap_setCell_same (heap_setCell_same (heap_setCell_same h.eb)))).trans (by simp)
/-- One read more. -/
theorem Cach.read {q m g : Nat} {F : Nat → Prop} {most now N c : Nat} {f : ByteArray → Option Ent} {l : List (ByteArray × ByteArray)} {w : World} (h : Cach q m g F most now N c f l w) :
    ∃ r : Nat, r ≤ N ∧ w.cell? ⟨q, 4, none⟩ = some (.int .i64 r) ∧ Cach q m g F most now (N + 1) c f l (w.setCell ⟨q, 4, none⟩ (.int .i64 ((r : Int) + 1))) := by
  obtain ⟨r, p, hr, hp, hb⟩ := h.blk
  have hk := kept_set w ⟨q, 4, none⟩ (.int .i64 ((r : Int) + 1))
  have hl := h.len
  have hn := h.nowN
  refine ⟨r, hr, (cell_at hb 4).trans rfl, ⟨⟨r + 1, p, by omega, by omega, (heap_setCell_same hb).trans (by simp)⟩, h.map.kept hk (fun e => h.ne e.symm), h.kv.keep hk (fun b e hF => h.nq (by have e' : b = q := e; exact e' ▸ hF)), h.nq, h.nm, h.ne, h.room, h.small, by omega, by omega, h.fits⟩⟩
set_option maxHeartbeats 1600000 in
set_option maxRecDepth 100000 in
theorem cache_look1 {q m g : Nat} {F : Nat → Prop} {most now N c : Nat} {f : ByteArray → Option Ent} {l : List (ByteArray × ByteArray)} {w : World} {k : ByteArray} {x : Ent} (h : Cach q m g F most now N c f l w) (hN : N < 100000) (hx : f k = some x) :
    Calls Try.prog 44 #[.pointer (some ⟨q, 0, none⟩), .string k] w fun e w' => e = .returned (.tuple #[entV x, .int .i64 0]) ∧ Cach q m g F most (now + 1) (N + 1) c (updF f k (some ⟨x.text, x.is, x.dirty, now + 1⟩)) l w' ∧ Kept (fun b => F b ∨ b = q ∨ b = m) w w' := by
  obtain ⟨r, p, hr, hp, hb⟩ := h.blk
  have hks := h.fits.short k x hx
  have hk64 : CK.good k := Nat.le_trans hks (by decide)
  have c2 : ∀ o, (w.alloc o).cell? ⟨q, 2, none⟩ = some (.map (some m)) := fun o => (cell_at (blk_alloc hb o) 2).trans rfl
  have hlk : ∀ o, (Instr.lookup 86 (.map (some m)) (.string k) true).run Try.prog (w.alloc o) = .ok (.tuple #[entV x, .bool true]) (w.alloc o) := fun o => by
    have := (h.map.new ((Kept.refl _ _).alloc o)).look2 (x := k) hk64
    rw [hx] at this
    exact this
  have HL := hid (Lk.mk' ⟨⟨#[]⟩, false, false, 0⟩ x h rfl (Kept.refl _ _))
  have HH := hid (cache_hold1 (HL.out.ca.new (Kept.refl _ _).drew) hN hks (fun e => h.fits.clean k x hx e) (fun e => h.fits.no k x hx e) (.inl (by rw [hx]; rfl)))
  rw [hx, if_pos (show (some x).isSome = true from rfl)] at HH
  have H := hid h
  have HX := hid hx
  obtain ⟨text, is, dirty, at_⟩ := x
  clear h hb hx
  go_enter Try.func44, Try.ntmps44
  go_wp2
  generalize hW : (w.alloc (.cells #[.string ⟨#[]⟩, .bool false, .bool false, .int .u64 0] 92)).alloc (.cells #[.string text, .bool is, .bool dirty, .int .u64 at_] 92) = W at *
  obtain ⟨c1, -, -, -⟩ := HL.out.cells
  go_region_held3 (fun w' => w'.cell? ⟨w.heap.size + 1, 0, none⟩ = some (.string text) ∧ w'.cell? ⟨w.heap.size + 1, 1, none⟩ = some (.bool is) ∧ w'.cell? ⟨w.heap.size + 1, 2, none⟩ = some (.bool dirty) ∧ w'.cell? ⟨w.heap.size + 1, 3, none⟩ = some (.int .u64 at_)) (first | exact c1 | exact e1 | exact Four.keep (by simp) (Four.keep (by simp) (Four.keep (by simp) (Four.keep (y := ⟨text, is, dirty, at_⟩) (by simp) e1)))) (first | (go_at_call 45; (with_reducible refine HH.out.mono ?_); rintro e w3 ⟨rfl, hC, hK⟩; have HL3 := hid (HL.out.step hC (kept_drew hK)); obtain ⟨e1, ⟨b0, b1, b2, b3⟩, fz, -⟩ := HL3.out.cells; clear hC hK))
  go_wp2
  have HD := hid (HL3.out.done H.out.nq H.out.nm)
  simp only [laid] at HD
  generalize hW4 : (((w3.setCell ⟨w.heap.size, 0, none⟩ (.string text)).setCell ⟨w.heap.size, 1, none⟩ (.bool is)).setCell ⟨w.heap.size, 2, none⟩ (.bool dirty)).setCell ⟨w.heap.size, 3, none⟩ (.int .u64 at_) = W4 at *
  have r0 : W4.cell? ⟨w.heap.size, 0, none⟩ = some (.string text) := (cell_at HD.out.2.2 0).trans rfl
  have r1 : W4.cell? ⟨w.heap.size, 1, none⟩ = some (.bool is) := (cell_at HD.out.2.2 1).trans rfl
  have r2 : W4.cell? ⟨w.heap.size, 2, none⟩ = some (.bool dirty) := (cell_at HD.out.2.2 2).trans rfl
  have r3 : W4.cell? ⟨w.heap.size, 3, none⟩ = some (.int .u64 at_) := (cell_at HD.out.2.2 3).trans rfl
  refine bodyPost_ret (v := .tuple #[entV ⟨text, is, dirty, at_⟩, .int .i64 0]) (by simp [results, Try.results44, go_sem, r0, r1, r2, r3]) rfl ⟨rfl, HD.out.1, HD.out.2.1⟩
end Go.Proofs.Ytmlnjheiogmlaaa
namespace Go.Proofs.Ytmlnjheiogmlaaa
open Go.RowKit Go.Lib Go.Maps
set_option maxHeartbeats 1600000 in
set_option maxRecDepth 100000 in
theorem cache_look2 {q m g : Nat} {F : Nat → Prop} {most now N c : Nat} {f : ByteArray → Option Ent} {l : List (ByteArray × ByteArray)} {w : World} {k : ByteArray} {t : ByteArray} {b : Bool} (h : Cach q m g F most now N c f l w) (hN : N < 90000) (hx : f k = none) (hks : k.size ≤ 1000000) (hg : kvGet l k = (t, b)) (hg2 : b = false → t = ⟨#[]⟩) (hpos : 0 < most) :
    Calls Try.prog 44 #[.pointer (some ⟨q, 0, none⟩), .string k] w fun e w' => e = .returned (.tuple #[entV ⟨t, b, false, 0⟩, .int .i64 0]) ∧ ∃ f' l' c', Cach q m g F most (now + 1) (N + 3) c' f' l' w' ∧ (∀ k', eff f' l' k' = eff f l k') ∧ Kept (fun b => F b ∨ b = q ∨ b = m) w w' := by
  obtain ⟨r, hr, hcell, hR⟩ := h.read
  obtain ⟨r', p, _, _, hb⟩ := h.blk
  have hk64 : CK.good k := Nat.le_trans hks (by decide)
  have c2 : ∀ o, (w.alloc o).cell? ⟨q, 2, none⟩ = some (.map (some m)) := fun o => (cell_at (blk_alloc hb o) 2).trans rfl
  have c4 : ∀ o o', ((w.alloc o).alloc o').cell? ⟨q, 4, none⟩ = some (.int .i64 r) := fun o o' => by
    have e := (cell_at hb 4).symm.trans hcell
    exact (cell_at (blk_alloc (blk_alloc hb o) o') 4).trans e
  have f4 : ∀ o o', ((w.alloc o).alloc o').frozen? ⟨q, 4, none⟩ = false := fun o o' => frozen_at (blk_alloc (blk_alloc hb o) o') 4
  have c0 : ∀ o o', (((w.setCell ⟨q, 4, none⟩ (.int .i64 ((r : Int) + 1))).alloc o).alloc o').cell? ⟨q, 0, none⟩ = some (.iface 23 (.pointer (some ⟨g, 0, none⟩))) := fun o o' => by
    obtain ⟨r2, p2, _, _, hb2⟩ := hR.blk
    exact (cell_at (blk_alloc (blk_alloc hb2 o) o') 0).trans rfl
  have hlk : ∀ o, (Instr.lookup 86 (.map (some m)) (.string k) true).run Try.prog (w.alloc o) = .ok (.tuple #[entV ⟨⟨#[]⟩, false, false, 0⟩, .bool false]) (w.alloc o) := fun o => by
    have := (h.map.new ((Kept.refl _ _).alloc o)).look2 (x := k) hk64
    rw [hx] at this
    exact this
  have hqs := blk_lt hb
  have hq1 : ¬ q = w.heap.size := by omega
  have hq2 : ¬ w.heap.size = q := by omega
  have hq3 : ¬ q = w.heap.size + 1 := by omega
  have hq4 : ¬ w.heap.size + 1 = q := by omega
  have s1 : IntKind.i64.wrap ((r : Int) + 1) = (r : Int) + 1 := by rw [IntKind.wrap_i64]; omega
  have s2 : wrap64 ((r : Int) + 1) = (r : Int) + 1 := by unfold wrap64; omega
  have hls : l.length < 1000000 := by have := h.len; omega
  have HG : Hid (∀ o o', Calls Try.prog 48 #[.pointer (some ⟨g, 0, none⟩), .string k] (((w.setCell ⟨q, 4, none⟩ (.int .i64 ((r : Int) + 1))).alloc o).alloc o') fun e w' => e = .returned (.tuple #[.string t, .bool b, .int .i64 0]) ∧ ((w.setCell ⟨q, 4, none⟩ (.int .i64 ((r : Int) + 1))).alloc o).alloc o' = w') := hid (fun o o' => (hR.kv.new (((Kept.refl (fun _ => False) _).alloc o).alloc o')).get k hls hg)
  have HL := hid (Lk.mk' (w := w) ⟨⟨#[]⟩, false, false, 0⟩ ⟨t, b, false, 0⟩ hR (by simp [World.setCell]) ((kept_set w ⟨q, 4, none⟩ _).mono fun _ _ e => .inr (.inl e)))
  have HH := hid (cache_hold (k := k) (x := ⟨t, b, false, 0⟩) (HL.out.ca.new (Kept.refl _ _).drew) (by omega) hks (fun _ => hg) hg2 hpos)
  have e0 : entV ⟨t, b, false, 0⟩ = .agg #[.string t, .bool b, .bool false, .int .u64 0] := rfl
  rw [e0] at HH
  have H := hid h
  have HX := hid hx
  have HGG := hid hg
  have hm1 := is_get
  have hm2 := nil_get
  obtain ⟨text, ht0⟩ : ∃ x, x = t := ⟨_, rfl⟩
  obtain ⟨is, hi0⟩ : ∃ x, x = b := ⟨_, rfl⟩
  subst ht0 hi0
  clear h hb hx hR hcell hg hg2
  go_enter Try.func44, Try.ntmps44
  go_wp2_with (first | (go_at_call 48; (with_reducible refine (HG.out _ _).mono ?_); rintro e w1 ⟨rfl, rfl⟩))
  generalize hW : ((w.setCell ⟨q, 4, none⟩ (.int .i64 ((r : Int) + 1))).alloc (.cells #[.string ⟨#[]⟩, .bool false, .bool false, .int .u64 0] 92)).alloc (.cells #[.string text, .bool is, .bool false, .int .u64 0] 92) = W at *
  obtain ⟨c1, -, -, -⟩ := HL.out.cells
  go_region_held3 (fun w' => w'.cell? ⟨w.heap.size + 1, 0, none⟩ = some (.string text) ∧ w'.cell? ⟨w.heap.size + 1, 1, none⟩ = some (.bool is) ∧ w'.cell? ⟨w.heap.size + 1, 2, none⟩ = some (.bool false) ∧ w'.cell? ⟨w.heap.size + 1, 3, none⟩ = some (.int .u64 0)) (first | exact c1 | exact e1 | exact Four.keep (by simp) (Four.keep (by simp) (Four.keep (by simp) (Four.keep (y := ⟨text, is, false, 0⟩) (by simp) e1)))) (first | (go_at_call 45; (with_reducible refine HH.out.mono ?_); rintro e w3 ⟨rfl, f', l', c', hC, hE, hK⟩; have HL3 := hid (HL.out.step hC (kept_drew hK)); have HE := hid hE; obtain ⟨e1, ⟨b0, b1, b2, b3⟩, fz, -⟩ := HL3.out.cells; clear hC hK hE))
  go_wp2
  have HD := hid (HL3.out.done H.out.nq H.out.nm)
  simp only [laid] at HD
  generalize hW4 : (((w3.setCell ⟨w.heap.size, 0, none⟩ (.string text)).setCell ⟨w.heap.size, 1, none⟩ (.bool is)).setCell ⟨w.heap.size, 2, none⟩ (.bool false)).setCell ⟨w.heap.size, 3, none⟩ (.int .u64 0) = W4 at *
  have r0 : W4.cell? ⟨w.heap.size, 0, none⟩ = some (.string text) := (cell_at HD.out.2.2 0).trans rfl
  have r1 : W4.cell? ⟨w.heap.size, 1, none⟩ = some (.bool is) := (cell_at HD.out.2.2 1).trans rfl
  have r2 : W4.cell? ⟨w.heap.size, 2, none⟩ = some (.bool false) := (cell_at HD.out.2.2 2).trans rfl
  have r3 : W4.cell? ⟨w.heap.size, 3, none⟩ = some (.int .u64 0) := (cell_at HD.out.2.2 3).trans rfl
  refine bodyPost_ret (v := .tuple #[entV ⟨text, is, false, 0⟩, .int .i64 0]) (by simp [results, Try.results44, go_sem, r0, r1, r2, r3]) rfl ⟨rfl, f', l', c', HD.out.1, fun k' => ?_, HD.out.2.1⟩
  rw [HE.out]
  split
  · rename_i e
    subst e
    unfold eff
    rw [HX.out]
    exact HGG.out.symm
  · rfl
end Go.Proofs.Ytmlnjheiogmlaaa
namespace Go.Proofs.Ytmlnjheiogmlaaa
open Go.RowKit Go.Lib Go.Maps
theorem kvGet_no {l : List (ByteArray × ByteArray)} {k t : ByteArray} (h : kvGet l k = (t, false)) : t = ⟨#[]⟩ := by
  induction l with
  | nil => cases h; rfl
  | cons p l ih =>
    simp only [kvGet] at h
    split at h
    · cases h
    · exact ih h
theorem Cach.more2 {q m g : Nat} {F : Nat → Prop} {most now N c : Nat} {f : ByteArray → Option Ent} {l : List (ByteArray × ByteArray)} {w : World} (h : Cach q m g F most now N c f l w) {N' : Nat} (hN : N ≤ N') : Cach q m g F most now N' c f l w := by
  obtain ⟨r, p, h1, h2, h3⟩ := h.blk
  exact ⟨⟨r, p, by omega, by omega, h3⟩, h.map, h.kv, h.nq, h.nm, h.ne, h.room, h.small, by have := h.len; omega, by have := h.nowN; omega, h.fits⟩
theorem cache_look {q m g : Nat} {F : Nat → Prop} {most now N c : Nat} {f : ByteArray → Option Ent} {l : List (ByteArray × ByteArray)} {w : World} {k : ByteArray} (h : Cach q m g F most now N c f l w) (hN : N < 90000) (hk : k.size ≤ 1000000) (hpos : 0 < most) :
    Calls Try.prog 44 #[.pointer (some ⟨q, 0, none⟩), .string k] w fun e w' => ∃ (y : Ent) (f' : ByteArray → Option Ent) (l' : List (ByteArray × ByteArray)) (c' : Nat), e = .returned (.tuple #[entV y, .int .i64 0]) ∧ (y.text, y.is) = eff f l k ∧ Cach q m g F most (now + 1) (N + 3) c' f' l' w' ∧ (∀ k', eff f' l' k' = eff f l k') ∧ Kept (fun b => F b ∨ b = q ∨ b = m) w w' := by
  cases hf : f k with
  | some x =>
    refine (cache_look1 h (by omega) hf).mono ?_
    rintro e w' ⟨rfl, h1, h3⟩
    refine ⟨x, _, _, _, rfl, by simp [eff, hf], h1.more2 (Nat.le_add_right (N + 1) 2), fun k' => ?_, h3⟩
    rw [keep_eff (x := x) ⟨x.text, x.is, x.dirty, now + 1⟩ ⟨rfl, rfl⟩]
    split
    · rename_i e; rw [e]; simp [eff, hf]
    · rfl
  | none =>
    obtain ⟨⟨t, b⟩, hg⟩ : ∃ y, kvGet l k = y := ⟨_, rfl⟩
    refine (cache_look2 h hN hf hk hg (fun e => kvGet_no (e ▸ hg)) hpos).mono ?_
    rintro e w' ⟨rfl, f', l', c', h1, h2, h3⟩
    exact ⟨⟨t, b, false, 0⟩, f', l', c', rfl, by simp [eff, hf, hg], h1, h2, h3⟩
/-- What a call leaves: a cache that answers so. -/
structure Left (q m g : Nat) (F : Nat → Prop) (most N : Nat) (E : ByteArray → ByteArray × Bool) (w w' : World) : Prop where
  ex : ∃ now c f l, Cach q m g F most now N c f l w' ∧ ∀ k', eff f l k' = E k'
  kept : Kept (fun b => F b ∨ b = q ∨ b = m) w w'
set_option maxHeartbeats 1600000 in
set_option maxRecDepth 100000 in
theorem cache_get {q m g : Nat} {F : Nat → Prop} {most now N c : Nat} {f : ByteArray → Option Ent} {l : List (ByteArray × ByteArray)} {w : World} {k : ByteArray} (h : Cach q m g F most now N c f l w) (hN : N < 90000) (hk : k.size ≤ 1000000) (hpos : 0 < most) :
    Calls Try.prog 22 #[.pointer (some ⟨q, 0, none⟩), .string k] w fun e w' => e = .returned (.tuple #[.string (eff f l k).1, .bool (eff f l k).2, .int .i64 0]) ∧ Left q m g F most (N + 3) (eff f l) w w' := by
  have HB := hid (cache_bad h)
  have HL := hid (cache_look h hN hk hpos)
  obtain ⟨v, hv⟩ : ∃ v, eff f l k = v := ⟨_, rfl⟩
  obtain ⟨t, b⟩ := v
  have HV := hid hv
  rw [hv]
  clear h hv
  go_enter Try.func22, Try.ntmps22
  go_wp2_with (first | (go_at_call 43; (with_reducible refine HB.out.mono ?_); rintro e w1 ⟨rfl, rfl⟩) | (go_at_call 44; (with_reducible refine HL.out.mono ?_); rintro e w2 ⟨⟨text, is, dirty, at_⟩, f', l', c', rfl, hy, hC, hE, hK⟩; have HC := hid hC; have HE := hid hE; have HK := hid hK; have HY := hid hy; clear hy hC hE hK))
  go_region
  go_wp2
  go_ret3
  have hE := HY.out.trans HV.out
  obtain ⟨h1, h2⟩ := Prod.mk.inj hE
  have N2 : New w2 (w2.alloc (entBlk ⟨text, is, dirty, at_⟩)).drew := ((Kept.refl _ _).alloc _).drew
  exact ⟨by rw [← h1, ← h2]; rfl, ⟨⟨_, _, _, _, HC.out.new N2, HE.out⟩, HK.out.trans (N2.mono fun _ _ e => e.elim)⟩⟩
set_option maxHeartbeats 1600000 in
set_option maxRecDepth 100000 in
theorem cache_put {q m g : Nat} {F : Nat → Prop} {most now N c : Nat} {f : ByteArray → Option Ent} {l : List (ByteArray × ByteArray)} {w : World} {k t : ByteArray} (h : Cach q m g F most now N c f l w) (hN : N < 90000) (hk : k.size ≤ 64) (ht : t.size ≤ 65536) (hpos : 0 < most) :
    Calls Try.prog 27 #[.pointer (some ⟨q, 0, none⟩), .string k, .string t] w fun e w' => e = .returned (.int .i64 0) ∧ Left q m g F most (N + 3) (fun k' => if k' = k then (t, true) else eff f l k') w w' := by
  have HB := hid (cache_bad h)
  have HH := hid (cache_hold (k := k) (x := ⟨t, true, true, 0⟩) h (by omega) (by omega) (fun e => by cases e) (fun e => by cases e) hpos)
  have e0 : entV ⟨t, true, true, 0⟩ = .agg #[.string t, .bool true, .bool true, .int .u64 0] := rfl
  rw [e0] at HH
  have h1 : ¬ (k.size : Int) > 64 := by omega
  have h2 : ¬ (t.size : Int) > 65536 := by omega
  clear h
  go_enter Try.func27, Try.ntmps27
  go_wp2_with (first | (go_at_call 43; (with_reducible refine HB.out.mono ?_); rintro e w1 ⟨rfl, rfl⟩) | (go_at_call 45; (with_reducible refine HH.out.mono ?_); rintro e w2 ⟨rfl, f', l', c', hC, hE, hK⟩))
  go_ret
  exact ⟨rfl, ⟨⟨_, _, _, _, hC.more, hE⟩, hK⟩⟩
set_option maxHeartbeats 1600000 in
set_option maxRecDepth 100000 in
theorem cache_delete {q m g : Nat} {F : Nat → Prop} {most now N c : Nat} {f : ByteArray → Option Ent} {l : List (ByteArray × ByteArray)} {w : World} {k : ByteArray} (h : Cach q m g F most now N c f l w) (hN : N < 90000) (hk : k.size ≤ 1000000) (hpos : 0 < most) :
    Calls Try.prog 23 #[.pointer (some ⟨q, 0, none⟩), .string k] w fun e w' => e = .returned (.tuple #[.bool (eff f l k).2, .int .i64 0]) ∧ Left q m g F most (N + 5) (fun k' => if k' = k then (⟨#[]⟩, false) else eff f l k') w w' := by
  have HB := hid (cache_bad h)
  have HL := hid (cache_look h hN hk hpos)
  have HH : Hid (∀ (now' N' c' : Nat) f' l' w3, Cach q m g F most now' N' c' f' l' w3 → N' < 100000 → Calls Try.prog 45 #[.pointer (some ⟨q, 0, none⟩), .string k, .agg #[.string ⟨#[]⟩, .bool false, .bool true, .int .u64 0]] w3 fun e w' => e = .returned (.int .i64 0) ∧ Left q m g F most (N' + 2) (fun k' => if k' = k then (⟨#[]⟩, false) else eff f' l' k') w3 w') := hid (fun now' N' c' f' l' w3 hC hN' => (cache_hold (k := k) (x := ⟨⟨#[]⟩, false, true, 0⟩) hC hN' hk (fun e => by cases e) (fun _ => rfl) hpos).mono fun e w' ⟨h1, f2, l2, c2, h2, h3, h4⟩ => ⟨h1, ⟨⟨_, _, _, _, h2, h3⟩, h4⟩⟩)
  obtain ⟨v, hv⟩ : ∃ v, eff f l k = v := ⟨_, rfl⟩
  obtain ⟨t, b⟩ := v
  have HV := hid hv
  have hno : b = false → t = ⟨#[]⟩ := fun e => by
    subst e
    unfold eff at hv
    split at hv
    · rename_i x hx
      obtain ⟨h1, h2⟩ := Prod.mk.inj hv
      rw [← h1]; exact h.fits.no k x hx h2
    · exact kvGet_no hv
  rw [hv]
  clear h hv
  cases b with
  | true =>
    go_enter Try.func23, Try.ntmps23
    go_wp2_with (first | (go_at_call 43; (with_reducible refine HB.out.mono ?_); rintro e w1 ⟨rfl, rfl⟩) | (go_at_call 44; (with_reducible refine HL.out.mono ?_); rintro e w2 ⟨⟨text, is, dirty, at_⟩, f', l', c', rfl, hy, hC, hE, hK⟩; have HC := hid hC; have HE := hid hE; have HK := hid hK; cases (hy.trans HV.out); clear hy hC hE hK) | (go_at_call 45; (with_reducible refine (HH.out _ _ _ _ _ _ (HC.out.new ((Kept.refl (fun _ => False) _).alloc _)) (by omega)).mono ?_); rintro e w4 ⟨rfl, hL⟩))
    go_ret2
    obtain ⟨⟨now2, c2, f2, l2, h1, h2⟩, h3⟩ := hL
    refine ⟨rfl, ⟨⟨now2, c2, f2, l2, h1, fun k' => ?_⟩, (HK.out.alloc _).trans h3⟩⟩
    rw [h2, HE.out]
  | false =>
    have ht := hno rfl
    go_enter Try.func23, Try.ntmps23
    go_wp2_with (first | (go_at_call 43; (with_reducible refine HB.out.mono ?_); rintro e w1 ⟨rfl, rfl⟩) | (go_at_call 44; (with_reducible refine HL.out.mono ?_); rintro e w2 ⟨⟨text, is, dirty, at_⟩, f', l', c', rfl, hy, hC, hE, hK⟩; have HC := hid hC; have HE := hid hE; have HK := hid hK; cases (hy.trans HV.out); clear hy hC hE hK))
    go_ret2
    refine ⟨rfl, ⟨⟨_, _, _, _, (HC.out.new ((Kept.refl (fun _ => False) w2).alloc _)).more2 (Nat.le_add_right (N + 3) 2), fun k' => ?_⟩, HK.out.alloc _⟩⟩
    rw [HE.out]
    split
    · rename_i e
      rw [e, HV.out, ht]
    · rfl
end Go.Proofs.Ytmlnjheiogmlaaa
