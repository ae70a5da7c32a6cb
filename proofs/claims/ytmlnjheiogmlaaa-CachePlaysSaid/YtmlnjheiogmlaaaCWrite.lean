/-
A cache writes what a key has below, if it is not written yet; conditions: the cache lies in memory as told.
-/
import Derived.Test.YtmlnjheiogmlaaaCache
import Derived.Deep.RegionHeld3
namespace Go.Proofs.Ytmlnjheiogmlaaa
open Go.RowKit Go.Lib Go.Maps
/-- What lies below when a key's text was written. -/
def wrL (f : ByteArray → Option Ent) (l : List (ByteArray × ByteArray)) (k : ByteArray) : List (ByteArray × ByteArray) := match f k with
  | some x => if x.dirty then (if x.is then kvPut l k x.text else kvDel l k) else l
  | none => l
def wrF (f : ByteArray → Option Ent) (k : ByteArray) : ByteArray → Option Ent := match f k with
  | some x => if x.dirty then updF f k (some ⟨x.text, x.is, false, x.at_⟩) else f
  | none => f
abbrev cacheBlk (g most m now reads puts : Nat) : Obj := .cells #[.iface 23 (.pointer (some ⟨g, 0, none⟩)), .int .i64 most, .map (some m), .int .u64 now, .int .i64 reads, .int .i64 puts] 88 (0, 0)
abbrev entBlk (x : Ent) : Obj := .cells #[.string x.text, .bool x.is, .bool x.dirty, .int .u64 x.at_] 92 (0, 0)
/-- Behind the call below: nothing of the cache has turned. -/
structure Wr (q m g : Nat) (F : Nat → Prop) (most now r p c : Nat) (f : ByteArray → Option Ent) (l' : List (ByteArray × ByteArray)) (x : Ent) (w w2 : World) : Prop where
  blk : w2.heap[q]? = some (cacheBlk g most m now r (p + 1))
  ent : w2.heap[w.heap.size]? = some (entBlk x)
  map : MapF CK w2 m f c
  kv : KVs g (fun b => F b ∧ b ≠ w.heap.size) l' w2
  kept : Kept (fun b => F b ∨ b = q ∨ b = m) w w2
theorem Cach.more {q m g : Nat} {F : Nat → Prop} {most now N c : Nat} {f : ByteArray → Option Ent} {l : List (ByteArray × ByteArray)} {w : World} (h : Cach q m g F most now N c f l w) : Cach q m g F most now (N + 1) c f l w := by
  obtain ⟨r, p, h1, h2, h3⟩ := h.blk
  exact ⟨⟨r, p, by omega, by omega, h3⟩, h.map, h.kv, h.nq, h.nm, h.ne, h.room, h.small, by have := h.len; omega, by have := h.nowN; omega, h.fits⟩
theorem kept_set (w : World) (p : Addr) (u : Value) : Kept (fun b => b = p.block) w (w.setCell p u) := (Kept.refl (fun b => b = p.block) w).setCell (.inl rfl) u
theorem kept_drew {F : Nat → Prop} {a b : World} (h : Kept F a.drew b) : Kept F a b := ⟨h.os, h.tape, h.output, h.size, h.block⟩
theorem Wr.of {q m g : Nat} {F : Nat → Prop} {most now r p c N : Nat} {f : ByteArray → Option Ent} {l l' : List (ByteArray × ByteArray)} {x : Ent} {w w2 : World} (h : Cach q m g F most now N c f l w) (hb : w.heap[q]? = some (cacheBlk g most m now r p))
    (hk : Kept (fun b => F b ∧ b ≠ w.heap.size) ((w.setCell ⟨q, 5, none⟩ (.int .i64 ((p : Int) + 1))).alloc (entBlk x)) w2) (hv : KVs g (fun b => F b ∧ b ≠ w.heap.size) l' w2) : Wr q m g F most now r p c f l' x w w2 := by
  have hq := blk_lt hb
  have hm := h.map.lt
  have hz : (w.setCell ⟨q, 5, none⟩ (.int .i64 ((p : Int) + 1))).heap.size = w.heap.size := by simp [World.setCell]
  have hb2 : (w.setCell ⟨q, 5, none⟩ (.int .i64 ((p : Int) + 1))).heap[q]? = some (cacheBlk g most m now r (p + 1)) := (heap_setCell_same hb).trans (by simp)
  have hk1 : Kept (fun b => b = q) w ((w.setCell ⟨q, 5, none⟩ (.int .i64 ((p : Int) + 1))).alloc (entBlk x)) := ((Kept.refl (fun b => b = q) _).setCell (p := ⟨q, 5, none⟩) (.inl rfl) _).alloc _
  refine ⟨hk.at (blk_alloc hb2 _) (fun e => h.nq e.1), hk.at (blk_at _ _ hz) (fun e => e.2 rfl), (h.map.kept hk1 (fun e => h.ne e.symm)).kept hk (fun e => h.nm e.1), hv, ?_⟩
  exact (hk1.mono fun b _ e => .inr (.inl e)).trans (hk.mono fun b _ e => .inl e.1)
theorem Cach.kv1 {q m g : Nat} {F : Nat → Prop} {most now p c N : Nat} {f : ByteArray → Option Ent} {l : List (ByteArray × ByteArray)} {x : Ent} {w : World} (h : Cach q m g F most now N c f l w) :
    KVs g (fun b => F b ∧ b ≠ w.heap.size) l ((w.setCell ⟨q, 5, none⟩ (.int .i64 ((p : Int) + 1))).alloc (entBlk x)) := by
  have hz : (w.setCell ⟨q, 5, none⟩ (.int .i64 ((p : Int) + 1))).heap.size = w.heap.size := by simp [World.setCell]
  have := (h.kv.keep (G := fun b => b = q) ((Kept.refl (fun b => b = q) _).setCell (p := ⟨q, 5, none⟩) (.inl rfl) (.int .i64 ((p : Int) + 1))) (fun _ e hF => h.nq (e ▸ hF))).protect (entBlk x)
  rw [hz] at this
  exact this
theorem Wr.cells {q m g : Nat} {F : Nat → Prop} {most now r p c : Nat} {f : ByteArray → Option Ent} {l' : List (ByteArray × ByteArray)} {x : Ent} {w w2 : World} (h : Wr q m g F most now r p c f l' x w w2) (hq : q < w.heap.size) :
    w2.cell? ⟨q, 0, none⟩ = some (.iface 23 (.pointer (some ⟨g, 0, none⟩))) ∧ w2.cell? ⟨w.heap.size, 0, none⟩ = some (.string x.text) ∧ w2.frozen? ⟨w.heap.size, 2, none⟩ = false ∧ (w2.setCell ⟨w.heap.size, 2, none⟩ (.bool false)).cell? ⟨q, 2, none⟩ = some (.map (some m)) ∧ (w2.setCell ⟨w.heap.size, 2, none⟩ (.bool false)).cell? ⟨w.heap.size, 0, none⟩ = some (.string x.text) ∧ (w2.setCell ⟨w.heap.size, 2, none⟩ (.bool false)).cell? ⟨w.heap.size, 1, none⟩ = some (.bool x.is) ∧ (w2.setCell ⟨w.heap.size, 2, none⟩ (.bool false)).cell? ⟨w.heap.size, 2, none⟩ = some (.bool false) ∧ (w2.setCell ⟨w.heap.size, 2, none⟩ (.bool false)).cell? ⟨w.heap.size, 3, none⟩ = some (.int .u64 x.at_) ∧ w2.cell? ⟨w.heap.size, 2, none⟩ = some (.bool x.dirty) := by
  have hs : (w2.setCell ⟨w.heap.size, 2, none⟩ (.bool false)).heap[w.heap.size]? = some (entBlk ⟨x.text, x.is, false, x.at_⟩) := (heap_setCell_same h.ent).trans (by simp)
  refine ⟨(cell_at h.blk 0).trans rfl, (cell_at h.ent 0).trans rfl, frozen_at h.ent 2, ?_, (cell_at hs 0).trans rfl, (cell_at hs 1).trans rfl, (cell_at hs 2).trans rfl, (cell_at hs 3).trans rfl, (cell_at h.ent 2).trans rfl⟩
  refine (cell_at (cs := #[.iface 23 (.pointer (some ⟨g, 0, none⟩)), .int .i64 most, .map (some m), .int .u64 now, .int .i64 r, .int .i64 ((p + 1 : Nat) : Int)]) (t := 88) (m := (0, 0)) ?_ 2).trans rfl
  rw [Below.heap_setCell _ _ _ _ (by simp; omega)]
  exact h.blk
theorem Wr.done {q m g : Nat} {F : Nat → Prop} {most now r p c N : Nat} {f f' : ByteArray → Option Ent} {l l' : List (ByteArray × ByteArray)} {x : Ent} {w w2 w3 : World} (h : Cach q m g F most now N c f l w) (hr : r ≤ N) (hp : p ≤ N) (hB : q < w.heap.size) (h2 : Wr q m g F most now r p c f l' x w w2)
    (hm : MapF CK w3 m f' c) (hk : Kept (fun i => i = m) (w2.setCell ⟨w.heap.size, 2, none⟩ (.bool false)).drew w3) (hl : l'.length ≤ l.length + 1) (hf : Fits f' l' now) : Cach q m g F most now (N + 1) c f' l' w3 ∧ Kept (fun b => F b ∨ b = q ∨ b = m) w w3 := by
  have k1 : Kept (fun b => b = w.heap.size ∨ b = m) w2 w3 := ((kept_set w2 ⟨w.heap.size, 2, none⟩ (.bool false)).mono fun b _ e => .inl e).trans ((kept_drew hk).mono fun b _ e => .inr e)
  have hl1 := h.len
  have hn1 := h.nowN
  refine ⟨⟨⟨r, p + 1, by omega, by omega, k1.at h2.blk fun e => ?_⟩, hm, ?_, h.nq, h.nm, h.ne, h.room, h.small, by omega, by omega, hf⟩, h2.kept.trans' k1 fun b hb e => ?_⟩
  · rcases e with e | e
    · omega
    · exact h.ne e
  · refine (h2.kv.keep k1 fun b e hF => ?_).wider fun _ e => e.1
    rcases e with e | e
    · exact hF.2 e
    · exact h.nm (e ▸ hF.1)
  · rcases e with e | e
    · omega
    · exact .inr (.inr e)
theorem wr_fits_put {f : ByteArray → Option Ent} {l : List (ByteArray × ByteArray)} {now : Nat} {k : ByteArray} {x : Ent} (h : Fits f l now) (hx : f k = some x) (hi : x.is = true) : Fits (updF f k (some ⟨x.text, x.is, false, x.at_⟩)) (kvPut l k x.text) now := by
  refine ⟨fun k' y hy => ?_, fun k' y hy hd' => ?_, fun k' y hy hn => ?_, once_put k x.text h.once, fun k' y hy => ?_⟩ <;> (unfold updF at hy; split at hy)
  · cases hy; exact h.old k x hx
  · exact h.old k' y hy
  · rename_i e; subst e; cases hy; rw [get_put, upd_same]; simp [hi]
  · rename_i e; rw [get_put, upd_other _ _ e]; exact h.clean k' y hy hd'
  · cases hy; simp [hi] at hn
  · exact h.no k' y hy hn
  · rename_i e; subst e; exact h.short _ x hx
  · exact h.short k' y hy
theorem wr_fits_del {f : ByteArray → Option Ent} {l : List (ByteArray × ByteArray)} {now : Nat} {k : ByteArray} {x : Ent} (h : Fits f l now) (hx : f k = some x) (hi : x.is = false) : Fits (updF f k (some ⟨x.text, x.is, false, x.at_⟩)) (kvDel l k) now := by
  have ht := h.no k x hx hi
  refine ⟨fun k' y hy => ?_, fun k' y hy hd' => ?_, fun k' y hy hn => ?_, once_del k h.once, fun k' y hy => ?_⟩ <;> (unfold updF at hy; split at hy)
  · cases hy; exact h.old k x hx
  · exact h.old k' y hy
  · rename_i e; subst e; cases hy; rw [get_del _ h.once, upd_same]; simp [hi, ht, nothing]
  · rename_i e; rw [get_del _ h.once, upd_other _ _ e]; exact h.clean k' y hy hd'
  · cases hy; exact ht
  · exact h.no k' y hy hn
  · rename_i e; subst e; exact h.short _ x hx
  · exact h.short k' y hy
set_option maxHeartbeats 1600000 in
set_option maxRecDepth 100000 in
theorem cache_write1 {q m g : Nat} {F : Nat → Prop} {most now N c : Nat} {f : ByteArray → Option Ent} {l : List (ByteArray × ByteArray)} {w : World} {k : ByteArray} {x : Ent} (h : Cach q m g F most now N c f l w) (hN : N < 100000) (hx : f k = some x) (hd : x.dirty = true) (hi : x.is = true) :
    Calls Try.prog 47 #[.pointer (some ⟨q, 0, none⟩), .string k] w fun e w' => e = .returned (.int .i64 0) ∧ Cach q m g F most now (N + 1) c (wrF f k) (wrL f l k) w' ∧ Kept (fun b => F b ∨ b = q ∨ b = m) w w' := by
  obtain ⟨r, p, hr, hp, hb⟩ := h.blk
  have c2 : w.cell? ⟨q, 2, none⟩ = some (.map (some m)) := (cell_at hb 2).trans rfl
  have e0 : ∀ o, (w.alloc o).cell? ⟨q, 0, none⟩ = some (.iface 23 (.pointer (some ⟨g, 0, none⟩))) := fun o => (cell_at (blk_alloc hb o) 0).trans rfl
  have e5 : ∀ o, (w.alloc o).cell? ⟨q, 5, none⟩ = some (.int .i64 p) := fun o => (cell_at (blk_alloc hb o) 5).trans rfl
  have f5 : ∀ o, (w.alloc o).frozen? ⟨q, 5, none⟩ = false := fun o => frozen_at (blk_alloc hb o) 5
  have hk64 : CK.good k := Nat.le_trans (h.fits.short k x hx) (by decide)
  have hlk := h.map.look (x := k) hk64
  rw [hx] at hlk
  change (Instr.lookup 86 (.map (some m)) (.string k) false).run Try.prog w = Result.ok (entV x) w at hlk
  have hq := blk_lt hb
  have hc1 : c ≤ 1000 := Nat.le_trans h.room h.small
  have hq1 : ¬ q = w.heap.size := by omega
  have hq2 : ¬ w.heap.size = q := by omega
  have s1 : IntKind.i64.wrap ((p : Int) + 1) = (p : Int) + 1 := by rw [IntKind.wrap_i64]; omega
  have s2 : wrap64 ((p : Int) + 1) = (p : Int) + 1 := by unfold wrap64; omega
  have HP := hid ((((h.kv1 (x := x) (p := p)).new (Kept.refl _ _).drew).put' k x.text (Nat.lt_of_le_of_lt h.len (by omega))).mono fun e w2 ⟨e1, e2, e3⟩ => (⟨e1, hid (Wr.of h hb (kept_drew e3) e2)⟩ : e = Ending.returned (.int .i64 0) ∧ Hid (Wr q m g F most now r p c f (kvPut l k x.text) x w w2)))
  have HC : Hid (∀ w2, Wr q m g F most now r p c f (kvPut l k x.text) x w w2 → _) := hid fun w2 h2 => h2.cells hq
  have hz : (w.setCell ⟨q, 5, none⟩ (.int .i64 ((p : Int) + 1))).heap.size = w.heap.size := by simp [World.setCell]
  have hb2 : (w.setCell ⟨q, 5, none⟩ (.int .i64 ((p : Int) + 1))).heap[q]? = some (cacheBlk g most m now r (p + 1)) := (heap_setCell_same hb).trans (by simp)
  have k01 : (((w.setCell ⟨q, 5, none⟩ (.int .i64 ((p : Int) + 1))).alloc (entBlk x))).cell? ⟨q, 0, none⟩ = some (.iface 23 (.pointer (some ⟨g, 0, none⟩))) ∧ (((w.setCell ⟨q, 5, none⟩ (.int .i64 ((p : Int) + 1))).alloc (entBlk x))).cell? ⟨w.heap.size, 0, none⟩ = some (.string x.text) := ⟨(cell_at (blk_alloc hb2 _) 0).trans rfl, (cell_at (blk_at _ _ hz) 0).trans rfl⟩
  clear hz hb2
  have H := hid h
  have HB := hid hb
  obtain ⟨text, is, dirty, at_⟩ := x
  simp only at hd hi
  subst hd hi
  have hm1 := is_put
  have hm2 := nil_put
  clear h hb
  go_enter Try.func47, Try.ntmps47
  go_wp2
  go_region_held3 (fun w' => w'.cell? ⟨q, 0, none⟩ = some (.iface 23 (.pointer (some ⟨g, 0, none⟩))) ∧ w'.cell? ⟨w.heap.size, 0, none⟩ = some (.string text)) (first | exact k01 | exact ⟨y0, y1⟩) (first | (go_at_call 92; (with_reducible refine HP.out.mono ?_); rintro e w2 ⟨rfl, HW⟩; obtain ⟨y0, y1, z0, z1, z2, z3, z4, z5, z6⟩ := HC.out w2 HW.out))
  go_wp2
  have hst : Hid (MapF CK (w2.setCell ⟨w.heap.size, 2, none⟩ (.bool false)) m f c) := hid (HW.out.map.kept (kept_set _ _ _) (by have := H.out.map.lt; show ¬ m = w.heap.size; omega))
  generalize hW : w2.setCell ⟨w.heap.size, 2, none⟩ (.bool false) = W at *
  go_still_tail 6, (by kernel_rfl)
  change wpList _ _ _ _ _ (World.drew W)
  go_wp2_with (first | (at_mapUpdate; refine wpList_mapF_store (B := CK) _ rfl (.tmp 48) (.tmp 49) (.tmp 50) rfl hst.out.drew (by unfold maxLen; omega) rfl k hk64 ⟨text, true, false, at_⟩ rfl rfl ?_; intro w3 hm3 hk3 hs3; have HM := hid hm3; have HK3 := hid hk3; clear hm3 hk3))
  go_ret
  refine ⟨rfl, ?_⟩
  subst hW
  have hm3 := HM.out
  rw [hx] at hm3
  change MapF CK w3 m _ c at hm3
  have e1 : wrF f k = updF f k (some ⟨text, true, false, at_⟩) := by simp [wrF, hx]
  have e2 : wrL f l k = kvPut l k text := by simp [wrL, hx]
  rw [e1, e2]
  exact Wr.done H.out hr hp hq HW.out hm3 HK3.out (kvPut_len l k text) (wr_fits_put H.out.fits hx rfl)
set_option maxHeartbeats 1600000 in
set_option maxRecDepth 100000 in
theorem cache_write2 {q m g : Nat} {F : Nat → Prop} {most now N c : Nat} {f : ByteArray → Option Ent} {l : List (ByteArray × ByteArray)} {w : World} {k : ByteArray} {x : Ent} (h : Cach q m g F most now N c f l w) (hN : N < 100000) (hx : f k = some x) (hd : x.dirty = true) (hi : x.is = false) :
    Calls Try.prog 47 #[.pointer (some ⟨q, 0, none⟩), .string k] w fun e w' => e = .returned (.int .i64 0) ∧ Cach q m g F most now (N + 1) c (wrF f k) (wrL f l k) w' ∧ Kept (fun b => F b ∨ b = q ∨ b = m) w w' := by
  obtain ⟨r, p, hr, hp, hb⟩ := h.blk
  have c2 : w.cell? ⟨q, 2, none⟩ = some (.map (some m)) := (cell_at hb 2).trans rfl
  have e0 : ∀ o, (w.alloc o).cell? ⟨q, 0, none⟩ = some (.iface 23 (.pointer (some ⟨g, 0, none⟩))) := fun o => (cell_at (blk_alloc hb o) 0).trans rfl
  have e5 : ∀ o, (w.alloc o).cell? ⟨q, 5, none⟩ = some (.int .i64 p) := fun o => (cell_at (blk_alloc hb o) 5).trans rfl
  have f5 : ∀ o, (w.alloc o).frozen? ⟨q, 5, none⟩ = false := fun o => frozen_at (blk_alloc hb o) 5
  have hk64 : CK.good k := Nat.le_trans (h.fits.short k x hx) (by decide)
  have hlk := h.map.look (x := k) hk64
  rw [hx] at hlk
  change (Instr.lookup 86 (.map (some m)) (.string k) false).run Try.prog w = Result.ok (entV x) w at hlk
  have hq := blk_lt hb
  have hc1 : c ≤ 1000 := Nat.le_trans h.room h.small
  have hq1 : ¬ q = w.heap.size := by omega
  have hq2 : ¬ w.heap.size = q := by omega
  have s1 : IntKind.i64.wrap ((p : Int) + 1) = (p : Int) + 1 := by rw [IntKind.wrap_i64]; omega
  have s2 : wrap64 ((p : Int) + 1) = (p : Int) + 1 := by unfold wrap64; omega
  have HP := hid (((h.kv1 (x := x) (p := p)).del k (Nat.lt_of_le_of_lt h.len (by omega))).mono fun e w2 ⟨e1, e2, e3⟩ => (⟨e1, hid (Wr.of h hb e3 e2)⟩ : e = Ending.returned (.tuple #[.bool (kvGet l k).2, .int .i64 0]) ∧ Hid (Wr q m g F most now r p c f (kvDel l k) x w w2)))
  have HC : Hid (∀ w2, Wr q m g F most now r p c f (kvDel l k) x w w2 → _) := hid fun w2 h2 => h2.cells hq
  have hz : (w.setCell ⟨q, 5, none⟩ (.int .i64 ((p : Int) + 1))).heap.size = w.heap.size := by simp [World.setCell]
  have hb2 : (w.setCell ⟨q, 5, none⟩ (.int .i64 ((p : Int) + 1))).heap[q]? = some (cacheBlk g most m now r (p + 1)) := (heap_setCell_same hb).trans (by simp)
  have k01 : (((w.setCell ⟨q, 5, none⟩ (.int .i64 ((p : Int) + 1))).alloc (entBlk x))).cell? ⟨q, 0, none⟩ = some (.iface 23 (.pointer (some ⟨g, 0, none⟩))) ∧ (((w.setCell ⟨q, 5, none⟩ (.int .i64 ((p : Int) + 1))).alloc (entBlk x))).cell? ⟨w.heap.size, 0, none⟩ = some (.string x.text) := ⟨(cell_at (blk_alloc hb2 _) 0).trans rfl, (cell_at (blk_at _ _ hz) 0).trans rfl⟩
  clear hz hb2
  have H := hid h
  have HB := hid hb
  obtain ⟨text, is, dirty, at_⟩ := x
  simp only at hd hi
  subst hd hi
  have hm1 := is_del
  have hm2 := nil_del
  clear h hb
  go_enter Try.func47, Try.ntmps47
  go_wp2_with (first | (go_at_call 91; (with_reducible refine HP.out.mono ?_); rintro e w2 ⟨rfl, HW⟩; obtain ⟨y0, y1, z0, z1, z2, z3, z4, z5, z6⟩ := HC.out w2 HW.out))
  have hst : Hid (MapF CK (w2.setCell ⟨w.heap.size, 2, none⟩ (.bool false)) m f c) := hid (HW.out.map.kept (kept_set _ _ _) (by have := H.out.map.lt; show ¬ m = w.heap.size; omega))
  generalize hW : w2.setCell ⟨w.heap.size, 2, none⟩ (.bool false) = W at *
  go_still_tail 6, (by kernel_rfl)
  change wpList _ _ _ _ _ (World.drew W)
  go_wp2_with (first | (at_mapUpdate; refine wpList_mapF_store (B := CK) _ rfl (.tmp 48) (.tmp 49) (.tmp 50) rfl hst.out.drew (by unfold maxLen; omega) rfl k hk64 ⟨text, false, false, at_⟩ rfl rfl ?_; intro w3 hm3 hk3 hs3; have HM := hid hm3; have HK3 := hid hk3; clear hm3 hk3))
  go_ret
  refine ⟨rfl, ?_⟩
  subst hW
  have hm3 := HM.out
  rw [hx] at hm3
  change MapF CK w3 m _ c at hm3
  have e1 : wrF f k = updF f k (some ⟨text, false, false, at_⟩) := by simp [wrF, hx]
  have e2 : wrL f l k = kvDel l k := by simp [wrL, hx]
  rw [e1, e2]
  exact Wr.done H.out hr hp hq HW.out hm3 HK3.out (Nat.le_succ_of_le (kvDel_len l k)) (wr_fits_del H.out.fits hx rfl)
set_option maxHeartbeats 1600000 in
set_option maxRecDepth 100000 in
theorem cache_write3 {q m g : Nat} {F : Nat → Prop} {most now N c : Nat} {f : ByteArray → Option Ent} {l : List (ByteArray × ByteArray)} {w : World} {k : ByteArray} {x : Ent} (h : Cach q m g F most now N c f l w) (hx : f k = some x) (hd : x.dirty = false) :
    Calls Try.prog 47 #[.pointer (some ⟨q, 0, none⟩), .string k] w fun e w' => e = .returned (.int .i64 0) ∧ New w w' := by
  obtain ⟨r, p, hr, hp, hb⟩ := h.blk
  have c2 : w.cell? ⟨q, 2, none⟩ = some (.map (some m)) := (cell_at hb 2).trans rfl
  have hlk := h.map.look (x := k) (Nat.le_trans (h.fits.short k x hx) (by decide))
  rw [hx] at hlk
  change (Instr.lookup 86 (.map (some m)) (.string k) false).run Try.prog w = Result.ok (entV x) w at hlk
  obtain ⟨text, is, dirty, at_⟩ := x
  simp only at hd
  subst hd
  clear h hb
  go_enter Try.func47, Try.ntmps47
  go_wp2
  go_ret
  exact ⟨rfl, (Kept.refl _ _).alloc _⟩
theorem cache_write {q m g : Nat} {F : Nat → Prop} {most now N c : Nat} {f : ByteArray → Option Ent} {l : List (ByteArray × ByteArray)} {w : World} {k : ByteArray} {x : Ent} (h : Cach q m g F most now N c f l w) (hN : N < 100000) (hx : f k = some x) :
    Calls Try.prog 47 #[.pointer (some ⟨q, 0, none⟩), .string k] w fun e w' => e = .returned (.int .i64 0) ∧ Cach q m g F most now (N + 1) c (wrF f k) (wrL f l k) w' ∧ Kept (fun b => F b ∨ b = q ∨ b = m) w w' := by
  cases hd : x.dirty with
  | true => cases hi : x.is with
    | true => exact cache_write1 h hN hx hd hi
    | false => exact cache_write2 h hN hx hd hi
  | false =>
    refine (cache_write3 h hx hd).mono ?_
    rintro e w' ⟨rfl, hn⟩
    have e1 : wrF f k = f := by simp [wrF, hx, hd]
    have e2 : wrL f l k = l := by simp [wrL, hx, hd]
    rw [e1, e2]
    exact ⟨rfl, (h.new hn).more, hn.mono fun _ _ e => e.elim⟩
end Go.Proofs.Ytmlnjheiogmlaaa
