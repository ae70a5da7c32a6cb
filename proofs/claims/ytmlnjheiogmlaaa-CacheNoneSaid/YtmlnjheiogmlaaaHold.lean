/-
A cache holds what a key has; another one goes, if there are too many; conditions: the cache lies in memory as told.
-/
import Derived.Test.YtmlnjheiogmlaaaOldest
namespace Go.Proofs.Ytmlnjheiogmlaaa
open Go.RowKit Go.Lib Go.Maps
theorem Cach.wider {q m g : Nat} {F F' : Nat → Prop} {most now N c : Nat} {f : ByteArray → Option Ent} {l : List (ByteArray × ByteArray)} {w : World} (h : Cach q m g F most now N c f l w) (hF : ∀ b, F b → F' b) (hq : ¬ F' q) (hm : ¬ F' m) : Cach q m g F' most now N c f l w :=
  ⟨h.blk, h.map, h.kv.wider hF, hq, hm, h.ne, h.room, h.small, h.len, h.nowN, h.fits⟩
theorem Cach.protect {q m g : Nat} {F : Nat → Prop} {most now N c : Nat} {f : ByteArray → Option Ent} {l : List (ByteArray × ByteArray)} {w : World} (h : Cach q m g F most now N c f l w) (o : Obj) : Cach q m g (fun b => F b ∧ b ≠ w.heap.size) most now N c f l (w.alloc o) := by
  have h' := h.new ((Kept.refl (fun _ => False) w).alloc o)
  exact ⟨h'.blk, h'.map, h.kv.protect o, fun e => h.nq e.1, fun e => h.nm e.1, h.ne, h.room, h.small, h.len, h.nowN, h.fits⟩
/-- The map's key k has x now. -/
structure Mid (q m g B : Nat) (F : Nat → Prop) (most now N c : Nat) (f : ByteArray → Option Ent) (l : List (ByteArray × ByteArray)) (x : Ent) (w W : World) : Prop where
  ca : Cach q m g (fun b => F b ∧ b ≠ B) most now N c f l W
  ent : W.heap[B]? = some (entBlk x)
  kept : Kept (fun b => F b ∨ b = q ∨ b = m) w W
  nb : B ≠ q ∧ B ≠ m
abbrev stamped (q B now : Nat) (W : World) : World := (W.setCell ⟨q, 3, none⟩ (.int .u64 ((now : Int) + 1))).setCell ⟨B, 3, none⟩ (.int .u64 ((now : Int) + 1))
theorem Mid.blk {q m g B : Nat} {F : Nat → Prop} {most now N c : Nat} {f : ByteArray → Option Ent} {l : List (ByteArray × ByteArray)} {x : Ent} {w W : World} (h : Mid q m g B F most now N c f l x w W) :
    ∃ r p : Nat, r ≤ N ∧ p ≤ N ∧ W.heap[q]? = some (cacheBlk g most m now r p) ∧ (stamped q B now W).heap[q]? = some (cacheBlk g most m (now + 1) r p) ∧ (stamped q B now W).heap[B]? = some (entBlk ⟨x.text, x.is, x.dirty, now + 1⟩) := by
  obtain ⟨r, p, hr, hp, hb⟩ := h.ca.blk
  refine ⟨r, p, hr, hp, hb, ?_, ?_⟩
  · rw [Below.heap_setCell _ _ _ _ (fun e => h.nb.1 e.symm)]
    exact (heap_setCell_same hb).trans (by simp)
  · refine (heap_setCell_same (cs := #[.string x.text, .bool x.is, .bool x.dirty, .int .u64 x.at_]) (t := 92) (m := (0, 0)) ?_).trans (by simp)
    rw [Below.heap_setCell _ _ _ _ h.nb.1]
    exact h.ent
theorem Mid.cells {q m g B : Nat} {F : Nat → Prop} {most now N c : Nat} {f : ByteArray → Option Ent} {l : List (ByteArray × ByteArray)} {x : Ent} {w W : World} (h : Mid q m g B F most now N c f l x w W) :
    W.cell? ⟨q, 3, none⟩ = some (.int .u64 now) ∧ W.frozen? ⟨q, 3, none⟩ = false ∧ W.frozen? ⟨B, 3, none⟩ = false ∧
    (stamped q B now W).cell? ⟨q, 2, none⟩ = some (.map (some m)) ∧ (stamped q B now W).cell? ⟨B, 0, none⟩ = some (.string x.text) ∧ (stamped q B now W).cell? ⟨B, 1, none⟩ = some (.bool x.is) ∧ (stamped q B now W).cell? ⟨B, 2, none⟩ = some (.bool x.dirty) ∧ (stamped q B now W).cell? ⟨B, 3, none⟩ = some (.int .u64 ((now + 1 : Nat) : Int)) ∧ (∃ u, W.cell? ⟨B, 3, none⟩ = some u) := by
  obtain ⟨r, p, _, _, h1, h2, h3⟩ := h.blk
  exact ⟨(cell_at h1 3).trans rfl, frozen_at h1 3, frozen_at h.ent 3, (cell_at h2 2).trans rfl, (cell_at h3 0).trans rfl, (cell_at h3 1).trans rfl, (cell_at h3 2).trans rfl, (cell_at h3 3).trans rfl, _, (cell_at h.ent 3).trans rfl⟩
theorem Mid.kept1 {q m g B : Nat} {F : Nat → Prop} {most now N c : Nat} {f : ByteArray → Option Ent} {l : List (ByteArray × ByteArray)} {x : Ent} {w W : World} (_ : Mid q m g B F most now N c f l x w W) : Kept (fun b => b = q ∨ b = B) W (stamped q B now W) :=
  ((kept_set W ⟨q, 3, none⟩ _).mono fun _ _ e => .inl e).trans ((kept_set _ ⟨B, 3, none⟩ _).mono fun _ _ e => .inr e)
theorem Mid.map {q m g B : Nat} {F : Nat → Prop} {most now N c : Nat} {f : ByteArray → Option Ent} {l : List (ByteArray × ByteArray)} {x : Ent} {w W : World} (h : Mid q m g B F most now N c f l x w W) : MapF CK (stamped q B now W) m f c :=
  h.ca.map.kept h.kept1 (fun e => e.elim (fun e => h.ca.ne e.symm) (fun e => h.nb.2 e.symm))
theorem hold_fits {f : ByteArray → Option Ent} {l : List (ByteArray × ByteArray)} {now : Nat} {k : ByteArray} {x : Ent} (h : Fits f l now) (hk : k.size ≤ 1000000) (hx : x.dirty = false → kvGet l k = (x.text, x.is)) (hn : x.is = false → x.text = ⟨#[]⟩) : Fits (updF f k (some ⟨x.text, x.is, x.dirty, now + 1⟩)) l (now + 1) := by
  refine ⟨fun k' y hy => ?_, fun k' y hy hd' => ?_, fun k' y hy hn' => ?_, h.once, fun k' y hy => ?_⟩ <;> (unfold updF at hy; split at hy)
  · cases hy; exact Nat.le_refl _
  · exact Nat.le_succ_of_le (h.old k' y hy)
  · rename_i e; subst e; cases hy; exact hx hd'
  · exact h.clean k' y hy hd'
  · cases hy; exact hn hn'
  · exact h.no k' y hy hn'
  · rename_i e; subst e; exact hk
  · exact h.short k' y hy
theorem Mid.done {q m g B : Nat} {F : Nat → Prop} {most now N c : Nat} {f : ByteArray → Option Ent} {l : List (ByteArray × ByteArray)} {x : Ent} {k : ByteArray} {w W w3 : World} {c' : Nat} (h : Mid q m g B F most now N c f l x w W) (hq : ¬ F q) (hF : F B ∨ w.heap.size ≤ B) (hm : ¬ F m)
    (hM : MapF CK w3 m (updF f k (some ⟨x.text, x.is, x.dirty, now + 1⟩)) c') (hK : Kept (fun i => i = m) (stamped q B now W).drew w3) (hc : c' ≤ most) (hk : k.size ≤ 1000000) (hx : x.dirty = false → kvGet l k = (x.text, x.is)) (hn : x.is = false → x.text = ⟨#[]⟩) :
    Cach q m g F most (now + 1) (N + 1) c' (updF f k (some ⟨x.text, x.is, x.dirty, now + 1⟩)) l w3 ∧ Kept (fun b => F b ∨ b = q ∨ b = m) w w3 := by
  obtain ⟨r, p, hr, hp, _, h2, _⟩ := h.blk
  have k2 := kept_drew hK
  have k3 : Kept (fun b => b = q ∨ b = B ∨ b = m) W w3 := (h.kept1.mono fun _ _ e => e.elim .inl fun e => .inr (.inl e)).trans (k2.mono fun _ _ e => .inr (.inr e))
  have hl := h.ca.len
  have hn1 := h.ca.nowN
  refine ⟨⟨⟨r, p, by omega, by omega, k2.at h2 h.ca.ne⟩, hM, ?_, hq, hm, h.ca.ne, hc, h.ca.small, by omega, by omega, hold_fits h.ca.fits hk hx hn⟩, h.kept.trans' k3 fun b hb e => ?_⟩
  · refine (h.ca.kv.keep k3 fun b e hF => ?_).wider fun _ e => e.1
    rcases e with e | e | e
    · exact hq (e ▸ hF.1)
    · exact hF.2 e
    · exact hm (e ▸ hF.1)
  · rcases e with e | e | e
    · exact .inr (.inl e)
    · subst e
      rcases hF with hF | hF
      · exact .inl hF
      · omega
    · exact .inr (.inr e)
end Go.Proofs.Ytmlnjheiogmlaaa
