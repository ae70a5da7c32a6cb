/-
A cache holds what a key has; another one goes, if there are too many; conditions: the cache lies in memory as told.
-/
import Derived.Test.YtmlnjheiogmlaaaOldest
import Derived.BigQuiet
namespace Go.Proofs.Ytmlnjheiogmlaaa
open Go.RowKit Go.Lib Go.Maps
theorem Cach.wider {q m g : Nat} {F F' : Nat → Prop} {most now N c : Nat} {f : ByteArray → Option Ent} {l : List (ByteArray × ByteArray)} {w : World} (h : Cach q m g F most now N c f l w) (hF : ∀ b, F b → F' b) (hq : ¬ F' q) (hm : ¬ F' m) : Cach q m g F' most now N c f l w :=
  ⟨h.blk, h.map, h.kv.wider hF, hq, hm, h.ne, h.room, h.small, h.len, h.nowN, h.fits⟩
theorem Cach.protect {q m g : Nat} {F : Nat → Prop} {most now N c : Nat} {f : ByteArray → Option Ent} {l : List (ByteArray × ByteArray)} {w : World} (h : Cach q m g F most now N c f l w) (o : Obj) : Cach q m g (fun b => F b ∧ b ≠ w.heap.size) most now N c f l (w.alloc o) := by
  have h' := h.new ((Kept.refl (fun _ => False) w).alloc o)
  exact ⟨h'.blk, h'.map, h.kv.protect o, fun e => h.nq e.1, fun e => h.nm e.1, h.ne, h.room, h.small, h.len, h.nowN, h.fits⟩
/-- The map's key k has x now. -/
structure Mid (q m g B : Nat) (F : Nat → Prop) (most now N c : Nat) (f : ByteArray → Option Ent) (l : List (ByteArray × ByteArray)) (x : Ent) (w W : World) : Prop where
  ca : Cach q m g (fun b => F b ∧ b ≠ B) most now N c f l W
  ent : W.heap[B]? = some (entBlk x)
  kept : Kept (fun b => F b ∨ b = q ∨ b = m) w W
  nb : B ≠ q ∧ B ≠ m
abbrev stamped (q B now : Nat) (W : World) : World := (W.setCell ⟨q, 3, none⟩ (.int .u64 ((now : Int) + 1))).setCell ⟨B, 3, none⟩ (.int .u64 ((now : Int) + 1))
theorem Mid.blk {q m g B : Nat} {F : Nat → Prop} {most now N c : Nat} {f : ByteArray → Option Ent} {l : List (ByteArray × ByteArray)} {x : Ent} {w W : World} (h : Mid q m g B F most now N c f l x w W) :
    ∃ r p : Nat, r ≤ N ∧ p ≤ N ∧ W.heap[q]? = some (cacheBlk g most m now r p) ∧ (stamped q B now W).heap[q]? = some (cacheBlk g most m (now + 1) r p) ∧ (stamped q B now W).heap[B]? = some (entBlk ⟨x.text, x.is, x.dirty, now + 1⟩) := by
  obtain ⟨r, p, hr, hp, hb⟩ := h.ca.blk
  refine ⟨r, p, hr, hp, hb, ?_, ?_⟩
  · rw [Below.heap_setCell _ _ _ _ (fun e => h.nb.1 e.symm)]
    exact (heap_setCell_same hb).trans (by simp)
  · refine (heap_setCell_same (cs := #[.string x.text, .bool x.is, .bool x.dirty, .int .u64 x.at_]) (t := 92) (m := (0, 0)) ?_).trans (by simp)
    rw [Below.heap_setCell _ _ _ _ h.nb.1]
    exact h.ent
theorem Mid.cells {q m g B : Nat} {F : Nat → Prop} {most now N c : Nat} {f : ByteArray → Option Ent} {l : List (ByteArray × ByteArray)} {x : Ent} {w W : World} (h : Mid q m g B F most now N c f l x w W) :
    W.cell? ⟨q, 3, none⟩ = some (.int .u64 now) ∧ W.frozen? ⟨q, 3, none⟩ = false ∧ W.frozen? ⟨B, 3, none⟩ = false ∧
    (stamped q B now W).cell? ⟨q, 2, none⟩ = some (.map (some m)) ∧ (stamped q B now W).cell? ⟨B, 0, none⟩ = some (.string x.text) ∧ (stamped q B now W).cell? ⟨B, 1, none⟩ = some (.bool x.is) ∧ (stamped q B now W).cell? ⟨B, 2, none⟩ = some (.bool x.dirty) ∧ (stamped q B now W).cell? ⟨B, 3, none⟩ = some (.int .u64 ((now + 1 : Nat) : Int)) ∧ (∃ u, W.cell? ⟨B, 3, none⟩ = some u) := by
  obtain ⟨r, p, _, _, h1, h2, h3⟩ := h.blk
  exact ⟨(cell_at h1 3).trans rfl, frozen_at h1 3, frozen_at h.ent 3, (cell_at h2 2).trans rfl, (cell_at h3 0).trans rfl, (cell_at h3 1).trans rfl, (cell_at h3 2).trans rfl, (cell_at h3 3).trans rfl, _, (cell_at h.ent 3).trans rfl⟩
theorem Mid.kept1 {q m g B : Nat} {F : Nat → Prop} {most now N c : Nat} {f : ByteArray → Option Ent} {l : List (ByteArray × ByteArray)} {x : Ent} {w W : World} (_ : Mid q m g B F most now N c f l x w W) : Kept (fun b => b = q ∨ b = B) W (stamped q B now W) :=
  ((kept_set W ⟨q, 3, none⟩ _).mono fun _ _ e => .inl e).trans ((kept_set _ ⟨B, 3, none⟩ _).mono fun _ _ e => .inr e)
theorem Mid.map {q m g B : Nat} {F : Nat → Prop} {most now N c : Nat} {f : ByteArray → Option Ent} {l : List (ByteArray × ByteArray)} {x : Ent} {w W : World} (h : Mid q m g B F most now N c f l x w W) : MapF CK (stamped q B now W) m f c :=
  h.ca.map.kept h.kept1 (fun e => e.elim (fun e => h.ca.ne e.symm) (fun e => h.nb.2 e.symm))
theorem hold_fits {f : ByteArray → Option Ent} {l : List (ByteArray × ByteArray)} {now : Nat} {k : ByteArray} {x : Ent} (h : Fits f l now) (hk : k.size ≤ 1000000) (hx : x.dirty = false → kvGet l k = (x.text, x.is)) (hn : x.is = false → x.text = ⟨#[]⟩) : Fits (updF f k (some ⟨x.text, x.is, x.dirty, now + 1⟩)) l (now + 1) := by
  refine ⟨fun k' y hy => ?_, fun k' y hy hd' => ?_, fun k' y hy hn' => ?_, h.once, fun k' y hy => ?_⟩ <;> (unfold updF at hy; split at hy)
  · cases hy; exact Nat.le_refl _
  · exact Nat.le_succ_of_le (h.old k' y hy)
  · rename_i e; subst e; cases hy; exact hx hd'
  · exact h.clean k' y hy hd'
  · cases hy; exact hn hn'
  · exact h.no k' y hy hn'
  · rename_i e; subst e; exact hk
  · exact h.short k' y hy
theorem Mid.done {q m g B : Nat} {F : Nat → Prop} {most now N c : Nat} {f : ByteArray → Option Ent} {l : List (ByteArray × ByteArray)} {x : Ent} {k : ByteArray} {w W w3 : World} {c' : Nat} (h : Mid q m g B F most now N c f l x w W) (hq : ¬ F q) (hF : F B ∨ w.heap.size ≤ B) (hm : ¬ F m)
    (hM : MapF CK w3 m (updF f k (some ⟨x.text, x.is, x.dirty, now + 1⟩)) c') (hK : Kept (fun i => i = m) (stamped q B now W).drew w3) (hc : c' ≤ most) (hk : k.size ≤ 1000000) (hx : x.dirty = false → kvGet l k = (x.text, x.is)) (hn : x.is = false → x.text = ⟨#[]⟩) :
    Cach q m g F most (now + 1) (N + 1) c' (updF f k (some ⟨x.text, x.is, x.dirty, now + 1⟩)) l w3 ∧ Kept (fun b => F b ∨ b = q ∨ b = m) w w3 := by
  obtain ⟨r, p, hr, hp, _, h2, _⟩ := h.blk
  have k2 := kept_drew hK
  have k3 : Kept (fun b => b = q ∨ b = B ∨ b = m) W w3 := (h.kept1.mono fun _ _ e => e.elim .inl fun e => .inr (.inl e)).trans (k2.mono fun _ _ e => .inr (.inr e))
  have hl := h.ca.len
  have hn1 := h.ca.nowN
  refine ⟨⟨⟨r, p, by omega, by omega, k2.at h2 h.ca.ne⟩, hM, ?_, hq, hm, h.ca.ne, hc, h.ca.small, by omega, by omega, hold_fits h.ca.fits hk hx hn⟩, h.kept.trans' k3 fun b hb e => ?_⟩
  · refine (h.ca.kv.keep k3 fun b e hF => ?_).wider fun _ e => e.1
    rcases e with e | e | e
    · exact hq (e ▸ hF.1)
    · exact hF.2 e
    · exact hm (e ▸ hF.1)
  · rcases e with e | e | e
    · exact .inr (.inl e)
    · subst e
      rcases hF with hF | hF
      · exact .inl hF
      · omega
    · exact .inr (.inr e)
end Go.Proofs.Ytmlnjheiogmlaaa
namespace Go.Proofs.Ytmlnjheiogmlaaa
open Go.RowKit Go.Lib Go.Maps
set_option maxHeartbeats 1600000 in
set_option maxRecDepth 100000 in
theorem cache_hold1 {q m g : Nat} {F : Nat → Prop} {most now N c : Nat} {f : ByteArray → Option Ent} {l : List (ByteArray × ByteArray)} {w : World} {k : ByteArray} {x : Ent} (h : Cach q m g F most now N c f l w) (hN : N < 100000) (hk : k.size ≤ 1000000) (hx : x.dirty = false → kvGet l k = (x.text, x.is)) (hn : x.is = false → x.text = ⟨#[]⟩)
    (hc : (f k).isSome = true ∨ c < most) :
    Calls Try.prog 45 #[.pointer (some ⟨q, 0, none⟩), .string k, entV x] w fun e w' => e = .returned (.int .i64 0) ∧ Cach q m g F most (now + 1) (N + 1) (if (f k).isSome then c else c + 1) (updF f k (some ⟨x.text, x.is, x.dirty, now + 1⟩)) l w' ∧ Kept (fun b => F b ∨ b = q ∨ b = m) w w' := by
  obtain ⟨r, p, hr, hp, hb⟩ := h.blk
  have c2 : ∀ o, (w.alloc o).cell? ⟨q, 2, none⟩ = some (.map (some m)) := fun o => (cell_at (blk_alloc hb o) 2).trans rfl
  have d1 : ∀ o o', ((w.alloc o).alloc o').cell? ⟨q, 1, none⟩ = some (.int .i64 most) := fun o o' => (cell_at (blk_alloc (blk_alloc hb o) o') 1).trans rfl
  have d2 : ∀ o o', ((w.alloc o).alloc o').cell? ⟨q, 2, none⟩ = some (.map (some m)) := fun o o' => (cell_at (blk_alloc (blk_alloc hb o) o') 2).trans rfl
  have hk64 : CK.good k := Nat.le_trans hk (by decide)
  have hlk : ∀ o, (Instr.lookup 86 (.map (some m)) (.string k) true).run Try.prog (w.alloc o) = .ok (.tuple #[entV ((f k).getD ⟨⟨#[]⟩, false, false, 0⟩), .bool (f k).isSome]) (w.alloc o) := fun o => (h.map.new ((Kept.refl _ _).alloc o)).look2 (x := k) hk64
  have hlen : ∀ o o' ty, (Builtin.len_ #[86] ty #[.map (some m)]).run Try.prog ((w.alloc o).alloc o') = .ok (.int .i64 c) ((w.alloc o).alloc o') := fun o o' ty => (h.map.new (((Kept.refl _ _).alloc o).alloc o')).len ty
  have hc1 : c ≤ 1000 := Nat.le_trans h.room h.small
  have H := hid h
  have hX := hid hx
  have hNo := hid hn
  have HF := hid (fun W (hW : ∃ o, W = ((w.alloc (entBlk x)).alloc o).drew) => (⟨by obtain ⟨o, rfl⟩ := hW; exact (h.protect (entBlk x)).new ((Kept.refl (fun _ => False) _).alloc o).drew, by obtain ⟨o, rfl⟩ := hW; exact blk_alloc (blk_new _ _) o, by obtain ⟨o, rfl⟩ := hW; exact (((Kept.refl _ _).alloc _).alloc o).drew, by have := blk_lt hb; have := h.map.lt; omega⟩ : Mid q m g w.heap.size F most now N c f l x w W))
  obtain ⟨text, is, dirty, at_⟩ := x
  obtain ⟨⟨t0, i0, y0, a0⟩, hz⟩ : ∃ y, (f k).getD ⟨⟨#[]⟩, false, false, 0⟩ = y := ⟨_, rfl⟩
  obtain ⟨b0, hb0⟩ : ∃ b, (f k).isSome = b := ⟨_, rfl⟩
  rw [hz, hb0] at hlk
  rw [hb0] at hc
  rw [hb0]
  have hge : b0 = true ∨ ¬ (c : Int) ≥ (most : Int) := by
    rcases hc with e | e
    · exact .inl e
    · exact .inr (by omega)
  have HB0 := hid hb0
  clear h hb hx hn hc hz hb0
  go_enter Try.func45, Try.ntmps45
  go_wp2
  have g1 := d1 (entBlk ⟨text, is, dirty, at_⟩) (entBlk ⟨t0, i0, y0, a0⟩)
  have g2 := d2 (entBlk ⟨text, is, dirty, at_⟩) (entBlk ⟨t0, i0, y0, a0⟩)
  have gl := hlen (entBlk ⟨text, is, dirty, at_⟩) (entBlk ⟨t0, i0, y0, a0⟩)
  have HM := hid (HF.out _ ⟨entBlk ⟨t0, i0, y0, a0⟩, rfl⟩)
  clear d1 d2 c2 hlen hlk
  generalize hW0 : (w.alloc (entBlk ⟨text, is, dirty, at_⟩)).alloc (entBlk ⟨t0, i0, y0, a0⟩) = W0 at *
  have s1 : IntKind.u64.wrap ((now : Int) + 1) = (now : Int) + 1 := by rw [IntKind.wrap_u64]; have := HM.out.ca.nowN; omega
  obtain ⟨a1, a2, a3, a4, a5, a6, a7, a8, u, a9⟩ := HM.out.cells
  obtain ⟨nb1, -⟩ := HM.out.nb
  have nb2 : ¬ q = w.heap.size := fun e => nb1 e.symm
  have gl' : ∀ ty, (Builtin.len_ #[86] ty #[.map (some m)]).run Try.prog W0.drew = .ok (.int .i64 c) W0.drew := fun ty => (HM.out.ca.map).len ty
  cases b0 with
  | true =>
    clear gl hge gl'
    go_region
    generalize hW : W0.drew = W at *
    go_wp2
    have hst := hid HM.out.map
    simp only [stamped] at a4 a5 a6 a7 a8 hst
    generalize hW2 : (W.setCell ⟨q, 3, none⟩ (.int .u64 ((now : Int) + 1))).setCell ⟨w.heap.size, 3, none⟩ (.int .u64 ((now : Int) + 1)) = W2 at *
    go_still_tail 6, (by kernel_rfl)
    change wpList _ _ _ _ _ (World.drew W2)
    go_wp2_with (first | (at_mapUpdate; refine wpList_mapF_store (B := CK) _ rfl (.tmp 62) (.tmp 63) (.tmp 64) rfl hst.out.drew (by unfold maxLen; omega) rfl k hk64 ⟨text, is, dirty, now + 1⟩ rfl rfl ?_; intro w3 hm3 hk3 hs3; have HM3 := hid hm3; have HK3 := hid hk3; clear hm3 hk3))
    go_ret
    refine ⟨rfl, ?_⟩
    have hm3 := HM3.out
    rw [HB0.out] at hm3
    subst hW2
    exact Mid.done HM.out H.out.nq (.inr (Nat.le_refl _)) H.out.nm hm3 HK3.out H.out.room hk hX.out hNo.out
  | false =>
    replace hge : ¬ (c : Int) ≥ (most : Int) := by
      rcases hge with e | e
      · cases e
      · exact Int.not_le.2 e
    go_region
    clear gl gl'
    generalize hW : W0.drew = W at *
    go_wp2
    have hst := hid HM.out.map
    simp only [stamped] at a4 a5 a6 a7 a8 hst
    generalize hW2 : (W.setCell ⟨q, 3, none⟩ (.int .u64 ((now : Int) + 1))).setCell ⟨w.heap.size, 3, none⟩ (.int .u64 ((now : Int) + 1)) = W2 at *
    go_still_tail 6, (by kernel_rfl)
    change wpList _ _ _ _ _ (World.drew W2)
    go_wp2_with (first | (at_mapUpdate; refine wpList_mapF_store (B := CK) _ rfl (.tmp 62) (.tmp 63) (.tmp 64) rfl hst.out.drew (by unfold maxLen; omega) rfl k hk64 ⟨text, is, dirty, now + 1⟩ rfl rfl ?_; intro w3 hm3 hk3 hs3; have HM3 := hid hm3; have HK3 := hid hk3; clear hm3 hk3))
    go_ret
    refine ⟨rfl, ?_⟩
    have hm3 := HM3.out
    rw [HB0.out] at hm3
    subst hW2
    exact Mid.done HM.out H.out.nq (.inr (Nat.le_refl _)) H.out.nm hm3 HK3.out (by show c + 1 ≤ most; omega) hk hX.out hNo.out
end Go.Proofs.Ytmlnjheiogmlaaa
namespace Go.Proofs.Ytmlnjheiogmlaaa
open Go.RowKit Go.Lib Go.Maps
theorem wr_get_other {f : ByteArray → Option Ent} {l : List (ByteArray × ByteArray)} {k k' : ByteArray} (ho : Once l) (h : k' ≠ k) : kvGet (wrL f l k) k' = kvGet l k' := by
  unfold wrL
  split
  · split
    · split
      · rw [get_put, upd_other _ _ h]
      · rw [get_del _ ho, upd_other _ _ h]
    · rfl
  · rfl
theorem wr_get_same {f : ByteArray → Option Ent} {l : List (ByteArray × ByteArray)} {now : Nat} {k : ByteArray} {x : Ent} (h : Fits f l now) (hx : f k = some x) : kvGet (wrL f l k) k = (x.text, x.is) := by
  unfold wrL
  rw [hx]
  cases hd : x.dirty with
  | false => simp only [hd, Bool.false_eq_true, if_false]; exact h.clean k x hx hd
  | true =>
    cases hi : x.is with
    | true => simp only [hd, hi, if_true]; rw [get_put, upd_same]
    | false => simp only [hd, hi, if_true, Bool.false_eq_true, if_false]; rw [get_del _ h.once, upd_same, h.no k x hx hi]; rfl
theorem drop_fits {f : ByteArray → Option Ent} {l : List (ByteArray × ByteArray)} {now : Nat} (k : ByteArray) (h : Fits f l now) : Fits (updF f k none) l now := by
  refine ⟨fun k' y hy => ?_, fun k' y hy hd' => ?_, fun k' y hy hn' => ?_, h.once, fun k' y hy => ?_⟩ <;> (unfold updF at hy; split at hy; · cases hy)
  · exact h.old k' y hy
  · exact h.clean k' y hy hd'
  · exact h.no k' y hy hn'
  · exact h.short k' y hy
theorem wr_some {f : ByteArray → Option Ent} {k : ByteArray} {x : Ent} (h : f k = some x) : (wrF f k k).isSome = true := by
  unfold wrF
  rw [h]
  simp only
  split
  · simp [updF]
  · simp [h]
theorem Mid.drop {q m g B : Nat} {F : Nat → Prop} {most now N c : Nat} {f : ByteArray → Option Ent} {l : List (ByteArray × ByteArray)} {x : Ent} {w W w3 : World} {ko : ByteArray} {c' : Nat} (h : Mid q m g B F most now N c f l x w W) (hM : MapF CK w3 m (updF f ko none) c') (hK : Kept (fun i => i = m) W w3) (hc : c' ≤ most) :
    Mid q m g B F most now N c' (updF f ko none) l x w w3 := by
  obtain ⟨r, p, hr, hp, h2⟩ := h.ca.blk
  exact ⟨⟨⟨r, p, hr, hp, hK.at h2 h.ca.ne⟩, hM, h.ca.kv.keep hK (fun b e hF => h.ca.nm (e ▸ hF)), h.ca.nq, h.ca.nm, h.ca.ne, hc, h.ca.small, h.ca.len, h.ca.nowN, drop_fits ko h.ca.fits⟩, hK.at h.ent h.nb.2, h.kept.trans' hK fun _ _ e => .inr (.inr e), h.nb⟩
theorem Mid.step {q m g B : Nat} {F : Nat → Prop} {most now N c : Nat} {f : ByteArray → Option Ent} {l : List (ByteArray × ByteArray)} {x : Ent} {w W w2 : World} {N' : Nat} {f' : ByteArray → Option Ent} {l' : List (ByteArray × ByteArray)} (h : Mid q m g B F most now N c f l x w W) (hC : Cach q m g (fun b => F b ∧ b ≠ B) most now N' c f' l' w2) (hK : Kept (fun b => (F b ∧ b ≠ B) ∨ b = q ∨ b = m) W w2) :
    Mid q m g B F most now N' c f' l' x w w2 :=
  ⟨hC, hK.at h.ent fun e => e.elim (fun e => e.2 rfl) (fun e => e.elim h.nb.1 h.nb.2), h.kept.trans (hK.mono fun _ _ e => e.imp (fun e => e.1) id), h.nb⟩
/-- What is behind: a key has what it is let have, the others what they had. -/
theorem evict_eff {f : ByteArray → Option Ent} {l : List (ByteArray × ByteArray)} {now : Nat} {k ko : ByteArray} {x xo : Ent} (h : Fits f l now) (ho : f ko = some xo) (y : Ent) (hy : y.text = x.text ∧ y.is = x.is) (k' : ByteArray) :
    eff (updF (updF (wrF f ko) ko none) k (some y)) (wrL f l ko) k' = if k' = k then (x.text, x.is) else eff f l k' := by
  unfold eff updF
  by_cases h1 : k' = k
  · simp [h1, hy]
  · simp only [h1, if_false]
    by_cases h2 : k' = ko
    · subst h2
      simp only [if_true, ho]
      exact wr_get_same h ho
    · simp only [h2, if_false]
      have : wrF f ko k' = f k' := by
        have e : wrF f ko = if xo.dirty then updF f ko (some ⟨xo.text, xo.is, false, xo.at_⟩) else f := by unfold wrF; rw [ho]
        rw [e]
        split
        · simp [updF, h2]
        · rfl
      rw [this]
      cases f k' with
      | some z => rfl
      | none => exact wr_get_other h.once h2
theorem keep_eff {f : ByteArray → Option Ent} {l : List (ByteArray × ByteArray)} {k : ByteArray} {x : Ent} (y : Ent) (hy : y.text = x.text ∧ y.is = x.is) (k' : ByteArray) : eff (updF f k (some y)) l k' = if k' = k then (x.text, x.is) else eff f l k' := by
  unfold eff updF
  by_cases h1 : k' = k
  · simp [h1, hy]
  · simp [h1]
set_option maxHeartbeats 1600000 in
set_option maxRecDepth 100000 in
theorem cache_hold2 {q m g : Nat} {F : Nat → Prop} {most now N c : Nat} {f : ByteArray → Option Ent} {l : List (ByteArray × ByteArray)} {w : World} {k : ByteArray} {x : Ent} (h : Cach q m g F most now N c f l w) (hN : N < 100000) (hk : k.size ≤ 1000000) (hx : x.dirty = false → kvGet l k = (x.text, x.is)) (hn : x.is = false → x.text = ⟨#[]⟩)
    (hc : f k = none) (hfull : c = most) (hpos : 0 < most) :
    Calls Try.prog 45 #[.pointer (some ⟨q, 0, none⟩), .string k, entV x] w fun e w' => e = .returned (.int .i64 0) ∧ ∃ f' l' c', Cach q m g F most (now + 1) (N + 2) c' f' l' w' ∧ (∀ k', eff f' l' k' = if k' = k then (x.text, x.is) else eff f l k') ∧ Kept (fun b => F b ∨ b = q ∨ b = m) w w' := by
  obtain ⟨r, p, hr, hp, hb⟩ := h.blk
  have c2 : ∀ o, (w.alloc o).cell? ⟨q, 2, none⟩ = some (.map (some m)) := fun o => (cell_at (blk_alloc hb o) 2).trans rfl
  have d1 : ∀ o o', ((w.alloc o).alloc o').cell? ⟨q, 1, none⟩ = some (.int .i64 most) := fun o o' => (cell_at (blk_alloc (blk_alloc hb o) o') 1).trans rfl
  have d2 : ∀ o o', ((w.alloc o).alloc o').cell? ⟨q, 2, none⟩ = some (.map (some m)) := fun o o' => (cell_at (blk_alloc (blk_alloc hb o) o') 2).trans rfl
  have hk64 : CK.good k := Nat.le_trans hk (by decide)
  have hlk : ∀ o, (Instr.lookup 86 (.map (some m)) (.string k) true).run Try.prog (w.alloc o) = .ok (.tuple #[entV ((f k).getD ⟨⟨#[]⟩, false, false, 0⟩), .bool (f k).isSome]) (w.alloc o) := fun o => (h.map.new ((Kept.refl _ _).alloc o)).look2 (x := k) hk64
  have hlen : ∀ o o' ty, (Builtin.len_ #[86] ty #[.map (some m)]).run Try.prog ((w.alloc o).alloc o') = .ok (.int .i64 c) ((w.alloc o).alloc o') := fun o o' ty => (h.map.new (((Kept.refl _ _).alloc o).alloc o')).len ty
  have hc1 : c ≤ 1000 := Nat.le_trans h.room h.small
  have H := hid h
  have hX := hid hx
  have hNo := hid hn
  have HF := hid (fun W (hW : ∃ o, W = ((w.alloc (entBlk x)).alloc o).drew) => (⟨by obtain ⟨o, rfl⟩ := hW; exact (h.protect (entBlk x)).new ((Kept.refl (fun _ => False) _).alloc o).drew, by obtain ⟨o, rfl⟩ := hW; exact blk_alloc (blk_new _ _) o, by obtain ⟨o, rfl⟩ := hW; exact (((Kept.refl _ _).alloc _).alloc o).drew, by have := blk_lt hb; have := h.map.lt; omega⟩ : Mid q m g w.heap.size F most now N c f l x w W))
  obtain ⟨text, is, dirty, at_⟩ := x
  have hge : (c : Int) ≥ (most : Int) := by omega
  have hsome : (f k).isSome = false := by rw [hc]; rfl
  have hget : (f k).getD ⟨⟨#[]⟩, false, false, 0⟩ = ⟨⟨#[]⟩, false, false, 0⟩ := by rw [hc]; rfl
  rw [hget, hsome] at hlk
  have hcn : Hid (f k = none) := hid hc
  clear h hb hx hn hc hget hsome
  go_enter Try.func45, Try.ntmps45
  go_wp2
  have g1 := d1 (entBlk ⟨text, is, dirty, at_⟩) (entBlk ⟨⟨#[]⟩, false, false, 0⟩)
  have g2 := d2 (entBlk ⟨text, is, dirty, at_⟩) (entBlk ⟨⟨#[]⟩, false, false, 0⟩)
  have HM := hid (HF.out _ ⟨entBlk ⟨⟨#[]⟩, false, false, 0⟩, rfl⟩)
  clear d1 d2 c2 hlen hlk
  generalize hW0 : (w.alloc (entBlk ⟨text, is, dirty, at_⟩)).alloc (entBlk ⟨⟨#[]⟩, false, false, 0⟩) = W0 at *
  have s1 : IntKind.u64.wrap ((now : Int) + 1) = (now : Int) + 1 := by rw [IntKind.wrap_u64]; have := HM.out.ca.nowN; omega
  obtain ⟨nb1, -⟩ := HM.out.nb
  have nb2 : ¬ q = w.heap.size := fun e => nb1 e.symm
  have gl' : ∀ ty, (Builtin.len_ #[86] ty #[.map (some m)]).run Try.prog W0.drew = .ok (.int .i64 c) W0.drew := fun ty => (HM.out.ca.map).len ty
  have HOL := hid (cache_oldest HM.out.ca hN (by omega))
  have HWR := hid (fun ko xo w1 (hfo : f ko = some xo) (hn1 : New W0.drew w1) => cache_write (HM.out.ca.new hn1) hN hfo)
  have HST := hid (fun ko w1 w2 (hn1 : New W0.drew w1) (hC : Cach q m g (fun b => F b ∧ b ≠ w.heap.size) most now (N + 1) c (wrF f ko) (wrL f l ko) w2) (hK : Kept (fun b => (F b ∧ b ≠ w.heap.size) ∨ b = q ∨ b = m) w1 w2) => HM.out.step hC ((hn1.mono fun _ _ e => e.elim).trans hK))
  go_region
  clear gl' g1 g2
  generalize hW : W0.drew = W at *
  go_wp2_with (first | (go_at_call 53; (with_reducible refine HOL.out.mono ?_); rintro e w1 ⟨ko, xo, rfl, hfo, hn1⟩; have HFO := hid hfo) | (go_at_call 47; (with_reducible refine (HWR.out ko xo w1 HFO.out hn1).mono ?_); rintro e w2 ⟨rfl, hC, hK⟩; have HM2 := hid (HST.out ko w1 w2 hn1 hC hK); have g2 := (cell_at HM2.out.blk.choose_spec.choose_spec.2.2.1 2).trans rfl; clear hC hK) | (at_delete; refine wpList_mapF_drop (B := CK) _ rfl (.tmp 45) (.tmp 46) rfl HM2.out.ca.map rfl ko (Nat.le_trans (H.out.fits.short ko xo HFO.out) (by decide)) rfl ?_; intro w3 hm3 hk3 hs3; rw [wr_some HFO.out, if_pos rfl] at hm3; have HM4 := hid (HM2.out.drop hm3 hk3 (by omega)); obtain ⟨a1, a2, a3, a4, a5, a6, a7, a8, u, a9⟩ := HM4.out.cells; clear hm3 hk3))
  have hst := hid HM4.out.map
  simp only [stamped] at a4 a5 a6 a7 a8 hst
  generalize hW2 : (w3.setCell ⟨q, 3, none⟩ (.int .u64 ((now : Int) + 1))).setCell ⟨w.heap.size, 3, none⟩ (.int .u64 ((now : Int) + 1)) = W2 at *
  go_still_tail 6, (by kernel_rfl)
  change wpList _ _ _ _ _ (World.drew W2)
  go_wp2_with (first | (at_mapUpdate; refine wpList_mapF_store (B := CK) _ rfl (.tmp 62) (.tmp 63) (.tmp 64) rfl hst.out.drew (by unfold maxLen; omega) rfl k hk64 ⟨text, is, dirty, now + 1⟩ rfl rfl ?_; intro w4 hm4 hk4 hs4; have HM5 := hid hm4; have HK5 := hid hk4; clear hm4 hk4))
  go_ret
  refine ⟨rfl, ?_⟩
  subst hW2
  have hne : k ≠ ko := fun e => by
    have h1 := hcn.out
    rw [e, HFO.out] at h1
    cases h1
  have hD := Mid.done HM4.out H.out.nq (.inr (Nat.le_refl _)) H.out.nm HM5.out HK5.out (by split <;> omega) hk (fun e => (wr_get_other H.out.fits.once hne).trans (hX.out e)) hNo.out
  exact ⟨_, _, _, hD.1, evict_eff (x := ⟨text, is, dirty, at_⟩) H.out.fits HFO.out ⟨text, is, dirty, now + 1⟩ ⟨rfl, rfl⟩, hD.2⟩
/-- A cache holds what a key has. -/
theorem cache_hold {q m g : Nat} {F : Nat → Prop} {most now N c : Nat} {f : ByteArray → Option Ent} {l : List (ByteArray × ByteArray)} {w : World} {k : ByteArray} {x : Ent} (h : Cach q m g F most now N c f l w) (hN : N < 100000) (hk : k.size ≤ 1000000) (hx : x.dirty = false → kvGet l k = (x.text, x.is)) (hn : x.is = false → x.text = ⟨#[]⟩) (hpos : 0 < most) :
    Calls Try.prog 45 #[.pointer (some ⟨q, 0, none⟩), .string k, entV x] w fun e w' => e = .returned (.int .i64 0) ∧ ∃ f' l' c', Cach q m g F most (now + 1) (N + 2) c' f' l' w' ∧ (∀ k', eff f' l' k' = if k' = k then (x.text, x.is) else eff f l k') ∧ Kept (fun b => F b ∨ b = q ∨ b = m) w w' := by
  by_cases h1 : (f k).isSome = true ∨ c < most
  · refine (cache_hold1 h hN hk hx hn h1).mono ?_
    rintro e w' ⟨rfl, h2, h3⟩
    exact ⟨rfl, _, _, _, h2.more, keep_eff _ ⟨rfl, rfl⟩, h3⟩
  · have h2 : f k = none := by
      cases hf : f k with
      | none => rfl
      | some _ => exact absurd (.inl (by rw [hf]; rfl)) h1
    exact cache_hold2 h hN hk hx hn h2 (by have := h.room; omega) hpos
end Go.Proofs.Ytmlnjheiogmlaaa
