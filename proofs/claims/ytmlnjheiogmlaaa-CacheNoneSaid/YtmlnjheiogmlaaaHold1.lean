/-
A cache holds what a key has, without another one going; conditions: the cache lies in memory as told.
-/
import Derived.Test.YtmlnjheiogmlaaaHold
import Derived.BigQuiet
namespace Go.Proofs.Ytmlnjheiogmlaaa
open Go.RowKit Go.Lib Go.Maps
set_option maxHeartbeats 1600000 in
set_option maxRecDepth 100000 in
theorem cache_hold1 {q m g : Nat} {F : Nat → Prop} {most now N c : Nat} {f : ByteArray → Option Ent} {l : List (ByteArray × ByteArray)} {w : World} {k : ByteArray} {x : Ent} (h : Cach q m g F most now N c f l w) (hN : N < 100000) (hk : k.size ≤ 1000000) (hx : x.dirty = false → kvGet l k = (x.text, x.is)) (hn : x.is = false → x.text = ⟨#[]⟩)
    (hc : (f k).isSome = true ∨ c < most) :
    Calls Try.prog 45 #[.pointer (some ⟨q, 0, none⟩), .string k, entV x] w fun e w' => e = .returned (.int .i64 0) ∧ Cach q m g F most (now + 1) (N + 1) (if (f k).isSome then c else c + 1) (updF f k (some ⟨x.text, x.is, x.dirty, now + 1⟩)) l w' ∧ Kept (fun b => F b ∨ b = q ∨ b = m) w w' := by
  obtain ⟨r, p, hr, hp, hb⟩ := h.blk
  have c2 : ∀ o, (w.alloc o).cell? ⟨q, 2, none⟩ = some (.map (some m)) := fun o => (cell_at (blk_alloc hb o) 2).trans rfl
  have d1 : ∀ o o', ((w.alloc o).alloc o').cell? ⟨q, 1, none⟩ = some (.int .i64 most) := fun o o' => (cell_at (blk_alloc (blk_alloc hb o) o') 1).trans rfl
  have d2 : ∀ o o', ((w.alloc o).alloc o').cell? ⟨q, 2, none⟩ = some (.map (some m)) := fun o o' => (cell_at (blk_alloc (blk_alloc hb o) o') 2).trans rfl
  have hk64 : CK.good k := Nat.le_trans hk (by decide)
  have hlk : ∀ o, (Instr.lookup 86 (.map (some m)) (.string k) true).run Try.prog (w.alloc o) = .ok (.tuple #[entV ((f k).getD ⟨⟨#[]⟩, false, false, 0⟩), .bool (f k).isSome]) (w.alloc o) := fun o => (h.map.new ((Kept.refl _ _).alloc o)).look2 (x := k) hk64
  have hlen : ∀ o o' ty, (Builtin.len_ #[86] ty #[.map (some m)]).run Try.prog ((w.alloc o).alloc o') = .ok (.int .i64 c) ((w.alloc o).alloc o') := fun o o' ty => (h.map.new (((Kept.refl _ _).alloc o).alloc o')).len ty
  have hc1 : c ≤ 1000 := Nat.le_trans h.room h.small
  have H := hid h
  have hX := hid hx
  have hNo := hid hn
  have HF := hid (fun W (hW : ∃ o, W = ((w.alloc (entBlk x)).alloc o).drew) => (⟨by obtain ⟨o, rfl⟩ := hW; exact (h.protect (entBlk x)).new ((Kept.refl (fun _ => False) _).alloc o).drew, by obtain ⟨o, rfl⟩ := hW; exact blk_alloc (blk_new _ _) o, by obtain ⟨o, rfl⟩ := hW; exact (((Kept.refl _ _).alloc _).alloc o).drew, by have := blk_lt hb; have := h.map.lt; omega⟩ : Mid q m g w.heap.size F most now N c f l x w W))
  obtain ⟨text, is, dirty, at_⟩ := x
  obtain ⟨⟨t0, i0, y0, a0⟩, hz⟩ : ∃ y, (f k).getD ⟨⟨#[]⟩, false, false, 0⟩ = y := ⟨_, rfl⟩
  obtain ⟨b0, hb0⟩ : ∃ b, (f k).isSome = b := ⟨_, rfl⟩
  rw [hz, hb0] at hlk
  rw [hb0] at hc
  rw [hb0]
  have hge : b0 = true ∨ ¬ (c : Int) ≥ (most : Int) := by
    rcases hc with e | e
    · exact .inl e
    · exact .inr (by omega)
  have HB0 := hid hb0
  clear h hb hx hn hc hz hb0
  go_enter Try.func45, Try.ntmps45
  go_wp2
  have g1 := d1 (entBlk ⟨text, is, dirty, at_⟩) (entBlk ⟨t0, i0, y0, a0⟩)
  have g2 := d2 (entBlk ⟨text, is, dirty, at_⟩) (entBlk ⟨t0, i0, y0, a0⟩)
  have gl := hlen (entBlk ⟨text, is, dirty, at_⟩) (entBlk ⟨t0, i0, y0, a0⟩)
  have HM := hid (HF.out _ ⟨entBlk ⟨t0, i0, y0, a0⟩, rfl⟩)
  clear d1 d2 c2 hlen hlk
  generalize hW0 : (w.alloc (entBlk ⟨text, is, dirty, at_⟩)).alloc (entBlk ⟨t0, i0, y0, a0⟩) = W0 at *
  have s1 : IntKind.u64.wrap ((now : Int) + 1) = (now : Int) + 1 := by rw [IntKind.wrap_u64]; have := HM.out.ca.nowN; omega
  obtain ⟨a1, a2, a3, a4, a5, a6, a7, a8, u, a9⟩ := HM.out.cells
  obtain ⟨nb1, -⟩ := HM.out.nb
  have nb2 : ¬ q = w.heap.size := fun e => nb1 e.symm
  have gl' : ∀ ty, (Builtin.len_ #[86] ty #[.map (some m)]).run Try.prog W0.drew = .ok (.int .i64 c) W0.drew := fun ty => (HM.out.ca.map).len ty
  cases b0 with
  | true =>
    clear gl hge gl'
    go_region
    generalize hW : W0.drew = W at *
    go_wp2
    have hst := hid HM.out.map
    simp only [stamped] at a4 a5 a6 a7 a8 hst
    generalize hW2 : (W.setCell ⟨q, 3, none⟩ (.int .u64 ((now : Int) + 1))).setCell ⟨w.heap.size, 3, none⟩ (.int .u64 ((now : Int) + 1)) = W2 at *
    go_still_tail 6, (by kernel_rfl)
    change wpList _ _ _ _ _ (World.drew W2)
    go_wp2_with (first | (at_mapUpdate; refine wpList_mapF_store (B := CK) _ rfl (.tmp 62) (.tmp 63) (.tmp 64) rfl hst.out.drew (by unfold maxLen; omega) rfl k hk64 ⟨text, is, dirty, now + 1⟩ rfl rfl ?_; intro w3 hm3 hk3 hs3; have HM3 := hid hm3; have HK3 := hid hk3; clear hm3 hk3))
    go_ret
    refine ⟨rfl, ?_⟩
    have hm3 := HM3.out
    rw [HB0.out] at hm3
    subst hW2
    exact Mid.done HM.out H.out.nq (.inr (Nat.le_refl _)) H.out.nm hm3 HK3.out H.out.room hk hX.out hNo.out
  | false =>
    replace hge : ¬ (c : Int) ≥ (most : Int) := by
      rcases hge with e | e
      · cases e
      · exact Int.not_le.2 e
    go_region
    clear gl gl'
    generalize hW : W0.drew = W at *
    go_wp2
    have hst := hid HM.out.map
    simp only [stamped] at a4 a5 a6 a7 a8 hst
    generalize hW2 : (W.setCell ⟨q, 3, none⟩ (.int .u64 ((now : Int) + 1))).setCell ⟨w.heap.size, 3, none⟩ (.int .u64 ((now : Int) + 1)) = W2 at *
    go_still_tail 6, (by kernel_rfl)
    change wpList _ _ _ _ _ (World.drew W2)
    go_wp2_with (first | (at_mapUpdate; refine wpList_mapF_store (B := CK) _ rfl (.tmp 62) (.tmp 63) (.tmp 64) rfl hst.out.drew (by unfold maxLen; omega) rfl k hk64 ⟨text, is, dirty, now + 1⟩ rfl rfl ?_; intro w3 hm3 hk3 hs3; have HM3 := hid hm3; have HK3 := hid hk3; clear hm3 hk3))
    go_ret
    refine ⟨rfl, ?_⟩
    have hm3 := HM3.out
    rw [HB0.out] at hm3
    subst hW2
    exact Mid.done HM.out H.out.nq (.inr (Nat.le_refl _)) H.out.nm hm3 HK3.out (by show c + 1 ≤ most; omega) hk hX.out hNo.out
end Go.Proofs.Ytmlnjheiogmlaaa
