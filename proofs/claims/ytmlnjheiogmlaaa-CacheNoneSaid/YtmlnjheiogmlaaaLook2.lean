/-
What a key has that is not held, out of what lies below; conditions: the cache lies in memory as told.
-/
import Derived.Test.YtmlnjheiogmlaaaLook
namespace Go.Proofs.Ytmlnjheiogmlaaa
open Go.RowKit Go.Lib Go.Maps
set_option maxHeartbeats 1600000 in
set_option maxRecDepth 100000 in
theorem cache_look2 {q m g : Nat} {F : Nat → Prop} {most now N c : Nat} {f : ByteArray → Option Ent} {l : List (ByteArray × ByteArray)} {w : World} {k : ByteArray} {t : ByteArray} {b : Bool} (h : Cach q m g F most now N c f l w) (hN : N < 90000) (hx : f k = none) (hks : k.size ≤ 1000000) (hg : kvGet l k = (t, b)) (hg2 : b = false → t = ⟨#[]⟩) (hpos : 0 < most) :
    Calls Try.prog 44 #[.pointer (some ⟨q, 0, none⟩), .string k] w fun e w' => e = .returned (.tuple #[entV ⟨t, b, false, 0⟩, .int .i64 0]) ∧ ∃ f' l' c', Cach q m g F most (now + 1) (N + 3) c' f' l' w' ∧ (∀ k', eff f' l' k' = eff f l k') ∧ Kept (fun b => F b ∨ b = q ∨ b = m) w w' := by
  obtain ⟨r, hr, hcell, hR⟩ := h.read
  obtain ⟨r', p, _, _, hb⟩ := h.blk
  have hk64 : CK.good k := Nat.le_trans hks (by decide)
  have c2 : ∀ o, (w.alloc o).cell? ⟨q, 2, none⟩ = some (.map (some m)) := fun o => (cell_at (blk_alloc hb o) 2).trans rfl
  have c4 : ∀ o o', ((w.alloc o).alloc o').cell? ⟨q, 4, none⟩ = some (.int .i64 r) := fun o o' => by
    have e := (cell_at hb 4).symm.trans hcell
    exact (cell_at (blk_alloc (blk_alloc hb o) o') 4).trans e
  have f4 : ∀ o o', ((w.alloc o).alloc o').frozen? ⟨q, 4, none⟩ = false := fun o o' => frozen_at (blk_alloc (blk_alloc hb o) o') 4
  have c0 : ∀ o o', (((w.setCell ⟨q, 4, none⟩ (.int .i64 ((r : Int) + 1))).alloc o).alloc o').cell? ⟨q, 0, none⟩ = some (.iface 23 (.pointer (some ⟨g, 0, none⟩))) := fun o o' => by
    obtain ⟨r2, p2, _, _, hb2⟩ := hR.blk
    exact (cell_at (blk_alloc (blk_alloc hb2 o) o') 0).trans rfl
  have hlk : ∀ o, (Instr.lookup 86 (.map (some m)) (.string k) true).run Try.prog (w.alloc o) = .ok (.tuple #[entV ⟨⟨#[]⟩, false, false, 0⟩, .bool false]) (w.alloc o) := fun o => by
    have := (h.map.new ((Kept.refl _ _).alloc o)).look2 (x := k) hk64
    rw [hx] at this
    exact this
  have hqs := blk_lt hb
  have hq1 : ¬ q = w.heap.size := by omega
  have hq2 : ¬ w.heap.size = q := by omega
  have hq3 : ¬ q = w.heap.size + 1 := by omega
  have hq4 : ¬ w.heap.size + 1 = q := by omega
  have s1 : IntKind.i64.wrap ((r : Int) + 1) = (r : Int) + 1 := by rw [IntKind.wrap_i64]; omega
  have s2 : wrap64 ((r : Int) + 1) = (r : Int) + 1 := by unfold wrap64; omega
  have hls : l.length < 1000000 := by have := h.len; omega
  have HG : Hid (∀ o o', Calls Try.prog 48 #[.pointer (some ⟨g, 0, none⟩), .string k] (((w.setCell ⟨q, 4, none⟩ (.int .i64 ((r : Int) + 1))).alloc o).alloc o') fun e w' => e = .returned (.tuple #[.string t, .bool b, .int .i64 0]) ∧ ((w.setCell ⟨q, 4, none⟩ (.int .i64 ((r : Int) + 1))).alloc o).alloc o' = w') := hid (fun o o' => (hR.kv.new (((Kept.refl (fun _ => False) _).alloc o).alloc o')).get k hls hg)
  have HL := hid (Lk.mk' (w := w) ⟨⟨#[]⟩, false, false, 0⟩ ⟨t, b, false, 0⟩ hR (by simp [World.setCell]) ((kept_set w ⟨q, 4, none⟩ _).mono fun _ _ e => .inr (.inl e)))
  have HH := hid (cache_hold (k := k) (x := ⟨t, b, false, 0⟩) (HL.out.ca.new (Kept.refl _ _).drew) (by omega) hks (fun _ => hg) hg2 hpos)
  have e0 : entV ⟨t, b, false, 0⟩ = .agg #[.string t, .bool b, .bool false, .int .u64 0] := rfl
  rw [e0] at HH
  have H := hid h
  have HX := hid hx
  have HGG := hid hg
  have hm1 := is_get
  have hm2 := nil_get
  obtain ⟨text, ht0⟩ : ∃ x, x = t := ⟨_, rfl⟩
  obtain ⟨is, hi0⟩ : ∃ x, x = b := ⟨_, rfl⟩
  subst ht0 hi0
  clear h hb hx hR hcell hg hg2
  go_enter Try.func44, Try.ntmps44
  go_wp2_with (first | (go_at_call 48; (with_reducible refine (HG.out _ _).mono ?_); rintro e w1 ⟨rfl, rfl⟩))
  generalize hW : ((w.setCell ⟨q, 4, none⟩ (.int .i64 ((r : Int) + 1))).alloc (.cells #[.string ⟨#[]⟩, .bool false, .bool false, .int .u64 0] 92)).alloc (.cells #[.string text, .bool is, .bool false, .int .u64 0] 92) = W at *
  obtain ⟨c1, -, -, -⟩ := HL.out.cells
  go_region_held3 (fun w' => w'.cell? ⟨w.heap.size + 1, 0, none⟩ = some (.string text) ∧ w'.cell? ⟨w.heap.size + 1, 1, none⟩ = some (.bool is) ∧ w'.cell? ⟨w.heap.size + 1, 2, none⟩ = some (.bool false) ∧ w'.cell? ⟨w.heap.size + 1, 3, none⟩ = some (.int .u64 0)) (first | exact c1 | exact e1 | exact Four.keep (by simp) (Four.keep (by simp) (Four.keep (by simp) (Four.keep (y := ⟨text, is, false, 0⟩) (by simp) e1)))) (first | (go_at_call 45; (with_reducible refine HH.out.mono ?_); rintro e w3 ⟨rfl, f', l', c', hC, hE, hK⟩; have HL3 := hid (HL.out.step hC (kept_drew hK)); have HE := hid hE; obtain ⟨e1, ⟨b0, b1, b2, b3⟩, fz, -⟩ := HL3.out.cells; clear hC hK hE))
  go_wp2
  have HD := hid (HL3.out.done H.out.nq H.out.nm)
  simp only [laid] at HD
  generalize hW4 : (((w3.setCell ⟨w.heap.size, 0, none⟩ (.string text)).setCell ⟨w.heap.size, 1, none⟩ (.bool is)).setCell ⟨w.heap.size, 2, none⟩ (.bool false)).setCell ⟨w.heap.size, 3, none⟩ (.int .u64 0) = W4 at *
  have r0 : W4.cell? ⟨w.heap.size, 0, none⟩ = some (.string text) := (cell_at HD.out.2.2 0).trans rfl
  have r1 : W4.cell? ⟨w.heap.size, 1, none⟩ = some (.bool is) := (cell_at HD.out.2.2 1).trans rfl
  have r2 : W4.cell? ⟨w.heap.size, 2, none⟩ = some (.bool false) := (cell_at HD.out.2.2 2).trans rfl
  have r3 : W4.cell? ⟨w.heap.size, 3, none⟩ = some (.int .u64 0) := (cell_at HD.out.2.2 3).trans rfl
  refine bodyPost_ret (v := .tuple #[entV ⟨text, is, false, 0⟩, .int .i64 0]) (by simp [results, Try.results44, go_sem, r0, r1, r2, r3]) rfl ⟨rfl, f', l', c', HD.out.1, fun k' => ?_, HD.out.2.1⟩
  rw [HE.out]
  split
  · rename_i e
    subst e
    unfold eff
    rw [HX.out]
    exact HGG.out.symm
  · rfl
end Go.Proofs.Ytmlnjheiogmlaaa
