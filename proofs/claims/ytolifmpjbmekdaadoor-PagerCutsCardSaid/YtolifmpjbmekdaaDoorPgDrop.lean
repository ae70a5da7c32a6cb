/-
The pager's Drop; conditions: the pager lies in memory as told.
-/
import Derived.Test.YtolifmpjbmekdaaDoorPgUndo
namespace Go.Proofs.YtolifmpjbmekdaaDoor
open Go.RowKit
open Go.Lib (hid)
variable {F : Nat → Prop} {p q pk bk pu bu mf mc : Nat} {v : Value} {S : PS} {D : DS} {w : World}
theorem drop_none (n : Int) (w : World) : Calls Tryd.prog 16 #[.pointer none, .int .i64 n] w fun e w' => e = .returned (.tuple #[]) ∧ w = w' := by
  go_enter Tryd.func16, Tryd.ntmps16
  go_wp2
  exact bodyPost_ret (v := .tuple #[]) (by simp [results, Tryd.results16, go_sem]) rfl ⟨rfl, rfl⟩
set_option maxHeartbeats 1600000 in
set_option maxRecDepth 100000 in
theorem drop_fresh (h : PgrAt F p q pk bk pu bu mf mc v S D w) {n : Nat} (h2 : 2 ≤ n) (hn : n < S.many) (hu : S.U n = true) {x : Pg} (hx : S.fresh n = some x) : Calls Tryd.prog 16 #[ptr p, .int .i64 n] w fun e w' => e = .returned (.tuple #[]) ∧ PgrAt F p q pk bk pu bu mf mc v { S with U := setU S.U n false, fresh := updF S.fresh n none } D w' ∧ Kept (fun b => b = bu ∨ b = mf) w w' := by
  have hmn : n < 1000000 := Nat.lt_of_lt_of_le hn (Nat.le_trans h.keptS.few (by decide))
  have c4 : w.cell? ⟨p, 4, none⟩ = some (ptr pu) := (h.cells 4).1
  have c5 : w.cell? ⟨p, 5, none⟩ = some (.map (some mf)) := (h.cells 5).1
  have hl := h.fresh.look2 hmn
  rw [hx] at hl
  change (Instr.lookup 81 (.map (some mf)) (.int .i64 n) true).run Tryd.prog w = Result.ok (.tuple #[pgV x, .bool true]) w at hl
  have HU := hid (used_in h.usedS hn)
  rw [hu] at HU
  have HM := hid (many_calls h.usedS)
  have b1 : decide ((n : Int) < 2) = false := decide_eq_false (by omega)
  have b2 : decide ((S.many : Int) ≤ n) = false := decide_eq_false (by omega)
  have b3 : decide (S.many ≤ n) = false := decide_eq_false (by omega)
  have d5 : ∀ o, (w.alloc o).cell? ⟨p, 5, none⟩ = some (.map (some mf)) := fun o => ((h.new ((Kept.refl _ _).alloc o)).cells 5).1
  have hlt := blk_lt h.blk
  have hne : p ≠ w.heap.size := by omega
  have H := hid h
  have HFr := hid (fun (W : World) (hW : Spc pu bu S.many S.U W) => free_yes hW hn hu)
  have HN := hid hn
  obtain ⟨c, hc1, hc2⟩ := (h.new ((Kept.refl _ _).alloc (.cells #[.int .i64 x.kind, .int .i64 x.num, .int .u64 x.gen, .string x.data] 48))).fresh
  have hst := hid hc1
  clear h hx hu hn hc1
  obtain ⟨k1, k2, k3, k4⟩ := x
  go_enter Tryd.func16, Tryd.ntmps16
  go_wp2_with (first
    | (go_at_call 41; (with_reducible refine HU.out.mono ?_); rintro e w1 ⟨rfl, rfl⟩)
    | (go_at_call 42; (with_reducible refine HM.out.mono ?_); rintro e w1 ⟨rfl, rfl⟩)
    | (at_delete; refine wpList_mapF_drop (B := PK) _ rfl (.tmp 43) (.tmp 44) rfl hst.out rfl (n : Int) (wf_nat hmn) rfl ?_; intro w4 hm3 hk3 hs3; have HM4 := hid (Pages.put hm3 H.out.fresh.low HN.out); have HK4 := hid hk3; have X4 := hid ((H.out.new ((Kept.refl _ _).alloc _)).setFresh HM4.out HK4.out); have d4 : w4.cell? ⟨p, 4, none⟩ = some (ptr pu) := (X4.out.cells 4).1; clear hm3 hk3)
    | (go_at_call 40; (with_reducible refine (HFr.out _ X4.out.usedS).mono ?_); rintro e w5 ⟨rfl, x1, x2⟩; have X5 := hid (X4.out.setU x1 x2); have K5 := hid x2; clear x1 x2))
  exact bodyPost_ret (v := .tuple #[]) (by simp [results, Tryd.results16, go_sem]) rfl ⟨rfl, X5.out, (((Kept.refl _ _).alloc _).trans (HK4.out.mono fun _ _ e => .inr e)).trans (K5.out.mono fun _ _ e => .inl e)⟩
/-- What is owned is a row of integers. -/
theorem ints_at {l : List Nat} {W : World} (h : W.ownsRow 0 3 1 v l.length (ints l)) (hl : l.length ≤ 1000000) : IntsAt (fun b => v.ownBlock = some b) v (l.map fun n : Nat => (n : Int)) W := by
  obtain ⟨A, cap, e, h1, h2, h3⟩ := owns_cells h
  refine ⟨A, cap, by rw [List.length_map]; exact e, by rw [List.length_map]; omega, fun hA => ?_, fun hne => ?_⟩
  · rcases h.2 with ⟨e2, _⟩ | ⟨g, cap', cur, e2, _⟩
    · have := e.symm.trans e2
      simp at this
      exact this.2.2
    · have := e.symm.trans e2
      rw [hA] at this
      simp at this
  · have : 0 < l.length := by
      cases l with
      | nil => exact absurd rfl hne
      | cons _ _ => simp
    obtain ⟨b, e1, e2, e3, e4⟩ := h3 this
    refine ⟨b, 0, e1, e2, e3, fun i x hx => ?_⟩
    rw [Nat.zero_add]
    refine (e4 i (.int .i64 x) ?_).1
    simp at hx ⊢
    obtain ⟨a, ha, rfl⟩ := hx
    exact ⟨a, ha, rfl⟩
theorem Disk.less2 {G K : Nat → Prop} {w' : World} (h : Disk q D F w) (hk : Kept K w w') (hK : ∀ b, b < w.heap.size → F b → ¬ K b) (hG : ∀ b, G b → w.heap.size ≤ b ∧ b < w'.heap.size) : Disk q D (fun b => F b ∧ ¬ G b) w' := by
  obtain ⟨S, bd, bt, vw, vc, h1, h2, h3, h4, h5, h6, h7⟩ := h
  have hl := h1.lt
  have old : ∀ b, b < w.heap.size → ¬ G b := fun b hb hg => by have := (hG b hg).1; omega
  have h1' : DiskAt (fun b => S b ∧ b < w.heap.size) q bd bt vw vc D w := ⟨h1.blk, h1.data, h1.torn, h1.wait, h1.cuts.mono fun b hb hs => ⟨hs, hb⟩, h1.ok, h1.few, h1.ne1, h1.ne2, h1.ne3, h1.nw, fun b hb => h1.ns b hb.1⟩
  exact ⟨_, bd, bt, vw, vc, h1'.kept hk (hK _ hl.1 h3) (hK _ hl.2.1 h4) (hK _ hl.2.2 h5) (fun b hb => hK b (own_lt h1.wait hb) (h6 b hb)) (fun b hb hs => hK b hb (h2 b hs.1)), fun b hb => ⟨h2 b hb.1, old b hb.2⟩, ⟨h3, old _ hl.1⟩, ⟨h4, old _ hl.2.1⟩, ⟨h5, old _ hl.2.2⟩, fun b hb => ⟨h6 b hb, old b (own_lt h1.wait hb)⟩, fun b hb => ⟨h7 b (Nat.le_trans hk.size hb), fun hg => by have := (hG b hg).2; omega⟩⟩
/-- Something is let go: the row is another one. -/
theorem PgrAt.pushed (h : PgrAt F p q pk bk pu bu mf mc v S D w) {w5 : World} {g cap n : Nat} (hk : Kept (fun b => v.ownBlock = some b) w w5) (ho : w5.ownsRow 0 3 1 (.slice (some ⟨g, 0, none⟩) (S.free.length + 1) cap) (S.free.length + 1) (ints S.free ++ [.int .i64 (n : Int)])) (hat : v.ownBlock = some g ∨ w.heap.size ≤ g) (hg : g < w5.heap.size) (hl : S.free.length + 1 ≤ 1000000) :
    PgrAt (fun b => F b ∧ ¬ (w.heap.size ≤ b ∧ b < w5.heap.size)) p q pk bk pu bu mf mc (.slice (some ⟨g, 0, none⟩) (S.free.length + 1) cap) { S with free := S.free ++ [n] } D (w5.setCell ⟨p, 7, none⟩ (.slice (some ⟨g, 0, none⟩) (S.free.length + 1) cap)) := by
  obtain ⟨a, b, c, d, e⟩ := h.apart
  have hlp := blk_lt h.blk
  have nv : ∀ b, F b → ¬ v.ownBlock = some b := fun b hb e => h.nv b e hb
  have hgp : g ≠ p := by
    rcases hat with e1 | e1
    · exact (e g e1).1
    · omega
  have l1 := h.keptS.lt
  have l2 := h.usedS.lt
  have l3 := h.fresh.lt
  have l4 := h.clean.lt
  have k2 : Kept (fun b => b = p) w5 (w5.setCell ⟨p, 7, none⟩ (.slice (some ⟨g, 0, none⟩) (S.free.length + 1) cap)) := keptc w5 7 _
  have hb : (w5.setCell ⟨p, 7, none⟩ (.slice (some ⟨g, 0, none⟩) (S.free.length + 1) cap)).heap[p]? = some (.cells (pagerV q pk pu mf mc (.slice (some ⟨g, 0, none⟩) (S.free.length + 1) cap) { S with free := S.free ++ [n] }) 83 (0, 0)) :=
    (heap_setCell_same (hk.at h.blk fun e1 => (e p e1).1 rfl)).trans (by simp)
  have hd := h.disk.less2 (G := fun b => w.heap.size ≤ b ∧ b < w5.heap.size) hk (fun b _ hb => nv b hb) (fun b (hb : w.heap.size ≤ b ∧ b < w5.heap.size) => hb)
  have o5 : (w5.setCell ⟨p, 7, none⟩ (.slice (some ⟨g, 0, none⟩) (S.free.length + 1) cap)).ownsRow 0 3 1 (.slice (some ⟨g, 0, none⟩) (S.free.length + 1) cap) (S.free.length + 1) (ints S.free ++ [.int .i64 (n : Int)]) := owns_kept k2 ho fun b hb => by
    have : g = b := by simpa [Value.ownBlock] using hb
    omega
  have sK := (h.keptS.kept hk (fun e1 => (e pk e1).2.1 rfl) (fun e1 => (e bk e1).2.2.1 rfl)).kept k2 (fun e1 => a.1 e1.symm) (fun e1 => a.2.1 e1.symm)
  have sU := (h.usedS.kept hk (fun e1 => (e pu e1).2.2.2.1 rfl) (fun e1 => (e bu e1).2.2.2.2.1 rfl)).kept k2 (fun e1 => a.2.2.1 e1.symm) (fun e1 => a.2.2.2.1 e1.symm)
  have sF := (h.fresh.kept hk (fun e1 => (e mf e1).2.2.2.2.2.1 rfl)).kept k2 (fun e1 => a.2.2.2.2.1 e1.symm)
  have sC := (h.clean.kept hk (fun e1 => (e mc e1).2.2.2.2.2.2 rfl)).kept k2 (fun e1 => a.2.2.2.2.2 e1.symm)
  refine ⟨hb, hd.kept k2 (fun x _ hx e1 => h.np (by have e1 : x = p := e1; rw [← e1]; exact hx.1)), sK, sU, sF, sC, by simpa [ints] using o5, h.ng, by simpa using hl, h.same, h.ne1, h.ne2, h.ne3, fun e => h.np e.1, fun e => h.npk e.1, fun e => h.nbk e.1, fun e => h.npu e.1, fun e => h.nbu e.1, fun e => h.nmf e.1, fun e => h.nmc e.1, fun x hx => ?_⟩
  have e1 : g = x := by simpa [Value.ownBlock] using hx
  subst e1
  rcases hat with e2 | e2
  · exact fun e3 => h.nv g e2 e3.1
  · exact fun e3 => e3.2 ⟨e2, hg⟩
theorem info_ints : (Tryd.prog.info? 3).map (fun i => (i.zero, i.size, i.bytes)) = some (some (.int .i64 0), 1, 8) := by kernel_rfl
set_option maxHeartbeats 1600000 in
set_option maxRecDepth 100000 in
theorem drop_kept (h : PgrAt F p q pk bk pu bu mf mc v S D w) {n : Nat} (h2 : 2 ≤ n) (hn : n < S.many) (hu : S.U n = true) (hk : S.K n = true) (hx : S.fresh n = none) (hf : n ∉ S.free) (hl2 : S.free.length + 1 ≤ 1000000) : Calls Tryd.prog 16 #[ptr p, .int .i64 n] w fun e w' => e = .returned (.tuple #[]) ∧ (∃ F' v', PgrAt F' p q pk bk pu bu mf mc v' { S with free := S.free ++ [n] } D w' ∧ (∀ b, F' b → F b) ∧ ∀ b, v'.ownBlock = some b → v.ownBlock = some b ∨ w.heap.size ≤ b) ∧ Kept (fun b => b = p ∨ v.ownBlock = some b) w w' := by
  have hmn : n < 1000000 := Nat.lt_of_lt_of_le hn (Nat.le_trans h.keptS.few (by decide))
  have c3 : w.cell? ⟨p, 3, none⟩ = some (ptr pk) := (h.cells 3).1
  have c4 : w.cell? ⟨p, 4, none⟩ = some (ptr pu) := (h.cells 4).1
  have c5 : w.cell? ⟨p, 5, none⟩ = some (.map (some mf)) := (h.cells 5).1
  have hl := h.fresh.look2 hmn
  rw [hx] at hl
  change (Instr.lookup 81 (.map (some mf)) (.int .i64 n) true).run Tryd.prog w = Result.ok (.tuple #[pageV 0 0 0 ⟨#[]⟩, .bool false]) w at hl
  have HU := hid (used_in h.usedS hn)
  rw [hu] at HU
  have hnew : New w (w.alloc zpg) := (Kept.refl _ _).alloc zpg
  have h1 := h.new hnew
  have HK := hid (used_in h1.keptS hn)
  rw [hk] at HK
  have HC := hid (contains_calls (ints_at h1.free h1.nf) (n : Int))
  have hmem : decide ((n : Int) ∈ S.free.map fun n : Nat => (n : Int)) = false := decide_eq_false fun e => by
    simp at e
    obtain ⟨a, ha, e⟩ := e
    exact hf ((by omega : a = n) ▸ ha)
  rw [hmem] at HC
  have HM := hid (many_calls h.usedS)
  have b1 : decide ((n : Int) < 2) = false := decide_eq_false (by omega)
  have b2 : decide ((S.many : Int) ≤ n) = false := decide_eq_false (by omega)
  have b3 : decide (S.many ≤ n) = false := decide_eq_false (by omega)
  have d2 : (w.alloc zpg).cell? ⟨p, 3, none⟩ = some (ptr pk) := (h1.cells 3).1
  have d7 : (w.alloc zpg).cell? ⟨p, 7, none⟩ = some v := (h1.cells 7).1
  have e7 : (w.alloc zpg).frozen? ⟨p, 7, none⟩ = false := (h1.cells 7).2
  have hlt := blk_lt h.blk
  have hne : p ≠ w.heap.size := by omega
  have H := hid h1
  have HN := hid hnew
  have HO := hid h1.free
  have hnf := h1.nf
  obtain ⟨i0, hi0, hz0, hz1, hz2⟩ := info_parts info_ints
  clear h hx hu hk hn hnew h1 hmem hf
  go_enter Tryd.func16, Tryd.ntmps16
  go_wp2_with (first
    | (go_at_call 41; (with_reducible refine HU.out.mono ?_); rintro e w1 ⟨rfl, rfl⟩)
    | (go_at_call 41; (with_reducible refine HK.out.mono ?_); rintro e w1 ⟨rfl, rfl⟩)
    | (go_at_call 43; (with_reducible refine HC.out.mono ?_); rintro e w1 ⟨rfl, rfl⟩)
    | (go_at_call 42; (with_reducible refine HM.out.mono ?_); rintro e w1 ⟨rfl, rfl⟩)
    | (at_builtin; refine wpList_append_lies _ rfl (.tmp 70) (.tmp 72) 22 rfl 0 3 i0 (.int .i64 0) 1 8 Tryd.underlying22 hi0 hz0 hz1 hz2 rfl (by decide) v S.free.length (ints S.free) rfl (World.ownsRow.alloc HO.out _) ⟨w.heap.size + 1, 0, none⟩ 1 1 [.int .i64 (n : Int)] rfl rfl (World.news_of_block (blk_at _ _ (by simp))) (by intro u hu; simp at hu; subst hu; rfl) (by decide) (by unfold maxLen; omega) (by omega) (Nat.zero_le _) _ rfl ?_; intro g1 cap1 w5 hown hgrow hat hlt5; have HW := hid hown; have HG := hid hgrow; have HA := hid hat; have HL := hid hlt5; clear hown hgrow hat hlt5; have B5 := hid (((Kept.refl (fun b => v.ownBlock = some b) _).grown HG.out fun k e => .inl e).at (blk_alloc H.out.blk _) (fun e1 => (H.out.apart.2.2.2.2 p e1).1 rfl)); have f7 : w5.cell? ⟨p, 7, none⟩ = some v := cell_at B5.out 7; have g7 : w5.frozen? ⟨p, 7, none⟩ = false := frozen_at B5.out 7))
  have hK : Kept (fun b => v.ownBlock = some b) (w.alloc zpg) w5 := ((Kept.refl (fun b => v.ownBlock = some b) _).alloc _).grown HG.out fun k e => .inl e
  have P := H.out.pushed (n := n) hK HW.out (HA.out.imp id fun e => by rw [e]; simp) HL.out (by omega)
  have e1 : (w.alloc zpg).heap.size = w.heap.size + 1 := by simp
  go_end0
  refine ⟨rfl, ⟨_, _, P, fun _ e => e.1, fun b hb => ?_⟩, (HN.out.mono fun _ _ e => e.elim).trans ((hK.mono fun _ _ e => .inr e).trans ((keptc w5 7 _).mono fun _ _ e => .inl e))⟩
  have e2 : g1 = b := by simpa [Value.ownBlock] using hb
  subst e2
  exact HA.out.imp id fun e => by rw [e]; simp; omega
end Go.Proofs.YtolifmpjbmekdaaDoor
