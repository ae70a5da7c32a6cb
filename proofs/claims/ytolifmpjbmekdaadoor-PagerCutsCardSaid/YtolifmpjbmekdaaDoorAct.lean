/-
An act of a disk: it is counted, and the power may fail in it; conditions: the disk lies in memory as told.
-/
import Derived.Test.YtolifmpjbmekdaaDoorDisk
import Derived.Outline
import Derived.Deep.QuietTactic
import Derived.BigQuiet
namespace Go.Proofs.YtolifmpjbmekdaaDoor
open Go.RowKit Go.Lib
theorem settle_same (D : DS) (x : Nat × ByteArray) (f : Nat) : (D.settle x f).n = D.n ∧ (D.settle x f).wait = D.wait ∧ (D.settle x f).cuts = D.cuts ∧ (D.settle x f).acts = D.acts ∧ (D.settle x f).all = D.all ∧ (D.settle x f).fails = D.fails ∧ (D.settle x f).dead = D.dead := by
  unfold DS.settle
  split
  · exact ⟨rfl, rfl, rfl, rfl, rfl, rfl, rfl⟩
  · split <;> exact ⟨rfl, rfl, rfl, rfl, rfl, rfl, rfl⟩
theorem settles_same : ∀ (l : List (Nat × ByteArray)) (D : DS) (f : List Int) (i : Nat), (D.settles f i l).n = D.n ∧ (D.settles f i l).wait = D.wait ∧ (D.settles f i l).cuts = D.cuts ∧ (D.settles f i l).acts = D.acts ∧ (D.settles f i l).all = D.all ∧ (D.settles f i l).fails = D.fails ∧ (D.settles f i l).dead = D.dead
  | [], _, _, _ => ⟨rfl, rfl, rfl, rfl, rfl, rfl, rfl⟩
  | x :: l, D, f, i => by
    have h1 := settle_same D x (fateOf f i)
    have h2 := settles_same l (D.settle x (fateOf f i)) f (i + 1)
    refine ⟨h2.1.trans h1.1, h2.2.1.trans h1.2.1, h2.2.2.1.trans h1.2.2.1, h2.2.2.2.1.trans h1.2.2.2.1, h2.2.2.2.2.1.trans h1.2.2.2.2.1, h2.2.2.2.2.2.1.trans h1.2.2.2.2.2.1, h2.2.2.2.2.2.2.trans h1.2.2.2.2.2.2⟩
theorem settles_snoc : ∀ (l : List (Nat × ByteArray)) (D : DS) (f : List Int) (i : Nat) (x : Nat × ByteArray), D.settles f i (l ++ [x]) = (D.settles f i l).settle x (fateOf f (i + l.length))
  | [], D, f, i, x => rfl
  | y :: l, D, f, i, x => by
    show (D.settle y (fateOf f i)).settles f (i + 1) (l ++ [x]) = _
    rw [settles_snoc l]
    show _ = ((D.settle y (fateOf f i)).settles f (i + 1) l).settle x (fateOf f (i + (l.length + 1)))
    rw [show i + 1 + l.length = i + (l.length + 1) by omega]
theorem settles_step {l : List (Nat × ByteArray)} {i : Nat} (h : i < l.length) (D : DS) (f : List Int) : D.settles f 0 (l.take (i + 1)) = (D.settles f 0 (l.take i)).settle l[i] (fateOf f i) := by
  rw [List.take_succ_eq_append_getElem h, settles_snoc]
  simp [Nat.min_eq_left (Nat.le_of_lt h)]
/-- The cells of a write that waits. -/
theorem DiskAt.waits {S : Nat → Prop} {q bd bt : Nat} {vw vc : Value} {D : DS} {w : World} (h : DiskAt S q bd bt vw vc D w) : ∃ A cap, vw = .slice A D.wait.length cap ∧ D.wait.length ≤ maxLen ∧ (D.wait ≠ [] → ∃ b, A = some ⟨b, 0, none⟩ ∧ b ≠ q ∧ b ≠ bd ∧ b ≠ bt ∧ b < w.heap.size ∧ ∀ (i : Nat) (x : Nat × ByteArray), D.wait[i]? = some x → w.cell? ⟨b, i * 2, none⟩ = some (.int .i64 (x.1 : Int)) ∧ w.cell? ⟨b, i * 2 + 1, none⟩ = some (.string x.2)) := by
  have hl := h.wait.2
  have hn := h.nw
  rcases hl with ⟨e, h0⟩ | ⟨g, cap, cur, e, hb, hg, h1, h2, h3, h4⟩
  · have : D.wait = [] := by
      have := wcells_length D.wait
      rw [h0] at this
      simp at this
      exact List.length_eq_zero_iff.1 (by omega)
    exact ⟨none, 0, by rw [e, this]; rfl, by rw [this]; exact Nat.zero_le _, fun hne => absurd this hne⟩
  · refine ⟨_, cap, e, Nat.le_trans h1 h2, fun _ => ⟨g, rfl, (hn g (by rw [e]; rfl)).1, (hn g (by rw [e]; rfl)).2.1, (hn g (by rw [e]; rfl)).2.2, blk_lt hg, fun i x hx => ?_⟩⟩
    have hi : i < D.wait.length := (List.getElem?_eq_some_iff.1 hx).1
    obtain ⟨w1, w2⟩ := wcells_at D.wait i x hx
    rw [← h4, List.getElem?_take, if_pos (by omega)] at w1
    rw [← h4, List.getElem?_take, if_pos (by omega)] at w2
    exact ⟨(cell_at hg _).trans (by simpa using w1), (cell_at hg _).trans (by simpa using w2)⟩
theorem DiskAt.waitAt {S : Nat → Prop} {q bd bt : Nat} {A : Option Addr} {n cap : Nat} {vc : Value} {D : DS} {w : World} (h : DiskAt S q bd bt (.slice A n cap) vc D w) {i : Nat} {x : Nat × ByteArray} (hx : D.wait[i]? = some x) :
    ∃ b, A = some ⟨b, 0, none⟩ ∧ n = D.wait.length ∧ b < w.heap.size ∧ w.cell? ⟨b, i * 2, none⟩ = some (.int .i64 (x.1 : Int)) ∧ w.cell? ⟨b, i * 2 + 1, none⟩ = some (.string x.2) ∧ x.1 < D.n := by
  obtain ⟨A', cap', e, -, hc⟩ := h.waits
  cases e
  obtain ⟨b, rfl, -, -, -, hb, hcc⟩ := hc (by rintro e; rw [e] at hx; simp at hx)
  exact ⟨b, rfl, rfl, hb, (hcc i x hx).1, (hcc i x hx).2, h.ok x (List.mem_of_getElem? hx)⟩
/-- What an act leaves. -/
def Acted (S : Nat → Prop) (q bd bt : Nat) (vw : Value) (D : DS) (w w' : World) : Prop := ∃ vw' vc', DiskAt S q bd bt vw' vc' D w' ∧ (vw' = vw ∨ vw' = .slice none 0 0) ∧ Kept (fun b => b = q ∨ b = bd ∨ b = bt) w w'
theorem DiskAt.tick {S : Nat → Prop} {q bd bt : Nat} {vw vc : Value} {D : DS} {w : World} (h : DiskAt S q bd bt vw vc D w) : DiskAt S q bd bt vw vc D.tick ((w.setCell ⟨q, 5, none⟩ (.int .i64 (wrap64 (D.all + 1)))).setCell ⟨q, 4, none⟩ (.int .i64 (wrap64 (D.acts + 1)))) := by
  have hk : Kept (fun b => b = q) w ((w.setCell ⟨q, 5, none⟩ (.int .i64 (wrap64 (D.all + 1)))).setCell ⟨q, 4, none⟩ (.int .i64 (wrap64 (D.acts + 1)))) := (keptq w 5 _).trans (keptq _ 4 _)
  refine h.field (D' := D.tick) hk ((heap_setCell_same (heap_setCell_same h.blk)).trans (by simp [DS.tick])) rfl rfl rfl (owns_kept hk h.wait fun b hb => (h.nw b hb).1) (fun _ => id) (fun _ => id) (h.cuts.kept hk fun b _ hb => (h.ns b hb).1)
theorem Kept.drewN {F : Nat → Prop} {a b : World} (h : Kept F a b) {n : Nat} : Kept F a (b.drewN n) := ⟨h.os, h.tape, h.output, h.size, h.block⟩
set_option maxRecDepth 100000 in
theorem act_none {S : Nat → Prop} {q bd bt : Nat} {vw vc : Value} {D : DS} {w : World} (h : DiskAt S q bd bt vw vc D w) (hc : D.cuts = []) :
    Calls Tryd.prog 47 #[.pointer (some ⟨q, 0, none⟩)] w fun e w' => e = .returned (.bool false) ∧ Acted S q bd bt vw D.tick w w' := by
  obtain ⟨A, cap, rfl, -⟩ := h.cuts
  rw [hc] at h
  have c5 : w.cell? ⟨q, 5, none⟩ = some (.int .i64 D.all) := h.cell 5
  have f5 := frozen_at h.blk 5
  have f4 := frozen_at h.blk 4
  have ht := h.tick
  have d4 : ∀ u, (w.setCell ⟨q, 5, none⟩ u).cell? ⟨q, 4, none⟩ = some (.int .i64 D.acts) := fun u => (cell_at (heap_setCell_same h.blk) 4).trans (by simp)
  have e3 := ht.cell 3
  simp only [List.getElem?_toArray, List.getElem?_cons_succ, List.getElem?_cons_zero, List.length_nil] at e3
  have H := hid ht
  clear h ht
  go_enter Tryd.func47, Tryd.ntmps47
  go_wp2
  go_quiet (fail)
  go_wp2
  go_ret
  exact ⟨rfl, vw, _, H.out.new (Kept.refl _ _).drewN, .inl rfl, (((Kept.refl _ _).setCell (.inl (.inl rfl)) _).setCell (.inl (.inl rfl)) _).drewN⟩
theorem CutsAt.head {S : Nat → Prop} {v : Value} {c : Int × List Int} {r : List (Int × List Int)} {w : World} (h : CutsAt S v (c :: r) w) : ∃ b off cap, v = .slice (some ⟨b, off, none⟩) (r.length + 1) cap ∧ S b ∧ b < w.heap.size ∧ r.length + 1 ≤ cap ∧ cap ≤ maxLen ∧ ∃ u, IntsAt S u c.2 w ∧ (∀ w' : World, w'.heap[b]? = w.heap[b]? → w'.cell? ⟨b, off, none⟩ = some (.int .i64 c.1) ∧ w'.cell? ⟨b, off + 1, none⟩ = some u) ∧ CutsAt S (.slice (some ⟨b, off + 2, none⟩) r.length (cap - 1)) r w := by
  obtain ⟨A, cap, rfl, h1, h2, h3⟩ := h
  obtain ⟨b, off, rfl, hS, hb, hc⟩ := h3 (by simp)
  obtain ⟨c1, u, c2, hu⟩ := hc 0 c rfl
  refine ⟨b, off, cap, rfl, hS, hb, by simpa using h1, h2, u, hu, fun w' hw => ?_, ⟨_, _, rfl, by simp at h1; omega, by omega, fun _ => ⟨b, off + 2, rfl, hS, hb, fun i c' hi => ?_⟩⟩⟩
  · rw [World.cell?_of_block (w := w) (a := ⟨b, off, none⟩) hw, World.cell?_of_block (w := w) (a := ⟨b, off + 1, none⟩) hw]
    exact ⟨by simpa using c1, by simpa using c2⟩
  · have := hc (i + 1) c' (by simpa using hi)
    rw [show off + (i + 1) * 2 = off + 2 + i * 2 by omega] at this
    exact this
set_option maxRecDepth 100000 in
theorem act_some {S : Nat → Prop} {q bd bt : Nat} {vw vc : Value} {D : DS} {w : World} (h : DiskAt S q bd bt vw vc D w) {c : Int × List Int} {r : List (Int × List Int)} (hc : D.cuts = c :: r) (hle : D.tick.acts ≤ (if c.1 < 0 then 0 else c.1)) :
    Calls Tryd.prog 47 #[.pointer (some ⟨q, 0, none⟩)] w fun e w' => e = .returned (.bool false) ∧ Acted S q bd bt vw D.tick w w' := by
  have hcu := h.cuts
  rw [hc] at hcu
  obtain ⟨b, off, cap, rfl, hS, hbl, h1, h2, u, -, hcell, -⟩ := hcu.head
  have hbn := h.ns b hS
  have c5 : w.cell? ⟨q, 5, none⟩ = some (.int .i64 D.all) := h.cell 5
  have f5 := frozen_at h.blk 5
  have f4 := frozen_at h.blk 4
  have ht := h.tick
  have d4 : ∀ u, (w.setCell ⟨q, 5, none⟩ u).cell? ⟨q, 4, none⟩ = some (.int .i64 D.acts) := fun u => (cell_at (heap_setCell_same h.blk) 4).trans (by simp)
  have e3 := ht.cell 3
  have e4 := ht.cell 4
  have e6 := (hcell ((w.setCell ⟨q, 5, none⟩ (.int .i64 (wrap64 (D.all + 1)))).setCell ⟨q, 4, none⟩ (.int .i64 (wrap64 (D.acts + 1)))) (((keptq _ 4 _).block _ (by simpa using hbl) hbn.1).trans ((keptq w 5 _).block _ hbl hbn.1))).1
  simp only [List.getElem?_toArray, List.getElem?_cons_succ, List.getElem?_cons_zero, DS.tick] at e3 e4 hle
  unfold maxLen at h2
  have H := hid ht
  have hz : (((r.length : Nat) : Int) + 1 == 0) = false := beq_eq_false_iff_ne.2 (by omega)
  clear h ht hcell hcu
  by_cases h0 : c.1 < 0
  · rw [if_pos h0] at hle
    go_enter Tryd.func47, Tryd.ntmps47
    go_wp2
    go_quiet (fail)
    go_wp2
    go_ret
    exact ⟨rfl, vw, _, H.out.new (Kept.refl _ _).drewN, .inl rfl, (((Kept.refl _ _).setCell (.inl (.inl rfl)) _).setCell (.inl (.inl rfl)) _).drewN⟩
  · rw [if_neg h0] at hle
    go_enter Tryd.func47, Tryd.ntmps47
    go_wp2
    go_quiet (fail)
    go_wp2
    go_ret
    exact ⟨rfl, vw, _, H.out.new (Kept.refl _ _).drewN, .inl rfl, (((Kept.refl _ _).setCell (.inl (.inl rfl)) _).setCell (.inl (.inl rfl)) _).drewN⟩
set_option maxHeartbeats 1600000 in
set_option maxRecDepth 100000 in
theorem act_fails {S : Nat → Prop} {q bd bt : Nat} {vw vc : Value} {D : DS} {w : World} (h : DiskAt S q bd bt vw vc D w) {c : Int × List Int} {r : List (Int × List Int)} (hc : D.cuts = c :: r) (hle : ¬ D.tick.acts ≤ (if c.1 < 0 then 0 else c.1)) :
    Calls Tryd.prog 47 #[.pointer (some ⟨q, 0, none⟩)] w fun e w' => e = .returned (.bool true) ∧ Acted S q bd bt vw D.act.1 w w' := by
  have hcu := h.cuts
  rw [hc] at hcu
  obtain ⟨b, off, cap, rfl, hS, hbl, h1, h2, u, hu, hcell, htail⟩ := hcu.head
  have hbn := h.ns b hS
  have c5 : w.cell? ⟨q, 5, none⟩ = some (.int .i64 D.all) := h.cell 5
  have f5 := frozen_at h.blk 5
  have f4 := frozen_at h.blk 4
  have ht := h.tick
  have d4 : ∀ u, (w.setCell ⟨q, 5, none⟩ u).cell? ⟨q, 4, none⟩ = some (.int .i64 D.acts) := fun u => (cell_at (heap_setCell_same h.blk) 4).trans (by simp)
  have hk0 : Kept (fun b => b = q ∨ b = bd ∨ b = bt) w ((w.setCell ⟨q, 5, none⟩ (.int .i64 (wrap64 (D.all + 1)))).setCell ⟨q, 4, none⟩ (.int .i64 (wrap64 (D.acts + 1)))) := ((Kept.refl _ _).setCell (.inl (.inl rfl)) _).setCell (.inl (.inl rfl)) _
  obtain ⟨W, hW⟩ : ∃ W, (w.setCell ⟨q, 5, none⟩ (.int .i64 (wrap64 (D.all + 1)))).setCell ⟨q, 4, none⟩ (.int .i64 (wrap64 (D.acts + 1))) = W := ⟨_, rfl⟩
  have e3 := ht.cell 3
  have e4 := ht.cell 4
  rw [hW] at ht e3 e4 hk0
  have e6 := (hcell W (hk0.block b hbl (by simp [hbn.1, hbn.2.1, hbn.2.2.1]))).1
  simp only [List.getElem?_toArray, List.getElem?_cons_succ, List.getElem?_cons_zero, DS.tick] at e3 e4 hle
  unfold maxLen at h2
  have H := hid ht
  have HC := hid hcell
  have HU := hid hu
  have HT := hid htail
  have HK := hid hk0
  have H0 := hid h
  have hz : (((r.length : Nat) : Int) + 1 == 0) = false := beq_eq_false_iff_ne.2 (by omega)
  obtain ⟨A, capw, rfl, hwl, hwc⟩ := ht.waits
  have e2 := ht.cell 2
  simp only [List.getElem?_toArray, List.getElem?_cons_succ, List.getElem?_cons_zero, DS.tick] at e2 hwl hwc
  unfold maxLen at hwl
  have HW := hid hwc
  clear h ht hcell hcu hu htail hk0 hwc
  by_cases h0 : c.1 < 0
  all_goals
    first | rw [if_pos h0] at hle | rw [if_neg h0] at hle
    go_enter Tryd.func47, Tryd.ntmps47
    go_wp2
    clear hW
    go_quiet (fail)
    go_wp2
    go_loopw [45] (fun v wr => ∃ i : Nat, v = .int .i64 i ∧ i ≤ D.wait.length ∧ Hid (DiskAt S q bd bt (.slice A D.wait.length capw) (.slice (some ⟨b, off, none⟩) (r.length + 1) cap) (D.tick.settles c.2 0 (D.wait.take i)) wr ∧ Kept (fun b => b = q ∨ b = bd ∨ b = bt) w wr)) (fun v _ => D.wait.length - (intOf v).toNat)
    case atStart => exact ⟨0, rfl, Nat.zero_le _, hid ⟨H.out.new (Kept.refl _ _).drewN, HK.out.drewN⟩⟩
    case round =>
      obtain ⟨i, rfl, hi, HR⟩ := hrel
      have hs := settles_same (D.wait.take i) D.tick c.2 0
      by_cases hlt : i < D.wait.length
      · as_aux_lemma =>
        obtain ⟨hD, hKK⟩ := HR.out
        obtain ⟨wb, rfl, -, hwb, x1, x2, hxn⟩ := hD.waitAt (i := i) (x := D.wait[i]) (by rw [hs.2.1]; simp [DS.tick, hlt])
        have hst := hid (fun w' (hh : New wr w') => settle_calls (hD.new hh) hxn (fateOf_le c.2 i))
        have hfa := hid (fun w' (hh : New wr w') => fate_calls ((HU.out.kept hKK fun k _ hk => by simp [(H0.out.ns k hk).1, (H0.out.ns k hk).2.1, (H0.out.ns k hk).2.2.1]).kept hh fun _ _ _ => id) i)
        have e3' := hD.cell 3
        simp only [List.getElem?_toArray, List.getElem?_cons_succ, List.getElem?_cons_zero] at e3'
        have hfb := (HC.out wr (hKK.block b hbl (by simp [hbn.1, hbn.2.1, hbn.2.2.1]))).2
        have hsn := hid (settles_step hlt D.tick c.2)
        generalize D.wait[i] = x at *
        obtain ⟨xn, xs⟩ := x
        simp only at x1 x2 hxn
        clear HC H HW HT hc e2 e3 e4 e6 hs
        have hkeep : ∀ w', Kept (fun k => k = bd ∨ k = bt) (wr.alloc (.cells #[.int .i64 xn, .string xs] 94)) w' → Kept (fun k => k = bd ∨ k = bt) (wr.alloc (.cells #[.int .i64 xn, .string xs] 94)) w' ∧ w'.cell? ⟨q, 3, none⟩ = some (.slice (some ⟨b, off, none⟩) (r.length + 1) cap) ∧ w'.cell? ⟨b, off + 1, none⟩ = some u ∧ w'.cell? ⟨wr.heap.size, 0, none⟩ = some (.int .i64 xn) ∧ w'.cell? ⟨wr.heap.size, 1, none⟩ = some (.string xs) := fun w' hN => by
          have hN2 := (Kept.refl (fun k => k = bd ∨ k = bt) wr).alloc (.cells #[.int .i64 xn, .string xs] 94) |>.trans hN
          have hlt3 := hD.lt
          exact ⟨hN, (cell_kept hN2 hD.lt.1 (by simp [hD.ne1, hD.ne2]) 3).trans e3', (cell_kept hN2 (Nat.lt_of_lt_of_le hbl hKK.size) (by simp [hbn.2.1, hbn.2.2.1]) _).trans hfb, (cell_at (hN.at (blk_new _ _) (by omega)) 0).trans rfl, (cell_at (hN.at (blk_new _ _) (by omega)) 1).trans rfl⟩
        have HKP := hid hkeep
        clear hkeep
        go_wp2
        go_region_held3 (fun w' => Kept (fun k => k = bd ∨ k = bt) (wr.alloc (.cells #[.int .i64 xn, .string xs] 94)) w' ∧ w'.cell? ⟨q, 3, none⟩ = some (.slice (some ⟨b, off, none⟩) (r.length + 1) cap) ∧ w'.cell? ⟨b, off + 1, none⟩ = some u ∧ w'.cell? ⟨wr.heap.size, 0, none⟩ = some (.int .i64 xn) ∧ w'.cell? ⟨wr.heap.size, 1, none⟩ = some (.string xs)) (exact HKP.out _ (by first | exact (Kept.refl _ _).drew | exact (Kept.refl _ _).drew.trans (by assumption)))
          (first | (go_at_call 61; (with_reducible refine (hfa.out _ ((Kept.refl _ wr).alloc _).drew).mono ?_); rintro e w1 ⟨rfl, rfl⟩) | (go_at_call 48; (with_reducible refine (hst.out _ ((Kept.refl _ wr).alloc _).drew).mono ?_); rintro e w2 ⟨rfl, hd2, hk2⟩))
        clear HKP hst hfa
        go_wp2
        go_roundw
        case rel => exact ⟨i + 1, by go_num, by omega, hid ⟨by rw [hsn.out]; exact hd2, hKK.trans (((Kept.refl _ _).alloc _).drew.trans (hk2.mono fun _ _ e => .inr e))⟩⟩
        case measure => simp [intOf]; omega
      · as_aux_lemma =>
        obtain rfl : i = D.wait.length := by omega
        rw [List.take_length] at HR hs
        obtain ⟨hD, hKK⟩ := HR.out
        have hA : D.act.1 = { D.tick.settles c.2 0 D.wait with wait := [], cuts := r, dead := true, fails := wrap64 (D.fails + 1) } := by
          unfold DS.act
          rw [hc]
          simp only
          rw [if_neg]
          simp only [DS.tick]
          first | rw [if_pos h0] | rw [if_neg (by omega)]
          omega
        have q3 := hD.cell 3
        have q6 := hD.cell 6
        have qf := fun i => frozen_at hD.blk i
        have q2 := hD.cell 2
        have q7 := hD.cell 7
        simp only [List.getElem?_toArray, List.getElem?_cons_succ, List.getElem?_cons_zero, hs.2.2.2.2.2.1] at q2 q3 q6 q7
        have q6' : D.tick.fails = D.fails := rfl
        rw [q6'] at q6
        have z6 : ∀ a b c, (((wr.setCell ⟨q, 2, none⟩ a).setCell ⟨q, 3, none⟩ b).setCell ⟨q, 7, none⟩ c).cell? ⟨q, 6, none⟩ = some (.int .i64 D.fails) := fun x y z => by
          have := hD.blk
          rw [hs.2.2.2.2.2.1, q6'] at this
          exact (cell_at (heap_setCell_same (heap_setCell_same (heap_setCell_same this))) 6).trans (by simp)
        have hfin : ∀ (o : Option Addr) (cp : Nat), CutsAt S (.slice o r.length cp) r wr → ∀ w', New ((((wr.setCell ⟨q, 2, none⟩ (.slice none 0 0)).setCell ⟨q, 3, none⟩ (.slice o r.length cp)).setCell ⟨q, 7, none⟩ (.bool true)).setCell ⟨q, 6, none⟩ (.int .i64 (wrap64 (D.fails + 1)))) w' → Acted S q bd bt (.slice A D.wait.length capw) D.act.1 w w' := fun o cp hct w' hN => by
          have hkq : Kept (fun b => b = q) wr ((((wr.setCell ⟨q, 2, none⟩ (.slice none 0 0)).setCell ⟨q, 3, none⟩ (.slice o r.length cp)).setCell ⟨q, 7, none⟩ (.bool true)).setCell ⟨q, 6, none⟩ (.int .i64 (wrap64 (D.fails + 1)))) := (((keptq wr 2 _).trans (keptq _ 3 _)).trans (keptq _ 7 _)).trans (keptq _ 6 _)
          refine ⟨.slice none 0 0, .slice o r.length cp, ?_, .inr rfl, (hKK.trans (hkq.mono fun _ _ e => .inl e)).trans (hN.mono fun _ _ e => e.elim)⟩
          rw [hA]
          refine (hD.field (D' := { D.tick.settles c.2 0 D.wait with wait := [], cuts := r, dead := true, fails := wrap64 (D.fails + 1) }) hkq ((heap_setCell_same (heap_setCell_same (heap_setCell_same (heap_setCell_same hD.blk)))).trans (by simp)) rfl rfl rfl ⟨rfl, .inl ⟨rfl, rfl⟩⟩ (fun x hx => by simp at hx) (fun b hb => by cases hb) (hct.kept hkq fun b _ hb => (hD.ns b hb).1)).new hN
        have HF := hid hfin
        have HTr := HT.out.kept hKK fun k _ hk => by simp [(H0.out.ns k hk).1, (H0.out.ns k hk).2.1, (H0.out.ns k hk).2.2.1]
        clear hfin
        by_cases hcap : cap = 1
        · have hr0 : r = [] := List.length_eq_zero_iff.1 (by omega)
          subst hcap hr0
          have HTr2 : CutsAt S (.slice (some ⟨b, off, none⟩) 0 0) [] wr := ⟨_, _, rfl, by simp, Nat.zero_le _, fun e => absurd rfl e⟩
          have HT2 := hid HTr2
          clear HC H H0 HW HT hc e2 e3 e4 e6 hs hbn hA HTr HTr2
          simp only [List.length_nil, Nat.zero_add] at q3
          go_wp2
          go_region
          go_wp2
          go_ret
          exact ⟨rfl, HF.out _ _ HT2.out _ (Kept.refl _ _).drew⟩
        · have HT2 := hid HTr
          clear HC H H0 HW HT hc e2 e3 e4 e6 hs hbn hA HTr
          go_wp2
          go_region
          go_wp2
          go_ret
          exact ⟨rfl, HF.out _ _ HT2.out _ (Kept.refl _ _).drew⟩
/-- act, whatever the cuts are. -/
theorem act_calls {S : Nat → Prop} {q bd bt : Nat} {vw vc : Value} {D : DS} {w : World} (h : DiskAt S q bd bt vw vc D w) :
    Calls Tryd.prog 47 #[.pointer (some ⟨q, 0, none⟩)] w fun e w' => e = .returned (.bool D.act.2) ∧ Acted S q bd bt vw D.act.1 w w' := by
  cases hc : D.cuts with
  | nil =>
    have e : D.act = (D.tick, false) := by unfold DS.act; rw [hc]
    rw [e]
    exact act_none h hc
  | cons c r =>
    by_cases hle : D.tick.acts ≤ (if c.1 < 0 then 0 else c.1)
    · have e : D.act = (D.tick, false) := by unfold DS.act; rw [hc]; simp only; rw [if_pos hle]
      rw [e]
      exact act_some h hc hle
    · have e : D.act.2 = true := by unfold DS.act; rw [hc]; simp only; rw [if_neg hle]
      rw [e]
      exact act_fails h hc hle
end Go.Proofs.YtolifmpjbmekdaaDoor
