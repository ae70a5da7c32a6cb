/-
The disk's Write and Flush; conditions: the disk lies in memory as told, few writes wait.
-/
import Derived.Test.YtolifmpjbmekdaaDoorDiskRd
namespace Go.Proofs.YtolifmpjbmekdaaDoor
open Go.RowKit Go.Lib
def pad (s : ByteArray) : ByteArray := s ++ zeros (256 - s.size)
theorem pad_size {s : ByteArray} (h : s.size ≤ 256) : (pad s).size = 256 := by
  unfold pad
  rw [ByteArray.size_append, zeros_size]
  omega
def DS.push (D : DS) (n : Nat) (s : ByteArray) : DS := { D with wait := D.wait ++ [(n, pad s)] }
def DS.write (D : DS) (n : Int) (s : ByteArray) : DS × Int :=
  if D.dead then (D, 40) else if n < 0 ∨ (D.n : Int) ≤ n then (D, 42) else if 256 < s.size then (D, 1) else ((D.push n.toNat s).act.1, if (D.push n.toNat s).act.2 then 40 else 0)
variable {q : Nat} {D : DS} {F : Nat → Prop} {w : World}
theorem info_write : (Tryd.prog.info? 94).map (fun i => (i.zero, i.size, i.bytes)) = some (some (.agg #[.int .i64 0, .string ⟨#[]⟩]), 2, 24) := by kernel_rfl
theorem push_facts {S : Nat → Prop} {bd bt : Nat} {vw vc : Value} (h1 : DiskAt S q bd bt vw vc D w) (h2 : ∀ b, S b → F b) (h3 : F q) (h4 : F bd) (h5 : F bt) (h6 : ∀ b, vw.ownBlock = some b → F b) (h7 : ∀ b, w.heap.size ≤ b → F b)
    {W w3 : World} {g cap H n : Nat} {s : ByteArray} (hn : n < D.n) (hN : New w W) (hown : w3.ownsRow 0 94 2 (.slice (some ⟨g, 0, none⟩) (D.wait.length + 1) cap) (D.wait.length + 1) (wcells D.wait ++ [.int .i64 (n : Int), .string (pad s)])) (hgrow : W.grownBy w3 vw.ownBlock) (hat : vw.ownBlock = some g ∨ g = H) (hH : W.heap.size = H) :
    w3.cell? ⟨q, 2, none⟩ = some vw ∧ w3.frozen? ⟨q, 2, none⟩ = false ∧ Hid (Disk q (D.push n s) F (w3.setCell ⟨q, 2, none⟩ (.slice (some ⟨g, 0, none⟩) (D.wait.length + 1) cap)) ∧ Kept F w (w3.setCell ⟨q, 2, none⟩ (.slice (some ⟨g, 0, none⟩) (D.wait.length + 1) cap))) := by
  have hl := h1.lt
  have hsz := hN.size
  have k3 : Kept (fun b => vw.ownBlock = some b) w w3 := (hN.mono fun _ _ e => e.elim).grown hgrow fun k e => .inl e
  have kq : Kept (fun b => b = q) w3 (w3.setCell ⟨q, 2, none⟩ (.slice (some ⟨g, 0, none⟩) (D.wait.length + 1) cap)) := keptq w3 2 _
  have bq : w3.heap[q]? = _ := k3.at h1.blk fun e => (h1.nw q e).1 rfl
  have gn : vw.ownBlock = some g ∨ w.heap.size ≤ g := hat.imp id fun e => by omega
  have gq : g ≠ q ∧ g ≠ bd ∧ g ≠ bt := by
    rcases gn with e | e
    · exact h1.nw g e
    · omega
  have hF : F g := by
    rcases gn with e | e
    · exact h6 g e
    · exact h7 g e
  have kk : Kept (fun b => b = q ∨ vw.ownBlock = some b) w (w3.setCell ⟨q, 2, none⟩ (.slice (some ⟨g, 0, none⟩) (D.wait.length + 1) cap)) := (k3.mono fun _ _ e => .inr e).trans (kq.mono fun _ _ e => .inl e)
  refine ⟨(cell_at bq 2).trans rfl, frozen_at bq 2, hid ⟨⟨fun b => S b ∧ b < w.heap.size, bd, bt, .slice (some ⟨g, 0, none⟩) (D.wait.length + 1) cap, vc, ?_, fun b hb => h2 b hb.1, h3, h4, h5, fun b hb => ?_, fun b hb => h7 b (Nat.le_trans kk.size hb)⟩, kk.mono fun b _ e => ?_⟩⟩
  · obtain ⟨a, ha, ha2⟩ := h1.data
    obtain ⟨b, hb', hb2⟩ := h1.torn
    refine ⟨(heap_setCell_same bq).trans (by simp [DS.push]), ⟨a, kk.at ha ?_, ha2⟩, ⟨b, kk.at hb' ?_, hb2⟩, ?_, ?_, ?_, h1.few, h1.ne1, h1.ne2, h1.ne3, ?_, ?_⟩
    · rintro (e | e)
      · exact h1.ne1 e.symm
      · exact (h1.nw _ e).2.1 rfl
    · rintro (e | e)
      · exact h1.ne2 e.symm
      · exact (h1.nw _ e).2.2 rfl
    · have e : wcells (D.push n s).wait = wcells D.wait ++ [.int .i64 (n : Int), .string (pad s)] := wcells_append _ _
      have e2 : (D.push n s).wait.length = D.wait.length + 1 := by simp [DS.push]
      rw [e, e2]
      exact own_set_other hown (p := ⟨q, 2, none⟩) (by simp [Value.ownBlock, gq.1]) _
    · refine (h1.cuts.mono (S' := fun b => S b ∧ b < w.heap.size) fun b hb hs => ⟨hs, hb⟩).kept kk fun b _ hs => ?_
      rintro (e | e)
      · exact (h1.ns b hs.1).1 e
      · exact (h1.ns b hs.1).2.2.2 e
    · intro x hx
      simp only [DS.push, List.mem_append, List.mem_singleton] at hx
      rcases hx with hx | rfl
      · exact h1.ok x hx
      · exact hn
    · intro b hb
      have : g = b := by simpa [Value.ownBlock] using hb
      exact this ▸ gq
    · intro b hb
      have hb0 := h1.ns b hb.1
      refine ⟨hb0.1, hb0.2.1, hb0.2.2.1, fun e => ?_⟩
      have : g = b := by simpa [Value.ownBlock] using e
      subst this
      rcases gn with e | e
      · exact hb0.2.2.2 e
      · exact absurd hb.2 (by omega)
  · have : g = b := by simpa [Value.ownBlock] using hb
    exact this ▸ hF
  · rcases e with rfl | e
    · exact h3
    · exact h6 b e
theorem write_dead (h : Disk q D F w) (hd : D.dead = true) (n : Int) (s : ByteArray) : Calls Tryd.prog 26 #[.pointer (some ⟨q, 0, none⟩), .int .i64 n, .string s] w fun e w' => e = .returned (.int .i64 40) ∧ w = w' := by
  have HD := dead_calls h
  rw [hd] at HD
  have HD := hid HD
  clear h hd
  go_enter Tryd.func26, Tryd.ntmps26
  go_wp2_with (first | (go_at_call 46; (with_reducible refine HD.out.mono ?_); rintro e w1 ⟨rfl, rfl⟩))
  go_ret
  exact ⟨rfl, rfl⟩
theorem write_out (h : Disk q D F w) (hd : D.dead = false) {n : Int} (s : ByteArray) (hn : n < 0 ∨ (D.n : Int) ≤ n) : Calls Tryd.prog 26 #[.pointer (some ⟨q, 0, none⟩), .int .i64 n, .string s] w fun e w' => e = .returned (.int .i64 42) ∧ w = w' := by
  have HD := dead_calls h
  rw [hd] at HD
  have HD := hid HD
  obtain ⟨bd, bt, vw, vc, hc⟩ := h.cells
  have c0 : w.cell? ⟨q, 0, none⟩ = some (.slice (some ⟨bd, 0, none⟩) D.n D.n) := (hc 0).1
  clear h hd hc
  rcases (by omega : n < 0 ∨ ¬ n < 0 ∧ (D.n : Int) ≤ n) with hn | ⟨hn, hn2⟩
  all_goals
    go_enter Tryd.func26, Tryd.ntmps26
    go_wp2_with (first | (go_at_call 46; (with_reducible refine HD.out.mono ?_); rintro e w1 ⟨rfl, rfl⟩))
    go_ret
    exact ⟨rfl, rfl⟩
theorem write_long (h : Disk q D F w) (hd : D.dead = false) {n : Nat} {s : ByteArray} (hn : n < D.n) (hs : 256 < s.size) : Calls Tryd.prog 26 #[.pointer (some ⟨q, 0, none⟩), .int .i64 n, .string s] w fun e w' => e = .returned (.int .i64 1) ∧ w = w' := by
  have HD := dead_calls h
  rw [hd] at HD
  have HD := hid HD
  obtain ⟨bd, bt, vw, vc, hc⟩ := h.cells
  have c0 : w.cell? ⟨q, 0, none⟩ = some (.slice (some ⟨bd, 0, none⟩) D.n D.n) := (hc 0).1
  clear h hd hc
  have h1 : ¬ (n : Int) < 0 := by omega
  have h2 : ¬ D.n ≤ n := by omega
  have h3 : (s.size : Int) > 256 := by omega
  go_enter Tryd.func26, Tryd.ntmps26
  go_wp2_with (first | (go_at_call 46; (with_reducible refine HD.out.mono ?_); rintro e w1 ⟨rfl, rfl⟩))
  go_ret
  exact ⟨rfl, rfl⟩
set_option maxHeartbeats 1600000 in
set_option maxRecDepth 100000 in
theorem write_ok (h : Disk q D F w) (hd : D.dead = false) {n : Nat} {s : ByteArray} (hn : n < D.n) (hs : s.size ≤ 256) (hw : D.wait.length ≤ 1000000) : Calls Tryd.prog 26 #[.pointer (some ⟨q, 0, none⟩), .int .i64 n, .string s] w fun e w' => e = .returned (.int .i64 (if (D.push n s).act.2 then 40 else 0)) ∧ Disk q (D.push n s).act.1 F w' ∧ Kept F w w' := by
  have HD := dead_calls h
  rw [hd] at HD
  have HD := hid HD
  have HA := hid (fun W (h : Disk q (D.push n s) F W) => act_disk h)
  obtain ⟨S, bd, bt, vw, vc, h1, h2, h3, h4, h5, h6, h7⟩ := h
  have c0 : w.cell? ⟨q, 0, none⟩ = some (.slice (some ⟨bd, 0, none⟩) D.n D.n) := h1.cell 0
  have c2 : ∀ W, New w W → W.cell? ⟨q, 2, none⟩ = some vw := fun W hN => (h1.new hN).cell 2
  have c2 : ∀ o o', ((w.alloc o).alloc o').cell? ⟨q, 2, none⟩ = some vw := fun o o' => c2 _ (((Kept.refl _ _).alloc _).alloc _)
  have c2' : ∀ o, (w.alloc o).cell? ⟨q, 2, none⟩ = some vw := fun o => (h1.new ((Kept.refl _ _).alloc _)).cell 2
  have HP := hid (fun (W w3 : World) (g cap H : Nat) => push_facts (s := s) (W := W) (w3 := w3) (g := g) (cap := cap) (H := H) h1 h2 h3 h4 h5 h6 h7 hn)
  have HO := hid h1.wait
  have g1 : ¬ (n : Int) < 0 := by omega
  have g2 : ¬ D.n ≤ n := by omega
  have g3 : ¬ (s.size : Int) > 256 := by omega
  obtain ⟨k, hk⟩ : ∃ k : Nat, 256 - s.size = k := ⟨_, rfl⟩
  have g4 : IntKind.i64.wrap (256 - (s.size : Int)) = (k : Int) := by rw [IntKind.wrap_i64]; omega
  have g4' : (256 : Int) - (s.size : Int) = (k : Int) := by omega
  have hp : pad s = s ++ zeros k := by unfold pad; rw [hk]
  have hm := fun w : World => mk_bytes w (n := k) (by omega)
  have hc := fun w : World => conv_zeros w k
  have HPS := hid hp
  have g5 : ¬ 9223372036854775807 < s.size + (zeros k).size := by rw [zeros_size]; omega
  have hz := zeros_size k
  clear h1 h2 h3 h4 h5 h6 h7 hd hp
  obtain ⟨i0, hi0, hz0, hz1, hz2⟩ := info_parts info_write
  go_enter Tryd.func26, Tryd.ntmps26
  go_wp2_with (first
    | (go_at_call 46; (with_reducible refine HD.out.mono ?_); rintro e w1 ⟨rfl, rfl⟩)
    | (at_builtin; refine wpList_append_lies _ rfl (.tmp 37) (.tmp 41) 67 rfl 0 94 i0 (.agg #[.int .i64 0, .string ⟨#[]⟩]) 2 24 Tryd.underlying67 hi0 hz0 hz1 hz2 rfl (by decide) vw D.wait.length (wcells D.wait) rfl (World.ownsRow.alloc (World.ownsRow.alloc HO.out _) _) ⟨w.heap.size + 1, 0, none⟩ 1 1 [.int .i64 (n : Int), .string (s ++ zeros k)] rfl rfl (World.news_of_block (blk_at _ _ (by simp))) (by intro u hu; simp at hu; rcases hu with rfl | rfl <;> rfl) (by decide) (by unfold maxLen; omega) (by omega) (Nat.zero_le _) (w.heap.size + 1 + 1) (by simp) ?_; intro g cap w3 hown hgrow hat hlt; obtain ⟨e2, f2, hE⟩ := HP.out _ w3 g cap (w.heap.size + 1 + 1) (((Kept.refl _ _).alloc _).alloc _) (by rw [HPS.out]; exact hown) hgrow hat (by simp); clear hown hgrow hat hlt HP)
    | (go_at_call 47; (with_reducible refine (HA.out _ hE.out.1).mono ?_); rintro e w4 ⟨rfl, hd4, hk4⟩; have H4 := hid hd4; have K4 := hid (hE.out.2.trans hk4); clear hd4 hk4 hE))
  all_goals go_ret
  all_goals exact ⟨rfl, H4.out, K4.out⟩
theorem write_calls (h : Disk q D F w) (n : Int) (s : ByteArray) (hw : D.wait.length ≤ 1000000) : Calls Tryd.prog 26 #[.pointer (some ⟨q, 0, none⟩), .int .i64 n, .string s] w fun e w' => e = .returned (.int .i64 (D.write n s).2) ∧ Disk q (D.write n s).1 F w' ∧ Kept F w w' := by
  unfold DS.write
  cases hd : D.dead with
  | true =>
    refine (write_dead h hd n s).mono ?_
    rintro e w' ⟨rfl, rfl⟩
    exact ⟨rfl, h, Kept.refl _ _⟩
  | false =>
    rw [if_neg (by decide)]
    by_cases hn : n < 0 ∨ (D.n : Int) ≤ n
    · rw [if_pos hn]
      refine (write_out h hd s hn).mono ?_
      rintro e w' ⟨rfl, rfl⟩
      exact ⟨rfl, h, Kept.refl _ _⟩
    · rw [if_neg hn]
      obtain ⟨k, rfl⟩ := Int.eq_ofNat_of_zero_le (show 0 ≤ n by omega)
      by_cases hs : 256 < s.size
      · rw [if_pos hs]
        refine (write_long h hd (by omega) hs).mono ?_
        rintro e w' ⟨rfl, rfl⟩
        exact ⟨rfl, h, Kept.refl _ _⟩
      · rw [if_neg hs]
        exact write_ok h hd (by omega) (by omega) hw
def DS.flush (D : DS) : DS × Int := if D.dead then (D, 40) else if D.act.2 then (D.act.1, 40) else ({ D.act.1.keeps D.act.1.wait with wait := [] }, 0)
theorem keeps_same : ∀ (l : List (Nat × ByteArray)) (D : DS), (D.keeps l).n = D.n ∧ (D.keeps l).wait = D.wait ∧ (D.keeps l).cuts = D.cuts ∧ (D.keeps l).acts = D.acts ∧ (D.keeps l).all = D.all ∧ (D.keeps l).fails = D.fails ∧ (D.keeps l).dead = D.dead
  | [], _ => ⟨rfl, rfl, rfl, rfl, rfl, rfl, rfl⟩
  | x :: l, D => by
    have h1 := settle_same D x 1
    have h2 := keeps_same l (D.settle x 1)
    refine ⟨h2.1.trans h1.1, h2.2.1.trans h1.2.1, h2.2.2.1.trans h1.2.2.1, h2.2.2.2.1.trans h1.2.2.2.1, h2.2.2.2.2.1.trans h1.2.2.2.2.1, h2.2.2.2.2.2.1.trans h1.2.2.2.2.2.1, h2.2.2.2.2.2.2.trans h1.2.2.2.2.2.2⟩
theorem keeps_snoc : ∀ (l : List (Nat × ByteArray)) (D : DS) (x : Nat × ByteArray), D.keeps (l ++ [x]) = (D.keeps l).settle x 1
  | [], _, _ => rfl
  | y :: l, D, x => keeps_snoc l (D.settle y 1) x
theorem keeps_step {l : List (Nat × ByteArray)} {i : Nat} (h : i < l.length) (D : DS) : D.keeps (l.take (i + 1)) = (D.keeps (l.take i)).settle l[i] 1 := by
  rw [List.take_succ_eq_append_getElem h, keeps_snoc]
theorem settle_keep {S : Nat → Prop} {q bd bt : Nat} {vw vc : Value} {D : DS} {w : World} (h : DiskAt S q bd bt vw vc D w) {x : Nat × ByteArray} (hx : x.1 < D.n) :
    Calls Tryd.prog 48 #[.pointer (some ⟨q, 0, none⟩), .agg #[.int .i64 x.1, .string x.2], .int .i64 1] w fun e w' => e = .returned (.tuple #[]) ∧ DiskAt S q bd bt vw vc (D.settle x 1) w' ∧ Kept (fun b => b = bd ∨ b = bt) w w' := settle_calls h hx (f := 1) (by decide)
theorem flush_no (h : Disk q D F w) (hd : D.dead = true) : Calls Tryd.prog 27 #[.pointer (some ⟨q, 0, none⟩)] w fun e w' => e = .returned (.int .i64 40) ∧ w = w' := by
  have HD := dead_calls h
  rw [hd] at HD
  have HD := hid HD
  clear h hd
  go_enter Tryd.func27, Tryd.ntmps27
  go_wp2_with (first
    | (go_at_call 46; (with_reducible refine HD.out.mono ?_); rintro e w1 ⟨rfl, rfl⟩))
  go_ret
  exact ⟨rfl, rfl⟩
theorem flush_fails (h : Disk q D F w) (hd : D.dead = false) (ha : D.act.2 = true) : Calls Tryd.prog 27 #[.pointer (some ⟨q, 0, none⟩)] w fun e w' => e = .returned (.int .i64 40) ∧ Disk q D.act.1 F w' ∧ Kept F w w' := by
  have HD := dead_calls h
  rw [hd] at HD
  have HD := hid HD
  have HA := act_disk h
  rw [ha] at HA
  have HA := hid HA
  clear h hd
  go_enter Tryd.func27, Tryd.ntmps27
  go_wp2_with (first
    | (go_at_call 46; (with_reducible refine HD.out.mono ?_); rintro e w1 ⟨rfl, rfl⟩)
    | (go_at_call 47; (with_reducible refine HA.out.mono ?_); rintro e w1 ⟨rfl, hp, hk⟩; have HP := hid hp; have HK := hid hk; clear hp hk))
  go_ret
  exact ⟨rfl, HP.out, HK.out⟩
structure FlF (S F : Nat → Prop) (q bd bt : Nat) (A : Option Addr) (cap : Nat) (vc : Value) (E : DS) (w w1 : World) : Prop where
  at_ : DiskAt S q bd bt (.slice A E.wait.length cap) vc E w1
  kept : Kept F w w1
  cov : (∀ b, S b → F b) ∧ F q ∧ F bd ∧ F bt ∧ (∀ b, w.heap.size ≤ b → F b)
  few : E.wait.length ≤ 9223372036854775807
set_option maxHeartbeats 1600000 in
set_option maxRecDepth 100000 in
theorem flush_ok (h : Disk q D F w) (hd : D.dead = false) (ha : D.act.2 = false) : Calls Tryd.prog 27 #[.pointer (some ⟨q, 0, none⟩)] w fun e w' => e = .returned (.int .i64 0) ∧ Disk q { D.act.1.keeps D.act.1.wait with wait := [] } F w' ∧ Kept F w w' := by
  have HD := dead_calls h
  rw [hd] at HD
  have HD := hid HD
  have HA : Calls Tryd.prog 47 #[.pointer (some ⟨q, 0, none⟩)] w fun e w' => e = .returned (.bool false) ∧ ∃ S bd bt A cap vc, FlF S F q bd bt A cap vc D.act.1 w w' := by
    refine (act_disk h).mono ?_
    rintro e w' ⟨rfl, hd, hk⟩
    refine ⟨by rw [ha], ?_⟩
    obtain ⟨_, _, _, _, _, _, _, _, _, _, _, hu⟩ := h
    obtain ⟨S, bd, bt, vw, vc, h1, h2, h3, h4, h5, h6, h7⟩ := hd
    obtain ⟨A, cap, rfl, hl, hw⟩ := h1.waits
    exact ⟨S, bd, bt, A, cap, vc, h1, hk, ⟨h2, h3, h4, h5, hu⟩, hl⟩
  have HA := hid HA
  clear h hd ha
  generalize D.act.1 = E at *
  go_enter Tryd.func27, Tryd.ntmps27
  go_wp2_with (first
    | (go_at_call 46; (with_reducible refine HD.out.mono ?_); rintro e w1 ⟨rfl, rfl⟩)
    | (go_at_call 47; (with_reducible refine HA.out.mono ?_); rintro e w1 ⟨rfl, S, bd, bt, A, cap, vc, hf⟩; have HF := hid hf; have few := hf.few; have e2 : w1.cell? ⟨q, 2, none⟩ = some (.slice A E.wait.length cap) := hf.at_.cell 2; clear hf))
  clear HA HD
  go_loopw [16] (fun v wr => ∃ i : Nat, v = .int .i64 i ∧ i ≤ E.wait.length ∧ Hid (DiskAt S q bd bt (.slice A E.wait.length cap) vc (E.keeps (E.wait.take i)) wr ∧ Kept F w wr)) (fun v _ => E.wait.length - (intOf v).toNat)
  case atStart => exact ⟨0, rfl, Nat.zero_le _, hid ⟨HF.out.at_, HF.out.kept⟩⟩
  case round =>
    obtain ⟨i, rfl, hi, HR⟩ := hrel
    have hs := keeps_same (E.wait.take i) E
    obtain ⟨hD, hKK⟩ := HR.out
    by_cases hlt : i < E.wait.length
    · as_aux_lemma =>
      obtain ⟨wb, rfl, -, hwb, x1, x2, hxn⟩ := hD.waitAt (i := i) (x := E.wait[i]) (by rw [hs.2.1]; simp [hlt])
      have hst := hid (fun w' (hh : New wr w') => settle_keep (hD.new hh) hxn)
      have hsn := hid (keeps_step hlt E)
      generalize E.wait[i] = x at *
      obtain ⟨xn, xs⟩ := x
      simp only at x1 x2 hxn
      clear hs
      go_wp2_with (first
        | (go_at_call 48; (with_reducible refine (hst.out _ ((Kept.refl _ wr).alloc _)).mono ?_); rintro e w2 ⟨rfl, hd2, hk2⟩))
      go_roundw
      case rel => exact ⟨i + 1, by go_num, by omega, hid ⟨by rw [hsn.out]; exact hd2, hKK.trans (((Kept.refl _ _).alloc _).trans (hk2.mono fun b _ e => e.elim (fun e => e ▸ HF.out.cov.2.2.1) (fun e => e ▸ HF.out.cov.2.2.2.1)))⟩⟩
      case measure => simp [intOf]; omega
    · as_aux_lemma =>
      obtain rfl : i = E.wait.length := by omega
      rw [List.take_length] at hD hs
      have q2 := hD.cell 2
      have qf := frozen_at hD.blk 2
      simp only [List.getElem?_toArray, List.getElem?_cons_succ, List.getElem?_cons_zero] at q2
      have hkq : Kept (fun b => b = q) wr (wr.setCell ⟨q, 2, none⟩ (.slice none 0 0)) := keptq wr 2 _
      have hfin : Disk q { E.keeps E.wait with wait := [] } F (wr.setCell ⟨q, 2, none⟩ (.slice none 0 0)) := ⟨S, bd, bt, .slice none 0 0, vc, hD.field (D' := { E.keeps E.wait with wait := [] }) hkq ((heap_setCell_same hD.blk).trans (by simp)) rfl rfl rfl ⟨rfl, .inl ⟨rfl, rfl⟩⟩ (fun x hx => by simp at hx) (fun b hb => by cases hb) (hD.cuts.kept hkq fun b _ hb => (hD.ns b hb).1), HF.out.cov.1, HF.out.cov.2.1, HF.out.cov.2.2.1, HF.out.cov.2.2.2.1, (fun b hb => by cases hb), fun b hb => HF.out.cov.2.2.2.2 b (Nat.le_trans (hKK.trans (hkq.mono fun b _ e => e ▸ HF.out.cov.2.1)).size hb)⟩
      have HX := hid hfin
      have HK := hid (hKK.trans (hkq.mono fun b _ e => e ▸ HF.out.cov.2.1))
      clear hfin hs hD hkq hKK HR
      go_wp2
      go_ret
      exact ⟨rfl, HX.out, HK.out⟩
theorem flush_calls (h : Disk q D F w) : Calls Tryd.prog 27 #[.pointer (some ⟨q, 0, none⟩)] w fun e w' => e = .returned (.int .i64 D.flush.2) ∧ Disk q D.flush.1 F w' ∧ Kept F w w' := by
  unfold DS.flush
  cases hd : D.dead with
  | true =>
    refine (flush_no h hd).mono ?_
    rintro e w' ⟨rfl, rfl⟩
    exact ⟨rfl, h, Kept.refl _ _⟩
  | false =>
    rw [if_neg (by decide)]
    cases ha : D.act.2 with
    | true => exact flush_fails h hd ha
    | false => exact flush_ok h hd ha
end Go.Proofs.YtolifmpjbmekdaaDoor
