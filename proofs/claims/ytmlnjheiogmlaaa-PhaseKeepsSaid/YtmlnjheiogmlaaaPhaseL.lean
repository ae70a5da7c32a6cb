/-
PhaseKeeps: a record that is saved is loaded, and the Go call of the law answers true; conditions: the numbers are of their kinds.
-/
import Derived.Test.YtmlnjheiogmlaaaPhase
import Derived.Test.YtmlnjheiogmlaaaPhaseP
import Derived.Test.YtmlnjheiogmlaaaWEqStruct
namespace Go.Proofs.Ytmlnjheiogmlaaa
open Go.RowKit Go.Lib Go.Proofs.Ytmlnjheiogmlaaa.F Go.Proofs.Ytmlnjheiogmlaaa.Pure Go.Proofs.YtmlnjheiogmlaaaW.PrintWords
theorem eqA46 (d : Nat) (w : World) (x0 y0 x1 y1 x2 y2 : Int) :
    (Op.equalIn (d + 2) 46 (.agg #[.int .i64 x0, .int .u64 x1, .int .u64 x2]) (.agg #[.int .i64 y0, .int .u64 y1, .int .u64 y2])).run Try.prog w = .ok (x0 == y0 && (x1 == y1 && (x2 == y2))) w := by
  refine eqA_of Try.underlying46 (by kernel_rfl) ?_
  refine eqf_cons (by rfl) (by go_simp; rfl) (by go_simp; rfl) (by go_simp) ?_
  refine eqf_cons (by rfl) (by go_simp; rfl) (by go_simp; rfl) (by go_simp) ?_
  exact eqf_last (by rfl) (by go_simp; rfl) (by go_simp; rfl) (by go_simp)
attribute [local go_sem high] eqA46
theorem KVat.fresh (w : World) {n : Nat} (hn : w.heap.size = n) : KVat n (.slice none 0 0) (.slice none 0 0) [] (w.alloc (.cells #[.slice none 0 0, .slice none 0 0] 26)) :=
  ⟨blk_at _ _ hn, ⟨rfl, .inl ⟨rfl, rfl⟩⟩, ⟨rfl, .inl ⟨rfl, rfl⟩⟩, by simp [Value.ownBlock], by simp [Value.ownBlock], by simp [Value.ownBlock]⟩
/-- What the law keeps: the record that came in, keys and texts, and what was there before. -/
structure PL (w : World) (a b c : Int) (S : Nat → Prop) (l : List (ByteArray × ByteArray)) (W : World) : Prop where
  p : W.heap[w.heap.size]? = some (.cells #[.int .i64 a, .int .u64 b, .int .u64 c] 46 (0, 0))
  kv : KVs (w.heap.size + 1) (fun x => w.heap.size < x ∧ ¬ S x) l W
  below : Below w.heap.size w W
def Box (n : Nat) (a b c : Int) (W : World) : Prop := W.heap[n]? = some (.cells #[.int .i64 a, .int .u64 b, .int .u64 c] 46 (0, 0))
theorem PL.new {w W W' : World} {a b c : Int} {S : Nat → Prop} {l : List (ByteArray × ByteArray)} (h : PL w a b c S l W) (hn : New W W') : PL w a b c S l W' :=
  ⟨hn.at h.p id, h.kv.new hn, h.below.trans (hn.below h.below.size fun _ e => e.elim)⟩
theorem PL.box {w W : World} {a b c : Int} {S : Nat → Prop} {l : List (ByteArray × ByteArray)} (h : PL w a b c S l W) (o : Obj) : PL w a b c (fun x => S x ∨ x = W.heap.size) l (W.alloc o) := by
  have hn : New W (W.alloc o) := (Kept.refl _ _).alloc o
  refine ⟨hn.at h.p id, ?_, h.below.trans (hn.below h.below.size fun _ e => e.elim)⟩
  obtain ⟨⟨vk, vt, h1, h2⟩, h3⟩ := h.kv
  refine ⟨⟨vk, vt, h1.kept hn fun _ _ => id, fun b hb => ⟨(h2 b hb).1, fun e => e.elim (h2 b hb).2 fun e => ?_⟩⟩, fun b hb => ⟨(h3 b (by simp at hb; omega)).1, fun e => e.elim (h3 b (by simp at hb; omega)).2 fun e => by simp at hb; omega⟩⟩
  have : b < W.heap.size := by
    rcases hb with rfl | hb | hb
    · exact blk_lt h1.blk
    · exact own_lt h1.ks hb
    · exact own_lt h1.ts hb
  omega
theorem PL.put {w W W' : World} {a b c : Int} {S : Nat → Prop} {l l' : List (ByteArray × ByteArray)} (h : PL w a b c S l W) (hk : KVs (w.heap.size + 1) (fun x => w.heap.size < x ∧ ¬ S x) l' W') (hK : Kept (fun x => w.heap.size < x ∧ ¬ S x) W W') : PL w a b c S l' W' :=
  ⟨hK.at h.p fun e => Nat.lt_irrefl _ e.1, hk, h.below.trans (hK.below h.below.size fun _ e => Nat.le_of_lt e.1)⟩
theorem PL.start (w : World) (a b c : Int) : PL w a b c (fun _ => False) [] ((w.alloc (.cells #[.int .i64 a, .int .u64 b, .int .u64 c] 46)).alloc (.cells #[.slice none 0 0, .slice none 0 0] 26)) := by
  refine ⟨blk_alloc (blk_new _ _) _, ⟨⟨_, _, KVat.fresh _ (by simp), ?_⟩, fun b hb => ⟨by simp at hb; omega, id⟩⟩, below_alloc (below_alloc (Below.refl _ _) _) _⟩
  rintro b (rfl | e | e)
  · exact ⟨by omega, id⟩
  · cases e
  · cases e
theorem Box.cells {n : Nat} {a b c : Int} {W : World} (h : Box n a b c W) : W.cell? ⟨n, 0, none⟩ = some (.int .i64 a) ∧ W.cell? ⟨n, 1, none⟩ = some (.int .u64 b) ∧ W.cell? ⟨n, 2, none⟩ = some (.int .u64 c) :=
  ⟨(cell_at h 0).trans rfl, (cell_at h 1).trans rfl, (cell_at h 2).trans rfl⟩
theorem Box.new {n : Nat} {a b c : Int} {W W' : World} (h : Box n a b c W) (hn : New W W') : Box n a b c W' := hn.at h id
theorem KVs.load_none {g : Nat} {F : Nat → Prop} {l : List (ByteArray × ByteArray)} {w : World} (h : KVs g F l w) (hs : l.length < 1000000) (hz : kvGet l z = (⟨#[]⟩, false)) :
    Calls Try.prog 15 #[.iface 23 (.pointer (some ⟨g, 0, none⟩))] w fun e w' => e = .returned (.tuple #[.agg #[.int .i64 0, .int .u64 0, .int .u64 0], .int .i64 0]) ∧ Below w.heap.size w w' := by
  obtain ⟨⟨_, _, h1, _⟩, _⟩ := h
  exact Load_none h1 hs hz
theorem KVs.load_some {g : Nat} {F : Nat → Prop} {l : List (ByteArray × ByteArray)} {w : World} {s : ByteArray} {k : Nat} {a b c : Int} (h : KVs g F l w) (hs : l.length < 1000000) (hz : kvGet l z = (s, true)) (ho : phase_Of.f k s = some (a, b, c, 0)) :
    Calls Try.prog 15 #[.iface 23 (.pointer (some ⟨g, 0, none⟩))] w fun e w' => e = .returned (.tuple #[.agg #[.int .i64 a, .int .u64 b, .int .u64 c], .int .i64 0]) ∧ Below w.heap.size w w' := by
  obtain ⟨⟨_, _, h1, _⟩, _⟩ := h
  exact Load_some h1 hs hz ho
set_option maxHeartbeats 4000000 in
set_option maxRecDepth 100000 in
theorem phaseKeeps_yes (a b c : Nat) (w : World) (h : pmay a b c) :
    Calls Try.prog 5 #[.agg #[.int .i64 a, .int .u64 b, .int .u64 c]] w fun e w' => e = .returned (.bool true) ∧ Below w.heap.size w w' := by
  obtain ⟨k1, ht⟩ := (phase_text_tells a b c h).rounds
  obtain ⟨k2, ho⟩ := (phase_of_tells a b c h).rounds
  obtain ⟨k3, ha⟩ := phase_awake.rounds
  have hm := phase_may_tells a b c
  rw [decide_eq_true h] at hm
  generalize str (num a ++ num b ++ num c) = s at ht ho
  have HT := hid ht
  have HO := hid ho
  have HA := hid ha
  have HM := hid hm
  have P0 := PL.start w a b c
  have hu := Try.underlying46
  have hz0 : Hid (kvGet [] z = (⟨#[]⟩, false)) := rfl
  have hz1 : Hid (kvGet (kvPut [] z s) z = (s, true)) := by simp [Hid, kvGet, kvPut]
  clear ht ho ha hm h
  go_enter Try.func5, Try.ntmps5
  go_wp2_with (first | (go_at_call 15; (with_reducible refine (KVs.load_none P0.kv (by simp) hz0.out).mono ?_); rintro e w1 ⟨rfl, hb1⟩; have P1 := P0.new (new_of_below hb1); have Q1 := fun x y z => P1.box (.cells #[.int .i64 x, .int .u64 y, .int .u64 z] 46); have dp := fun x y z => Box.cells (Q1 x y z).p) | (go_at_call 16; (with_reducible refine (Save_yes a b c s _ (Q1 _ _ _).kv (by simp) HM.out HT.out).mono ?_); rintro e w2 ⟨rfl, hk2, hK2⟩; have P2 := (Q1 _ _ _).put hk2 hK2; have B2 : Box w1.heap.size 0 0 0 w2 := hK2.at (blk_new _ _) (fun e => e.2 (.inr rfl))) | (go_at_call 15; (with_reducible refine (KVs.load_some P2.kv (by simp [kvPut]) hz1.out HO.out).mono ?_); rintro e w3 ⟨rfl, hb3⟩; have P3 := P2.new (new_of_below hb3); have B3 := B2.new (new_of_below hb3); have Q3 := fun x y z => P3.box (.cells #[.int .i64 x, .int .u64 y, .int .u64 z] 46); have C3 : ∀ x y z, Box w3.heap.size x y z (w3.alloc (.cells #[.int .i64 x, .int .u64 y, .int .u64 z] 46)) := fun x y z => blk_new _ _) | (go_at_call 15; (with_reducible refine (Load_nil _).mono ?_); rintro e w4 ⟨rfl, hb4⟩; have P4 := (Q3 _ _ _).new (new_of_below hb4); have B4 := (B3.new ((Kept.refl _ _).alloc _)).new (new_of_below hb4); have C4 := (C3 _ _ _).new (new_of_below hb4); have Q4 := fun x y z => P4.box (.cells #[.int .i64 x, .int .u64 y, .int .u64 z] 46); have dp4 := fun x y z => Box.cells (Q4 x y z).p) | (go_at_call 17; (with_reducible refine (phase_May.calls a b c true _ HM.out).mono ?_); rintro e w5 ⟨rfl, hb5⟩; have N5 := new_of_below (below_step (below_alloc (Below.refl _ _) _) hb5); have P5 := P4.new N5; have B5 := B4.new N5; have C5 := C4.new N5) | (go_at_call 18; (with_reducible refine (keywaylaw17_awake.calls k3 true _ HA.out).mono ?_); rintro e w6 ⟨rfl, hb6⟩; have P6 := P5.new (new_of_below hb6); have B6 := Box.cells (B5.new (new_of_below hb6)); have C6 := Box.cells (C5.new (new_of_below hb6)); have D6 := Box.cells P6.p) | (go_at_call 16; (with_reducible refine (Save_nil a b c _).mono ?_); rintro e w7 ⟨rfl, hb7⟩; have P7 := P6.new (new_of_below hb7)))
  go_ret
  exact ⟨rfl, P7.below⟩
set_option maxHeartbeats 4000000 in
set_option maxRecDepth 100000 in
theorem phaseKeeps_no (a b c : Int) (w : World) (h : ¬ pmay a b c) :
    Calls Try.prog 5 #[.agg #[.int .i64 a, .int .u64 b, .int .u64 c]] w fun e w' => e = .returned (.bool true) ∧ Below w.heap.size w w' := by
  obtain ⟨k3, ha⟩ := phase_awake.rounds
  have hm := phase_may_tells a b c
  rw [decide_eq_false h] at hm
  have HA := hid ha
  have HM := hid hm
  have P0 := PL.start w a b c
  have hu := Try.underlying46
  have hz0 : Hid (kvGet [] z = (⟨#[]⟩, false)) := rfl
  clear ha hm h
  go_enter Try.func5, Try.ntmps5
  go_wp2_with (first | (go_at_call 15; (with_reducible refine (KVs.load_none P0.kv (by simp) hz0.out).mono ?_); rintro e w1 ⟨rfl, hb1⟩; have P1 := P0.new (new_of_below hb1); have Q1 := fun x y z => P1.box (.cells #[.int .i64 x, .int .u64 y, .int .u64 z] 46); have dp := fun x y z => Box.cells (Q1 x y z).p) | (go_at_call 16; (with_reducible refine (Save_no a b c _ HM.out).mono ?_); rintro e w2 ⟨rfl, hb2⟩; have P2 := (Q1 _ _ _).new (new_of_below hb2)) | (go_at_call 15; (with_reducible refine (KVs.load_none P2.kv (by simp) hz0.out).mono ?_); rintro e w3 ⟨rfl, hb3⟩; have P3 := P2.new (new_of_below hb3); have Q3 := fun x y z => P3.box (.cells #[.int .i64 x, .int .u64 y, .int .u64 z] 46); have C3 : ∀ x y z, Box w3.heap.size x y z (w3.alloc (.cells #[.int .i64 x, .int .u64 y, .int .u64 z] 46)) := fun x y z => blk_new _ _) | (go_at_call 15; (with_reducible refine (Load_nil _).mono ?_); rintro e w4 ⟨rfl, hb4⟩; have P4 := (Q3 _ _ _).new (new_of_below hb4); have C4 := (C3 _ _ _).new (new_of_below hb4); have Q4 := fun x y z => P4.box (.cells #[.int .i64 x, .int .u64 y, .int .u64 z] 46); have dp4 := fun x y z => Box.cells (Q4 x y z).p) | (go_at_call 17; (with_reducible refine (phase_May.calls a b c false _ HM.out).mono ?_); rintro e w5 ⟨rfl, hb5⟩; have N5 := new_of_below (below_step (below_alloc (Below.refl _ _) _) hb5); have P5 := P4.new N5; have C5 := C4.new N5) | (go_at_call 18; (with_reducible refine (keywaylaw17_awake.calls k3 true _ HA.out).mono ?_); rintro e w6 ⟨rfl, hb6⟩; have P6 := P5.new (new_of_below hb6); have C6 := Box.cells (C5.new (new_of_below hb6)); have D6 := Box.cells P6.p) | (go_at_call 16; (with_reducible refine (Save_nil a b c _).mono ?_); rintro e w7 ⟨rfl, hb7⟩; have P7 := P6.new (new_of_below hb7)))
  go_ret
  exact ⟨rfl, P7.below⟩
theorem u64_nonneg {a : Int} (h : (Lit.int .u64 a).wf = true) : 0 ≤ a := by
  simp only [Lit.wf, Bool.and_eq_true, decide_eq_true_eq] at h
  have h1 : IntKind.u64.min = 0 := rfl
  omega
theorem phaseKeeps_walk (a0_0 a0_1 a0_2 : Int) (w : World) (_ : (Lit.int .i64 a0_0).wf = true) (h1 : (Lit.int .u64 a0_1).wf = true) (h2 : (Lit.int .u64 a0_2).wf = true) :
    Calls Try.prog 5 #[.agg #[.int .i64 a0_0, .int .u64 a0_1, .int .u64 a0_2]] w fun e w' => e = .returned (.bool true) ∧ Below w.heap.size w w' := by
  by_cases h : pmay a0_0 a0_1 a0_2
  · have n1 := u64_nonneg h1
    have n2 := u64_nonneg h2
    have n0 := h.1
    obtain ⟨a, rfl⟩ := Int.eq_ofNat_of_zero_le n0
    obtain ⟨b, rfl⟩ := Int.eq_ofNat_of_zero_le n1
    obtain ⟨c, rfl⟩ := Int.eq_ofNat_of_zero_le n2
    exact phaseKeeps_yes a b c w h
  · exact phaseKeeps_no a0_0 a0_1 a0_2 w h
end Go.Proofs.Ytmlnjheiogmlaaa
