/-
phase.Load and phase.Save over keys and texts in two rows; conditions: the rows lie in memory as told.
-/
import Derived.Test.YtmlnjheiogmlaaaQues
import Derived.Test.YtmlnjheiogmlaaaKVGet
import Derived.Test.YtmlnjheiogmlaaaKVPut
import Derived.Test.YtmlnjheiogmlaaaNumP
namespace Go.Proofs.Ytmlnjheiogmlaaa
open Go.RowKit Go.Lib Go.Proofs.Ytmlnjheiogmlaaa.F Go.Proofs.YtmlnjheiogmlaaaW.PrintWords
abbrev z : ByteArray := ⟨#[122]⟩
theorem bcell0 {W w1 : World} (hb : Below W.heap.size W w1) : (∀ b o, b < W.heap.size → w1.cell? ⟨b, o, none⟩ = W.cell? ⟨b, o, none⟩) ∧ (∀ b o, b < W.heap.size → w1.frozen? ⟨b, o, none⟩ = W.frozen? ⟨b, o, none⟩) :=
  ⟨fun b o h => hb.cell (p := ⟨b, o, none⟩) h, fun b o h => hb.frozen (p := ⟨b, o, none⟩) h⟩
theorem below_new {w w' : World} (h : New w w') : Below w.heap.size w w' := h.below (Nat.le_refl _) fun _ e => e.elim
set_option maxHeartbeats 1600000 in
set_option maxRecDepth 100000 in
theorem Load_nil (w : World) : Calls Try.prog 15 #[.nilIface] w fun e w' => e = .returned (.tuple #[.agg #[.int .i64 0, .int .u64 0, .int .u64 0], .int .i64 1]) ∧ Below w.heap.size w w' := by
  have hu := Try.underlying46
  go_enter Try.func15, Try.ntmps15
  go_wp2
  exact bodyPost_ret (v := .tuple #[.agg #[.int .i64 0, .int .u64 0, .int .u64 0], .int .i64 1]) (by simp [results, Try.results15, go_sem]) rfl ⟨rfl, (Below.refl _ _).alloc (Nat.le_refl _) _⟩
set_option maxHeartbeats 1600000 in
set_option maxRecDepth 100000 in
theorem Load_none {g : Nat} {vk vt : Value} {l : List (ByteArray × ByteArray)} {w : World} (h : KVat g vk vt l w) (hs : l.length < 1000000) (hz : kvGet l z = (⟨#[]⟩, false)) :
    Calls Try.prog 15 #[.iface 23 (.pointer (some ⟨g, 0, none⟩))] w fun e w' => e = .returned (.tuple #[.agg #[.int .i64 0, .int .u64 0, .int .u64 0], .int .i64 0]) ∧ Below w.heap.size w w' := by
  have hu := Try.underlying46
  have hm := is_get
  have hB : New w (w.alloc (.cells #[.int .i64 0, .int .u64 0, .int .u64 0] 46)) := (Kept.refl _ _).alloc _
  have hG := KV_Get z (h.kept hB fun _ _ => id) hs
  rw [hz] at hG
  have HG := hid hG
  clear h hz hG hB
  go_enter Try.func15, Try.ntmps15
  go_wp2_with (go_at_call 48; (with_reducible refine (HG.out).mono ?_); rintro e w1 ⟨rfl, rfl⟩)
  exact bodyPost_ret (v := .tuple #[.agg #[.int .i64 0, .int .u64 0, .int .u64 0], .int .i64 0]) (by simp [results, Try.results15, go_sem]) rfl ⟨rfl, (Below.refl _ _).alloc (Nat.le_refl _) _⟩
set_option maxHeartbeats 1600000 in
set_option maxRecDepth 100000 in
theorem Load_some {g : Nat} {vk vt : Value} {l : List (ByteArray × ByteArray)} {w : World} {s : ByteArray} {k : Nat} {a b c : Int} (h : KVat g vk vt l w) (hs : l.length < 1000000) (hz : kvGet l z = (s, true)) (ho : phase_Of.f k s = some (a, b, c, 0)) :
    Calls Try.prog 15 #[.iface 23 (.pointer (some ⟨g, 0, none⟩))] w fun e w' => e = .returned (.tuple #[.agg #[.int .i64 a, .int .u64 b, .int .u64 c], .int .i64 0]) ∧ Below w.heap.size w w' := by
  have hu := Try.underlying46
  have hm := is_get
  have hB : New w (w.alloc (.cells #[.int .i64 0, .int .u64 0, .int .u64 0] 46)) := (Kept.refl _ _).alloc _
  have hG := KV_Get z (h.kept hB fun _ _ => id) hs
  rw [hz] at hG
  have HG := hid hG
  have HO := hid ho
  clear h hz hG hB ho
  go_enter Try.func15, Try.ntmps15
  go_wp2_with (first | (go_at_call 48; (with_reducible refine (HG.out).mono ?_); rintro e w1 ⟨rfl, rfl⟩) | (go_at_call 41; (with_reducible refine (phase_Of.calls k s a b c 0 _ HO.out).mono ?_); rintro e w2 ⟨rfl, hb⟩; have hc := new_of_below hb; have hblk := hc.at (blk_new _ _) id; have d0 := cell_at hblk 0; have d1 := cell_at hblk 1; have d2 := cell_at hblk 2; have f0 := frozen_at hblk 0; have f1 := frozen_at hblk 1; have f2 := frozen_at hblk 2; clear hblk hc))
  exact bodyPost_ret (v := .tuple #[.agg #[.int .i64 a, .int .u64 b, .int .u64 c], .int .i64 0]) (by simp [results, Try.results15, go_sem, d0, d1, d2]) rfl ⟨rfl, (((((Below.refl _ _).alloc (Nat.le_refl _) _).trans (hb.mono (by simp))).setCell (Nat.le_refl _) _).setCell (Nat.le_refl _) _).setCell (Nat.le_refl _) _⟩
theorem KVs.put {g : Nat} {F : Nat → Prop} {l : List (ByteArray × ByteArray)} {w : World} (k t : ByteArray) (h : KVs g F l w) (hs : l.length < 1000000) :
    Calls Try.prog 92 #[.pointer (some ⟨g, 0, none⟩), .string k, .string t] w fun e w' => e = .returned (.int .i64 0) ∧ KVs g F (kvPut l k t) w' ∧ Kept F w w' := by
  obtain ⟨⟨vk, vt, h1, h2⟩, h3⟩ := h
  exact (KV_Put k t h1 hs).mono fun e w' ⟨he, hp⟩ => ⟨he, KVs.of_puts hp h2 h3⟩
/-- A record that may be. -/
def mayP (a b c : Int) : Prop := 0 ≤ a ∧ a ≤ 7 ∧ b < 4611686018427387904 ∧ c < 4611686018427387904
set_option maxHeartbeats 1600000 in
set_option maxRecDepth 100000 in
theorem Save_nil (a b c : Int) (w : World) : Calls Try.prog 16 #[.nilIface, .agg #[.int .i64 a, .int .u64 b, .int .u64 c]] w fun e w' => e = .returned (.int .i64 1) ∧ Below w.heap.size w w' := by
  have hu := Try.underlying46
  go_enter Try.func16, Try.ntmps16
  go_wp2
  go_ret
  exact ⟨rfl, (Below.refl _ _).alloc (Nat.le_refl _) _⟩
set_option maxHeartbeats 1600000 in
set_option maxRecDepth 100000 in
theorem Save_no {g : Nat} (a b c : Int) (w : World) (hm : phase_May.f a b c = some false) : Calls Try.prog 16 #[.iface 23 (.pointer (some ⟨g, 0, none⟩)), .agg #[.int .i64 a, .int .u64 b, .int .u64 c]] w fun e w' => e = .returned (.int .i64 1) ∧ Below w.heap.size w w' := by
  have hu := Try.underlying46
  have HM := hid hm
  clear hm
  go_enter Try.func16, Try.ntmps16
  go_wp2_with (go_at_call 17; (with_reducible refine (phase_May.calls a b c false _ HM.out).mono ?_); rintro e w1 ⟨rfl, hb⟩)
  go_ret
  exact ⟨rfl, below_step (below_alloc (Below.refl _ _) _) hb⟩
set_option maxHeartbeats 1600000 in
set_option maxRecDepth 100000 in
theorem Save_yes {g : Nat} {F : Nat → Prop} {l : List (ByteArray × ByteArray)} {k : Nat} (a b c : Int) (s : ByteArray) (w : World) (h : KVs g F l w) (hs : l.length < 1000000) (hm : phase_May.f a b c = some true) (ht : phase_Text.f k a b c = some s) :
    Calls Try.prog 16 #[.iface 23 (.pointer (some ⟨g, 0, none⟩)), .agg #[.int .i64 a, .int .u64 b, .int .u64 c]] w fun e w' => e = .returned (.int .i64 0) ∧ KVs g F (kvPut l z s) w' ∧ Kept F w w' := by
  have hu := Try.underlying46
  have HM := hid hm
  have HT := hid ht
  have hmp := is_put
  have H := hid h
  clear hm ht h
  go_enter Try.func16, Try.ntmps16
  have hnp := nil_put
  go_wp2_with (go_at_call 17; (with_reducible refine (phase_May.calls a b c true _ HM.out).mono ?_); rintro e w1 ⟨rfl, hb1⟩; obtain ⟨hc1, hf1⟩ := bcell0 hb1)
  go_region_with (first | (go_at_call 42; (with_reducible refine (phase_Text.calls k a b c s _ HT.out).mono ?_); rintro e w2 ⟨rfl, hb2⟩; have N2 := new_of_below (below_step (below_drew1 (below_step (below_alloc (Below.refl w.heap.size w) _) hb1)) hb2)) | (go_at_call 92; (with_reducible refine (KVs.put z s (H.out.new N2) hs).mono ?_); rintro e w3 ⟨rfl, hk, hK⟩))
  all_goals
    go_wp2
    go_ret
    exact ⟨rfl, hk, (N2.mono fun _ _ h => h.elim).trans hK⟩
end Go.Proofs.Ytmlnjheiogmlaaa
