/-
No cache, one over nothing, keys and texts that may not be; a text that is held; conditions: those that each theorem names.
-/
import Derived.Test.YtmlnjheiogmlaaaCGet
namespace Go.Proofs.Ytmlnjheiogmlaaa
open Go.RowKit Go.Lib Go.Maps Go.Proofs.YtmlnjheiogmlaaaW.PrintWords
abbrev Bad (v : Value) (w : World) : Prop := Calls Try.prog 43 #[v] w fun e w' => e = .returned (.bool true) ∧ w = w'
theorem get_bad {v : Value} {k : ByteArray} {w : World} (h : Bad v w) : Calls Try.prog 22 #[v, .string k] w fun e w' => e = .returned (.tuple #[.string ⟨#[]⟩, .bool false, .int .i64 1]) ∧ w = w' := by
  have HB := hid h
  clear h
  go_enter Try.func22, Try.ntmps22
  go_wp2_with (first | (go_at_call 43; (with_reducible refine HB.out.mono ?_); rintro e w1 ⟨rfl, rfl⟩))
  go_ret3
  exact ⟨rfl, rfl⟩
theorem del_bad {v : Value} {k : ByteArray} {w : World} (h : Bad v w) : Calls Try.prog 23 #[v, .string k] w fun e w' => e = .returned (.tuple #[.bool false, .int .i64 1]) ∧ w = w' := by
  have HB := hid h
  clear h
  go_enter Try.func23, Try.ntmps23
  go_wp2_with (first | (go_at_call 43; (with_reducible refine HB.out.mono ?_); rintro e w1 ⟨rfl, rfl⟩))
  go_ret2
  exact ⟨rfl, rfl⟩
theorem put_bad {v : Value} {k t : ByteArray} {w : World} (h : Bad v w) : Calls Try.prog 27 #[v, .string k, .string t] w fun e w' => e = .returned (.int .i64 1) ∧ w = w' := by
  have HB := hid h
  clear h
  go_enter Try.func27, Try.ntmps27
  go_wp2_with (first | (go_at_call 43; (with_reducible refine HB.out.mono ?_); rintro e w1 ⟨rfl, rfl⟩))
  go_ret
  exact ⟨rfl, rfl⟩
theorem sync_bad {v : Value} {w : World} (h : Bad v w) : Calls Try.prog 25 #[v] w fun e w' => e = .returned (.int .i64 1) ∧ w = w' := by
  have HB := hid h
  clear h
  go_enter Try.func25, Try.ntmps25
  go_wp2_with (first | (go_at_call 43; (with_reducible refine HB.out.mono ?_); rintro e w1 ⟨rfl, rfl⟩))
  go_ret
  exact ⟨rfl, rfl⟩
theorem held_nil {w : World} : Calls Try.prog 29 #[.pointer none] w fun e w' => e = .returned (.int .i64 0) ∧ w = w' := by
  go_enter Try.func29, Try.ntmps29
  go_wp2
  go_ret
  exact ⟨rfl, rfl⟩
theorem cost_nil {w : World} : Calls Try.prog 30 #[.pointer none] w fun e w' => e = .returned (.tuple #[.int .i64 0, .int .i64 0]) ∧ w = w' := by
  go_enter Try.func30, Try.ntmps30
  go_wp2
  go_ret2
  exact ⟨rfl, rfl⟩
theorem put_long1 {q m g : Nat} {F : Nat → Prop} {most now N c : Nat} {f : ByteArray → Option Ent} {l : List (ByteArray × ByteArray)} {w : World} {k t : ByteArray} (h : Cach q m g F most now N c f l w) (hk : 64 < k.size) :
    Calls Try.prog 27 #[.pointer (some ⟨q, 0, none⟩), .string k, .string t] w fun e w' => e = .returned (.int .i64 1) ∧ w = w' := by
  have HB := hid (cache_bad h)
  have h1 : (k.size : Int) > 64 := by omega
  clear h
  go_enter Try.func27, Try.ntmps27
  go_wp2_with (first | (go_at_call 43; (with_reducible refine HB.out.mono ?_); rintro e w1 ⟨rfl, rfl⟩))
  go_ret
  exact ⟨rfl, rfl⟩
theorem put_long2 {q m g : Nat} {F : Nat → Prop} {most now N c : Nat} {f : ByteArray → Option Ent} {l : List (ByteArray × ByteArray)} {w : World} {k t : ByteArray} (h : Cach q m g F most now N c f l w) (hk : k.size ≤ 64) (ht : 65536 < t.size) :
    Calls Try.prog 27 #[.pointer (some ⟨q, 0, none⟩), .string k, .string t] w fun e w' => e = .returned (.int .i64 1) ∧ w = w' := by
  have HB := hid (cache_bad h)
  have h1 : ¬ (k.size : Int) > 64 := by omega
  have h2 : (t.size : Int) > 65536 := by omega
  clear h
  go_enter Try.func27, Try.ntmps27
  go_wp2_with (first | (go_at_call 43; (with_reducible refine HB.out.mono ?_); rintro e w1 ⟨rfl, rfl⟩))
  go_ret
  exact ⟨rfl, rfl⟩
set_option maxHeartbeats 1600000 in
set_option maxRecDepth 100000 in
theorem cache_get1 {q m g : Nat} {F : Nat → Prop} {most now N c : Nat} {f : ByteArray → Option Ent} {l : List (ByteArray × ByteArray)} {w : World} {k : ByteArray} {x : Ent} (h : Cach q m g F most now N c f l w) (hN : N < 90000) (hx : f k = some x) :
    Calls Try.prog 22 #[.pointer (some ⟨q, 0, none⟩), .string k] w fun e w' => e = .returned (.tuple #[.string x.text, .bool x.is, .int .i64 0]) ∧ Cach q m g F most (now + 1) (N + 1) c (updF f k (some ⟨x.text, x.is, x.dirty, now + 1⟩)) l w' ∧ Kept (fun b => F b ∨ b = q ∨ b = m) w w' := by
  have HB := hid (cache_bad h)
  have HL := hid (cache_look1 h (by omega) hx)
  obtain ⟨text, is, dirty, at_⟩ := x
  clear h
  go_enter Try.func22, Try.ntmps22
  go_wp2_with (first | (go_at_call 43; (with_reducible refine HB.out.mono ?_); rintro e w1 ⟨rfl, rfl⟩) | (go_at_call 44; (with_reducible refine HL.out.mono ?_); rintro e w2 ⟨rfl, hC, hK⟩; have HC := hid hC; have HK := hid hK; clear hC hK))
  go_region
  go_wp2
  go_ret3
  exact ⟨rfl, HC.out.new ((Kept.refl _ _).alloc _).drew, (HK.out.alloc _).drew⟩
set_option maxHeartbeats 1600000 in
set_option maxRecDepth 100000 in
theorem cache_put1 {q m g : Nat} {F : Nat → Prop} {most now N c : Nat} {f : ByteArray → Option Ent} {l : List (ByteArray × ByteArray)} {w : World} {k t : ByteArray} (h : Cach q m g F most now N c f l w) (hN : N < 90000) (hk : k.size ≤ 64) (ht : t.size ≤ 65536) (hc : (f k).isSome = true ∨ c < most) :
    Calls Try.prog 27 #[.pointer (some ⟨q, 0, none⟩), .string k, .string t] w fun e w' => e = .returned (.int .i64 0) ∧ Cach q m g F most (now + 1) (N + 1) (if (f k).isSome then c else c + 1) (updF f k (some ⟨t, true, true, now + 1⟩)) l w' ∧ Kept (fun b => F b ∨ b = q ∨ b = m) w w' := by
  obtain ⟨c', hc'⟩ : ∃ c', (if (f k).isSome then c else c + 1) = c' := ⟨_, rfl⟩
  have HB := hid (cache_bad h)
  have HH := hid (cache_hold1 (k := k) (x := ⟨t, true, true, 0⟩) h (by omega) (by omega) (fun e => by cases e) (fun e => by cases e) hc)
  have e0 : entV ⟨t, true, true, 0⟩ = .agg #[.string t, .bool true, .bool true, .int .u64 0] := rfl
  rw [e0] at HH
  rw [hc'] at HH ⊢
  have h1 : ¬ (k.size : Int) > 64 := by omega
  have h2 : ¬ (t.size : Int) > 65536 := by omega
  clear h
  go_enter Try.func27, Try.ntmps27
  go_wp2_with (first | (go_at_call 43; (with_reducible refine HB.out.mono ?_); rintro e w1 ⟨rfl, rfl⟩) | (go_at_call 45; (with_reducible refine HH.out.mono ?_); rintro e w2 ⟨rfl, hC, hK⟩))
  go_ret
  exact ⟨rfl, hC, hK⟩
/-- A cache is new. -/
theorem Cach.start {w W : World} {g most : Nat} (hw : w.heap.size = g) (hm : most ≤ 1000)
    (hW : W = ((w.alloc (.cells #[.slice none 0 0, .slice none 0 0] 26)).alloc (.map #[] 0)).alloc (cacheBlk g most (g + 1) 0 0 0)) :
    Cach (g + 2) (g + 1) g (fun b => g ≤ b ∧ b ≠ g + 2 ∧ b ≠ g + 1) most 0 0 0 (fun _ => none) [] W := by
  subst hW
  have hz1 : (w.alloc (.cells #[.slice none 0 0, .slice none 0 0] 26)).heap.size = g + 1 := by simp [hw]
  have hz2 : ((w.alloc (.cells #[.slice none 0 0, .slice none 0 0] 26)).alloc (.map #[] 0)).heap.size = g + 2 := by simp [hw]
  have n2 : New ((w.alloc (.cells #[.slice none 0 0, .slice none 0 0] 26)).alloc (.map #[] 0)) (((w.alloc (.cells #[.slice none 0 0, .slice none 0 0] 26)).alloc (.map #[] 0)).alloc (cacheBlk g most (g + 1) 0 0 0)) := (Kept.refl _ _).alloc _
  have hmm := (mapF_made (w.alloc (.cells #[.slice none 0 0, .slice none 0 0] 26)) CK).new n2
  rw [hz1] at hmm
  refine ⟨⟨0, 0, Nat.le_refl _, Nat.le_refl _, blk_at _ _ hz2⟩, hmm, KVs.start hw (((Kept.refl _ _).alloc _).alloc _) ⟨Nat.le_refl _, by omega, by omega⟩ (fun b hb => ?_), by omega, by omega, by omega, Nat.zero_le _, hm, Nat.le_refl _, Nat.le_refl _, ⟨fun _ _ h => (by cases h), fun _ _ h => (by cases h), fun _ _ h => (by cases h), List.nodup_nil, fun _ _ h => (by cases h)⟩⟩
  simp at hb
  omega
theorem cache_new2 {g : Nat} {w : World} : Calls Try.prog 19 #[.iface 23 (.pointer (some ⟨g, 0, none⟩)), .int .i64 2] w fun e w' => e = .returned (.pointer (some ⟨w.heap.size + 1, 0, none⟩)) ∧ w' = (w.alloc (.map #[] 0)).alloc (cacheBlk g 2 w.heap.size 0 0 0) := cache_new (most := 2) (by omega)
theorem cache_new5 {g : Nat} {w : World} : Calls Try.prog 19 #[.iface 23 (.pointer (some ⟨g, 0, none⟩)), .int .i64 5] w fun e w' => e = .returned (.pointer (some ⟨w.heap.size + 1, 0, none⟩)) ∧ w' = (w.alloc (.map #[] 0)).alloc (cacheBlk g 5 w.heap.size 0 0 0) := cache_new (most := 5) (by omega)
theorem start_new {w : World} {g most : Nat} (hw : w.heap.size = g) (hm : most ≤ 1000) (W : World) (e : Ending) (hn : e = .returned (.pointer (some ⟨(w.alloc (.cells #[.slice none 0 0, .slice none 0 0] 26)).heap.size + 1, 0, none⟩)) ∧ W = ((w.alloc (.cells #[.slice none 0 0, .slice none 0 0] 26)).alloc (.map #[] 0)).alloc (cacheBlk g most (w.alloc (.cells #[.slice none 0 0, .slice none 0 0] 26)).heap.size 0 0 0)) :
    e = .returned (.pointer (some ⟨g + 2, 0, none⟩)) ∧ Hid (Cach (g + 2) (g + 1) g (fun b => g ≤ b ∧ b ≠ g + 2 ∧ b ≠ g + 1) most 0 0 0 (fun _ => none) [] W) ∧ Hid (New w W) := by
  obtain ⟨h1, h2⟩ := hn
  have hz1 : (w.alloc (.cells #[.slice none 0 0, .slice none 0 0] 26)).heap.size = g + 1 := by simp [hw]
  rw [hz1] at h1 h2
  refine ⟨h1, hid (Cach.start hw hm h2), hid ?_⟩
  subst h2
  exact (((Kept.refl _ _).alloc _).alloc _).alloc _
set_option maxHeartbeats 1600000 in
set_option maxRecDepth 100000 in
theorem cache_awake {w : World} : Calls Try.prog 20 #[] w fun e w' => e = .returned (.bool true) ∧ New w w' := by
  obtain ⟨g, hg⟩ : ∃ g, w.heap.size = g := ⟨_, rfl⟩
  have HN := hid ((cache_new2 (g := g) (w := w.alloc (.cells #[.slice none 0 0, .slice none 0 0] 26))).mono fun e W h => start_new (most := 2) hg (by omega) W e h)
  have HP := hid (fun W (HC : Hid (Cach (g + 2) (g + 1) g (fun b => g ≤ b ∧ b ≠ g + 2 ∧ b ≠ g + 1) 2 0 0 0 (fun _ => none) [] W)) => cache_put1 (k := ⟨#[97]⟩) (t := ⟨#[49]⟩) HC.out (by omega) (by decide) (by decide) (.inr (by omega)))
  have HG := hid (fun f W (hf : f ⟨#[97]⟩ = some ⟨⟨#[49]⟩, true, true, 1⟩) (HC : Hid (Cach (g + 2) (g + 1) g (fun b => g ≤ b ∧ b ≠ g + 2 ∧ b ≠ g + 1) 2 1 1 1 f [] W)) => cache_get1 HC.out (by omega) hf)
  have HH := hid (fun f now N W (HC : Hid (Cach (g + 2) (g + 1) g (fun b => g ≤ b ∧ b ≠ g + 2 ∧ b ≠ g + 1) 2 now N 1 f [] W)) => (cache_held HC.out : Calls Try.prog 29 #[.pointer (some ⟨g + 2, 0, none⟩)] W fun e w' => e = .returned (.int .i64 1) ∧ W = w'))
  go_enter Try.func20, Try.ntmps20
  go_wp2_with (first | (go_at_call 19; (with_reducible refine HN.out.mono ?_); rintro e w1 ⟨rfl, HC, HN1⟩) | (go_at_call 27; (with_reducible refine (HP.out _ HC).mono ?_); rintro e w2 ⟨rfl, hC2, hK2⟩; have HC2 : Hid (Cach (g + 2) (g + 1) g (fun b => g ≤ b ∧ b ≠ g + 2 ∧ b ≠ g + 1) 2 1 1 1 (updF (fun _ => none) ⟨#[97]⟩ (some ⟨⟨#[49]⟩, true, true, 1⟩)) [] w2) := hid hC2; have HK2 := hid hK2; clear hC2 hK2) | (go_at_call 22; (with_reducible refine (HG.out _ _ (by simp [updF]) HC2).mono ?_); rintro e w3 ⟨rfl, hC3, hK3⟩; have HC3 := hid hC3; have HK3 := hid hK3; clear hC3 hK3) | (go_at_call 29; (with_reducible refine (HH.out _ _ _ _ HC3).mono ?_); rintro e w4 ⟨rfl, rfl⟩))
  go_ret
  refine ⟨rfl, ?_⟩
  have h1 : New w w2 := HN1.out.trans' HK2.out fun b hb e => by omega
  exact h1.trans' HK3.out fun b hb e => by omega
theorem zeros_string {w : World} {base n : Nat} {v : Value} (h : w.ownsRow base 5 1 v n (madeCells (Value.int .u8 0).cells (n * 1)).toList) : ∃ s : ByteArray, s.size = n ∧ (convert 70 9 v).run Try.prog w = .ok (.string s) w := by
  have e : (madeCells (Value.int .u8 0).cells (n * 1)).toList = nums .u8 (List.replicate n 0) := by
    show (madeCells #[.int .u8 0] (n * 1)).toList = _
    rw [Nat.mul_one, toList_madeCells_one]
    simp [nums]
  rw [e] at h
  refine ⟨_, ?_, own_string Try.underlying70 Try.underlying5 Try.underlying9 h⟩
  simp [strOfNums, ByteArray.size]
end Go.Proofs.Ytmlnjheiogmlaaa
