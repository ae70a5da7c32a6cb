/-
The queue's keys of places and numbers, its ends, how many wait, whether one does; conditions: the queue lies in memory as told.
-/
import Derived.Test.YtmlnjheiogmlaaaQueue
namespace Go.Proofs.Ytmlnjheiogmlaaa
open Go.RowKit Go.Lib Go.Proofs.Ytmlnjheiogmlaaa.F Go.Proofs.Ytmlnjheiogmlaaa.Pure Go.Proofs.YtmlnjheiogmlaaaW.PrintWords
abbrev placeK (nm : ByteArray) (n : Nat) : ByteArray := nm ++ ⟨#[112]⟩ ++ str (key n)
abbrev memK (nm : ByteArray) (n : Nat) : ByteArray := nm ++ ⟨#[109]⟩ ++ str (key n)
abbrev endK (nm s : ByteArray) : ByteArray := nm ++ ⟨#[101]⟩ ++ s
theorem que_place {q g : Nat} {nm : ByteArray} {w : World} (n : Nat) (hq : Que q g nm w) (hn : nm.size ≤ 1000) (h : n < 18446744073709551616) :
    Calls Try.prog 34 #[.pointer (some ⟨q, 0, none⟩), .int .u64 n] w fun e w' => e = .returned (.string (nm ++ ⟨#[112]⟩ ++ str (key n))) ∧ Below w.heap.size w w' := by
  obtain ⟨c0, c1⟩ := hq.cells
  obtain ⟨k, hk⟩ := (wire_Key_tells n h).rounds
  have HK := hid hk
  have hl := key_length n h
  have hl2 : (str (key n)).size ≤ 9 := by rw [str_size]; exact hl
  clear hk hl
  generalize str (key n) = s at *
  have z1 : ¬ 9223372036854775807 < nm.size + 1 := by omega
  have z2 : ¬ 9223372036854775807 < nm.size + 1 + s.size := by omega
  go_enter Try.func34, Try.ntmps34
  go_wp2
  go_region_held3 (fun w' => w'.cell? ⟨q, 1, none⟩ = some (.string nm)) (first | exact c1 | exact d0) (first | (go_at_call 49; (with_reducible refine (wire_Key.calls k n s _ HK.out).mono ?_); rintro e w1 ⟨rfl, hb1⟩; have hN := hq.new (new_of_below (below_step (below_drew1 (Below.refl w.heap.size w)) hb1)); have d0 := hN.cells.2))
  all_goals
    go_wp2
    go_ret
    exact ⟨rfl, below_step (below_drew1 (Below.refl w.heap.size w)) hb1⟩
theorem que_member {q g : Nat} {nm : ByteArray} {w : World} (n : Nat) (hq : Que q g nm w) (hn : nm.size ≤ 1000) (h : n < 18446744073709551616) :
    Calls Try.prog 36 #[.pointer (some ⟨q, 0, none⟩), .int .u64 n] w fun e w' => e = .returned (.string (nm ++ ⟨#[109]⟩ ++ str (key n))) ∧ Below w.heap.size w w' := by
  obtain ⟨c0, c1⟩ := hq.cells
  obtain ⟨k, hk⟩ := (wire_Key_tells n h).rounds
  have HK := hid hk
  have hl := key_length n h
  have hl2 : (str (key n)).size ≤ 9 := by rw [str_size]; exact hl
  clear hk hl
  generalize str (key n) = s at *
  have z1 : ¬ 9223372036854775807 < nm.size + 1 := by omega
  have z2 : ¬ 9223372036854775807 < nm.size + 1 + s.size := by omega
  go_enter Try.func36, Try.ntmps36
  go_wp2
  go_region_held3 (fun w' => w'.cell? ⟨q, 1, none⟩ = some (.string nm)) (first | exact c1 | exact d0) (first | (go_at_call 49; (with_reducible refine (wire_Key.calls k n s _ HK.out).mono ?_); rintro e w1 ⟨rfl, hb1⟩; have hN := hq.new (new_of_below (below_step (below_drew1 (Below.refl w.heap.size w)) hb1)); have d0 := hN.cells.2))
  all_goals
    go_wp2
    go_ret
    exact ⟨rfl, below_step (below_drew1 (Below.refl w.heap.size w)) hb1⟩
set_option maxHeartbeats 1600000 in
theorem que_ends {q g : Nat} {nm : ByteArray} {F : Nat → Prop} {l : List (ByteArray × ByteArray)} {w : World} {a b : Nat} {ia ib : Bool} (hq : Que q g nm w) (hn : nm.size ≤ 1000) (h : KVs g F l w) (hs : l.length < 1000000)
    (ha : Reads l (endK nm ⟨#[97]⟩) a ia) (hb : Reads l (endK nm ⟨#[98]⟩) b ib) (hab : a ≤ b) :
    Calls Try.prog 32 #[.pointer (some ⟨q, 0, none⟩)] w fun e w' => e = .returned (.tuple #[.int .u64 a, .int .u64 b, .int .i64 0]) ∧ Below w.heap.size w w' := by
  have H := hid h
  have HA := hid ha
  have HB := hid hb
  have h1 : ¬ (b : Int) < a := by omega
  clear h ha hb hab
  go_enter Try.func32, Try.ntmps32
  go_wp2_with (first | (go_at_call 37; (with_reducible refine (que_end ⟨#[97]⟩ hq hn (by decide)).mono ?_); rintro e w1 ⟨rfl, rfl⟩) | (go_at_call 39; (with_reducible refine (que_number hq H.out hs HA.out).mono ?_); rintro e w2 ⟨rfl, hb2⟩; have hq2 := hq.new (new_of_below hb2); have H2 := hid (H.out.new (new_of_below hb2))) | (go_at_call 37; (with_reducible refine (que_end ⟨#[98]⟩ hq2 hn (by decide)).mono ?_); rintro e w3 ⟨rfl, rfl⟩) | (go_at_call 39; (with_reducible refine (que_number hq2 H2.out hs HB.out).mono ?_); rintro e w4 ⟨rfl, hb4⟩))
  go_ret3
  exact ⟨rfl, below_step hb2 hb4⟩
set_option maxHeartbeats 1600000 in
theorem que_len {q g : Nat} {nm : ByteArray} {F : Nat → Prop} {l : List (ByteArray × ByteArray)} {w : World} {a b : Nat} {ia ib : Bool} (hq : Que q g nm w) (hn : nm.size ≤ 1000) (h : KVs g F l w) (hs : l.length < 1000000)
    (ha : Reads l (endK nm ⟨#[97]⟩) a ia) (hb : Reads l (endK nm ⟨#[98]⟩) b ib) (hab : a ≤ b) (hbl : b < 1000000) :
    Calls Try.prog 40 #[.pointer (some ⟨q, 0, none⟩)] w fun e w' => e = .returned (.tuple #[.int .i64 ((b - a : Nat) : Int), .int .i64 0]) ∧ Below w.heap.size w w' := by
  have H := hid h
  have HE := hid (que_ends hq hn h hs ha hb hab)
  have e1 : IntKind.u64.wrap ((b : Int) - a) = ((b - a : Nat) : Int) := by rw [IntKind.wrap_u64]; omega
  have e2 : wrap64 ((b - a : Nat) : Int) = ((b - a : Nat) : Int) := by unfold wrap64; omega
  generalize b - a = c at e1 e2 ⊢
  clear h ha hb hab
  go_enter Try.func40, Try.ntmps40
  go_wp2_with (first | (go_at_call 38; (with_reducible refine (que_bad hq).mono ?_); rintro e w1 ⟨rfl, rfl⟩) | (go_at_call 32; (with_reducible refine HE.out.mono ?_); rintro e w2 ⟨rfl, hb2⟩))
  go_ret2
  refine ⟨?_, hb2⟩
  show Ending.returned (.tuple #[.int .i64 (wrap64 (c : Int)), .int .i64 0]) = _
  rw [e2]
set_option maxHeartbeats 1600000 in
theorem que_has {q g : Nat} {nm : ByteArray} {F : Nat → Prop} {l : List (ByteArray × ByteArray)} {w : World} {n : Nat} {t : ByteArray} {is : Bool} (hq : Que q g nm w) (hn : nm.size ≤ 1000) (h : KVs g F l w) (hs : l.length < 1000000) (hv : n < 18446744073709551616)
    (hm : kvGet l (memK nm n) = (t, is)) :
    Calls Try.prog 31 #[.pointer (some ⟨q, 0, none⟩), .int .u64 n] w fun e w' => e = .returned (.tuple #[.bool is, .int .i64 0]) ∧ Below w.heap.size w w' := by
  have H := hid h
  have HM := hid hm
  have hi := is_get
  have hni := nil_get
  obtain ⟨c0, c1⟩ := hq.cells
  clear h hm
  go_enter Try.func31, Try.ntmps31
  go_wp2_with (first | (go_at_call 38; (with_reducible refine (que_bad hq).mono ?_); rintro e w1 ⟨rfl, rfl⟩))
  go_region_held3 (fun w' => w'.cell? ⟨q, 0, none⟩ = some (.iface 23 (.pointer (some ⟨g, 0, none⟩)))) (first | exact c0 | exact d0) (first | (go_at_call 36; (with_reducible refine (que_member n (w := w.drew) ⟨hq.blk⟩ hn hv).mono ?_); rintro e w2 ⟨rfl, hb2⟩; have hw2 := below_step (below_drew1 (Below.refl w.heap.size w)) hb2; have hq2 := hq.new (new_of_below hw2); have d0 := hq2.cells.1; have H2 := hid (H.out.new (new_of_below hw2))) | (go_at_call 48; (with_reducible refine (H2.out.get _ hs HM.out).mono ?_); rintro e w3 ⟨rfl, rfl⟩))
  all_goals
    go_wp2
    go_ret2
    exact ⟨rfl, hw2⟩
end Go.Proofs.Ytmlnjheiogmlaaa
