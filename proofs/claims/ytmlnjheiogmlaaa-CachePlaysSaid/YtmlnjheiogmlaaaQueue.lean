/-
The queue's functions over keys and texts: a number of a key, the ends, whether a number waits; conditions: the queue lies in memory as told.
-/
import Derived.Test.YtmlnjheiogmlaaaQues
import Derived.Test.YtmlnjheiogmlaaaKVGet
import Derived.Test.YtmlnjheiogmlaaaPhase
import Derived.Test.YtmlnjheiogmlaaaPhaseP
import Derived.Test.YtmlnjheiogmlaaaKeyP
import Derived.Deep.RegionHeld3
namespace Go.Proofs.Ytmlnjheiogmlaaa
open Go.RowKit Go.Lib Go.Proofs.Ytmlnjheiogmlaaa.F Go.Proofs.Ytmlnjheiogmlaaa.Pure Go.Proofs.YtmlnjheiogmlaaaW.PrintWords
theorem KVs.get {g : Nat} {F : Nat → Prop} {l : List (ByteArray × ByteArray)} {w : World} (k : ByteArray) (h : KVs g F l w) (hs : l.length < 1000000) {t : ByteArray} {b : Bool} (hg : kvGet l k = (t, b)) :
    Calls Try.prog 48 #[.pointer (some ⟨g, 0, none⟩), .string k] w fun e w' => e = .returned (.tuple #[.string t, .bool b, .int .i64 0]) ∧ w = w' := by
  obtain ⟨⟨vk, vt, h1, _⟩, _⟩ := h
  have := KV_Get k h1 hs
  rwa [hg] at this
/-- What a key says as a number: nothing, or one. -/
inductive Reads (l : List (ByteArray × ByteArray)) (k : ByteArray) : Nat → Bool → Prop where
  | none : kvGet l k = (⟨#[]⟩, false) → Reads l k 0 false
  | some (v : Nat) : kvGet l k = (str (num v), true) → v ≤ 4611686018427387904 → Reads l k v true
theorem que_number {q g : Nat} {nm : ByteArray} {F : Nat → Prop} {l : List (ByteArray × ByteArray)} {w : World} {k : ByteArray} {v : Nat} {b : Bool} (hq : Que q g nm w) (h : KVs g F l w) (hs : l.length < 1000000) (hr : Reads l k v b) :
    Calls Try.prog 39 #[.pointer (some ⟨q, 0, none⟩), .string k] w fun e w' => e = .returned (.tuple #[.int .u64 v, .bool b, .int .i64 0]) ∧ Below w.heap.size w w' := by
  have hm := is_get
  have hn := nil_get
  obtain ⟨c0, c1⟩ := hq.cells
  have H := hid h
  clear h hq
  cases hr with
  | none hg =>
    have HG := hid hg
    clear hg
    go_enter Try.func39, Try.ntmps39
    go_wp2_with (go_at_call 48; (with_reducible refine (H.out.get k hs HG.out).mono ?_); rintro e w1 ⟨rfl, rfl⟩)
    go_ret3
    exact ⟨rfl, Below.refl _ _⟩
  | some v hg hv =>
    have HG := hid hg
    obtain ⟨k1, h1⟩ := (told_num 4611686018427387904 v [] (by omega) hv).rounds
    obtain ⟨k2, h2⟩ := (end_tells [] 0).rounds
    rw [List.append_nil] at h1
    rw [if_neg (by simp)] at h2
    have H1 := hid h1
    have H2 := hid h2
    clear hg h1 h2
    go_enter Try.func39, Try.ntmps39
    go_wp2_with (first | (go_at_call 48; (with_reducible refine (H.out.get k hs HG.out).mono ?_); rintro e w1 ⟨rfl, rfl⟩) | (go_at_call 50; (with_reducible refine (wire_New.calls (str (num v)) _ _ w w (Below.refl _ _) rfl).mono ?_); rintro e w2 ⟨r, rfl, hI, hb, -⟩) | (go_at_call 51; (with_reducible refine (wire_Reader_Num.calls k1 r _ _ 4611686018427387904 _ _ _ w _ hI hb H1.out).mono ?_); rintro e w3 ⟨rfl, hI3, hb3, -⟩) | (go_at_call 52; (with_reducible refine (wire_Reader_End.calls k2 r _ _ _ _ _ w _ hI3 hb3 H2.out).mono ?_); rintro e w4 ⟨rfl, hI4, hb4, -⟩))
    go_ret3
    exact ⟨rfl, hb4⟩
end Go.Proofs.Ytmlnjheiogmlaaa
