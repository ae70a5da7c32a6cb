/-
Push lets a number wait, if it does not; conditions: the queue lies in memory as told.
-/
import Derived.Test.YtmlnjheiogmlaaaQueue3
namespace Go.Proofs.Ytmlnjheiogmlaaa
open Go.RowKit Go.Lib Go.Proofs.Ytmlnjheiogmlaaa.F Go.Proofs.Ytmlnjheiogmlaaa.Pure Go.Proofs.YtmlnjheiogmlaaaW.PrintWords
/-- A new block is kept out of F. -/
theorem KVs.protect {g : Nat} {F : Nat → Prop} {l : List (ByteArray × ByteArray)} {w : World} (h : KVs g F l w) (o : Obj) : KVs g (fun x => F x ∧ x ≠ w.heap.size) l (w.alloc o) := by
  obtain ⟨⟨vk, vt, h1, h2⟩, h3⟩ := h
  have hn : New w (w.alloc o) := (Kept.refl _ _).alloc o
  refine ⟨⟨vk, vt, h1.kept hn fun _ _ => id, fun b hb => ⟨h2 b hb, ?_⟩⟩, fun b hb => ⟨h3 b (by simp at hb; omega), by simp at hb; omega⟩⟩
  have : b < w.heap.size := by
    rcases hb with rfl | hb | hb
    · exact blk_lt h1.blk
    · exact own_lt h1.ks hb
    · exact own_lt h1.ts hb
  omega
theorem KVs.wider {g : Nat} {F F' : Nat → Prop} {l : List (ByteArray × ByteArray)} {w : World} (h : KVs g F l w) (hF : ∀ x, F x → F' x) : KVs g F' l w := by
  obtain ⟨⟨vk, vt, h1, h2⟩, h3⟩ := h
  exact ⟨⟨vk, vt, h1, fun b hb => hF _ (h2 b hb)⟩, fun b hb => hF _ (h3 b hb)⟩
theorem que_push_no {q g : Nat} {nm : ByteArray} {F : Nat → Prop} {l : List (ByteArray × ByteArray)} {w : World} {n : Nat} {t : ByteArray} (hq : Que q g nm w) (hn : nm.size ≤ 1000) (h : KVs g F l w) (hs : l.length < 1000000) (hv : n ≤ 4611686018427387904)
    (hm : kvGet l (memK nm n) = (t, true)) :
    Calls Try.prog 9 #[.pointer (some ⟨q, 0, none⟩), .int .u64 n] w fun e w' => e = .returned (.tuple #[.bool false, .int .i64 0]) ∧ Below w.heap.size w w' := by
  have HH := hid (que_has hq hn h hs (by omega) hm)
  clear h hm hq
  go_enter Try.func9, Try.ntmps9
  go_wp2_with (go_at_call 31; (with_reducible refine HH.out.mono ?_); rintro e w1 ⟨rfl, hb1⟩)
  go_ret2
  exact ⟨rfl, hb1⟩
/-- What the keys say when a number was pushed. -/
def pushed (l : List (ByteArray × ByteArray)) (nm : ByteArray) (n b : Nat) : List (ByteArray × ByteArray) :=
  kvPuts l [nm ++ ⟨#[112]⟩ ++ str (key b), str (num n), nm ++ ⟨#[109]⟩ ++ str (key n), ⟨#[]⟩, nm ++ ⟨#[101]⟩ ++ ⟨#[98]⟩, str (num (b + 1))]
set_option maxHeartbeats 3200000 in
set_option maxRecDepth 100000 in
theorem que_push {q g : Nat} {nm : ByteArray} {F : Nat → Prop} {l : List (ByteArray × ByteArray)} {w : World} {n a b : Nat} {t : ByteArray} {ia ib : Bool} (hq : Que q g nm w) (hn : nm.size ≤ 1000) (h : KVs g F l w) (hs : l.length < 1000) (hqF : ¬ F q) (hv : n ≤ 4611686018427387904)
    (hm : kvGet l (memK nm n) = (t, false)) (ha : Reads l (endK nm ⟨#[97]⟩) a ia) (hb : Reads l (endK nm ⟨#[98]⟩) b ib) (hab : a ≤ b) (hbl : b < 1000000) :
    Calls Try.prog 9 #[.pointer (some ⟨q, 0, none⟩), .int .u64 n] w fun e w' => e = .returned (.tuple #[.bool true, .int .i64 0]) ∧ KVs g F (pushed l nm n b) w' ∧ Kept F w w' := by
  have HH := hid (que_has hq hn h (by omega) (by omega) hm)
  have HE := hid (fun w1 (hb1 : Below w.heap.size w w1) => que_ends (hq.new (new_of_below hb1)) hn (h.new (new_of_below hb1)) (by omega) ha hb hab)
  obtain ⟨k1, h1⟩ := (wire_Num_tells n (by omega)).rounds
  obtain ⟨k2, h2⟩ := (wire_Num_tells (b + 1) (by omega)).rounds
  have H1 := hid h1
  rw [show ((b + 1 : Nat) : Int) = (b : Int) + 1 by omega] at h2
  have H2 := hid h2
  have H := hid h
  have v1 : ¬ (4611686018427387904 : Int) < n := by omega
  have s1 : IntKind.u64.wrap ((b : Int) + 1) = ((b + 1 : Nat) : Int) := by rw [IntKind.wrap_u64]; omega
  have hb2 : b < 18446744073709551616 := by omega
  have hn2 : n < 18446744073709551616 := by omega
  have HQ : Hid (∀ w7, Below w.heap.size w w7 → Calls Try.prog 33 #[.pointer (some ⟨q, 0, none⟩), .slice (some ⟨w7.heap.size, 0, none⟩) 6 6] (w7.alloc (.cells #[.string (nm ++ ⟨#[112]⟩ ++ str (key b)), .string (str (num n)), .string (nm ++ ⟨#[109]⟩ ++ str (key n)), .string ⟨#[]⟩, .string (nm ++ ⟨#[101]⟩ ++ ⟨#[98]⟩), .string (str (num (b + 1)))] 9)) fun e w' => e = .returned (.int .i64 0) ∧ KVs g F (pushed l nm n b) w' ∧ Kept F w w') := fun w7 B7 => by
    have N7 := new_of_below (below_alloc B7 (.cells #[.string (nm ++ ⟨#[112]⟩ ++ str (key b)), .string (str (num n)), .string (nm ++ ⟨#[109]⟩ ++ str (key n)), .string ⟨#[]⟩, .string (nm ++ ⟨#[101]⟩ ++ ⟨#[98]⟩), .string (str (num (b + 1)))] 9))
    have HP := (h.new (new_of_below B7)).protect (.cells #[.string (nm ++ ⟨#[112]⟩ ++ str (key b)), .string (str (num n)), .string (nm ++ ⟨#[109]⟩ ++ str (key n)), .string ⟨#[]⟩, .string (nm ++ ⟨#[101]⟩ ++ ⟨#[98]⟩), .string (str (num (b + 1)))] 9)
    refine (que_puts (m := 3) (n := 6) (xs := [nm ++ ⟨#[112]⟩ ++ str (key b), str (num n), nm ++ ⟨#[109]⟩ ++ str (key n), ⟨#[]⟩, nm ++ ⟨#[101]⟩ ++ ⟨#[98]⟩, str (num (b + 1))]) (hq.new N7) HP hs (fun e => hqF e.1) (fun e => e.2 rfl) rfl rfl (by decide) (blk_new _ _)).mono ?_
    rintro e w8 ⟨rfl, hk8, hK8⟩
    exact ⟨rfl, hk8.wider fun _ e => e.1, (N7.mono fun _ _ e => e.elim).trans (hK8.mono fun _ _ e => e.1)⟩
  clear h hm ha hb hab h1 h2
  go_enter Try.func9, Try.ntmps9
  go_wp2_with (first | (go_at_call 31; (with_reducible refine HH.out.mono ?_); rintro e w1 ⟨rfl, hb1⟩) | (go_at_call 32; (with_reducible refine (HE.out _ hb1).mono ?_); rintro e w2 ⟨rfl, hb2⟩; have B2 := below_step hb1 hb2) | (go_at_call 34; (with_reducible refine (que_place b (hq.new (new_of_below B2)) hn (by assumption)).mono ?_); rintro e w3 ⟨rfl, hb3⟩; have B3 := below_step B2 hb3) | (go_at_call 35; (with_reducible refine (wire_Num.calls k1 n _ _ H1.out).mono ?_); rintro e w4 ⟨rfl, hb4⟩; have B4 := below_step B3 hb4) | (go_at_call 36; (with_reducible refine (que_member n (hq.new (new_of_below B4)) hn (by assumption)).mono ?_); rintro e w5 ⟨rfl, hb5⟩; have B5 := below_step B4 hb5) | (go_at_call 37; (with_reducible refine (que_end ⟨#[98]⟩ (hq.new (new_of_below B5)) hn (by decide)).mono ?_); rintro e w6 ⟨rfl, rfl⟩) | (go_at_call 35; (with_reducible refine (wire_Num.calls k2 (b + 1) _ _ H2.out).mono ?_); rintro e w7 ⟨rfl, hb7⟩; have B7 := below_step B5 hb7) | (go_at_call 33; (with_reducible refine (HQ.out w7 B7).mono ?_); rintro e w8 ⟨rfl, hk8, hK8⟩))
  go_ret2
  exact ⟨rfl, hk8, hK8⟩
end Go.Proofs.Ytmlnjheiogmlaaa
