/-
The queue lets keys have texts, one behind the other; conditions: the queue lies in memory as told.
-/
import Derived.Test.YtmlnjheiogmlaaaQueue2
import Derived.Test.YtmlnjheiogmlaaaKVDel
namespace Go.Proofs.Ytmlnjheiogmlaaa
open Go.RowKit Go.Lib Go.Proofs.Ytmlnjheiogmlaaa.F Go.Proofs.Ytmlnjheiogmlaaa.Pure Go.Proofs.YtmlnjheiogmlaaaW.PrintWords
theorem KVs.put' {g : Nat} {F : Nat → Prop} {l : List (ByteArray × ByteArray)} {w : World} (k t : ByteArray) (h : KVs g F l w) (hs : l.length < 1000000) :
    Calls Try.prog 92 #[.pointer (some ⟨g, 0, none⟩), .string k, .string t] w fun e w' => e = .returned (.int .i64 0) ∧ KVs g F (kvPut l k t) w' ∧ Kept F w w' := h.put k t hs
theorem KVs.del {g : Nat} {F : Nat → Prop} {l : List (ByteArray × ByteArray)} {w : World} (k : ByteArray) (h : KVs g F l w) (hs : l.length < 1000000) :
    Calls Try.prog 91 #[.pointer (some ⟨g, 0, none⟩), .string k] w fun e w' => e = .returned (.tuple #[.bool (kvGet l k).2, .int .i64 0]) ∧ KVs g F (kvDel l k) w' ∧ Kept F w w' := by
  obtain ⟨⟨vk, vt, h1, h2⟩, h3⟩ := h
  exact (KV_Delete k h1 hs).mono fun e w' ⟨he, hp⟩ => ⟨he, KVs.of_puts hp h2 h3⟩
/-- Keys are let have texts, one behind the other. -/
def kvPuts : List (ByteArray × ByteArray) → List ByteArray → List (ByteArray × ByteArray)
  | l, k :: t :: r => kvPuts (kvPut l k t) r
  | l, _ => l
theorem kvPuts_step (x y : ByteArray) : ∀ (j : Nat) (xs : List ByteArray) (l : List (ByteArray × ByteArray)), xs[2 * j]? = some x → xs[2 * j + 1]? = some y → kvPuts l (xs.take (2 * j + 2)) = kvPut (kvPuts l (xs.take (2 * j))) x y
  | 0, a :: b :: r, l, h1, h2 => by
    simp at h1 h2
    simp [kvPuts, h1, h2]
  | j + 1, a :: b :: r, l, h1, h2 => by
    have := kvPuts_step x y j r (kvPut l a b) (by simpa [show 2 * (j + 1) = 2 * j + 1 + 1 by omega] using h1) (by simpa [show 2 * (j + 1) + 1 = 2 * j + 1 + 1 + 1 by omega] using h2)
    rw [show 2 * (j + 1) + 2 = (2 * j + 2) + 1 + 1 by omega, show 2 * (j + 1) = 2 * j + 1 + 1 by omega]
    simp only [List.take_succ_cons, kvPuts]
    exact this
  | 0, [_], l, h1, h2 => by simp at h2
  | 0, [], l, h1, h2 => by simp at h1
  | j + 1, [_], l, h1, h2 => by simp at h1
  | j + 1, [], l, h1, h2 => by simp at h1
theorem kvPut_len (l : List (ByteArray × ByteArray)) (k t : ByteArray) : (kvPut l k t).length ≤ l.length + 1 := by
  induction l with
  | nil => simp [kvPut]
  | cons p l ih => simp only [kvPut]; split <;> simp; omega
theorem kvPuts_len : ∀ (xs : List ByteArray) (l : List (ByteArray × ByteArray)), (kvPuts l xs).length ≤ l.length + xs.length
  | [], l => by simp [kvPuts]
  | [_], l => by simp [kvPuts]
  | a :: b :: r, l => by
    have h1 := kvPuts_len r (kvPut l a b)
    have h2 := kvPut_len l a b
    simp only [kvPuts, List.length_cons]
    omega
set_option maxHeartbeats 3200000 in
set_option maxRecDepth 100000 in
theorem que_puts {q g r : Nat} {nm : ByteArray} {F : Nat → Prop} {l : List (ByteArray × ByteArray)} {xs : List ByteArray} {m n cap : Nat} {w : World} (hq : Que q g nm w) (h : KVs g F l w) (hs : l.length < 1000) (hqF : ¬ F q) (hrF : ¬ F r) (hx : xs.length = 2 * m) (hn : xs.length = n) (hm : m < 100)
    (hr : w.heap[r]? = some (.cells (xs.map Value.string).toArray 9 (0, 0))) :
    Calls Try.prog 33 #[.pointer (some ⟨q, 0, none⟩), (.slice (some ⟨r, 0, none⟩) n cap)] w fun e w' => e = .returned (.int .i64 0) ∧ KVs g F (kvPuts l xs) w' ∧ Kept F w w' := by
  subst hn
  have hi := is_put
  have hni := nil_put
  have H := hid (And.intro h (And.intro hq hr))
  have HX := hid hx
  clear h hq hr hx
  go_enter Try.func33, Try.ntmps33
  go_wp2
  go_loopw [5] (fun v5 wr => ∃ j : Nat, v5 = .int .i64 ((2 * j : Nat) : Int) ∧ j ≤ m ∧ Hid (KVs g F (kvPuts l (xs.take (2 * j))) wr ∧ Kept F w wr)) (fun v5 _ => m * 2 - (intOf v5).toNat)
  case atStart => exact ⟨0, rfl, Nat.zero_le _, hid ⟨by simpa [kvPuts] using H.out.1, Kept.refl _ _⟩⟩
  case round =>
    obtain ⟨j, rfl, hj, HK⟩ := hrel
    obtain ⟨h, hq, hr⟩ := H.out
    have hq1 := (hq.kept HK.out.2 hqF).cells.1
    have hr1 := HK.out.2.at hr hrF
    by_cases hlt : j < m
    · have hx := HX.out
      obtain ⟨i, hi2⟩ : ∃ i, 2 * j = i := ⟨_, rfl⟩
      obtain ⟨x, hxe⟩ : ∃ x, xs[i]? = some x := ⟨_, List.getElem?_eq_getElem (by omega)⟩
      obtain ⟨y, hye⟩ : ∃ y, xs[i + 1]? = some y := ⟨_, List.getElem?_eq_getElem (by omega)⟩
      have k1 : wr.cell? ⟨r, i, none⟩ = some (.string x) := (cell_at hr1 i).trans (by simp [hxe])
      have k2 : wr.cell? ⟨r, i + 1, none⟩ = some (.string y) := (cell_at hr1 (i + 1)).trans (by simp [hye])
      have hst : Hid (kvPuts l (xs.take (i + 2)) = kvPut (kvPuts l (xs.take i)) x y) := by
        subst hi2
        exact kvPuts_step x y j xs l hxe hye
      have hlen : (kvPuts l (xs.take i)).length < 1000000 := by
        have := kvPuts_len (xs.take i) l
        simp at this
        omega
      have b1 : (0 : Int) ≤ (i : Int) := by omega
      have b2 : (i : Int) < (xs.length : Int) := by omega
      have b3 : (0 : Int) ≤ (i : Int) + 1 := by omega
      have b4 : (i : Int) + 1 < (xs.length : Int) := by omega
      have b5 : ((i : Int) + 1).toNat = i + 1 := by omega
      have b6 : IntKind.i64.wrap ((i : Int) + 1) = (i : Int) + 1 := by rw [IntKind.wrap_i64]; omega
      have hme : Hid (m * 2 - ((i : Int) + 2).toNat < m * 2 - (i : Int).toNat) := by unfold Hid; omega
      have hnx : Hid ((i : Int) + 2 = ((2 * (j + 1) : Nat) : Int)) := by unfold Hid; omega
      have hje : Hid (2 * (j + 1) = i + 2) := by unfold Hid; omega
      have hKV := hid (hi2 ▸ HK.out.1)
      have hKP := hid HK.out.2
      have hbound : i ≤ 300 := by omega
      have hjm : Hid (j + 1 ≤ m) := hlt
      rw [hi2]
      have HR := hid (And.intro hq (And.intro hr (And.intro hxe hye)))
      clear HK h hq hr hr1 hx hi2 hj hlt HX H hxe hye
      go_wp2
      go_region_held3 (fun w' => w'.cell? ⟨q, 0, none⟩ = some (.iface 23 (.pointer (some ⟨g, 0, none⟩))) ∧ w'.cell? ⟨r, i, none⟩ = some (.string x) ∧ w'.cell? ⟨r, i + 1, none⟩ = some (.string y)) (first | exact ⟨hq1, k1, k2⟩ | exact d012) (first | (go_at_call 92; (with_reducible refine (KVs.put x y (hKV.out.new (Kept.refl _ _).drew) hlen).mono ?_); rintro e w3 ⟨rfl, hk3, hK3⟩; have K3 := hKP.out.trans ((Kept.refl F wr).drew.trans hK3); have hr3 := K3.at HR.out.2.1 hrF; have d012 := And.intro (HR.out.1.kept K3 hqF).cells.1 (And.intro ((cell_at hr3 i).trans (by simp [HR.out.2.2.1]) : w3.cell? ⟨r, i, none⟩ = some (.string x)) ((cell_at hr3 (i + 1)).trans (by simp [HR.out.2.2.2]) : w3.cell? ⟨r, i + 1, none⟩ = some (.string y)))))
      all_goals
        go_wp2
        refine ⟨⟨j + 1, congrArg (Value.int .i64) hnx.out, hjm.out, ?_⟩, hme.out⟩
        rw [hje.out, hst.out]
        exact hid ⟨hk3, K3⟩
    · obtain rfl : j = m := by omega
      have hv := hid HK.out
      rw [← HX.out] at hv
      have hx : ¬ ((2 * j : Nat) : Int) + 1 < (xs.length : Int) := by have := HX.out; omega
      clear HK h hq hr hr1 hj
      go_wp2
      go_ret
      exact ⟨rfl, by simpa using hv.out.1, hv.out.2⟩
end Go.Proofs.Ytmlnjheiogmlaaa
