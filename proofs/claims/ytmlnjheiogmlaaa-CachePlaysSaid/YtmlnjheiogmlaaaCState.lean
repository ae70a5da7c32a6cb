/-
Keys and texts as a list that rises: what stands there behind Put and Delete; conditions: none but those that each theorem names.
-/
import Derived.Test.YtmlnjheiogmlaaaCBelow
import Derived.Test.YtmlnjheiogmlaaaQueueP
import Derived.Test.YtmlnjheiogmlaaaCSync
namespace Go.Proofs.Ytmlnjheiogmlaaa
theorem bl_self : ∀ a : List UInt8, Op.bytesLess a a = false
  | [] => rfl
  | a :: x => by simp [Op.bytesLess, bl_self x]
theorem bl_total : ∀ a b : List UInt8, Op.bytesLess a b = false → a ≠ b → Op.bytesLess b a = true
  | [], [], _, h => absurd rfl h
  | a :: x, [], _, _ => rfl
  | [], b :: y, h, _ => by simp [Op.bytesLess] at h
  | a :: x, b :: y, h, hn => by
    simp only [Op.bytesLess, Bool.or_eq_false_iff, Bool.and_eq_false_iff, decide_eq_false_iff_not, beq_eq_false_iff_ne] at h
    simp only [Op.bytesLess, Bool.or_eq_true, Bool.and_eq_true, decide_eq_true_eq, beq_iff_eq]
    by_cases e : a = b
    · subst e
      refine .inr ⟨rfl, bl_total x y ?_ (fun e => hn (by rw [e]))⟩
      rcases h.2 with h2 | h2
      · exact absurd rfl h2
      · exact h2
    · left
      have h1 := h.1
      rw [UInt8.lt_iff_toNat_lt] at *
      have : a.toNat ≠ b.toNat := fun e2 => e (UInt8.toNat_inj.1 e2)
      omega
theorem bl_trans : ∀ a b c : List UInt8, Op.bytesLess a b = true → Op.bytesLess b c = true → Op.bytesLess a c = true
  | _, [], _, h, _ => by simp [Op.bytesLess] at h
  | _, b :: y, [], _, h => by simp [Op.bytesLess] at h
  | [], b :: y, c :: z, _, _ => rfl
  | a :: x, b :: y, c :: z, h1, h2 => by
    simp only [Op.bytesLess, Bool.or_eq_true, Bool.and_eq_true, decide_eq_true_eq, beq_iff_eq] at h1 h2 ⊢
    rcases h1 with h1 | ⟨rfl, h1⟩
    · rcases h2 with h2 | ⟨rfl, h2⟩
      · left; rw [UInt8.lt_iff_toNat_lt] at *; omega
      · exact .inl h1
    · rcases h2 with h2 | ⟨rfl, h2⟩
      · exact .inl h2
      · exact .inr ⟨rfl, bl_trans x y z h1 h2⟩
theorem tl_inj {a b : ByteArray} (h : a.toList = b.toList) : a = b := by
  rw [ByteArray.toList_eq, ByteArray.toList_eq] at h
  exact ByteArray.ext (Array.ext' h)
/-- The keys rise. -/
def Rise (l : PL2) : Prop := l.Pairwise fun p q => Op.bytesLess p.1.toList q.1.toList = true
theorem rise_once {l : PL2} (h : Rise l) : Once l := by
  unfold Once
  rw [List.Nodup, List.pairwise_map]
  refine h.imp fun {p q} hpq e => ?_
  rw [e, bl_self] at hpq
  cases hpq
theorem rise_del {l : PL2} (k : ByteArray) (h : Rise l) : Rise (delF l k) := h.filter _
theorem putR_mem : ∀ (l : PL2) (k t : ByteArray) (p : ByteArray × ByteArray), p ∈ putR l k t → p = (k, t) ∨ p ∈ l
  | [], k, t, p, h => by simp [putR] at h; exact .inl h
  | q :: l, k, t, p, h => by
    simp only [putR] at h
    split at h
    · rcases List.mem_cons.1 h with h | h
      · exact .inr (by simp [h])
      · exact (putR_mem l k t p h).imp id fun h => by simp [h]
    · rcases List.mem_cons.1 h with h | h
      · exact .inl h
      · split at h
        · exact .inr (by simp [h])
        · exact .inr h
theorem rise_put : ∀ (l : PL2) (k t : ByteArray), Rise l → Rise (putR l k t)
  | [], k, t, _ => by simp [putR, Rise]
  | q :: l, k, t, h => by
    obtain ⟨h1, h2⟩ := List.pairwise_cons.1 h
    simp only [putR]
    split
    · rename_i hl
      refine List.pairwise_cons.2 ⟨fun p hp => ?_, rise_put l k t h2⟩
      rcases putR_mem l k t p hp with rfl | hp
      · exact hl
      · exact h1 p hp
    · rename_i hl
      have hl' : Op.bytesLess q.1.toList k.toList = false := by simpa using hl
      split
      · rename_i e
        exact List.pairwise_cons.2 ⟨fun p hp => by have := h1 p hp; rwa [e] at this, h2⟩
      · rename_i e
        have hkq := bl_total _ _ hl' (fun e2 => e (tl_inj e2))
        refine List.pairwise_cons.2 ⟨fun p hp => ?_, h⟩
        rcases List.mem_cons.1 hp with rfl | hp
        · exact hkq
        · exact bl_trans _ _ _ hkq (h1 p hp)
theorem get_putR : ∀ (l : PL2) (k t k' : ByteArray), kvGet (putR l k t) k' = if k' = k then (t, true) else kvGet l k'
  | [], k, t, k' => by
    by_cases h : k' = k
    · simp [putR, kvGet, h]
    · simp [putR, kvGet, h, Ne.symm h]
  | q :: l, k, t, k' => by
    simp only [putR]
    by_cases hl : Op.bytesLess q.1.toList k.toList = true
    · have hne : q.1 ≠ k := fun e => by rw [e, bl_self] at hl; cases hl
      rw [if_pos hl]
      simp only [kvGet]
      by_cases h : q.1 = k'
      · subst h; simp [hne]
      · rw [if_neg h, if_neg h, get_putR l k t k']
    · rw [if_neg hl]
      by_cases h : k' = k
      · subst h; simp [kvGet]
      · simp only [kvGet, if_neg (Ne.symm h), if_neg h]
        split
        · rename_i e
          rw [if_neg (by rw [e]; exact Ne.symm h)]
        · rfl
theorem get_delF (l : PL2) (k k' : ByteArray) : kvGet (delF l k) k' = if k' = k then (⟨#[]⟩, false) else kvGet l k' := by
  induction l with
  | nil => simp [kvGet]
  | cons p l ih =>
    unfold delF at ih ⊢
    by_cases h : p.1 = k
    · rw [List.filter_cons_of_neg (by simp [h]), ih]
      by_cases h' : k' = k
      · simp [h']
      · simp [h', kvGet, h, Ne.symm h']
    · rw [List.filter_cons_of_pos (by simp [h])]
      simp only [kvGet]
      by_cases h' : p.1 = k'
      · subst h'; simp [h]
      · rw [if_neg h', if_neg h', ih]
theorem get_mem {l : PL2} (ho : Once l) {p : ByteArray × ByteArray} (h : p ∈ l) : kvGet l p.1 = (p.2, true) := by
  induction l with
  | nil => cases h
  | cons q l ih =>
    obtain ⟨h1, h2⟩ := List.nodup_cons.1 ho
    rcases List.mem_cons.1 h with rfl | h
    · simp [kvGet]
    · have : q.1 ≠ p.1 := fun e => h1 (by rw [e]; exact List.mem_map.2 ⟨p, h, rfl⟩)
      simp only [kvGet, if_neg this]
      exact ih h2 h
theorem mem_iff_get (l : PL2) (k : ByteArray) : k ∈ l.map Prod.fst ↔ (kvGet l k).2 = true := by
  induction l with
  | nil => simp [kvGet]
  | cons p l ih =>
    simp only [List.map_cons, List.mem_cons, kvGet]
    by_cases h : p.1 = k
    · simp [h]
    · rw [if_neg h, ← ih]
      constructor
      · rintro (e | e)
        · exact absurd e.symm h
        · exact e
      · exact .inr
theorem once_len {l m : PL2} (hl : Once l) (hm : Once m) (h : ∀ k, kvGet l k = kvGet m k) : l.length = m.length := by
  have := ((List.perm_ext_iff_of_nodup hl hm).2 fun k => by rw [mem_iff_get, mem_iff_get, h k]).length_eq
  simpa using this
end Go.Proofs.Ytmlnjheiogmlaaa
namespace Go.Proofs.Ytmlnjheiogmlaaa
open Go.RowKit Go.Lib Go.Maps
structure PS (w0 : World) (q m g : Nat) (F : Nat → Prop) (most N b cap : Nat) (l : PL2) (E : ByteArray → ByteArray × Bool) (W : World) : Prop where
  ca : ∃ now c f kv, Cach q m g F most now N c f kv W ∧ ∀ k, eff f kv k = E k
  row : PR b cap l W
  nb : ¬ F b ∧ b ≠ q ∧ b ≠ m
  base : (∀ x, F x → w0.heap.size ≤ x) ∧ w0.heap.size ≤ q ∧ w0.heap.size ≤ m
  below : Below w0.heap.size w0 W
variable {w0 : World} {q m g : Nat} {F : Nat → Prop} {most N b cap : Nat} {l : PL2} {E : ByteArray → ByteArray × Bool} {W : World}
theorem PS.new {W' : World} (h : PS w0 q m g F most N b cap l E W) (hn : New W W') : PS w0 q m g F most N b cap l E W' := by
  obtain ⟨now, c, f, kv, h1, h2⟩ := h.ca
  exact ⟨⟨now, c, f, kv, h1.new hn, h2⟩, h.row.kept hn id, h.nb, h.base, h.below.trans (hn.below h.below.size fun _ e => e.elim)⟩
theorem PS.turn {N' : Nat} {E' : ByteArray → ByteArray × Bool} {W' : World} (h : PS w0 q m g F most N b cap l E W) (hc : ∃ now c f kv, Cach q m g F most now N' c f kv W' ∧ ∀ k, eff f kv k = E' k) (hk : Kept (fun x => F x ∨ x = q ∨ x = m) W W') : PS w0 q m g F most N' b cap l E' W' := by
  refine ⟨hc, h.row.kept hk fun e => ?_, h.nb, h.base, h.below.trans (hk.below h.below.size fun x e => ?_)⟩
  · rcases e with e | e | e
    · exact h.nb.1 e
    · exact h.nb.2.1 e
    · exact h.nb.2.2 e
  · rcases e with e | e | e
    · exact h.base.1 x e
    · exact e ▸ h.base.2.1
    · exact e ▸ h.base.2.2
theorem PS.get (h : PS w0 q m g F most N b cap l E W) (hN : N < 90000) (hpos : 0 < most) {k : ByteArray} (hk : k.size ≤ 64) {t : ByteArray} {d : Bool} (he : E k = (t, d)) :
    Calls Try.prog 22 #[.pointer (some ⟨q, 0, none⟩), .string k] W fun e W' => e = .returned (.tuple #[.string t, .bool d, .int .i64 0]) ∧ PS w0 q m g F most (N + 1000) b cap l E W' := by
  obtain ⟨now, c, f, kv, hC, hE⟩ := h.ca
  refine (cache_get hC hN (k := k) (by omega) hpos).mono ?_
  rintro e W' ⟨rfl, hL⟩
  rw [hE k, he]
  obtain ⟨now2, c2, f2, kv2, h1, h2⟩ := hL.ex
  exact ⟨rfl, h.turn ⟨now2, c2, f2, kv2, h1.more2 (by omega), fun k' => (h2 k').trans (hE k')⟩ hL.kept⟩
theorem PS.put (h : PS w0 q m g F most N b cap l E W) (hN : N < 90000) (hpos : 0 < most) {k t : ByteArray} (hk : k.size ≤ 64) (ht : t.size ≤ 65536) :
    Calls Try.prog 27 #[.pointer (some ⟨q, 0, none⟩), .string k, .string t] W fun e W' => e = .returned (.int .i64 0) ∧ PS w0 q m g F most (N + 1000) b cap l (fun k' => if k' = k then (t, true) else E k') W' := by
  obtain ⟨now, c, f, kv, hC, hE⟩ := h.ca
  refine (cache_put hC hN hk ht hpos).mono ?_
  rintro e W' ⟨rfl, hL⟩
  obtain ⟨now2, c2, f2, kv2, h1, h2⟩ := hL.ex
  exact ⟨rfl, h.turn ⟨now2, c2, f2, kv2, h1.more2 (by omega), fun k' => by rw [h2 k', hE k']⟩ hL.kept⟩
theorem PS.del (h : PS w0 q m g F most N b cap l E W) (hN : N < 90000) (hpos : 0 < most) {k : ByteArray} (hk : k.size ≤ 64) {t : ByteArray} {d : Bool} (he : E k = (t, d)) :
    Calls Try.prog 23 #[.pointer (some ⟨q, 0, none⟩), .string k] W fun e W' => e = .returned (.tuple #[.bool d, .int .i64 0]) ∧ PS w0 q m g F most (N + 1000) b cap l (fun k' => if k' = k then (⟨#[]⟩, false) else E k') W' := by
  obtain ⟨now, c, f, kv, hC, hE⟩ := h.ca
  refine (cache_delete hC hN (k := k) (by omega) hpos).mono ?_
  rintro e W' ⟨rfl, hL⟩
  rw [hE k, he]
  obtain ⟨now2, c2, f2, kv2, h1, h2⟩ := hL.ex
  exact ⟨rfl, h.turn ⟨now2, c2, f2, kv2, h1.more2 (by omega), fun k' => by rw [h2 k', hE k']⟩ hL.kept⟩
/-- All is below. -/
abbrev AllBelow (g b cap : Nat) (l : PL2) (W : World) : Prop := Calls Try.prog 26 #[.pointer (some ⟨g, 0, none⟩), .slice (some ⟨b, 0, none⟩) l.length cap] W fun e w' => e = .returned (.bool true) ∧ W = w'
theorem PS.sync (h : PS w0 q m g F most N b cap l E W) (hN : N < 90000) (hr : Rise l) (he : ∀ k, E k = kvGet l k) :
    Calls Try.prog 25 #[.pointer (some ⟨q, 0, none⟩)] W fun e W' => e = .returned (.int .i64 0) ∧ PS w0 q m g F most (N + 1000) b cap l E W' ∧ AllBelow g b cap l W' := by
  obtain ⟨now, c, f, kv, hC, hE⟩ := h.ca
  refine (cache_sync hC hN).mono ?_
  rintro e W' ⟨rfl, f2, kv2, h1, h2, h3, hK⟩
  have hP : PS w0 q m g F most (N + 1000) b cap l E W' := h.turn ⟨_, _, f2, kv2, h1, fun k' => (h2 k').trans (hE k')⟩ hK
  have hkv : ∀ k, kvGet kv2 k = kvGet l k := fun k => by
    rw [← he k, ← hE k, ← h2 k]
    unfold eff
    cases hf : f2 k with
    | none => rfl
    | some x => exact h1.fits.clean k x hf (h3 k x hf)
  have hl := once_len h1.fits.once (rise_once hr) hkv
  refine ⟨rfl, hP, cache_below h1.kv hP.row (by have := h1.len; omega) hl fun i p hi => ?_⟩
  rw [hkv]
  exact get_mem (rise_once hr) (List.mem_of_getElem? hi)
theorem PS.held (h : PS w0 q m g F most N b cap l E W) : Calls Try.prog 29 #[.pointer (some ⟨q, 0, none⟩)] W fun e W' => ∃ c : Nat, e = .returned (.int .i64 c) ∧ c ≤ most ∧ W = W' := by
  obtain ⟨now, c, f, kv, hC, hE⟩ := h.ca
  refine (cache_held hC).mono ?_
  rintro e W' ⟨rfl, rfl⟩
  exact ⟨c, rfl, hC.room, rfl⟩
/-- The list is another one. -/
theorem PS.list {l' : PL2} {v : Value} {W2 : World} (h : PS w0 q m g F most N b cap l E W) (hO : Own2 W l' v W2) (hn : New W W2) : ∃ b' cap', v = .slice (some ⟨b', 0, none⟩) l'.length cap' ∧ PS w0 q m g (fun x => F x ∧ x ≠ b') most N b' cap' l' E W2 := by
  obtain ⟨b', cap', rfl, hr, hb'⟩ := hO
  obtain ⟨now, c, f, kv, hC, hE⟩ := h.ca
  obtain ⟨r, p, _, _, hq⟩ := hC.blk
  have hq1 := blk_lt hq
  have hm1 := hC.map.lt
  exact ⟨b', cap', rfl, ⟨now, c, f, kv, hC.less hn hb' hr.lt, hE⟩, hr, ⟨fun e => e.2 rfl, by omega, by omega⟩, ⟨fun x e => h.base.1 x e.1, h.base.2⟩, h.below.trans (hn.below h.below.size fun _ e => e.elim)⟩
theorem putR_len : ∀ (l : PL2) (k t : ByteArray), (putR l k t).length ≤ l.length + 1
  | [], k, t => by simp [putR]
  | p :: l, k, t => by
    have := putR_len l k t
    unfold putR
    (repeat' split) <;> simp <;> omega
theorem PS.deleted {w0 : World} {q m g : Nat} {F : Nat → Prop} {most i b cap : Nat} {l : PL2} {k : ByteArray} {W : World} (h : PS w0 q m g F most (1000 * i + 1000) b cap (delF l k) (fun k' => if k' = k then (⟨#[]⟩, false) else kvGet l k') W) (hr : Rise l) (hll : l.length ≤ i) :
    (delF l k).length ≤ i + 1 ∧ Hid (PS w0 q m g F most (1000 * (i + 1)) b cap (delF l k) (kvGet (delF l k)) W ∧ Rise (delF l k)) := by
  have e : kvGet (delF l k) = fun k' => if k' = k then (⟨#[]⟩, false) else kvGet l k' := funext fun k' => get_delF l k k'
  refine ⟨?_, hid ⟨?_, rise_del k hr⟩⟩
  · exact Nat.le_trans (List.length_filter_le _ _) (by omega)
  · rw [e, show 1000 * (i + 1) = 1000 * i + 1000 by omega]
    exact h
theorem PS.putted {w0 : World} {q m g : Nat} {F : Nat → Prop} {most i b cap : Nat} {l : PL2} {k t : ByteArray} {W : World} (h : PS w0 q m g F most (1000 * i + 1000) b cap (putR l k t) (fun k' => if k' = k then (t, true) else kvGet l k') W) (hr : Rise l) (hll : l.length ≤ i) :
    (putR l k t).length ≤ i + 1 ∧ Hid (PS w0 q m g F most (1000 * (i + 1)) b cap (putR l k t) (kvGet (putR l k t)) W ∧ Rise (putR l k t)) := by
  have e : kvGet (putR l k t) = fun k' => if k' = k then (t, true) else kvGet l k' := funext fun k' => get_putR l k t k'
  refine ⟨?_, hid ⟨?_, rise_put l k t hr⟩⟩
  · have := putR_len l k t
    omega
  · rw [e, show 1000 * (i + 1) = 1000 * i + 1000 by omega]
    exact h
end Go.Proofs.Ytmlnjheiogmlaaa
