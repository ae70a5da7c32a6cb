/-
What a cache answers: Get, Put, Delete; conditions: the cache lies in memory as told, keys and texts are short.
-/
import Derived.Test.YtmlnjheiogmlaaaLook2
namespace Go.Proofs.Ytmlnjheiogmlaaa
open Go.RowKit Go.Lib Go.Maps
theorem kvGet_no {l : List (ByteArray × ByteArray)} {k t : ByteArray} (h : kvGet l k = (t, false)) : t = ⟨#[]⟩ := by
  induction l with
  | nil => cases h; rfl
  | cons p l ih =>
    simp only [kvGet] at h
    split at h
    · cases h
    · exact ih h
theorem Cach.more2 {q m g : Nat} {F : Nat → Prop} {most now N c : Nat} {f : ByteArray → Option Ent} {l : List (ByteArray × ByteArray)} {w : World} (h : Cach q m g F most now N c f l w) {N' : Nat} (hN : N ≤ N') : Cach q m g F most now N' c f l w := by
  obtain ⟨r, p, h1, h2, h3⟩ := h.blk
  exact ⟨⟨r, p, by omega, by omega, h3⟩, h.map, h.kv, h.nq, h.nm, h.ne, h.room, h.small, by have := h.len; omega, by have := h.nowN; omega, h.fits⟩
theorem cache_look {q m g : Nat} {F : Nat → Prop} {most now N c : Nat} {f : ByteArray → Option Ent} {l : List (ByteArray × ByteArray)} {w : World} {k : ByteArray} (h : Cach q m g F most now N c f l w) (hN : N < 90000) (hk : k.size ≤ 1000000) (hpos : 0 < most) :
    Calls Try.prog 44 #[.pointer (some ⟨q, 0, none⟩), .string k] w fun e w' => ∃ (y : Ent) (f' : ByteArray → Option Ent) (l' : List (ByteArray × ByteArray)) (c' : Nat), e = .returned (.tuple #[entV y, .int .i64 0]) ∧ (y.text, y.is) = eff f l k ∧ Cach q m g F most (now + 1) (N + 3) c' f' l' w' ∧ (∀ k', eff f' l' k' = eff f l k') ∧ Kept (fun b => F b ∨ b = q ∨ b = m) w w' := by
  cases hf : f k with
  | some x =>
    refine (cache_look1 h (by omega) hf).mono ?_
    rintro e w' ⟨rfl, h1, h3⟩
    refine ⟨x, _, _, _, rfl, by simp [eff, hf], h1.more2 (Nat.le_add_right (N + 1) 2), fun k' => ?_, h3⟩
    rw [keep_eff (x := x) ⟨x.text, x.is, x.dirty, now + 1⟩ ⟨rfl, rfl⟩]
    split
    · rename_i e; rw [e]; simp [eff, hf]
    · rfl
  | none =>
    obtain ⟨⟨t, b⟩, hg⟩ : ∃ y, kvGet l k = y := ⟨_, rfl⟩
    refine (cache_look2 h hN hf hk hg (fun e => kvGet_no (e ▸ hg)) hpos).mono ?_
    rintro e w' ⟨rfl, f', l', c', h1, h2, h3⟩
    exact ⟨⟨t, b, false, 0⟩, f', l', c', rfl, by simp [eff, hf, hg], h1, h2, h3⟩
/-- What a call leaves: a cache that answers so. -/
structure Left (q m g : Nat) (F : Nat → Prop) (most N : Nat) (E : ByteArray → ByteArray × Bool) (w w' : World) : Prop where
  ex : ∃ now c f l, Cach q m g F most now N c f l w' ∧ ∀ k', eff f l k' = E k'
  kept : Kept (fun b => F b ∨ b = q ∨ b = m) w w'
set_option maxHeartbeats 1600000 in
set_option maxRecDepth 100000 in
theorem cache_get {q m g : Nat} {F : Nat → Prop} {most now N c : Nat} {f : ByteArray → Option Ent} {l : List (ByteArray × ByteArray)} {w : World} {k : ByteArray} (h : Cach q m g F most now N c f l w) (hN : N < 90000) (hk : k.size ≤ 1000000) (hpos : 0 < most) :
    Calls Try.prog 22 #[.pointer (some ⟨q, 0, none⟩), .string k] w fun e w' => e = .returned (.tuple #[.string (eff f l k).1, .bool (eff f l k).2, .int .i64 0]) ∧ Left q m g F most (N + 3) (eff f l) w w' := by
  have HB := hid (cache_bad h)
  have HL := hid (cache_look h hN hk hpos)
  obtain ⟨v, hv⟩ : ∃ v, eff f l k = v := ⟨_, rfl⟩
  obtain ⟨t, b⟩ := v
  have HV := hid hv
  rw [hv]
  clear h hv
  go_enter Try.func22, Try.ntmps22
  go_wp2_with (first | (go_at_call 43; (with_reducible refine HB.out.mono ?_); rintro e w1 ⟨rfl, rfl⟩) | (go_at_call 44; (with_reducible refine HL.out.mono ?_); rintro e w2 ⟨⟨text, is, dirty, at_⟩, f', l', c', rfl, hy, hC, hE, hK⟩; have HC := hid hC; have HE := hid hE; have HK := hid hK; have HY := hid hy; clear hy hC hE hK))
  go_region
  go_wp2
  go_ret3
  have hE := HY.out.trans HV.out
  obtain ⟨h1, h2⟩ := Prod.mk.inj hE
  have N2 : New w2 (w2.alloc (entBlk ⟨text, is, dirty, at_⟩)).drew := ((Kept.refl _ _).alloc _).drew
  exact ⟨by rw [← h1, ← h2]; rfl, ⟨⟨_, _, _, _, HC.out.new N2, HE.out⟩, HK.out.trans (N2.mono fun _ _ e => e.elim)⟩⟩
set_option maxHeartbeats 1600000 in
set_option maxRecDepth 100000 in
theorem cache_put {q m g : Nat} {F : Nat → Prop} {most now N c : Nat} {f : ByteArray → Option Ent} {l : List (ByteArray × ByteArray)} {w : World} {k t : ByteArray} (h : Cach q m g F most now N c f l w) (hN : N < 90000) (hk : k.size ≤ 64) (ht : t.size ≤ 65536) (hpos : 0 < most) :
    Calls Try.prog 27 #[.pointer (some ⟨q, 0, none⟩), .string k, .string t] w fun e w' => e = .returned (.int .i64 0) ∧ Left q m g F most (N + 3) (fun k' => if k' = k then (t, true) else eff f l k') w w' := by
  have HB := hid (cache_bad h)
  have HH := hid (cache_hold (k := k) (x := ⟨t, true, true, 0⟩) h (by omega) (by omega) (fun e => by cases e) (fun e => by cases e) hpos)
  have e0 : entV ⟨t, true, true, 0⟩ = .agg #[.string t, .bool true, .bool true, .int .u64 0] := rfl
  rw [e0] at HH
  have h1 : ¬ (k.size : Int) > 64 := by omega
  have h2 : ¬ (t.size : Int) > 65536 := by omega
  clear h
  go_enter Try.func27, Try.ntmps27
  go_wp2_with (first | (go_at_call 43; (with_reducible refine HB.out.mono ?_); rintro e w1 ⟨rfl, rfl⟩) | (go_at_call 45; (with_reducible refine HH.out.mono ?_); rintro e w2 ⟨rfl, f', l', c', hC, hE, hK⟩))
  go_ret
  exact ⟨rfl, ⟨⟨_, _, _, _, hC.more, hE⟩, hK⟩⟩
set_option maxHeartbeats 1600000 in
set_option maxRecDepth 100000 in
theorem cache_delete {q m g : Nat} {F : Nat → Prop} {most now N c : Nat} {f : ByteArray → Option Ent} {l : List (ByteArray × ByteArray)} {w : World} {k : ByteArray} (h : Cach q m g F most now N c f l w) (hN : N < 90000) (hk : k.size ≤ 1000000) (hpos : 0 < most) :
    Calls Try.prog 23 #[.pointer (some ⟨q, 0, none⟩), .string k] w fun e w' => e = .returned (.tuple #[.bool (eff f l k).2, .int .i64 0]) ∧ Left q m g F most (N + 5) (fun k' => if k' = k then (⟨#[]⟩, false) else eff f l k') w w' := by
  have HB := hid (cache_bad h)
  have HL := hid (cache_look h hN hk hpos)
  have HH : Hid (∀ (now' N' c' : Nat) f' l' w3, Cach q m g F most now' N' c' f' l' w3 → N' < 100000 → Calls Try.prog 45 #[.pointer (some ⟨q, 0, none⟩), .string k, .agg #[.string ⟨#[]⟩, .bool false, .bool true, .int .u64 0]] w3 fun e w' => e = .returned (.int .i64 0) ∧ Left q m g F most (N' + 2) (fun k' => if k' = k then (⟨#[]⟩, false) else eff f' l' k') w3 w') := hid (fun now' N' c' f' l' w3 hC hN' => (cache_hold (k := k) (x := ⟨⟨#[]⟩, false, true, 0⟩) hC hN' hk (fun e => by cases e) (fun _ => rfl) hpos).mono fun e w' ⟨h1, f2, l2, c2, h2, h3, h4⟩ => ⟨h1, ⟨⟨_, _, _, _, h2, h3⟩, h4⟩⟩)
  obtain ⟨v, hv⟩ : ∃ v, eff f l k = v := ⟨_, rfl⟩
  obtain ⟨t, b⟩ := v
  have HV := hid hv
  have hno : b = false → t = ⟨#[]⟩ := fun e => by
    subst e
    unfold eff at hv
    split at hv
    · rename_i x hx
      obtain ⟨h1, h2⟩ := Prod.mk.inj hv
      rw [← h1]; exact h.fits.no k x hx h2
    · exact kvGet_no hv
  rw [hv]
  clear h hv
  cases b with
  | true =>
    go_enter Try.func23, Try.ntmps23
    go_wp2_with (first | (go_at_call 43; (with_reducible refine HB.out.mono ?_); rintro e w1 ⟨rfl, rfl⟩) | (go_at_call 44; (with_reducible refine HL.out.mono ?_); rintro e w2 ⟨⟨text, is, dirty, at_⟩, f', l', c', rfl, hy, hC, hE, hK⟩; have HC := hid hC; have HE := hid hE; have HK := hid hK; cases (hy.trans HV.out); clear hy hC hE hK) | (go_at_call 45; (with_reducible refine (HH.out _ _ _ _ _ _ (HC.out.new ((Kept.refl (fun _ => False) _).alloc _)) (by omega)).mono ?_); rintro e w4 ⟨rfl, hL⟩))
    go_ret2
    obtain ⟨⟨now2, c2, f2, l2, h1, h2⟩, h3⟩ := hL
    refine ⟨rfl, ⟨⟨now2, c2, f2, l2, h1, fun k' => ?_⟩, (HK.out.alloc _).trans h3⟩⟩
    rw [h2, HE.out]
  | false =>
    have ht := hno rfl
    go_enter Try.func23, Try.ntmps23
    go_wp2_with (first | (go_at_call 43; (with_reducible refine HB.out.mono ?_); rintro e w1 ⟨rfl, rfl⟩) | (go_at_call 44; (with_reducible refine HL.out.mono ?_); rintro e w2 ⟨⟨text, is, dirty, at_⟩, f', l', c', rfl, hy, hC, hE, hK⟩; have HC := hid hC; have HE := hid hE; have HK := hid hK; cases (hy.trans HV.out); clear hy hC hE hK))
    go_ret2
    refine ⟨rfl, ⟨⟨_, _, _, _, (HC.out.new ((Kept.refl (fun _ => False) w2).alloc _)).more2 (Nat.le_add_right (N + 3) 2), fun k' => ?_⟩, HK.out.alloc _⟩⟩
    rw [HE.out]
    split
    · rename_i e
      rw [e, HV.out, ht]
    · rfl
end Go.Proofs.Ytmlnjheiogmlaaa
