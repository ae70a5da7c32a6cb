/-
Push, Pop, Has and Len of a queue, by the numbers that wait; conditions: the queue and its keys lie in memory as told.
-/
import Derived.Test.YtmlnjheiogmlaaaQueueP
import Derived.Test.YtmlnjheiogmlaaaPop
namespace Go.Proofs.Ytmlnjheiogmlaaa
open Go.RowKit Go.Lib Go.Proofs.Ytmlnjheiogmlaaa.F Go.Proofs.Ytmlnjheiogmlaaa.Pure Go.Proofs.YtmlnjheiogmlaaaW.PrintWords
theorem QI.readA {c : UInt8} {a : Nat} {l : List Nat} {kv : List (ByteArray × ByteArray)} (h : QI c a l (kvGet kv)) (ha : a < 1000000) : ∃ ia, Reads kv (endK (nmOf c) ⟨#[97]⟩) a ia := by
  have := h.ea
  by_cases h0 : a = 0
  · rw [if_pos h0] at this
    subst h0
    exact ⟨_, .none this⟩
  · rw [if_neg h0] at this
    exact ⟨_, .some a this (by omega)⟩
theorem QI.readB {c : UInt8} {a : Nat} {l : List Nat} {kv : List (ByteArray × ByteArray)} (h : QI c a l (kvGet kv)) (ha : a + l.length < 1000000) : ∃ ib, Reads kv (endK (nmOf c) ⟨#[98]⟩) (a + l.length) ib := by
  have := h.eb
  by_cases h0 : l = []
  · rw [if_pos h0] at this
    have hz := h.zero h0
    subst h0 hz
    exact ⟨_, .none this⟩
  · rw [if_neg h0] at this
    exact ⟨_, .some _ this (by omega)⟩
theorem QI.readM {c : UInt8} {a : Nat} {l : List Nat} {kv : List (ByteArray × ByteArray)} (h : QI c a l (kvGet kv)) (n : Nat) : kvGet kv (memK (nmOf c) n) = (⟨#[]⟩, decide (n ∈ l)) := by
  have := h.me n
  by_cases h0 : n ∈ l
  · rw [if_pos h0] at this
    rw [decide_eq_true h0]; exact this
  · rw [if_neg h0] at this
    rw [decide_eq_false h0]; exact this
theorem pushed_eq {kv : List (ByteArray × ByteArray)} (c : UInt8) (n b : Nat) : kvGet (pushed kv (nmOf c) n b) = pushF (kvGet kv) c n b := by
  unfold pushed pushF
  simp only [kvPuts, get_put]
  rfl
theorem nm_size (c : UInt8) : (nmOf c).size ≤ 1000 := by simp [ByteArray.size]
/-- What a queue's keys and what memory tell. -/
structure QS (c : UInt8) (q g a : Nat) (l : List Nat) (F : Nat → Prop) (kv : List (ByteArray × ByteArray)) (w : World) : Prop where
  que : Que q g (nmOf c) w
  kvs : KVs g F kv w
  once : Once kv
  qi : QI c a l (kvGet kv)
  out : ¬ F q
  few : kv.length < 1000
  low : a + l.length < 1000
theorem QS.has {c : UInt8} {q g a : Nat} {l : List Nat} {F : Nat → Prop} {kv : List (ByteArray × ByteArray)} {w : World} (h : QS c q g a l F kv w) (n : Nat) (hn : n < 18446744073709551616) :
    Calls Try.prog 31 #[.pointer (some ⟨q, 0, none⟩), .int .u64 n] w fun e w' => e = .returned (.tuple #[.bool (decide (n ∈ l)), .int .i64 0]) ∧ Below w.heap.size w w' :=
  que_has h.que (nm_size c) h.kvs (by have := h.few; omega) hn (h.qi.readM n)
theorem QS.len {c : UInt8} {q g a : Nat} {l : List Nat} {F : Nat → Prop} {kv : List (ByteArray × ByteArray)} {w : World} (h : QS c q g a l F kv w) :
    Calls Try.prog 40 #[.pointer (some ⟨q, 0, none⟩)] w fun e w' => e = .returned (.tuple #[.int .i64 (l.length : Int), .int .i64 0]) ∧ Below w.heap.size w w' := by
  have hl := h.low
  obtain ⟨ia, ha⟩ := h.qi.readA (by omega)
  obtain ⟨ib, hb⟩ := h.qi.readB (by omega)
  have := que_len h.que (nm_size c) h.kvs (by have := h.few; omega) ha hb (by omega) (by omega)
  rwa [show a + l.length - a = l.length by omega] at this
theorem QS.new {c : UInt8} {q g a : Nat} {l : List Nat} {F : Nat → Prop} {kv : List (ByteArray × ByteArray)} {w w' : World} (h : QS c q g a l F kv w) (hn : New w w') : QS c q g a l F kv w' :=
  ⟨h.que.new hn, h.kvs.new hn, h.once, h.qi, h.out, h.few, h.low⟩
/-- What a change of one queue leaves: the keys that are none of its own are as they were. -/
def Apart (c : UInt8) (kv kv' : List (ByteArray × ByteArray)) : Prop := ∀ k, ¬ IsKey c k → kvGet kv' k = kvGet kv k
theorem upd_apart {c : UInt8} {f : Look} {k k' : ByteArray} (x : ByteArray × Bool) (hk : IsKey c k) (hk' : ¬ IsKey c k') : upd f k x k' = f k' := upd_other _ _ (fun e => hk' (e ▸ hk))
theorem pushed_once {kv : List (ByteArray × ByteArray)} (nm : ByteArray) (n b : Nat) (h : Once kv) : Once (pushed kv nm n b) := by
  unfold pushed
  simp only [kvPuts]
  exact once_put _ _ (once_put _ _ (once_put _ _ h))
theorem pushed_len {kv : List (ByteArray × ByteArray)} (nm : ByteArray) (n b : Nat) : (pushed kv nm n b).length ≤ kv.length + 6 := by
  unfold pushed
  have := kvPuts_len [nm ++ ⟨#[112]⟩ ++ str (key b), str (num n), nm ++ ⟨#[109]⟩ ++ str (key n), ⟨#[]⟩, nm ++ ⟨#[101]⟩ ++ ⟨#[98]⟩, str (num (b + 1))] kv
  simpa using this
theorem QS.push_no {c : UInt8} {q g a : Nat} {l : List Nat} {F : Nat → Prop} {kv : List (ByteArray × ByteArray)} {w : World} (h : QS c q g a l F kv w) {n : Nat} (hn : n < 4611686018427387904) (hm : n ∈ l) :
    Calls Try.prog 9 #[.pointer (some ⟨q, 0, none⟩), .int .u64 n] w fun e w' => e = .returned (.tuple #[.bool false, .int .i64 0]) ∧ Below w.heap.size w w' := by
  have := h.qi.readM n
  rw [decide_eq_true hm] at this
  exact que_push_no h.que (nm_size c) h.kvs (by have := h.few; omega) (by omega) this
theorem QS.push {c : UInt8} {q g a : Nat} {l : List Nat} {F : Nat → Prop} {kv : List (ByteArray × ByteArray)} {w : World} (h : QS c q g a l F kv w) (h1 : kv.length < 990) (h2 : a + l.length < 990) {n : Nat} (hn : n < 4611686018427387904) (hm : n ∉ l) :
    Calls Try.prog 9 #[.pointer (some ⟨q, 0, none⟩), .int .u64 n] w fun e w' => e = .returned (.tuple #[.bool true, .int .i64 0]) ∧ ∃ kv', QS c q g a (l ++ [n]) F kv' w' ∧ Kept F w w' ∧ Apart c kv kv' ∧ kv'.length ≤ kv.length + 6 := by
  have hr := h.qi.readM n
  rw [decide_eq_false hm] at hr
  obtain ⟨ia, ha⟩ := h.qi.readA (by omega)
  obtain ⟨ib, hb⟩ := h.qi.readB (by omega)
  refine (que_push h.que (nm_size c) h.kvs h.few h.out (by omega) hr ha hb (by omega) (by omega)).mono ?_
  rintro e w' ⟨rfl, hk, hK⟩
  have hlen := pushed_len (kv := kv) (nmOf c) n (a + l.length)
  refine ⟨rfl, _, ⟨h.que.kept hK h.out, hk, pushed_once _ _ _ h.once, ?_, h.out, by omega, by simp; omega⟩, hK, ?_, hlen⟩
  · rw [pushed_eq]; exact h.qi.push hm hn
  · intro k hk
    rw [pushed_eq, pushF, upd_apart _ (.en 98) hk, upd_apart _ (.me n) hk, upd_apart _ (.pl _) hk]
theorem QS.pop_none {c : UInt8} {q g a : Nat} {F : Nat → Prop} {kv : List (ByteArray × ByteArray)} {w : World} (h : QS c q g a [] F kv w) :
    Calls Try.prog 11 #[.pointer (some ⟨q, 0, none⟩)] w fun e w' => e = .returned (.tuple #[.int .u64 0, .bool false, .int .i64 0]) ∧ Below w.heap.size w w' := by
  have hl := h.low
  obtain ⟨ia, ha⟩ := h.qi.readA (by omega)
  obtain ⟨ib, hb⟩ := h.qi.readB (by omega)
  exact que_pop_none h.que (nm_size c) h.kvs (by have := h.few; omega) ha hb
theorem QS.pop {c : UInt8} {q g a v : Nat} {r : List Nat} {F : Nat → Prop} {kv : List (ByteArray × ByteArray)} {w : World} (h : QS c q g a (v :: r) F kv w) (h1 : kv.length < 990) :
    Calls Try.prog 11 #[.pointer (some ⟨q, 0, none⟩)] w fun e w' => e = .returned (.tuple #[.int .u64 v, .bool true, .int .i64 0]) ∧ ∃ a' kv', QS c q g a' r F kv' w' ∧ Kept F w w' ∧ Apart c kv kv' ∧ kv'.length ≤ kv.length + 6 ∧ a' ≤ a + 1 := by
  have hl := h.low
  simp only [List.length_cons] at hl
  have hv := h.qi.small v (by simp)
  have hp := h.qi.pl a
  rw [if_pos (Nat.le_refl _), Nat.sub_self] at hp
  have hpr : Reads kv (nmOf c ++ ⟨#[112]⟩ ++ str (key a)) v true := .some v hp (by omega)
  obtain ⟨ia, ha⟩ := h.qi.readA (by omega)
  obtain ⟨ib, hb⟩ := h.qi.readB (by simp; omega)
  simp only [List.length_cons] at hb
  have e1 := get_del (plK c a) h.once
  have o1 := once_del (plK c a) h.once
  have e2 := get_del (meK c v) o1
  have o2 := once_del (meK c v) o1
  have n1 := kvDel_len kv (plK c a)
  have n2 := kvDel_len (kvDel kv (plK c a)) (meK c v)
  by_cases hr : r = []
  · subst hr
    refine (que_pop_last h.que (nm_size c) h.kvs h.few h.out ha hb (by omega) hpr (by omega)).mono ?_
    rintro e w' ⟨rfl, hk, hK⟩
    have e3 := get_del (enK c 97) o2
    have o3 := once_del (enK c 97) o2
    have e4 := get_del (enK c 98) o3
    have o4 := once_del (enK c 98) o3
    have n3 := kvDel_len (kvDel (kvDel kv (plK c a)) (meK c v)) (enK c 97)
    have n4 := kvDel_len (kvDel (kvDel (kvDel kv (plK c a)) (meK c v)) (enK c 97)) (enK c 98)
    have ee : kvGet (kvDel (kvDel (kvDel (kvDel kv (plK c a)) (meK c v)) (enK c 97)) (enK c 98)) = lastF (kvGet kv) c v a := by rw [e4, e3, e2, e1]; rfl
    refine ⟨rfl, 0, _, ⟨h.que.kept hK h.out, hk, o4, ?_, h.out, ?_, by simp⟩, hK, ?_, ?_, by omega⟩
    · exact ee ▸ h.qi.last
    · exact Nat.lt_of_le_of_lt n4 (by omega)
    · intro k hk
      refine (congrFun ee k).trans ?_
      rw [lastF, upd_apart _ (.en 98) hk, upd_apart _ (.en 97) hk, upd_apart _ (.me v) hk, upd_apart _ (.pl a) hk]
    · exact Nat.le_trans n4 (by omega)
  · have hrl : 0 < r.length := List.length_pos_iff.2 hr
    refine (que_pop_more h.que (nm_size c) h.kvs h.few h.out ha hb (by omega) (by omega) hpr (by omega)).mono ?_
    rintro e w' ⟨rfl, hk, hK⟩
    have n3 := kvPut_len (kvDel (kvDel kv (plK c a)) (meK c v)) (enK c 97) (str (num (a + 1)))
    have ee : kvGet (kvPut (kvDel (kvDel kv (plK c a)) (meK c v)) (enK c 97) (str (num (a + 1)))) = popF (kvGet kv) c v a := by rw [get_put, e2, e1]; rfl
    refine ⟨rfl, a + 1, _, ⟨h.que.kept hK h.out, hk, once_put _ _ o2, ?_, h.out, ?_, by omega⟩, hK, ?_, ?_, by omega⟩
    · exact ee ▸ h.qi.pop hr
    · exact Nat.lt_of_le_of_lt n3 (by omega)
    · intro k hk
      refine (congrFun ee k).trans ?_
      rw [popF, upd_apart _ (.en 97) hk, upd_apart _ (.me v) hk, upd_apart _ (.pl a) hk]
    · exact Nat.le_trans n3 (by omega)
end Go.Proofs.Ytmlnjheiogmlaaa
