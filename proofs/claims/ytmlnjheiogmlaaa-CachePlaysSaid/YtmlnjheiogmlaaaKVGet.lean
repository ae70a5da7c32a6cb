/-
KV.Get: what a key has, out of two rows behind a pointer; conditions: the rows lie in memory as told.
-/
import Derived.Test.YtmlnjheiogmlaaaMem
namespace Go.Proofs.Ytmlnjheiogmlaaa
open Go.RowKit Go.Lib
set_option maxHeartbeats 1600000 in
set_option maxRecDepth 100000 in
theorem KV_Get {g : Nat} {vk vt : Value} {l : List (ByteArray × ByteArray)} {w : World} (k : ByteArray) (h : KVat g vk vt l w) (hs : l.length < 1000000) :
    Calls Try.prog 48 #[.pointer (some ⟨g, 0, none⟩), .string k] w fun e w' => e = .returned (.tuple #[.string (kvGet l k).1, .bool (kvGet l k).2, .int .i64 0]) ∧ w = w' := by
  obtain ⟨ak, ck, rfl, _, _, hak⟩ := owns_cells h.ks
  obtain ⟨at_, ct, rfl, _, _, hat⟩ := owns_cells h.ts
  have c0 : w.cell? ⟨g, 0, none⟩ = some (.slice ak l.length ck) := (cell_at h.blk 0).trans rfl
  have c1 : w.cell? ⟨g, 0 + 1, none⟩ = some (.slice at_ l.length ct) := (cell_at h.blk 1).trans rfl
  obtain ⟨v, hv⟩ : ∃ v, kvGet l k = v := ⟨_, rfl⟩
  have HV := hid hv
  rw [hv]
  clear h hv
  have hk := hid hak
  have ht := hid hat
  clear hak hat
  go_enter Try.func48, Try.ntmps48
  go_wp2
  go_loop [7] (fun q => ∃ i : Nat, q = .int .i64 i ∧ i ≤ l.length ∧ Hid (∀ j (hj : j < i) (hl : j < l.length), l[j].1 ≠ k)) (fun q => l.length - (intOf q).toNat)
  case atStart => exact ⟨0, rfl, Nat.zero_le _, hid (fun j hj => absurd hj (Nat.not_lt_zero _))⟩
  case round =>
    obtain ⟨i, rfl, hi, HN⟩ := hrel
    by_cases hlt : i < l.length
    · obtain ⟨bk, rfl, -, -, hbk⟩ := hk.out (by omega)
      obtain ⟨bt, rfl, -, -, hbt⟩ := ht.out (by omega)
      have k1 := (hbk i (.string l[i].1) (by simp [hlt])).1
      have t1 := (hbt i (.string l[i].2) (by simp [hlt])).1
      by_cases he : l[i].1 = k
      · have hq := str_eq he
        have hv : v = (l[i].2, true) := HV.out.symm.trans (kvGet_at l k i hlt (fun j hj => HN.out j hj (by omega)) he)
        clear he hbk hbt HV
        generalize l[i] = p at *
        subst hv
        go_wp2
        go_ret3
        exact ⟨rfl, rfl⟩
      · have hq := str_ne he
        have hn : Hid (∀ j (hj : j < i + 1) (hl : j < l.length), l[j].1 ≠ k) := fun j hj hl => by
          rcases Nat.lt_succ_iff_lt_or_eq.1 hj with hj | rfl
          · exact HN.out j hj hl
          · exact he
        generalize l[i] = p at *
        clear he hbk hbt
        go_wp2
        go_round
        case rel => exact ⟨i + 1, by go_num, by omega, hn⟩
        case measure => simp [intOf]; omega
    · have hv : v = (⟨#[]⟩, false) := HV.out.symm.trans (kvGet_none l k fun j hj => HN.out j (by omega) hj)
      subst hv
      go_wp2
      go_ret3
      exact ⟨rfl, rfl⟩
end Go.Proofs.Ytmlnjheiogmlaaa
