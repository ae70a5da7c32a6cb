/-
Just these keys and texts lie below; conditions: they do, and lie in memory as told.
-/
import Derived.Test.YtmlnjheiogmlaaaRefPut
import Derived.Test.YtmlnjheiogmlaaaQueueL
namespace Go.Proofs.Ytmlnjheiogmlaaa
open Go.RowKit Go.Lib
set_option maxHeartbeats 1600000 in
set_option maxRecDepth 100000 in
theorem cache_below {g b cap : Nat} {F : Nat → Prop} {kv l : PL2} {w : World} (hk : KVs g F kv w) (h : PR b cap l w) (hs : kv.length < 1000000) (hl : kv.length = l.length) (hg : ∀ (i : Nat) p, l[i]? = some p → kvGet kv p.1 = (p.2, true)) :
    Calls Try.prog 26 #[.pointer (some ⟨g, 0, none⟩), .slice (some ⟨b, 0, none⟩) l.length cap] w fun e w' => e = .returned (.bool true) ∧ w = w' := by
  have H := hid h
  have HK := hid hk
  have HG := hid (fun (i : Nat) p (hi : l[i]? = some p) => hk.get p.1 hs (hg i p hi))
  have HL := hid hk.len
  rw [hl] at HL
  have hl3 : l.length ≤ 9223372036854775807 := by omega
  clear h hk hg
  go_enter Try.func26, Try.ntmps26
  go_wp2
  go_loop [5] (fun q => ∃ i : Nat, q = .int .i64 i ∧ i ≤ l.length) (fun q => l.length - (intOf q).toNat)
  case atStart => exact ⟨0, rfl, Nat.zero_le _⟩
  case round =>
    obtain ⟨i, rfl, hi⟩ := hrel
    by_cases hlt : i < l.length
    · obtain ⟨k1, t1⟩ := H.out.cells (i := i) (p := l[i]) (by simp [hlt])
      have HC := hid (HG.out i l[i] (by simp [hlt]))
      generalize l[i] = p at *
      obtain ⟨pk, pt⟩ := p
      have hq := str_eq (rfl : pt = pt)
      go_wp2_with (first | (go_at_call 48; (with_reducible refine HC.out.mono ?_); rintro e w1 ⟨rfl, rfl⟩))
      go_round
      case rel => exact ⟨i + 1, by go_num, by omega⟩
      case measure => simp [intOf]; omega
    · obtain rfl : i = l.length := by omega
      go_wp2_with (first | (go_at_call 13; (with_reducible refine HL.out.mono ?_); rintro e w1 ⟨rfl, rfl⟩))
      go_ret
      exact ⟨rfl, rfl⟩
end Go.Proofs.Ytmlnjheiogmlaaa
