/-
slices.Index and slices.Contains at integers; conditions: the integers lie in a row.
-/
import Derived.Test.YtolifmpjbmekdaaDoorDs
namespace Go.Proofs.YtolifmpjbmekdaaDoor
open Go.RowKit
open Go.Lib (hid)
theorem index_calls {H : Nat → Prop} {v : Value} {l : List Int} {w : World} (h : IntsAt H v l w) (x : Int) : Calls Tryd.prog 58 #[v, .int .i64 x] w fun e w' => ∃ r : Int, e = .returned (.int .i64 r) ∧ Hid (0 ≤ r ↔ x ∈ l) ∧ w = w' := by
  obtain ⟨A, cap, rfl, hl, -, h⟩ := h
  have hl : l.length ≤ 9223372036854775807 := by omega
  go_enter Tryd.func58, Tryd.ntmps58
  go_wp2
  go_loopw [8] (fun v wr => ∃ i : Nat, v = .int .i64 i ∧ i ≤ l.length ∧ Hid (∀ j : Nat, j < i → l[j]? ≠ some x) ∧ w = wr) (fun v _ => l.length - (intOf v).toNat)
  case atStart => exact ⟨0, rfl, Nat.zero_le _, hid (fun j hj => absurd hj (Nat.not_lt_zero _)), rfl⟩
  case round =>
    obtain ⟨i, rfl, hi, hp, rfl⟩ := hrel
    by_cases hlt : i < l.length
    · obtain ⟨b, off, rfl, _, _, hc⟩ := h (by rintro rfl; simp at hlt)
      have c := hc i l[i] (by simp [hlt])
      have hx := hid (show l[i]? = some l[i] by simp [hlt])
      have hs : IntKind.i64.wrap ((i : Int) + 1) = (i : Int) + 1 := by rw [IntKind.wrap_i64]; omega
      clear hc h
      generalize l[i] = z at *
      by_cases hz : x = z
      · subst hz
        go_wp2
        go_ret
        exact ⟨_, rfl, hid ⟨fun _ => List.mem_of_getElem? hx.out, fun _ => by omega⟩, rfl⟩
      · have hb : (x == z) = false := beq_eq_false_iff_ne.2 hz
        go_wp2
        refine ⟨⟨i + 1, by simp, by omega, hid fun j hj => ?_, trivial⟩, by simp [intOf]; omega⟩
        by_cases hj2 : j = i
        · subst hj2; rw [hx.out]; intro e; exact hz (Option.some.inj e).symm
        · exact hp.out j (by omega)
    · have he : i = l.length := by omega
      subst he
      have hn : Hid (x ∉ l) := hid fun hm => by
        obtain ⟨j, hj, e⟩ := List.getElem_of_mem hm
        exact hp.out j hj (by rw [List.getElem?_eq_getElem hj, e])
      clear h
      go_wp2
      go_ret
      exact ⟨_, rfl, hid ⟨fun h => absurd h (by decide), fun h => absurd h hn.out⟩, rfl⟩
theorem contains_calls {H : Nat → Prop} {v : Value} {l : List Int} {w : World} (h : IntsAt H v l w) (x : Int) : Calls Tryd.prog 43 #[v, .int .i64 x] w fun e w' => e = .returned (.bool (decide (x ∈ l))) ∧ w = w' := by
  have HI := hid (index_calls h x)
  clear h
  go_enter Tryd.func43, Tryd.ntmps43
  go_wp2_with (first | (go_at_call 58; (with_reducible refine HI.out.mono ?_); rintro e w1 ⟨r, rfl, hr, rfl⟩))
  go_ret
  have e : decide (0 ≤ r) = decide (x ∈ l) := decide_eq_decide.2 hr.out
  exact ⟨congrArg (fun b => Ending.returned (.bool b)) e, rfl⟩
end Go.Proofs.YtolifmpjbmekdaaDoor
