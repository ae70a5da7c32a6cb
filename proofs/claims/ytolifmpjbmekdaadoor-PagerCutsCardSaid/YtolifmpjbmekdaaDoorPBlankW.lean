/-
PagerBlank's walk; conditions: the library's table and the numbers of the cut lie in memory.
-/
import Derived.Test.YtolifmpjbmekdaaDoorPBlank
namespace Go.Proofs.YtolifmpjbmekdaaDoor
open Go.RowKit
open Go.Lib (hid)
theorem cuts_block {W : World} {b : Nat} {k : Int} {u : Value} {t : TypeId} {S : Nat → Prop} {fates : List Int} (h : W.heap[b]? = some (.cells #[.int .i64 k, u] t (0, 0))) (hu : IntsAt S u fates W) : CutsAt (fun _ => True) (.slice (some ⟨b, 0, none⟩) 1 1) [(k, fates)] W := by
  refine ⟨_, 1, rfl, by simp, by decide, fun _ => ⟨b, 0, rfl, trivial, blk_lt h, fun i c hc => ?_⟩⟩
  cases i with
  | zero =>
    simp at hc; subst hc
    exact ⟨cell_at h 0, u, cell_at h 1, hu.mono fun _ _ _ => trivial⟩
  | succ i => simp at hc
theorem ok_state {G : Nat → Prop} {p q : Nat} {D : DS} {W : World} (h : Pgr G p q (PS.opened 1 (-1) 4) D W) : Calls Tryd.prog 12 #[ptr p] W fun e w' => e = .returned (.agg #[.int .u64 1, .int .i64 (-1)]) ∧ New W w' := g_state h
set_option maxHeartbeats 3200000 in
set_option maxRecDepth 100000 in
theorem pagerBlank_calls (a : Int) (u : Value) (fates : List Int) (S : Nat → Prop) (w : World) (ht : Tabs w) (hu : IntsAt S u fates w) : Calls Tryd.prog 3 #[.agg #[.int .i64 a, u]] w fun e w' => e = .returned (.bool true) ∧ New w w' := by
  obtain ⟨k, hk, hk7⟩ := and_range_i a 7 7 rfl (by decide)
  have hu0 := hu
  obtain ⟨A, cp, rfl, -⟩ := hu0
  have NA := hid (((Kept.refl (fun _ => False) w).alloc (.cells #[.int .i64 a, .slice A fates.length cp] 24)).alloc (.cells #[.int .i64 k, .slice A fates.length cp] 24))
  have HB := hid (cuts_block (blk_new (w.alloc (.cells #[.int .i64 a, .slice A fates.length cp] 24)) (.cells #[.int .i64 k, .slice A fates.length cp] 24)) (hu.kept NA.out fun _ _ _ => id))
  have HN : Hid (Calls Tryd.prog 7 #[.int .i64 4, .slice (some ⟨w.heap.size + 1, 0, none⟩) 1 1] ((w.alloc (.cells #[.int .i64 a, .slice A fates.length cp] 24)).alloc (.cells #[.int .i64 k, .slice A fates.length cp] 24)) fun e w' => ∃ q, e = .returned (.tuple #[.pointer (some ⟨q, 0, none⟩), .int .i64 0]) ∧ ((w.alloc (.cells #[.int .i64 a, .slice A fates.length cp] 24)).alloc (.cells #[.int .i64 k, .slice A fates.length cp] 24)).heap.size ≤ q ∧ Disk q (DS.new 4 [((k : Int), fates)]) (Over ((w.alloc (.cells #[.int .i64 a, .slice A fates.length cp] 24)).alloc (.cells #[.int .i64 k, .slice A fates.length cp] 24))) w' ∧ New ((w.alloc (.cells #[.int .i64 a, .slice A fates.length cp] 24)).alloc (.cells #[.int .i64 k, .slice A fates.length cp] 24)) w') := hid (by
    have := new_calls (n := 4) (by decide) HB.out (by simp)
    rw [show (w.alloc (.cells #[.int .i64 a, .slice A fates.length cp] 24)).heap.size = w.heap.size + 1 by simp] at this
    exact this)
  obtain ⟨f, D1, hf, hf5, hcase⟩ := blank_one hk7 fates
  have HT := hid ht
  have HAw := hid awake_calls
  have hf0 := sup_gen
  have hf1 := sup_root
  have HF := hid (fun (q : Nat) (G : Nat → Prop) (W : World) (hD : Disk q (DS.new 4 [((k : Int), fates)]) G W) => (by
    have := format_calls hD (by simp [DS.new])
    rw [hf] at this
    exact this : Calls Tryd.prog 9 #[ptr q] W fun e w' => e = .returned (.int .i64 f) ∧ Disk q D1 G w' ∧ Kept G W w'))
  have HUp := hid (fun (q : Nat) (D : DS) (G : Nat → Prop) (W : World) (hD : Disk q D G W) => up_calls hD)
  have keepG : Hid (∀ W W2, New w W → Kept (Over ((w.alloc (.cells #[.int .i64 a, .slice A fates.length cp] 24)).alloc (.cells #[.int .i64 k, .slice A fates.length cp] 24))) W W2 → New w W2) := hid fun W W2 h1 h2 => h1.over (h2.mono fun x _ e => Nat.le_trans NA.out.size e)
  clear ht hu HB hf
  have fin : ∀ b : Bool, decide (k < 5) = b → decide ((k : Int) < 5) = b := fun b h => by
    rw [← h]; exact decide_eq_decide.2 ⟨fun h => by omega, fun h => by omega⟩
  rcases hcase with hOK | ⟨g, D2, fl, hg, hrun, hbad⟩
  · have hOK := hid hOK
    by_cases h5 : k < 5
    · obtain rfl := hf5 h5
      have b5 : decide (k < 5) = true := decide_eq_true h5
      have b6 := fin _ b5
      clear h5 hf5 fin hk7
      go_enter Tryd.func3, Tryd.ntmps3
      go_wp2_with (first
        | (go_at_call 7; (with_reducible refine HN.out.mono ?_); rintro e w1 ⟨q, rfl, hq, x1, x2⟩; have X1 := hid x1; have X2 := hid (NA.out.trans x2); clear x1 x2 hq)
        | (go_at_call 8; (with_reducible refine (HAw.out _ (HT.out.new X2.out)).mono ?_); rintro e w2 ⟨rfl, x1⟩; have Y1 := hid (X1.out.new x1); have Y2 := hid (X2.out.trans x1); clear x1)
        | (go_at_call 9; (with_reducible refine (HF.out _ _ _ Y1.out).mono ?_); rintro e w3 ⟨rfl, x1, x2⟩; have Z1 := hid x1; have Z2 := hid (keepG.out _ _ Y2.out x2); clear x1 x2)
        | (go_at_call 10; (with_reducible refine (HUp.out _ _ _ _ Z1.out).mono ?_); rintro e w4 ⟨rfl, x1, x2⟩; have U1 := hid x1; have U2 := hid (keepG.out _ _ Z2.out x2); clear x1 x2)
        | (go_at_call 11; (with_reducible refine (hOK.out _ _ _ U1.out).mono ?_); rintro e w5 ⟨⟨p, D5, rfl, x1⟩, x2⟩; have V1 := hid x1; have V2 := hid (keepG.out _ _ U2.out x2); clear x1 x2)
        | (go_at_call 12; (with_reducible refine (ok_state V1.out).mono ?_); rintro e w6 ⟨rfl, x1⟩; have R1 := hid (V1.out.new x1); have R2 := hid (V2.out.trans x1); clear x1)
        | (go_at_call 12; (with_reducible refine (ok_state R1.out).mono ?_); rintro e w7 ⟨rfl, x1⟩; have S2 := hid (R2.out.trans x1); clear x1))
      go_ret
      exact ⟨rfl, S2.out⟩
    · have b5 : decide (k < 5) = false := decide_eq_false h5
      have b6 := fin _ b5
      clear h5 hf5 fin hk7
      go_enter Tryd.func3, Tryd.ntmps3
      go_wp2_with (first
        | (go_at_call 7; (with_reducible refine HN.out.mono ?_); rintro e w1 ⟨q, rfl, hq, x1, x2⟩; have X1 := hid x1; have X2 := hid (NA.out.trans x2); clear x1 x2 hq)
        | (go_at_call 8; (with_reducible refine (HAw.out _ (HT.out.new X2.out)).mono ?_); rintro e w2 ⟨rfl, x1⟩; have Y1 := hid (X1.out.new x1); have Y2 := hid (X2.out.trans x1); clear x1)
        | (go_at_call 9; (with_reducible refine (HF.out _ _ _ Y1.out).mono ?_); rintro e w3 ⟨rfl, x1, x2⟩; have Z1 := hid x1; have Z2 := hid (keepG.out _ _ Y2.out x2); clear x1 x2)
        | (go_at_call 10; (with_reducible refine (HUp.out _ _ _ _ Z1.out).mono ?_); rintro e w4 ⟨rfl, x1, x2⟩; have U1 := hid x1; have U2 := hid (keepG.out _ _ Z2.out x2); clear x1 x2)
        | (go_at_call 11; (with_reducible refine (hOK.out _ _ _ U1.out).mono ?_); rintro e w5 ⟨⟨p, D5, rfl, x1⟩, x2⟩; have V1 := hid x1; have V2 := hid (keepG.out _ _ U2.out x2); clear x1 x2)
        | (go_at_call 12; (with_reducible refine (ok_state V1.out).mono ?_); rintro e w6 ⟨rfl, x1⟩; have R1 := hid (V1.out.new x1); have R2 := hid (V2.out.trans x1); clear x1)
        | (go_at_call 12; (with_reducible refine (ok_state R1.out).mono ?_); rintro e w7 ⟨rfl, x1⟩; have S2 := hid (R2.out.trans x1); clear x1))
      go_ret
      exact ⟨rfl, S2.out⟩
  · have hbad := hid hbad
    obtain ⟨D4, e4, hO2⟩ := again hrun
    have hO2 := hid hO2
    have HF2 := hid (fun (q : Nat) (G : Nat → Prop) (W : World) (hD : Disk q D2.up G W) => (by
      have := format_calls hD (by rw [hrun.wait]; simp)
      rw [e4] at this
      exact this : Calls Tryd.prog 9 #[ptr q] W fun e w' => e = .returned (.int .i64 0) ∧ Disk q D4 G w' ∧ Kept G W w'))
    clear hrun e4
    by_cases h5 : k < 5
    · obtain rfl := hf5 h5
      have b5 : decide (k < 5) = true := decide_eq_true h5
      have b6 := fin _ b5
      clear h5 hf5 fin hk7
      rcases hg with rfl | rfl
      all_goals
        go_enter Tryd.func3, Tryd.ntmps3
        go_wp2_with (first
          | (go_at_call 7; (with_reducible refine HN.out.mono ?_); rintro e w1 ⟨q, rfl, hq, x1, x2⟩; have X1 := hid x1; have X2 := hid (NA.out.trans x2); clear x1 x2 hq)
          | (go_at_call 8; (with_reducible refine (HAw.out _ (HT.out.new X2.out)).mono ?_); rintro e w2 ⟨rfl, x1⟩; have Y1 := hid (X1.out.new x1); have Y2 := hid (X2.out.trans x1); clear x1)
          | (go_at_call 9; (with_reducible refine (HF.out _ _ _ Y1.out).mono ?_); rintro e w3 ⟨rfl, x1, x2⟩; have Z1 := hid x1; have Z2 := hid (keepG.out _ _ Y2.out x2); clear x1 x2)
          | (go_at_call 10; (with_reducible refine (HUp.out _ _ _ _ Z1.out).mono ?_); rintro e w4 ⟨rfl, x1, x2⟩; have U1 := hid x1; have U2 := hid (keepG.out _ _ Z2.out x2); clear x1 x2)
          | (go_at_call 11; (with_reducible refine (hbad.out _ _ _ U1.out).mono ?_); rintro e w5 ⟨rfl, x1, x2⟩; have V1 := hid x1; have V2 := hid (keepG.out _ _ U2.out x2); clear x1 x2)
          | (go_at_call 10; (with_reducible refine (HUp.out _ _ _ _ V1.out).mono ?_); rintro e w6 ⟨rfl, x1, x2⟩; have R1 := hid x1; have R2 := hid (keepG.out _ _ V2.out x2); clear x1 x2)
          | (go_at_call 9; (with_reducible refine (HF2.out _ _ _ R1.out).mono ?_); rintro e w7 ⟨rfl, x1, x2⟩; have S1 := hid x1; have S2 := hid (keepG.out _ _ R2.out x2); clear x1 x2)
          | (go_at_call 11; (with_reducible refine (hO2.out _ _ _ S1.out).mono ?_); rintro e w8 ⟨⟨p, D5, rfl, x1⟩, x2⟩; have T1 := hid x1; have T2 := hid (keepG.out _ _ S2.out x2); clear x1 x2)
          | (go_at_call 12; (with_reducible refine (ok_state T1.out).mono ?_); rintro e w9 ⟨rfl, x1⟩; have Q2 := hid (T2.out.trans x1); clear x1))
        go_ret
        exact ⟨rfl, Q2.out⟩
    · have b5 : decide (k < 5) = false := decide_eq_false h5
      have b6 := fin _ b5
      clear h5 hf5 fin hk7
      rcases hg with rfl | rfl
      all_goals
        go_enter Tryd.func3, Tryd.ntmps3
        go_wp2_with (first
          | (go_at_call 7; (with_reducible refine HN.out.mono ?_); rintro e w1 ⟨q, rfl, hq, x1, x2⟩; have X1 := hid x1; have X2 := hid (NA.out.trans x2); clear x1 x2 hq)
          | (go_at_call 8; (with_reducible refine (HAw.out _ (HT.out.new X2.out)).mono ?_); rintro e w2 ⟨rfl, x1⟩; have Y1 := hid (X1.out.new x1); have Y2 := hid (X2.out.trans x1); clear x1)
          | (go_at_call 9; (with_reducible refine (HF.out _ _ _ Y1.out).mono ?_); rintro e w3 ⟨rfl, x1, x2⟩; have Z1 := hid x1; have Z2 := hid (keepG.out _ _ Y2.out x2); clear x1 x2)
          | (go_at_call 10; (with_reducible refine (HUp.out _ _ _ _ Z1.out).mono ?_); rintro e w4 ⟨rfl, x1, x2⟩; have U1 := hid x1; have U2 := hid (keepG.out _ _ Z2.out x2); clear x1 x2)
          | (go_at_call 11; (with_reducible refine (hbad.out _ _ _ U1.out).mono ?_); rintro e w5 ⟨rfl, x1, x2⟩; have V1 := hid x1; have V2 := hid (keepG.out _ _ U2.out x2); clear x1 x2)
          | (go_at_call 10; (with_reducible refine (HUp.out _ _ _ _ V1.out).mono ?_); rintro e w6 ⟨rfl, x1, x2⟩; have R1 := hid x1; have R2 := hid (keepG.out _ _ V2.out x2); clear x1 x2)
          | (go_at_call 9; (with_reducible refine (HF2.out _ _ _ R1.out).mono ?_); rintro e w7 ⟨rfl, x1, x2⟩; have S1 := hid x1; have S2 := hid (keepG.out _ _ R2.out x2); clear x1 x2)
          | (go_at_call 11; (with_reducible refine (hO2.out _ _ _ S1.out).mono ?_); rintro e w8 ⟨⟨p, D5, rfl, x1⟩, x2⟩; have T1 := hid x1; have T2 := hid (keepG.out _ _ S2.out x2); clear x1 x2)
          | (go_at_call 12; (with_reducible refine (ok_state T1.out).mono ?_); rintro e w9 ⟨rfl, x1⟩; have Q2 := hid (T2.out.trans x1); clear x1))
        go_ret
        exact ⟨rfl, Q2.out⟩
end Go.Proofs.YtolifmpjbmekdaaDoor
