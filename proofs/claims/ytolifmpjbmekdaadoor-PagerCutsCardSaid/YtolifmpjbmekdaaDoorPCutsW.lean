/-
PagerCuts' walk; conditions: the library's table and the numbers of the cut lie in memory.
-/
import Derived.Test.YtolifmpjbmekdaaDoorPCuts
namespace Go.Proofs.YtolifmpjbmekdaaDoor
open Go.RowKit
open Go.Lib (hid)
theorem own_empty2 {W : World} {b e size : Nat} (h : W.heap[b]? = some (.cells #[] e (0, 0))) : W.ownsRow 0 e size (.slice (some ⟨b, 0, none⟩) 0 0) 0 [] :=
  ⟨by simp, .inr ⟨b, 0, _, rfl, Nat.zero_le _, h, Nat.le_refl _, Nat.zero_le _, by simp, by simp⟩⟩
theorem info_cut2 : (Tryd.prog.info? 24).map (fun i => (i.zero, i.size, i.bytes)) = some (some (.agg #[.int .i64 0, .slice none 0 0]), 2, 32) := by kernel_rfl
/-- A row of one cut. -/
theorem cuts_own {W : World} {g cap : Nat} {k : Int} {u : Value} {S : Nat → Prop} {fates : List Int} (h : W.ownsRow 0 24 2 (.slice (some ⟨g, 0, none⟩) 1 cap) 1 [.int .i64 k, u]) (hu : IntsAt S u fates W) : CutsAt (fun _ => True) (.slice (some ⟨g, 0, none⟩) 1 cap) [(k, fates)] W := by
  rcases h.2 with ⟨h0, _⟩ | ⟨g', cap', cur, e, _, hg, h1, h2, h3, h4⟩
  · cases h0
  · cases e
    have hc : ∀ i : Nat, i < 2 → cur[i]? = [Value.int .i64 k, u][i]? := fun i hi => by
      rw [← Array.getElem?_toList, ← h4, List.getElem?_take_of_lt (by omega)]
    refine ⟨_, cap, rfl, h1, h2, fun _ => ⟨g, 0, rfl, trivial, blk_lt hg, fun i c hc2 => ?_⟩⟩
    cases i with
    | zero =>
      simp at hc2; subst hc2
      exact ⟨(cell_at hg 0).trans (hc 0 (by decide)), u, (cell_at hg 1).trans (hc 1 (by decide)), hu.mono fun _ _ _ => trivial⟩
    | succ i => simp at hc2
structure CutsV (fates : List Int) (w : World) (v : Value) (l : List (Int × List Int)) (o : Option Nat) (W : World) : Prop where
  at_ : CutsAt (fun _ => True) v l W
  new : New w W
  run : Run 9 [] o fates 0 (DS.new 9 l)
  few : l.length ≤ 1
  when : o = none ∨ ∃ b, o = some b ∧ 11 ≤ b ∧ b < 15
set_option maxHeartbeats 3200000 in
set_option maxRecDepth 100000 in
theorem pagerCuts_calls (a b : ByteArray) (ha : a.size ≤ maxLen) (hb : b.size ≤ maxLen) (at_ : Int) (u : Value) (fates : List Int) (S : Nat → Prop) (w : World) (ht : Tabs w) (hu : IntsAt S u fates w) : Calls Tryd.prog 4 #[.string a, .string b, .agg #[.int .i64 at_, u]] w fun e w' => e = .returned (.bool true) ∧ New w w' := by
  have hm : maxLen = 9223372036854775807 := rfl
  obtain ⟨k, hk, hk7⟩ := and_range_i at_ 7 7 rfl (by decide)
  have hu0 := hu
  obtain ⟨A, cp, rfl, hlen, -⟩ := hu0
  have HU := hid hu
  have HT := hid ht
  have HAw := hid awake_calls
  have hf0 := sup_gen
  have hf1 := sup_root
  obtain ⟨i0, hi0, hz0, hz1, hz2⟩ := info_parts info_cut2
  have N0 := hid ((Kept.refl (fun _ => False) w).alloc (.cells #[.int .i64 at_, .slice A fates.length cp] 24))
  clear ht hu
  go_enter Tryd.func4, Tryd.ntmps4
  go_upto_region 1 with fail
  go_region
  have hs : (a.extract 0 (min (a.size : Int) 100).toNat).size ≤ 100 := by rw [ByteArray.size_extract]; omega
  have hs2 : (b.extract 0 (min (b.size : Int) 100).toNat).size ≤ 100 := by rw [ByteArray.size_extract]; omega
  generalize a.extract 0 (min (a.size : Int) 100).toNat = s at *
  generalize b.extract 0 (min (b.size : Int) 100).toNat = t at *
  clear ha hb hm
  have HS1 := hid hs
  have HS2 := hid hs2
  clear hs hs2
  go_upto_if 38 with fail
  go_cut [9] (fun v wc => Hid (∃ l o, CutsV fates w v l o wc))
  case first =>
    by_cases h4 : k < 4
    · have b5 : decide (k < 4) = true := decide_eq_true h4
      have b6 : decide ((k : Int) < 4) = true := decide_eq_true (by omega)
      have s1 : IntKind.i64.wrap (11 + (k : Int)) = 11 + (k : Int) := by rw [IntKind.wrap_i64]; omega
      have NB := hid (((N0.out.drew.alloc (.cells #[] 24)).alloc (.cells #[.int .i64 (11 + (k : Int)), .slice A fates.length cp] 24)))
      go_wp2_with (first
        | (at_builtin; refine wpList_append_lies _ rfl (.tmp 39) (.tmp 45) 29 rfl 0 24 i0 (.agg #[.int .i64 0, .slice none 0 0]) 2 32 Tryd.underlying29 hi0 hz0 hz1 hz2 rfl (by decide) (.slice (some ⟨w.heap.size + 1, 0, none⟩) 0 0) 0 [] rfl (own_empty2 (blk_alloc (blk_at _ _ (by simp)) _)) ⟨w.heap.size + 1 + 1, 0, none⟩ 1 1 [.int .i64 (11 + (k : Int)), .slice A fates.length cp] rfl rfl (World.news_of_block (blk_at _ _ (by simp))) (by intro u hu; simp at hu; rcases hu with rfl | rfl <;> rfl) (by decide) (by unfold maxLen; omega) (by omega) (Nat.zero_le _) _ rfl ?_; intro g1 cap1 w5 hown hgrow hat hlt5; have hn5 := Kept.grown NB.out hgrow (fun k e => .inr (by cases e; simp)); have HO := hid hown; have N5 := hid hn5; clear hown hgrow hat hlt5 hn5))
      go_meet
      have hr := (new_run (k := 11 + k) (by omega) 9 fates).1
      rw [show (((11 + k : Nat) : Int)) = 11 + (k : Int) by omega] at hr
      exact hid ⟨_, some (11 + k), cuts_own HO.out (HU.out.kept N5.out fun _ _ _ => id), N5.out, hr, by simp, .inr ⟨_, rfl, by omega, by omega⟩⟩
    · have b5 : decide (k < 4) = false := decide_eq_false h4
      have b6 : decide ((k : Int) < 4) = false := decide_eq_false (by omega)
      go_wp2
      go_meet
      exact hid ⟨[], none, ⟨_, 0, rfl, Nat.le_refl _, by decide, fun e => absurd rfl e⟩, (N0.out.alloc _).drew, ⟨rfl, rfl, rfl, rfl, fun _ => rfl, fun b e => by cases e⟩, by simp, .inl rfl⟩
  case rest =>
    obtain ⟨l, o, hv⟩ := hcut.out
    have HV := hid hv
    clear hcut hv
    have HB : Hid (Calls Tryd.prog 13 #[.int .i64 9, u9] wc fun e w' => (∃ q p D, e = .returned (.tuple #[ptr q, ptr p, .int .i64 0]) ∧ Pgr (Over wc) p q cS0 D w' ∧ Run 9 [] (dec7 o) fates 0 D ∧ D.tell = fmtT (DS.new 9 l).tell) ∧ New wc w') := hid (begun_run 9 (by decide) (by decide) HV.out.at_ (by have := HV.out.few; omega) HV.out.run (fun b e => by
      rcases HV.out.when with rfl | ⟨b', rfl, h1, h2⟩
      · cases e
      · cases e; omega))
    have ho4 : Hid (∀ b, dec7 o = some b → 4 ≤ b) := hid fun b e => by
      rcases HV.out.when with rfl | ⟨b', rfl, h1, h2⟩
      · cases e
      · simp [dec7, dec] at e; omega
    have ho0 : Hid (∀ b, dec (dec (dec (dec (dec7 o)))) = some b → b < 4) := hid fun b e => by
      rcases HV.out.when with rfl | ⟨b', rfl, h1, h2⟩
      · cases e
      · simp [dec7, dec] at e; omega
    have keepG : Hid (∀ W W2, New w W → Kept (Over wc) W W2 → New w W2) := hid fun W W2 h1 h2 => h1.over (h2.mono fun x _ e => Nat.le_trans HV.out.new.size e)
    have HUp := hid (fun (q : Nat) (D : DS) (G : Nat → Prop) (W : World) (hD : Disk q D G W) => up_calls hD)
    go_upto_region 14 with (first
      | (go_at_call 13; (with_reducible refine HB.out.mono ?_); rintro e w1 ⟨⟨q, p, D, rfl, x1, x2, x3⟩, x4⟩; have X1 := hid x1; have X2 := hid x2; have X3 := hid x3; have X4 := hid (HV.out.new.trans x4); clear x1 x2 x3 x4)
      | (go_at_call 8; (with_reducible refine (HAw.out _ (HT.out.new X4.out)).mono ?_); rintro e w2 ⟨rfl, x1⟩; have Y1 := hid (X1.out.new x1); have Y4 := hid (X4.out.trans x1); clear x1)
      | (go_at_call 14; (with_reducible refine (cut_add1 HS1.out Y1.out (HT.out.new Y4.out)).mono ?_); rintro e w3 ⟨rfl, x1, x2⟩; have Z1 := hid x1; have Z4 := hid (keepG.out _ _ Y4.out x2); clear x1 x2)
      | (go_at_call 15; (with_reducible refine (cut_commit1 HS1.out Z1.out X2.out ho4.out).mono ?_); rintro e w4 ⟨⟨D4, rfl, x1, x2, x3⟩, x4⟩; have U1 := hid x1; have U2 := hid x2; have U3 := hid x3; have U4 := hid (keepG.out _ _ Z4.out x4); clear x1 x2 x3 x4)
      | (go_at_call 14; (with_reducible refine (cut_add2 HS2.out U1.out (HT.out.new U4.out)).mono ?_); rintro e w5 ⟨rfl, x1, x2⟩; have V1 := hid x1; have V4 := hid (keepG.out _ _ U4.out x2); clear x1 x2)
      | (go_at_call 16; (with_reducible refine (cut_drop V1.out).mono ?_); rintro e w6 ⟨rfl, x1, x2⟩; have R1 := hid x1; have R4 := hid (keepG.out _ _ V4.out x2); clear x1 x2))
    obtain ⟨f, root, D', hbeh, hc⟩ := cut_commit2 HS2.out R1.out U2.out (U3.out.trans (by rw [X3.out])) ho0.out
    have HC := hid hc
    clear hc HB X1 X2 X3 Y1 Z1 U1 U2 U3 V1 R1 X4 Y4 Z4 U4 V4 ho4 ho0
    cases hbeh with
    | old b1 b2 b3 b4 =>
      as_aux_lemma =>
      have B1 := hid b1
      have B2 := hid b2
      have B3 := hid b3
      have B4 := hid b4
      clear b1 b2 b3 b4
      go_wp2_with (first
        | (go_at_call 15; (with_reducible refine HC.out.mono ?_); rintro e w7 ⟨rfl, x1, x2⟩; have X1 := hid x1; have X4 := hid (keepG.out _ _ R4.out x2); clear x1 x2)
        | (go_at_call 10; (with_reducible refine (HUp.out _ _ _ _ X1.out).mono ?_); rintro e w8 ⟨rfl, x1, x2⟩; have Y1 := hid x1; have Y4 := hid (keepG.out _ _ X4.out x2); clear x1 x2)
        | (go_at_call 11; (with_reducible refine (cut_open22 Y1.out B1.out B2.out B3.out).mono ?_); rintro e w9 ⟨⟨p9, D9, rfl, x1, x2, x3⟩, x4⟩; have Z1 := hid x1; have Z2 := hid x2; have Z3 := hid ((congrFun x3 2).trans B4.out); have Z4 := hid (keepG.out _ _ Y4.out x4); clear x1 x2 x3 x4)
        | (go_at_call 12; (with_reducible refine (cut_state22 Z1.out rfl rfl).mono ?_); rintro e w10 ⟨rfl, x1⟩; have U1 := hid (Z1.out.new x1); have U4 := hid (Z4.out.trans x1); clear x1)
        | (go_at_call 17; (with_reducible refine (cut_mark2 U1.out).mono ?_); rintro e w11 ⟨rfl, x1, x2⟩; have V1 := hid x1; have V4 := hid (keepG.out _ _ U4.out x2); clear x1 x2)
        | (go_at_call 18; (with_reducible refine (cut_read2 V1.out ((Kept.refl _ _).alloc _) Z2.out HS1.out Z3.out (ints_block (blk_new w11 (.cells #[.int .i64 2] 3)) (Nat.le_refl _))).mono ?_); rintro e w12 ⟨rfl, ⟨D12, x1, x2, x3⟩, x4⟩; have K12 := hid (keepG.out _ _ (V4.out.alloc _) x4); have P12 := hid (x1.new ((Kept.refl (fun _ => False) w12).alloc (.cells #[.int .i64 2, .int .i64 2, .int .u64 2, .string s] 48))); have N12 := hid (K12.out.alloc (.cells #[.int .i64 2, .int .i64 2, .int .u64 2, .string s] 48)); have Q12 := hid (blk_new w12 (.cells #[.int .i64 2, .int .i64 2, .int .u64 2, .string s] 48)); clear x1 x2 x3 x4)
        | (go_at_call 12; (with_reducible refine (cut_state22 P12.out rfl rfl).mono ?_); rintro e w13 ⟨rfl, x1⟩; have P13 := hid (P12.out.new x1); have N13 := hid (N12.out.trans x1); have Q13 := hid (x1.at Q12.out id); clear x1)
        | (go_at_call 12; (with_reducible refine (cut_state22 P13.out rfl rfl).mono ?_); rintro e w14 ⟨rfl, x1⟩; have N14 := hid (N13.out.trans x1); have c14 : w14.cell? ⟨w12.heap.size, 3, none⟩ = some (.string s) := cell_at (x1.at Q13.out id) 3; clear x1))
      go_ret
      exact ⟨rfl, N14.out⟩
    | new b1 b2 b3 b4 b5 b6 =>
      have B1 := hid b1
      have B2 := hid b2
      have B3 := hid b3
      have B4 := hid b4
      have B5 := hid b5
      clear b1 b2 b3 b4 b5
      rcases b6 with rfl | ⟨rfl, rfl⟩
      all_goals as_aux_lemma =>
        go_wp2_with (first
          | (go_at_call 15; (with_reducible refine HC.out.mono ?_); rintro e w7 ⟨rfl, x1, x2⟩; have X1 := hid x1; have X4 := hid (keepG.out _ _ R4.out x2); clear x1 x2)
          | (go_at_call 10; (with_reducible refine (HUp.out _ _ _ _ X1.out).mono ?_); rintro e w8 ⟨rfl, x1, x2⟩; have Y1 := hid x1; have Y4 := hid (keepG.out _ _ X4.out x2); clear x1 x2)
          | (go_at_call 11; (with_reducible refine (cut_open33 Y1.out B1.out B2.out B3.out).mono ?_); rintro e w9 ⟨⟨p9, D9, rfl, x1, x2, x3⟩, x4⟩; have Z1 := hid x1; have Z2 := hid x2; have Z3 := hid ((congrFun x3 2).trans B4.out); have Z5 := hid ((congrFun x3 3).trans B5.out); have Z4 := hid (keepG.out _ _ Y4.out x4); clear x1 x2 x3 x4)
          | (go_at_call 12; (with_reducible refine (cut_state33 Z1.out rfl rfl).mono ?_); rintro e w10 ⟨rfl, x1⟩; have U1 := hid (Z1.out.new x1); have U4 := hid (Z4.out.trans x1); clear x1)
          | (go_at_call 17; (with_reducible refine (cut_mark3 U1.out).mono ?_); rintro e w11 ⟨rfl, x1, x2⟩; have V1 := hid x1; have V4 := hid (keepG.out _ _ U4.out x2); clear x1 x2)
          | (go_at_call 18; (with_reducible refine (cut_read2 V1.out ((Kept.refl _ _).alloc _) Z2.out HS1.out Z3.out (ints_block (blk_new w11 (.cells #[.int .i64 2] 3)) (Nat.le_refl _))).mono ?_); rintro e w12 ⟨rfl, ⟨D12, x1, x2, x3⟩, x4⟩; have K12 := hid (keepG.out _ _ (V4.out.alloc _) x4); have P12 := hid (x1.new ((Kept.refl (fun _ => False) w12).alloc (.cells #[.int .i64 2, .int .i64 2, .int .u64 2, .string s] 48))); have N12 := hid (K12.out.alloc (.cells #[.int .i64 2, .int .i64 2, .int .u64 2, .string s] 48)); have Z12 := hid x2; have T12 := hid ((congrFun x3 3).trans Z5.out); clear x1 x2 x3 x4)
          | (go_at_call 12; (with_reducible refine (cut_state33 P12.out rfl rfl).mono ?_); rintro e w13 ⟨rfl, x1⟩; have P13 := hid (P12.out.new x1); have N13 := hid (N12.out.trans x1); clear x1)
          | (go_at_call 18; (with_reducible refine (cut_read3 P13.out ((Kept.refl _ _).alloc _) Z12.out HS2.out T12.out (ints_block (blk_new w13 (.cells #[.int .i64 3] 3)) (Nat.le_refl _))).mono ?_); rintro e w14 ⟨rfl, ⟨S14, D14, x1, x2, x3, x5⟩, x4⟩; have K14 := hid (keepG.out _ _ (N13.out.alloc _) x4); have P14 := hid (x1.new ((Kept.refl (fun _ => False) w14).alloc (.cells #[.int .i64 3, .int .i64 3, .int .u64 3, .string t] 48))); have N14 := hid (K14.out.alloc (.cells #[.int .i64 3, .int .i64 3, .int .u64 3, .string t] 48)); have Q14 := hid (blk_new w14 (.cells #[.int .i64 3, .int .i64 3, .int .u64 3, .string t] 48)); have G14 := hid x2; have O14 := hid x3; have F14 := hid x5; clear x1 x2 x3 x4 x5)
          | (go_at_call 12; (with_reducible refine (cut_state33 P14.out G14.out O14.out).mono ?_); rintro e w15 ⟨rfl, x1⟩; have P15 := hid (P14.out.new x1); have N15 := hid (N14.out.trans x1); have Q15 := hid (x1.at Q14.out id); clear x1)
          | (go_at_call 12; (with_reducible refine (cut_state33 P15.out G14.out O14.out).mono ?_); rintro e w16 ⟨rfl, x1⟩; have P16 := hid (P15.out.new x1); have N16 := hid (N15.out.trans x1); have c16 : w16.cell? ⟨w14.heap.size, 3, none⟩ = some (.string t) := cell_at (x1.at Q15.out id) 3; clear x1)
          | (go_at_call 19; (with_reducible refine (cut_fails P16.out F14.out).mono ?_); rintro e w17 ⟨rfl, rfl⟩))
        go_ret
        exact ⟨rfl, N16.out⟩
end Go.Proofs.YtolifmpjbmekdaaDoor
