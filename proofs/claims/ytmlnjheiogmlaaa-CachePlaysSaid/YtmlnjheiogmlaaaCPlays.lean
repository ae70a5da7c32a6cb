/-
CachePlays: a cache answers as what lies below would without it, and the Go call of the law answers true; conditions: the acts lie in memory as told.
-/
import Derived.Test.YtmlnjheiogmlaaaCState
import Derived.Test.YtmlnjheiogmlaaaCNone
import Derived.Test.YtmlnjheiogmlaaaActsC
import Derived.BigRegion
namespace Go.Proofs.Ytmlnjheiogmlaaa
open Go.RowKit Go.Lib Go.Maps
theorem and_range_i (t m : Int) (k : Nat) (hk : m = (k : Int)) (hk2 : k < 9223372036854775808) : ∃ n : Nat, Go.bits .and .i64 t m = (n : Int) ∧ n ≤ k := by
  subst hk
  have hlt : ((BitVec.ofInt 64 t) &&& (BitVec.ofInt 64 (k : Int))).toNat ≤ k := by
    rw [BitVec.toNat_and]
    refine Nat.le_trans Nat.and_le_right ?_
    simp
    exact Nat.le_trans (Nat.mod_le _ _) (Nat.le_refl _)
  have e : Go.bits .and .i64 t k = IntKind.i64.wrap ((((BitVec.ofInt 64 t) &&& (BitVec.ofInt 64 (k : Int))).toNat : Nat) : Int) := rfl
  rw [e, IntKind.wrap_i64]
  generalize ((BitVec.ofInt 64 t) &&& (BitVec.ofInt 64 (k : Int))).toNat = c at *
  exact ⟨c, by omega, hlt⟩
set_option maxHeartbeats 3200000 in
set_option maxRecDepth 100000 in
theorem cachePlays_walk (A : Option Addr) (cap : Nat) (zs : List (Int × ByteArray × ByteArray)) (most : Int) (w : World) (hA : ActsC A zs w) :
    Calls Try.prog 6 #[.slice A zs.length cap, .int .i64 most] w fun e w' => e = .returned (.bool true) ∧ Below w.heap.size w w' := by
  have HA := hid hA
  obtain ⟨n, hn, hn2⟩ := and_range_i most 15 15 rfl (by decide)
  obtain ⟨g, hg⟩ : ∃ g, w.heap.size = g := ⟨_, rfl⟩
  have HN := hid ((cache_new (most := n) (g := g) (w := w.alloc (.cells #[.slice none 0 0, .slice none 0 0] 26)) (by omega)).mono fun e W h => start_new (most := max n 1) hg (by omega) W e h)
  clear hA
  go_enter Try.func6, Try.ntmps6
  go_wp2_with (first
    | (go_at_call 19; (with_reducible refine HN.out.mono ?_); rintro e w1 ⟨rfl, HC, HN1⟩)
    | (go_at_call 20; (with_reducible refine (cache_awake).mono ?_); rintro e w2 ⟨rfl, hn2⟩; have HN2 := hid hn2; clear hn2))
  have HT : Hid (∃ F, PS w (g + 2) (g + 1) g F (max n 1) (1000 * 0) w1.heap.size 0 [] (kvGet []) w2) := by
    have hz := HN1.out.size
    have hq := blk_lt HC.out.blk.choose_spec.choose_spec.2.2
    have hm := HC.out.map.lt
    have hN2 : New w1 w2 := ((Kept.refl _ _).alloc _).trans HN2.out
    have hlt : w1.heap.size < w2.heap.size := by have := HN2.out.size; simp at this; omega
    exact hid ⟨_, ⟨_, _, _, _, HC.out.less hN2 (Nat.le_refl _) hlt, fun _ => rfl⟩, owns_kept HN2.out (own_empty2 (blk_new _ _)) (fun _ _ => id), ⟨fun e => e.2 rfl, by omega, by omega⟩, ⟨fun x e => by have := e.1.1; omega, by omega, by omega⟩, (HN1.out.trans hN2).below (Nat.le_refl _) fun _ e => e.elim⟩
  clear HC HN1 HN2 HN
  go_loopw [7, 8] (fun v7 v8 wr => ∃ (i : Nat) (l : PL2) (b cb : Nat) (F : Nat → Prop), v7 = .slice (some ⟨b, 0, none⟩) l.length cb ∧ v8 = .int .i64 i ∧ i ≤ 80 ∧ i ≤ zs.length ∧ l.length ≤ i ∧ Hid (PS w (g + 2) (g + 1) g F (max n 1) (1000 * i) b cb l (kvGet l) wr ∧ Rise l)) (fun _ v8 _ => 80 - (intOf v8).toNat)
  case atStart =>
    obtain ⟨F, hF⟩ := HT.out
    exact ⟨0, [], _, 0, F, rfl, rfl, by omega, by omega, by simp, hid ⟨hF, List.Pairwise.nil⟩⟩
  case round =>
    obtain ⟨i, l, b, cb, F, rfl, rfl, hi, hi2, hll, HP⟩ := hrel
    by_cases hlt : i < zs.length ∧ i < 80
    · obtain ⟨hl1, hl2⟩ := hlt
      have hne : zs ≠ [] := by rintro rfl; simp at hl1
      obtain ⟨ab, off, rfl, hab, hz⟩ := HA.out hne
      obtain ⟨c0, c1, c2, s1, s2⟩ := hz i zs[i] (by simp [hl1])
      have hb0 := HP.out.1.below
      rw [← World.cell?_of_block (hb0.block ab hab)] at c0 c1 c2
      generalize zs[i] = z at *
      obtain ⟨what, k, t⟩ := z
      simp only at c0 c1 c2 s1 s2
      clear hz hb0
      go_wp2
      go_region
      have hkk : (k.extract 0 (min (k.size : Int) 3).toNat).size ≤ 3 := by rw [ByteArray.size_extract]; omega
      have htt : (t.extract 0 (min (t.size : Int) 9).toNat).size ≤ 9 := by rw [ByteArray.size_extract]; omega
      generalize k.extract 0 (min (k.size : Int) 3).toNat = kk at *
      generalize t.extract 0 (min (t.size : Int) 9).toNat = tt at *
      have HW := hid (HP.out.1.new ((Kept.refl (fun _ => False) wr).alloc (.cells #[.int .i64 what, .string k, .string t] 56)).drew)
      have hw0 : (wr.alloc (.cells #[.int .i64 what, .string k, .string t] 56)).drew.cell? ⟨wr.heap.size, 0, none⟩ = some (.int .i64 what) := (cell_at (blk_new wr _) 0).trans rfl
      generalize hW : (wr.alloc (.cells #[.int .i64 what, .string k, .string t] 56)).drew = W at *
      obtain ⟨⟨v0, d0⟩, hv⟩ : ∃ x, kvGet l kk = x := ⟨_, rfl⟩
      have RG := hid (ref_get kk HW.out.row)
      rw [hv] at RG
      have hN9 : 1000 * i < 90000 := by omega
      have hpos : 0 < max n 1 := by omega
      have PG := hid (HW.out.get hN9 hpos (k := kk) (by omega) hv)
      have PD := hid (HW.out.del hN9 hpos (k := kk) (by omega) hv)
      have PP := hid (HW.out.put hN9 hpos (k := kk) (t := tt) (by omega) (by omega))
      have PY := hid (HW.out.sync hN9 HP.out.2 (fun _ => rfl))
      clear hv c0 c1 c2 HT HA HW hW hab hi2 s1 s2 hg
      obtain ⟨r5, hr5⟩ : ∃ r, Int.tmod what 5 = r := ⟨_, rfl⟩
      by_cases h2 : r5 = 2
      · as_aux_lemma =>
        have hvv := str_eq (rfl : v0 = v0)
        subst h2
        clear PD PP PY
        go_wp2_with (first
          | (go_at_call 21; (with_reducible refine RG.out.mono ?_); rintro e w3 ⟨rfl, rfl⟩)
          | (go_at_call 22; (with_reducible refine PG.out.mono ?_); rintro e w4 ⟨rfl, hP4⟩; have H4 := hid hP4; have HH := hid (hP4.held); clear hP4)
          | (go_at_call 29; (with_reducible refine HH.out.mono ?_); rintro e w5 ⟨c5, rfl, hc5, rfl⟩; have hc6 : ¬ (c5 : Int) > (if (n : Int) < 1 then 1 else n) := (by split <;> omega)))
        exact ⟨⟨i + 1, l, b, cb, F, rfl, by go_num, by omega, by omega, by omega, hid ⟨by rw [show 1000 * (i + 1) = 1000 * i + 1000 by omega]; exact H4.out, HP.out.2⟩⟩, by simp [intOf]; omega⟩
      · by_cases h3 : r5 = 3
        · as_aux_lemma =>
          subst h3
          have RD := hid (fun W' (hP : PS w (g + 2) (g + 1) g F (max n 1) (1000 * i + 1000) b cb l (fun k' => if k' = kk then (⟨#[]⟩, false) else kvGet l k') W') => ref_delete kk hP.row (by omega))
          clear PG PP PY
          go_wp2_with (first
            | (go_at_call 21; (with_reducible refine RG.out.mono ?_); rintro e w3 ⟨rfl, rfl⟩)
            | (go_at_call 23; (with_reducible refine PD.out.mono ?_); rintro e w4 ⟨rfl, hP4⟩; have H4 := hid hP4; clear hP4)
            | (go_at_call 24; (with_reducible refine (RD.out _ H4.out).mono ?_); rintro e w5 ⟨v5, rfl, hO5, hN5⟩; obtain ⟨b5, cap5, rfl, hP5⟩ := H4.out.list hO5 hN5; have H5 := hid hP5; have HH := hid (hP5.held); clear hP5 hO5 hN5)
            | (go_at_call 29; (with_reducible refine HH.out.mono ?_); rintro e w6 ⟨c5, rfl, hc5, rfl⟩; have hc6 : ¬ (c5 : Int) > (if (n : Int) < 1 then 1 else n) := (by split <;> omega)))
          obtain ⟨hl5, H6⟩ := H5.out.deleted HP.out.2 hll
          exact ⟨⟨i + 1, _, _, _, _, rfl, by go_num, by omega, by omega, hl5, H6⟩, by simp [intOf]; omega⟩
        · by_cases h4 : r5 = 4
          · as_aux_lemma =>
            subst h4
            go_wp2_with (first
              | (go_at_call 21; (with_reducible refine RG.out.mono ?_); rintro e w3 ⟨rfl, rfl⟩)
              | (go_at_call 25; (with_reducible refine PY.out.mono ?_); rintro e w4 ⟨rfl, hP4, hB4⟩; have H4 := hid hP4; have HB4 := hid hB4; have HH := hid (hP4.held); clear hP4 hB4)
              | (go_at_call 26; (with_reducible refine HB4.out.mono ?_); rintro e w5 ⟨rfl, rfl⟩)
              | (go_at_call 29; (with_reducible refine HH.out.mono ?_); rintro e w6 ⟨c5, rfl, hc5, rfl⟩; have hc6 : ¬ (c5 : Int) > (if (n : Int) < 1 then 1 else n) := (by split <;> omega)))
            exact ⟨⟨i + 1, l, b, cb, F, rfl, by go_num, by omega, by omega, by omega, hid ⟨by rw [show 1000 * (i + 1) = 1000 * i + 1000 by omega]; exact H4.out, HP.out.2⟩⟩, by simp [intOf]; omega⟩
          · as_aux_lemma =>
            have RP := hid (fun W' (hP : PS w (g + 2) (g + 1) g F (max n 1) (1000 * i + 1000) b cb l (fun k' => if k' = kk then (tt, true) else kvGet l k') W') => ref_put kk tt hP.row (by omega))
            clear PG PD PY
            go_wp2_with (first
              | (go_at_call 21; (with_reducible refine RG.out.mono ?_); rintro e w3 ⟨rfl, rfl⟩)
              | (go_at_call 27; (with_reducible refine PP.out.mono ?_); rintro e w4 ⟨rfl, hP4⟩; have H4 := hid hP4; clear hP4)
              | (go_at_call 28; (with_reducible refine (RP.out _ H4.out).mono ?_); rintro e w5 ⟨v5, rfl, hO5, hN5⟩; obtain ⟨b5, cap5, rfl, hP5⟩ := H4.out.list hO5 hN5; have H5 := hid hP5; have HH := hid (hP5.held); clear hP5 hO5 hN5)
              | (go_at_call 29; (with_reducible refine HH.out.mono ?_); rintro e w6 ⟨c5, rfl, hc5, rfl⟩; have hc6 : ¬ (c5 : Int) > (if (n : Int) < 1 then 1 else n) := (by split <;> omega)))
            obtain ⟨hl5, H6⟩ := H5.out.putted HP.out.2 hll
            exact ⟨⟨i + 1, _, _, _, _, rfl, by go_num, by omega, by omega, hl5, H6⟩, by simp [intOf]; omega⟩
    · as_aux_lemma =>
      have PY := hid (HP.out.1.sync (by omega) HP.out.2 (fun _ => rfl))
      clear HP HA HT hg
      rcases (by omega : ¬ i < zs.length ∨ (i < zs.length ∧ ¬ i < 80)) with hgo1 | ⟨hgo1, hgo2⟩
      all_goals
        clear hlt
        go_wp2_with (first
          | (go_at_call 25; (with_reducible refine PY.out.mono ?_); rintro e w4 ⟨rfl, hP4, hB4⟩; have HB4 := hid hB4; have HL := hid hP4.below; clear hP4 hB4)
          | (go_at_call 26; (with_reducible refine HB4.out.mono ?_); rintro e w5 ⟨rfl, rfl⟩))
        go_ret
        exact ⟨rfl, HL.out⟩
end Go.Proofs.Ytmlnjheiogmlaaa
