/-
States: super.May, Where, Put, Get, Choose; conditions: the sectors say nothing, or are those of states.
-/
import Derived.Test.YtolifmpjbmekdaaDoorPageP
import Derived.Test.YtolifmpjbmekdaaDoorRdN
namespace Go.Proofs.YtolifmpjbmekdaaDoor
open Go.RowKit
open Go.Lib (hid)
abbrev supV (gen root : Int) : Value := .agg #[.int .u64 gen, .int .i64 root]
def smayB (gen root : Int) : Bool := decide (1 ≤ gen) && (decide (gen < 4611686018427387904) && (decide (-1 ≤ root) && decide (root < 16384)))
theorem smayB_iff {gen root : Int} : smayB gen root = true ↔ 1 ≤ gen ∧ gen < 4611686018427387904 ∧ -1 ≤ root ∧ root < 16384 := by
  unfold smayB
  simp only [Bool.and_eq_true, decide_eq_true_eq]
set_option maxHeartbeats 1600000 in
theorem smay_calls (gen root : Int) (w : World) : Calls Tryd.prog 37 #[supV gen root] w fun e w' => e = .returned (.bool (smayB gen root)) ∧ New w w' := by
  obtain ⟨r, hr⟩ : ∃ r, smayB gen root = r := ⟨_, rfl⟩
  rw [hr]
  unfold smayB at hr
  have HR := hid hr
  clear hr
  by_cases h1 : 1 ≤ gen
  · by_cases h2 : gen < 4611686018427387904
    · by_cases h3 : -1 ≤ root
      · have HR2 : r = decide (root < 16384) := by
          have := HR.out
          simp only [h1, h2, h3, decide_true, Bool.true_and] at this
          exact this.symm
        rw [HR2]
        clear HR HR2
        go_enter Tryd.func37, Tryd.ntmps37
        go_wp2
        go_ret
        exact ⟨rfl, (Kept.refl _ _).alloc _⟩
      · have HR2 : r = false := by
          have := HR.out
          simp only [h3, decide_false, Bool.false_and, Bool.and_false] at this
          exact this.symm
        rw [HR2]
        clear HR HR2
        go_enter Tryd.func37, Tryd.ntmps37
        go_wp2
        go_ret
        exact ⟨rfl, (Kept.refl _ _).alloc _⟩
    · have HR2 : r = false := by
        have := HR.out
        simp only [h2, decide_false, Bool.false_and, Bool.and_false] at this
        exact this.symm
      rw [HR2]
      clear HR HR2
      go_enter Tryd.func37, Tryd.ntmps37
      go_wp2
      go_ret
      exact ⟨rfl, (Kept.refl _ _).alloc _⟩
  · have HR2 : r = false := by
      have := HR.out
      simp only [h1, decide_false, Bool.false_and] at this
      exact this.symm
    rw [HR2]
    clear HR HR2
    go_enter Tryd.func37, Tryd.ntmps37
    go_wp2
    go_ret
    exact ⟨rfl, (Kept.refl _ _).alloc _⟩
theorem where_calls {gen : Nat} (hg : gen < 18446744073709551616) (w : World) : Calls Tryd.prog 28 #[.int .u64 gen] w fun e w' => e = .returned (.int .i64 ((gen % 2 : Nat) : Int)) ∧ w = w' := by
  have hw : ∀ n : Int, 0 ≤ n → n < 2 ^ 64 → IntKind.u64.wrap n = n := fun n h0 h1 => by rw [IntKind.wrap_u64]; omega
  have ha : Go.bits .and .u64 (gen : Int) 1 = ((gen % 2 : Nat) : Int) := by
    have := (bits_nat .u64 64 (by decide) hw gen 1 (by omega) (by decide)).1
    rw [Nat.and_one_is_mod] at this
    exact this
  have hl : gen % 2 < 2 := by omega
  generalize gen % 2 = m at *
  go_enter Tryd.func28, Tryd.ntmps28
  go_wp2
  go_ret
  exact ⟨rfl, rfl⟩
/-- The sector of a state. -/
def supS (gen : Nat) (root : Int) : ByteArray := sector 1 (gen % 2) gen (str (numB (root + 1).toNat))
theorem numB_size (n : Nat) : (str (numB n)).size ≤ 10 := by rw [str_size]; exact varint_length 10 n
theorem sup_may (gen : Nat) (root : Int) : mayB ((1 : Nat) : Int) ((gen % 2 : Nat) : Int) (str (numB (root + 1).toNat)) = true := by
  have := numB_size (root + 1).toNat
  rw [mayB_iff]
  omega
set_option maxHeartbeats 1600000 in
set_option maxRecDepth 10000 in
theorem sput_calls {gen : Nat} {root : Int} (h : smayB gen root = true) (w : World) : Calls Tryd.prog 29 #[supV gen root] w fun e w' => e = .returned (.string (supS gen root)) ∧ New w w' := by
  obtain ⟨m1, m2, m3, m4⟩ := smayB_iff.1 h
  have HM : ∀ W, Calls Tryd.prog 37 #[supV gen root] W fun e w' => e = .returned (.bool true) ∧ New W w' := fun W => by
    have := smay_calls gen root W
    rw [h] at this
    exact this
  have HM := hid HM
  have HW := hid (fun W => where_calls (gen := gen) (by omega) W)
  obtain ⟨n, hn⟩ : ∃ n : Nat, (root + 1).toNat = n := ⟨_, rfl⟩
  have hr1 : root + 1 = (n : Int) := by omega
  have e1 : IntKind.i64.wrap (root + 1) = (n : Int) := by rw [IntKind.wrap_i64]; omega
  have e1' : wrap64 (root + 1) = (n : Int) := by unfold wrap64; omega
  have e2 : IntKind.u64.wrap (n : Int) = (n : Int) := by rw [IntKind.wrap_u64]; omega
  have HNu := hid (fun W => num_calls (n := n) (by omega) W)
  clear hr1
  have hp : mayB ((1 : Nat) : Int) ((gen % 2 : Nat) : Int) (str (numB n)) = true := by rw [← hn]; exact sup_may gen root
  have HP : ∀ W, Calls Tryd.prog 39 #[.agg #[.int .i64 1, .int .i64 ((gen % 2 : Nat) : Int), .int .u64 gen, .string (str (numB n))]] W fun e w' => e = .returned (.string (supS gen root)) ∧ New W w' := fun W => by
    have := put_yes (K := 1) (N := gen % 2) (gen := gen) hp (by omega) W
    unfold supS
    rw [hn]
    exact this
  have HP := hid HP
  clear h hp
  generalize supS gen root = out at *
  generalize str (numB n) = t at *
  generalize gen % 2 = g2 at *
  go_enter Tryd.func29, Tryd.ntmps29
  go_wp2_with (first | (go_at_call 37; (with_reducible refine (HM.out _).mono ?_); rintro e w1 ⟨rfl, hb⟩; have HN := hid (((Kept.refl _ _).alloc _).trans hb); have HBK := hid (hb.at (blk_new w _) id); clear hb))
  have hkeep : ∀ W, New w1 W → New w1 W ∧ W.cell? ⟨w.heap.size, 0, none⟩ = some (.int .u64 (gen : Int)) ∧ W.cell? ⟨w.heap.size, 1, none⟩ = some (.int .i64 root) := fun W hN =>
    ⟨hN, (cell_at (hN.at HBK.out id) 0).trans rfl, (cell_at (hN.at HBK.out id) 1).trans rfl⟩
  have HKP := hid hkeep
  clear hkeep
  have n0 : New w1 w1.drew := (Kept.refl _ _).drew
  go_region_held3 (fun W => New w1 W ∧ W.cell? ⟨w.heap.size, 0, none⟩ = some (.int .u64 (gen : Int)) ∧ W.cell? ⟨w.heap.size, 1, none⟩ = some (.int .i64 root)) (exact HKP.out _ (by assumption))
    (first
      | (go_at_call 28; (with_reducible refine (HW.out _).mono ?_); rintro e w2 ⟨rfl, rfl⟩)
      | (go_at_call 49; (with_reducible refine (HNu.out _).mono ?_); rintro e w3 ⟨rfl, hb3⟩; have n3 := n0.trans hb3; clear hb3)
      | (go_at_call 39; (with_reducible refine (HP.out _).mono ?_); rintro e w4 ⟨rfl, hb4⟩; have n4 := n3.trans hb4; clear hb4))
  go_wp2
  go_ret
  exact ⟨rfl, HN.out.trans n4⟩
end Go.Proofs.YtolifmpjbmekdaaDoor
