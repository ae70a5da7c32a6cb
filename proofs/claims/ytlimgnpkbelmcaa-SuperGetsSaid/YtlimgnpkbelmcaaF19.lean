/- Contracts of the Go functions that the statements of this seat reach, each for every input at which its Lean function answers; written by a program. -/
import Derived.Test.YtlimgnpkbelmcaaF0
import Derived.Test.YtlimgnpkbelmcaaF2
import Derived.Test.YtlimgnpkbelmcaaF7
import Derived.Test.YtlimgnpkbelmcaaF14
import Derived.Test.YtlimgnpkbelmcaaF15
import Derived.Test.YtlimgnpkbelmcaaF18
namespace Go.Proofs.Ytlimgnpkbelmcaa.F
open Go.RowKit Go.Proofs.YtlimgnpkbelmcaaW.PrintWords Go.Proofs.YtlimgnpkbelmcaaW.PrintLast Go.Proofs.YtlimgnpkbelmcaaW.PrintMore
attribute [local go_sem] max2_int min2_int max_two min_two max_three min_three max_four min_four   -- for this text's walks alone
set_option linter.unusedVariables false
set_option linter.unusedSimpArgs false

attribute [local go_sem high] eqA47
/-! ### keywaylaw07_SuperGets: function 11 -/
def keywaylaw07_SuperGets.f (k : Nat) (a0_0 : Int) (a0_1 : Int) (a0_2 : Int) (a0_3 : ByteArray) (a1 : Int) : Option (Bool) := if 0 ≤ (mn (a0_3.size : Int) 20) then (if (mn (a0_3.size : Int) 20) ≤ (a0_3.size : Int) then ((keywayref05_Put.f k (Go.bits .and .i64 a0_0 3) (Go.bits .and .i64 a0_1 3) a0_2 (a0_3.extract 0 ((mn (a0_3.size : Int) 20) : Int).toNat)).bind fun t358 => ((super_Get.f k t358 (Go.bits .and .i64 a1 1)).bind fun bt359 => ((keywaylaw07_get.f k t358 (Go.bits .and .i64 a1 1)).bind fun bt363 => ((keywaylaw07_awake.f k).bind fun t367 => (if t367 = true then (if (bt359.2.2 == bt363.2.2) = true then (some (bt359.1 == bt363.1 && (bt359.2.1 == bt363.2.1))) else (some false)) else (some false)))))) else (none)) else (none)
set_option maxRecDepth 100000 in
theorem keywaylaw07_SuperGets.mono : ∀ a0 a1 a2 a3 a4 k, LeO (keywaylaw07_SuperGets.f k a0 a1 a2 a3 a4) (keywaylaw07_SuperGets.f (k + 1) a0 a1 a2 a3 a4) := by
 intro a0 a1 a2 a3 a4 k
 unfold keywaylaw07_SuperGets.f
 repeat' first
   | (with_reducible exact keywaylaw07_awake.mono _)
   | (with_reducible exact keywaylaw07_get.mono _ _ _)
   | (with_reducible exact keywayref05_Put.mono _ _ _ _ _)
   | (with_reducible exact super_Get.mono _ _ _)
   | (with_reducible exact LeO.refl _)
   | (with_reducible exact LeO.none _)
   | (with_reducible refine LeO.ite ?_ ?_)
   | (with_reducible refine LeO.bind ?_ (fun _ => ?_))
   | exact LeO.none _
   | refine LeO.ite ?_ ?_
   | refine LeO.bind ?_ (fun _ => ?_)
def keywaylaw07_SuperGets.T2 : Bool × List (List Nat × List Nat) := (true,[([],[]),([0],[0]),([1],[1]),([],[]),([3],[3]),([4],[4]),([],[]),([6],[6]),([],[]),([8],[8]),([9],[9]),([10],[10]),([7,11],[7,11]),([0,1,2],[]),([13,2,0,1,2],[2,13]),([0,1,2,3,4,5,13,14],[]),([15,5,14,0,1,2,3,4,5,13,14],[5,15]),([0,1,2,3,4,5,6,7,8,9,10,11,12,13,14,15,16],[]),([17,12,16,0,1,2,3,4,5,6,7,8,9,10,11,12,13,14,15,16],[12,17])])
def keywaylaw07_SuperGets.B2 : List Nat := [0, 1, 3, 0, 8, 24, 0, 64, 0, 256, 768, 1792, 4032, 7, 8199, 24639, 57407, 131071, 262143]
theorem keywaylaw07_SuperGets.tab2 : rtab .any (opsOf Try.f11 2) = keywaylaw07_SuperGets.T2 := by kernel_rfl
theorem keywaylaw07_SuperGets.bits2 : waitsOk keywaylaw07_SuperGets.T2.2 keywaylaw07_SuperGets.B2 = true := by kernel_rfl
set_option maxHeartbeats 8000000 in
set_option maxRecDepth 100000 in
theorem keywaylaw07_SuperGets.calls (k : Nat) (a0_0 : Int) (a0_1 : Int) (a0_2 : Int) (a0_3 : ByteArray) (a1 : Int) (r : Bool) (hr_ : Aside0 (r = true)) (w : World) (h : keywaylaw07_SuperGets.f k a0_0 a0_1 a0_2 a0_3 a1 = some r) :
  Calls Try.prog 11 #[.agg #[.int .i64 a0_0, .int .i64 a0_1, .int .u64 a0_2, .string a0_3], .int .i64 a1] w fun e w' => e = .returned (.bool r) ∧ Below w.heap.size w w' := by
 have hu35 := Try.underlying35
 have hu47 := Try.underlying47
 have HB := Aside0.mk (Below.refl w.heap.size w)
 have H : (if 0 ≤ (mn (a0_3.size : Int) 20) then (if (mn (a0_3.size : Int) 20) ≤ (a0_3.size : Int) then ((keywayref05_Put.f k (Go.bits .and .i64 a0_0 3) (Go.bits .and .i64 a0_1 3) a0_2 (a0_3.extract 0 ((mn (a0_3.size : Int) 20) : Int).toNat)).bind fun t358 => ((super_Get.f k t358 (Go.bits .and .i64 a1 1)).bind fun bt359 => ((keywaylaw07_get.f k t358 (Go.bits .and .i64 a1 1)).bind fun bt363 => ((keywaylaw07_awake.f k).bind fun t367 => (if t367 = true then (if (bt359.2.2 == bt363.2.2) = true then (some (bt359.1 == bt363.1 && (bt359.2.1 == bt363.2.1))) else (some false)) else (some false)))))) else (none)) else (none)) = some r := h
 clear h
 obtain ⟨ji3, hji3⟩ : ∃ j_ : Int, (mn (a0_3.size : Int) 20) = j_ := ⟨_, rfl⟩
 replace H : (if 0 ≤ (ji3) then (if (ji3) ≤ (a0_3.size : Int) then ((keywayref05_Put.f k (Go.bits .and .i64 a0_0 3) (Go.bits .and .i64 a0_1 3) a0_2 (a0_3.extract 0 ((ji3) : Int).toNat)).bind fun t358 => ((super_Get.f k t358 (Go.bits .and .i64 a1 1)).bind fun bt359 => ((keywaylaw07_get.f k t358 (Go.bits .and .i64 a1 1)).bind fun bt363 => ((keywaylaw07_awake.f k).bind fun t367 => (if t367 = true then (if (bt359.2.2 == bt363.2.2) = true then (some (bt359.1 == bt363.1 && (bt359.2.1 == bt363.2.1))) else (some false)) else (some false)))))) else (none)) else (none)) = some r := by first | (rw [hji3] at H; exact H) | (simp only [hji3] at H ⊢; exact H)
 (try (have hji3h : ji3 ≤ 20 := by (rw [← hji3]; unfold mn; (repeat' split) <;> omega)))
 (try (have hji3g : ji3 ≤ 64 := by omega))
 (try (have hji3l : 0 ≤ ji3 := by (rw [← hji3]; unfold mn; (repeat' split) <;> omega)))
 (try (have hji3m : 0 ≤ ji3 := by omega))
 have hji3_ : (if 20 < (a0_3.size : Int) then 20 else (a0_3.size : Int)) = ji3 := hji3
 by_cases c4 : 0 ≤ (ji3)
 ·rw [if_pos c4] at H
  have c4b0 := eq_true c4
  have c4b1 : decide (0 ≤ (ji3)) = true := decide_eq_true c4
  clear c4
  by_cases c5 : (ji3) ≤ (a0_3.size : Int)
  ·rw [if_pos c5] at H
   have c5b0 := eq_true c5
   have c5b1 : decide ((ji3) ≤ (a0_3.size : Int)) = true := decide_eq_true c5
   clear c5
   replace H := Option.bind_eq_some_iff.mp H
   obtain ⟨t358, A60, H⟩ := H
   replace H : ((super_Get.f k t358 (Go.bits .and .i64 a1 1)).bind fun bt359 => ((keywaylaw07_get.f k t358 (Go.bits .and .i64 a1 1)).bind fun bt363 => ((keywaylaw07_awake.f k).bind fun t367 => (if t367 = true then (if (bt359.2.2 == bt363.2.2) = true then (some (bt359.1 == bt363.1 && (bt359.2.1 == bt363.2.1))) else (some false)) else (some false))))) = some r := H
   have A6 := Aside0.mk A60
   clear A60
   replace H := Option.bind_eq_some_iff.mp H
   obtain ⟨⟨t359, t360, t361⟩, A70, H⟩ := H
   replace H : ((keywaylaw07_get.f k t358 (Go.bits .and .i64 a1 1)).bind fun bt363 => ((keywaylaw07_awake.f k).bind fun t367 => (if t367 = true then (if (t361 == bt363.2.2) = true then (some (t359 == bt363.1 && (t360 == bt363.2.1))) else (some false)) else (some false)))) = some r := H
   have A7 := Aside0.mk A70
   clear A70
   replace H := Option.bind_eq_some_iff.mp H
   obtain ⟨⟨t363, t364, t365⟩, A80, H⟩ := H
   replace H : ((keywaylaw07_awake.f k).bind fun t367 => (if t367 = true then (if (t361 == t365) = true then (some (t359 == t363 && (t360 == t364))) else (some false)) else (some false))) = some r := H
   have A8 := Aside0.mk A80
   clear A80
   replace H := Option.bind_eq_some_iff.mp H
   obtain ⟨t367, A90, H⟩ := H
   replace H : (if t367 = true then (if (t361 == t365) = true then (some (t359 == t363 && (t360 == t364))) else (some false)) else (some false)) = some r := H
   have A9 := Aside0.mk A90
   clear A90
   by_cases c10 : t367 = true
   ·subst c10
    have H1 : (if (t361 == t365) = true then (some (t359 == t363 && (t360 == t364))) else (some false)) = some r := by rw [if_pos rfl] at H;exact H
    clear H
    have H := H1
    clear H1
    by_cases c11 : (t361 == t365) = true
    ·rw [if_pos c11] at H
     have c11b0 : (t361 == t365) = true := c11
     (try (have c11b1 : decide (t361 = t365) = true := by simpa using c11))
     (try (have c11b2 : (t361 == t365) = true := by simpa using c11))
     clear c11
     obtain rfl := Option.some.inj H
     go_enter Try.func11, Try.ntmps11
     try go_wp2_with (first | ((with_reducible refine gate_dst (N := 2) rfl ?_);refine box_event ?hg (N := 2) ?hd (cs := #[.int .i64 a0_0, .int .i64 a0_1, .int .u64 a0_2, .string a0_3]) (t := 35) ?hr ?_;(case hd => rfl);(case hg => rfl);(case hr => first | (go_simp;done) | (go_simp;rfl));intro gb356 hg w12 hbox hb;have n0_ := Aside0.mk (below_step (by repeat (first | (with_reducible first | exact HB.out | apply lA | apply lN | apply lD) | exact HB.out)) hb);have n1_ := Aside0.mk (hbox);have n2_ := Aside0.mk ((by rw [hg];exact (below_size (by repeat (first | (with_reducible first | exact HB.out | apply lA | apply lN | apply lD) | exact HB.out))) : w.heap.size ≤ gb356));have n3_ := Aside0.mk ((by rw [hg];exact (below_size (by repeat (first | (with_reducible first | exact HB.out | apply lA | apply lN | apply lD) | exact HB.out))) : w.heap.size ≤ gb356));clear HB;have HB := n0_;have BK356 := n1_;have GW356 := n2_;have GE356 := n3_;clear n0_ n1_ n2_ n3_;clear hb hbox hg;have hcz13_0 : w12.cell? ⟨gb356, 0, none⟩ = some (.int .i64 a0_0) := (blk_cell BK356.out 0).trans rfl;have hcz13_1 : w12.cell? ⟨gb356, 1, none⟩ = some (.int .i64 a0_1) := (blk_cell BK356.out 1).trans rfl;have hcz13_2 : w12.cell? ⟨gb356, 2, none⟩ = some (.int .u64 a0_2) := (blk_cell BK356.out 2).trans rfl;have hcz13_3 : w12.cell? ⟨gb356, 3, none⟩ = some (.string a0_3) := (blk_cell BK356.out 3).trans rfl;have hfz13_0 := blk_frozen BK356.out 0;have hfz13_1 := blk_frozen BK356.out 1;have hfz13_2 := blk_frozen BK356.out 2;have hfz13_3 := blk_frozen BK356.out 3) | ((with_reducible refine gate_dst (N := 5) rfl ?_);refine box_event ?hg (N := 5) ?hd (cs := #[.int .i64 0, .int .i64 0, .int .u64 0, .string (⟨#[]⟩ : ByteArray)]) (t := 35) ?hr ?_;(case hd => rfl);(case hg => rfl);(case hr => first | (go_simp;done) | (go_simp;rfl));intro gb357 hg w14 hbox hb;have n0_ := Aside0.mk (blk_below (g := gb356) (o := .cells #[.int .i64 a0_0, .int .i64 a0_1, .int .u64 a0_2, .string a0_3] 35 (0, 0)) (by (with_reducible repeat first | apply bN | apply bD | apply bA);exact BK356.out) hb);have n1_ := Aside0.mk (below_step (by repeat (first | (with_reducible first | exact HB.out | apply lA | apply lN | apply lD | refine below_set ?_ GE356.out) | exact HB.out)) hb);have n2_ := Aside0.mk (hbox);have n3_ := Aside0.mk ((by rw [hg];exact (below_size (by repeat (first | (with_reducible first | exact HB.out | apply lA | apply lN | apply lD | refine below_set ?_ GE356.out) | exact HB.out))) : w.heap.size ≤ gb357));have n4_ := Aside0.mk ((by rw [hg];exact (below_size (by repeat (first | (with_reducible first | exact HB.out | apply lA | apply lN | apply lD | refine below_set ?_ GE356.out) | exact HB.out))) : w.heap.size ≤ gb357));have n5_ := Aside0.mk ((by rw [hg];exact Nat.ne_of_lt (blk_lt (g := gb356) (o := .cells #[.int .i64 a0_0, .int .i64 a0_1, .int .u64 a0_2, .string a0_3] 35 (0, 0)) (by (with_reducible repeat first | apply bN | apply bD | apply bA);exact BK356.out)) : gb356 ≠ gb357));have n6_ := Aside0.mk ((by rw [hg];exact Nat.ne_of_gt (blk_lt (g := gb356) (o := .cells #[.int .i64 a0_0, .int .i64 a0_1, .int .u64 a0_2, .string a0_3] 35 (0, 0)) (by (with_reducible repeat first | apply bN | apply bD | apply bA);exact BK356.out)) : gb357 ≠ gb356));clear BK356;clear HB;have BK356 := n0_;have HB := n1_;have BK357 := n2_;have GW357 := n3_;have GE357 := n4_;have NB356_357 := n5_;have NB357_356 := n6_;clear n0_ n1_ n2_ n3_ n4_ n5_ n6_;clear hb hbox hg;have hnb15 := NB357_356.out;have hnc15 := NB356_357.out;have hcz16_0 : w14.cell? ⟨gb357, 0, none⟩ = some (.int .i64 0) := (blk_cell BK357.out 0).trans rfl;have hcz16_1 : w14.cell? ⟨gb357, 1, none⟩ = some (.int .i64 0) := (blk_cell BK357.out 1).trans rfl;have hcz16_2 : w14.cell? ⟨gb357, 2, none⟩ = some (.int .u64 0) := (blk_cell BK357.out 2).trans rfl;have hcz16_3 : w14.cell? ⟨gb357, 3, none⟩ = some (.string (⟨#[]⟩ : ByteArray)) := (blk_cell BK357.out 3).trans rfl;have hfz16_0 := blk_frozen BK357.out 0;have hfz16_1 := blk_frozen BK357.out 1;have hfz16_2 := blk_frozen BK357.out 2;have hfz16_3 := blk_frozen BK357.out 3))
     have n0_ : Aside0 (((((w14.setCell ⟨gb357, 0, none⟩ (.int .i64 a0_0)).setCell ⟨gb357, 1, none⟩ (.int .i64 a0_1)).setCell ⟨gb357, 2, none⟩ (.int .u64 a0_2)).setCell ⟨gb357, 3, none⟩ (.string a0_3)).heap[gb356]? = some (.cells #[.int .i64 a0_0, .int .i64 a0_1, .int .u64 a0_2, .string a0_3] 35 (0, 0))) := ⟨by (with_reducible repeat first | apply bN | apply bD | apply bA);refine blk_far ?_ NB356_357.out _;(with_reducible repeat first | apply bN | apply bD | apply bA);refine blk_far ?_ NB356_357.out _;(with_reducible repeat first | apply bN | apply bD | apply bA);refine blk_far ?_ NB356_357.out _;(with_reducible repeat first | apply bN | apply bD | apply bA);refine blk_far ?_ NB356_357.out _;(with_reducible repeat first | apply bN | apply bD | apply bA);exact BK356.out⟩
     have n1_ : Aside0 (((((w14.setCell ⟨gb357, 0, none⟩ (.int .i64 a0_0)).setCell ⟨gb357, 1, none⟩ (.int .i64 a0_1)).setCell ⟨gb357, 2, none⟩ (.int .u64 a0_2)).setCell ⟨gb357, 3, none⟩ (.string a0_3)).heap[gb357]? = some (.cells #[.int .i64 a0_0, .int .i64 a0_1, .int .u64 a0_2, .string a0_3] 35 (0, 0))) := ⟨by (with_reducible repeat first | apply bN | apply bD | apply bA);refine blk_put (cs := #[.int .i64 a0_0, .int .i64 a0_1, .int .u64 a0_2, .string (⟨#[]⟩ : ByteArray)]) ?_ 3 _ rfl;(with_reducible repeat first | apply bN | apply bD | apply bA);refine blk_put (cs := #[.int .i64 a0_0, .int .i64 a0_1, .int .u64 0, .string (⟨#[]⟩ : ByteArray)]) ?_ 2 _ rfl;(with_reducible repeat first | apply bN | apply bD | apply bA);refine blk_put (cs := #[.int .i64 a0_0, .int .i64 0, .int .u64 0, .string (⟨#[]⟩ : ByteArray)]) ?_ 1 _ rfl;(with_reducible repeat first | apply bN | apply bD | apply bA);refine blk_put (cs := #[.int .i64 0, .int .i64 0, .int .u64 0, .string (⟨#[]⟩ : ByteArray)]) ?_ 0 _ rfl;(with_reducible repeat first | apply bN | apply bD | apply bA);exact BK357.out⟩
     have n2_ : Aside0 (Below w.heap.size w ((((w14.setCell ⟨gb357, 0, none⟩ (.int .i64 a0_0)).setCell ⟨gb357, 1, none⟩ (.int .i64 a0_1)).setCell ⟨gb357, 2, none⟩ (.int .u64 a0_2)).setCell ⟨gb357, 3, none⟩ (.string a0_3))) := ⟨by repeat (first | (with_reducible first | exact HB.out | apply lA | apply lN | apply lD | refine below_set ?_ GE356.out | refine below_set ?_ GE357.out) | exact HB.out)⟩
     (try clear BK356)
     (try clear BK357)
     (try clear HB)
     generalize ((((w14.setCell ⟨gb357, 0, none⟩ (.int .i64 a0_0)).setCell ⟨gb357, 1, none⟩ (.int .i64 a0_1)).setCell ⟨gb357, 2, none⟩ (.int .u64 a0_2)).setCell ⟨gb357, 3, none⟩ (.string a0_3)) = w17 at n0_ n1_ n2_ ⊢
     have BK356 := n0_
     have BK357 := n1_
     have HB := n2_
     clear n0_ n1_ n2_
     have n0_ := Aside0.mk (blk_drew BK356.out)
     have n1_ := Aside0.mk (blk_drew BK357.out)
     have n2_ := Aside0.mk (below_drew1 HB.out)
     clear BK356
     clear BK357
     clear HB
     have BK356 := n0_
     have BK357 := n1_
     have HB := n2_
     clear n0_ n1_ n2_
     refine start_ (n := 19) (S := fun w' => w'.cell? ⟨gb356, 0, none⟩ = some (.int .i64 a0_0) ∧ w'.cell? ⟨gb356, 1, none⟩ = some (.int .i64 a0_1) ∧ w'.cell? ⟨gb356, 2, none⟩ = some (.int .u64 a0_2) ∧ w'.cell? ⟨gb356, 3, none⟩ = some (.string a0_3)) (ds := []) #[false, false, false, false, false, false, false, false, false, false, false, false, false, false, false, false, false, false, false] (by kernel_rfl) rfl rfl ⟨(blk_cell BK356.out 0).trans rfl, (blk_cell BK356.out 1).trans rfl, (blk_cell BK356.out 2).trans rfl, (blk_cell BK356.out 3).trans rfl⟩ (fun hHeld => ?_); refine with_tabW keywaylaw07_SuperGets.tab2 keywaylaw07_SuperGets.bits2 (fun HT_ HW_ => ?_)
     generalize w17.drew = w18 at BK356 BK357 HB hHeld ⊢
     refine pure_ (i := 0) (N := some 12) (v := ?_) (a' := ?_) #[true, false, false, false, false, false, false, false, false, false, false, false, false, false, false, false, false, false, false] rfl rfl (any_of HT_.out (by kernel_rfl)) (fun _ _ _ h => h) (Or.inl ⟨by rfl, ?_⟩) ?_ ?_
     rotate_left
     ·intro w'
      go_simp
      with_reducible rfl
     rotate_left
     ·simp only [Act.put, List.setIfInBounds_toArray, List.set_cons_zero, List.set_cons_succ, i64_w, i32_w]
      rfl
     refine pure_ (i := 3) (N := some 15) (v := ?_) (a' := ?_) #[true, false, false, true, false, false, false, false, false, false, false, false, false, false, false, false, false, false, false] rfl rfl (any_of HT_.out (by kernel_rfl)) (fun _ _ _ h => h) (Or.inl ⟨by rfl, ?_⟩) ?_ ?_
     rotate_left
     ·intro w'
      go_simp
      with_reducible rfl
     rotate_left
     ·simp only [Act.put, List.setIfInBounds_toArray, List.set_cons_zero, List.set_cons_succ, i64_w, i32_w]
      rfl
     refine pure_ (i := 6) (N := some 18) (v := ?_) (a' := ?_) #[true, false, false, true, false, false, true, false, false, false, false, false, false, false, false, false, false, false, false] rfl rfl (any_of HT_.out (by kernel_rfl)) (fun _ _ _ h => h) (Or.inl ⟨by rfl, ?_⟩) ?_ ?_
     rotate_left
     ·intro w'
      go_simp
      with_reducible rfl
     rotate_left
     ·simp only [Act.put, List.setIfInBounds_toArray, List.set_cons_zero, List.set_cons_succ, i64_w, i32_w]
      rfl
     refine pure_ (i := 8) (N := some 20) (v := ?_) (a' := ?_) #[true, false, false, true, false, false, true, false, true, false, false, false, false, false, false, false, false, false, false] rfl rfl (any_of HT_.out (by kernel_rfl)) (fun _ _ _ h => h) (Or.inl ⟨by rfl, ?_⟩) ?_ ?_
     rotate_left
     ·intro w'
      go_simp
      with_reducible rfl
     rotate_left
     ·simp only [Act.put, List.setIfInBounds_toArray, List.set_cons_zero, List.set_cons_succ, i64_w, i32_w]
      rfl
     refine take_ (i := 1) (N := some 13) (v := ?_) (a' := ?_) #[true, true, false, true, false, false, true, false, true, false, false, false, false, false, false, false, false, false, false] rfl rfl (take_ofW HT_.out HW_.out (by kernel_rfl)) (fun _ _ _ h => h) (Or.inl ⟨by rfl, ?_⟩) hHeld ?_ ?_
     rotate_left
     ·rintro w' ⟨s0, s1, s2, s3⟩
      go_simp
      with_reducible rfl
     rotate_left
     ·simp only [Act.put, List.setIfInBounds_toArray, List.set_cons_zero, List.set_cons_succ, i64_w, i32_w]
      rfl
     refine pure_ (i := 2) (N := some 14) (v := ?_) (a' := ?_) #[true, true, true, true, false, false, true, false, true, false, false, false, false, false, false, false, false, false, false] rfl rfl (any_of HT_.out (by kernel_rfl)) (fun _ _ _ h => h) (Or.inl ⟨by rfl, ?_⟩) ?_ ?_
     rotate_left
     ·intro w'
      go_simp
      with_reducible rfl
     rotate_left
     ·simp only [Act.put, List.setIfInBounds_toArray, List.set_cons_zero, List.set_cons_succ, i64_w, i32_w]
      rfl
     refine pure_ (i := 13) (N := some 25) (v := ?_) (a' := ?_) #[true, true, true, true, false, false, true, false, true, false, false, false, false, true, false, false, false, false, false] rfl rfl (any_of HT_.out (by kernel_rfl)) (fun _ _ _ h => h) (Or.inl ⟨by rfl, ?_⟩) ?_ ?_
     rotate_left
     ·intro w'
      go_simp
      with_reducible rfl
     rotate_left
     ·simp only [Act.put, List.setIfInBounds_toArray, List.set_cons_zero, List.set_cons_succ, i64_w, i32_w]
      rfl
     refine take_ (i := 4) (N := some 16) (v := ?_) (a' := ?_) #[true, true, true, true, true, false, true, false, true, false, false, false, false, true, false, false, false, false, false] rfl rfl (take_ofW HT_.out HW_.out (by kernel_rfl)) (fun _ _ _ h => h) (Or.inl ⟨by rfl, ?_⟩) hHeld ?_ ?_
     rotate_left
     ·rintro w' ⟨s0, s1, s2, s3⟩
      go_simp
      with_reducible rfl
     rotate_left
     ·simp only [Act.put, List.setIfInBounds_toArray, List.set_cons_zero, List.set_cons_succ, i64_w, i32_w]
      rfl
     refine pure_ (i := 5) (N := some 17) (v := ?_) (a' := ?_) #[true, true, true, true, true, true, true, false, true, false, false, false, false, true, false, false, false, false, false] rfl rfl (any_of HT_.out (by kernel_rfl)) (fun _ _ _ h => h) (Or.inl ⟨by rfl, ?_⟩) ?_ ?_
     rotate_left
     ·intro w'
      go_simp
      with_reducible rfl
     rotate_left
     ·simp only [Act.put, List.setIfInBounds_toArray, List.set_cons_zero, List.set_cons_succ, i64_w, i32_w]
      rfl
     refine take_ (i := 7) (N := some 19) (v := ?_) (a' := ?_) #[true, true, true, true, true, true, true, true, true, false, false, false, false, true, false, false, false, false, false] rfl rfl (take_ofW HT_.out HW_.out (by kernel_rfl)) (fun _ _ _ h => h) (Or.inl ⟨by rfl, ?_⟩) hHeld ?_ ?_
     rotate_left
     ·rintro w' ⟨s0, s1, s2, s3⟩
      go_simp
      with_reducible rfl
     rotate_left
     ·simp only [Act.put, List.setIfInBounds_toArray, List.set_cons_zero, List.set_cons_succ, i64_w, i32_w]
      rfl
     refine take_ (i := 9) (N := some 21) (v := ?_) (a' := ?_) #[true, true, true, true, true, true, true, true, true, true, false, false, false, true, false, false, false, false, false] rfl rfl (take_ofW HT_.out HW_.out (by kernel_rfl)) (fun _ _ _ h => h) (Or.inl ⟨by rfl, ?_⟩) hHeld ?_ ?_
     rotate_left
     ·rintro w' ⟨s0, s1, s2, s3⟩
      go_simp
      with_reducible rfl
     rotate_left
     ·simp only [Act.put, List.setIfInBounds_toArray, List.set_cons_zero, List.set_cons_succ, i64_w, i32_w]
      rfl
     refine pure_ (i := 10) (N := some 22) (v := ?_) (a' := ?_) #[true, true, true, true, true, true, true, true, true, true, true, false, false, true, false, false, false, false, false] rfl rfl (any_of HT_.out (by kernel_rfl)) (fun _ _ _ h => h) (Or.inl ⟨by rfl, ?_⟩) ?_ ?_
     rotate_left
     ·intro w'
      go_simp
      with_reducible rfl
     rotate_left
     ·simp only [Act.put, List.setIfInBounds_toArray, List.set_cons_zero, List.set_cons_succ, i64_w, i32_w]
      rfl
     refine pure_ (i := 11) (N := some 23) (v := ?_) (a' := ?_) #[true, true, true, true, true, true, true, true, true, true, true, true, false, true, false, false, false, false, false] rfl rfl (any_of HT_.out (by kernel_rfl)) (fun _ _ _ h => h) (Or.inl ⟨by rfl, ?_⟩) ?_ ?_
     rotate_left
     ·intro w'
      go_simp
      with_reducible rfl
     rotate_left
     ·simp only [Act.put, List.setIfInBounds_toArray, List.set_cons_zero, List.set_cons_succ, i64_w, i32_w]
      rfl
     refine pure_ (i := 12) (N := some 24) (v := ?_) (a' := ?_) #[true, true, true, true, true, true, true, true, true, true, true, true, true, true, false, false, false, false, false] rfl rfl (any_of HT_.out (by kernel_rfl)) (fun _ _ _ h => h) (Or.inl ⟨by rfl, ?_⟩) ?_ ?_
     rotate_left
     ·intro w'
      go_simp
      with_reducible rfl
     rotate_left
     ·simp only [Act.put, List.setIfInBounds_toArray, List.set_cons_zero, List.set_cons_succ, i64_w, i32_w]
      rfl
     refine one_ (i := 14) (N := none) #[true, true, true, true, true, true, true, true, true, true, true, true, true, true, true, false, false, false, false] rfl rfl (one_of HT_.out (by kernel_rfl)) (by decide) (fun K hK => ?_)
     have hs19 : w18.cell? ⟨gb357, 0, none⟩ = some (.int .i64 a0_0) := (blk_cell BK357.out 0).trans rfl
     have hfs19 := blk_frozen BK357.out 0
     have hns19_0 := NB356_357.out
     have hms19_0 := NB357_356.out
     refine skip_ (w1 := ?_) (by rfl) rfl ?_ ?_
     rotate_left
     ·go_simp
      rfl
     refine hK.out _ _ ⟨((cell_far (p := ⟨gb357, _, none⟩) NB356_357.out _).trans (hHeld.1)), ((cell_far (p := ⟨gb357, _, none⟩) NB356_357.out _).trans (hHeld.2.1)), ((cell_far (p := ⟨gb357, _, none⟩) NB356_357.out _).trans (hHeld.2.2.1)), ((cell_far (p := ⟨gb357, _, none⟩) NB356_357.out _).trans (hHeld.2.2.2))⟩ (fun hHeld => ?_)
     clear hK K
     refine pure_ (i := 15) (N := some 26) (v := ?_) (a' := ?_) #[true, true, true, true, true, true, true, true, true, true, true, true, true, true, true, true, false, false, false] rfl rfl (any_of HT_.out (by kernel_rfl)) (fun _ _ _ h => h) (Or.inl ⟨by rfl, ?_⟩) ?_ ?_
     rotate_left
     ·intro w'
      go_simp
      with_reducible rfl
     rotate_left
     ·simp only [Act.put, List.setIfInBounds_toArray, List.set_cons_zero, List.set_cons_succ, i64_w, i32_w]
      rfl
     refine one_ (i := 16) (N := none) #[true, true, true, true, true, true, true, true, true, true, true, true, true, true, true, true, true, false, false] rfl rfl (one_of HT_.out (by kernel_rfl)) (by decide) (fun K hK => ?_)
     have hs20 : w18.cell? ⟨gb357, 1, none⟩ = some (.int .i64 a0_1) := (blk_cell BK357.out 1).trans rfl
     have hfs20 := blk_frozen BK357.out 1
     have hns20_0 := NB356_357.out
     have hms20_0 := NB357_356.out
     refine skip_ (w1 := ?_) (by rfl) rfl ?_ ?_
     rotate_left
     ·go_simp
      rfl
     refine hK.out _ _ ⟨((cell_far (p := ⟨gb357, _, none⟩) NB356_357.out _).trans (hHeld.1)), ((cell_far (p := ⟨gb357, _, none⟩) NB356_357.out _).trans (hHeld.2.1)), ((cell_far (p := ⟨gb357, _, none⟩) NB356_357.out _).trans (hHeld.2.2.1)), ((cell_far (p := ⟨gb357, _, none⟩) NB356_357.out _).trans (hHeld.2.2.2))⟩ (fun hHeld => ?_)
     clear hK K
     refine pure_ (i := 17) (N := some 27) (v := ?_) (a' := ?_) #[true, true, true, true, true, true, true, true, true, true, true, true, true, true, true, true, true, true, false] rfl rfl (any_of HT_.out (by kernel_rfl)) (fun _ _ _ h => h) (Or.inl ⟨by rfl, ?_⟩) ?_ ?_
     rotate_left
     ·intro w'
      go_simp
      with_reducible rfl
     rotate_left
     ·simp only [Act.put, List.setIfInBounds_toArray, List.set_cons_zero, List.set_cons_succ, i64_w, i32_w]
      rfl
     refine one_ (i := 18) (N := none) #[true, true, true, true, true, true, true, true, true, true, true, true, true, true, true, true, true, true, true] rfl rfl (one_of HT_.out (by kernel_rfl)) (by decide) (fun K hK => ?_)
     have hs21 : w18.cell? ⟨gb357, 3, none⟩ = some (.string a0_3) := (blk_cell BK357.out 3).trans rfl
     have hfs21 := blk_frozen BK357.out 3
     have hns21_0 := NB356_357.out
     have hms21_0 := NB357_356.out
     refine skip_ (w1 := ?_) (by rfl) rfl ?_ ?_
     rotate_left
     ·go_simp
      rfl
     refine hK.out _ _ ⟨((cell_far (p := ⟨gb357, _, none⟩) NB356_357.out _).trans (hHeld.1)), ((cell_far (p := ⟨gb357, _, none⟩) NB356_357.out _).trans (hHeld.2.1)), ((cell_far (p := ⟨gb357, _, none⟩) NB356_357.out _).trans (hHeld.2.2.1)), ((cell_far (p := ⟨gb357, _, none⟩) NB356_357.out _).trans (hHeld.2.2.2))⟩ (fun hHeld => ?_)
     clear hK K
     refine done_ (done_of HT_.out (by kernel_rfl)) ?_
     have hcz22_0 : w18.cell? ⟨gb357, 0, none⟩ = some (.int .i64 a0_0) := (blk_cell BK357.out 0).trans rfl
     have hcz22_1 : w18.cell? ⟨gb357, 1, none⟩ = some (.int .i64 a0_1) := (blk_cell BK357.out 1).trans rfl
     have hcz22_2 : w18.cell? ⟨gb357, 2, none⟩ = some (.int .u64 a0_2) := (blk_cell BK357.out 2).trans rfl
     have hcz22_3 : w18.cell? ⟨gb357, 3, none⟩ = some (.string a0_3) := (blk_cell BK357.out 3).trans rfl
     have hfz22_0 := blk_frozen BK357.out 0
     have hfz22_1 := blk_frozen BK357.out 1
     have hfz22_2 := blk_frozen BK357.out 2
     have hfz22_3 := blk_frozen BK357.out 3
     try go_wp2_with (first | ((with_reducible refine gate_callee (f := 20) rfl ?_);refine goesL_ (some 29) rfl rfl Try.func20 (by kernel_rfl) rfl #[.agg #[.int .i64 (Go.bits .and .i64 a0_0 3), .int .i64 (Go.bits .and .i64 a0_1 3), .int .u64 a0_2, .string (a0_3.extract 0 ((ji3) : Int).toNat)]] rfl (by (try simp only [List.map_toArray, List.map_cons, List.map_nil]);first | done | (simp only [hji3];rfl) | rfl | (simp only [List.length_drop, List.length_take];rfl)) ?_;(with_reducible refine (keywayref05_Put.calls k (Go.bits .and .i64 a0_0 3) (Go.bits .and .i64 a0_1 3) a0_2 (a0_3.extract 0 ((ji3) : Int).toNat) t358 _ A6.out).mono ?_);rintro e w23 ⟨rfl, hb⟩;refine ⟨_, rfl, ?_⟩;have n0_ := Aside0.mk (blk_below (g := gb356) (o := .cells #[.int .i64 a0_0, .int .i64 a0_1, .int .u64 a0_2, .string a0_3] 35 (0, 0)) (by (with_reducible repeat first | apply bN | apply bD | apply bA);refine blk_far ?_ NB356_357.out _;(with_reducible repeat first | apply bN | apply bD | apply bA);refine blk_far ?_ NB356_357.out _;(with_reducible repeat first | apply bN | apply bD | apply bA);refine blk_far ?_ NB356_357.out _;(with_reducible repeat first | apply bN | apply bD | apply bA);exact BK356.out) hb);have n1_ := Aside0.mk (blk_below (g := gb357) (o := .cells #[.int .i64 (Go.bits .and .i64 a0_0 3), .int .i64 (Go.bits .and .i64 a0_1 3), .int .u64 a0_2, .string (a0_3.extract 0 ((ji3) : Int).toNat)] 35 (0, 0)) (by (with_reducible repeat first | apply bN | apply bD | apply bA);refine blk_put (cs := #[.int .i64 (Go.bits .and .i64 a0_0 3), .int .i64 (Go.bits .and .i64 a0_1 3), .int .u64 a0_2, .string a0_3]) ?_ 3 _ rfl;(with_reducible repeat first | apply bN | apply bD | apply bA);refine blk_put (cs := #[.int .i64 (Go.bits .and .i64 a0_0 3), .int .i64 a0_1, .int .u64 a0_2, .string a0_3]) ?_ 1 _ rfl;(with_reducible repeat first | apply bN | apply bD | apply bA);refine blk_put (cs := #[.int .i64 a0_0, .int .i64 a0_1, .int .u64 a0_2, .string a0_3]) ?_ 0 _ rfl;(with_reducible repeat first | apply bN | apply bD | apply bA);exact BK357.out) hb);have n2_ := Aside0.mk (below_step (by repeat (first | (with_reducible first | exact HB.out | apply lA | apply lN | apply lD | refine below_set ?_ GE356.out | refine below_set ?_ GE357.out) | exact HB.out)) hb);clear BK356;clear BK357;clear HB;have BK356 := n0_;have BK357 := n1_;have HB := n2_;clear n0_ n1_ n2_;(try clear hb);(try clear hb2);(try clear hk);(try clear hi)) | ((with_reducible refine gate_callee (f := 27) rfl ?_);refine goesL_ (some 34) rfl rfl Try.func27 (by kernel_rfl) rfl #[.string t358, .int .i64 (Go.bits .and .i64 a1 1)] rfl (by (try simp only [List.map_toArray, List.map_cons, List.map_nil]);first | done | rfl) ?_;(with_reducible refine (super_Get.calls k t358 (Go.bits .and .i64 a1 1) t359 t360 t361 _ A7.out).mono ?_);rintro e w24 ⟨rfl, hb⟩;refine ⟨_, rfl, ?_⟩;have n0_ := Aside0.mk (blk_below (g := gb356) (o := .cells #[.int .i64 a0_0, .int .i64 a0_1, .int .u64 a0_2, .string a0_3] 35 (0, 0)) (by (with_reducible repeat first | apply bN | apply bD | apply bA);exact BK356.out) hb);have n1_ := Aside0.mk (blk_below (g := gb357) (o := .cells #[.int .i64 (Go.bits .and .i64 a0_0 3), .int .i64 (Go.bits .and .i64 a0_1 3), .int .u64 a0_2, .string (a0_3.extract 0 ((ji3) : Int).toNat)] 35 (0, 0)) (by (with_reducible repeat first | apply bN | apply bD | apply bA);exact BK357.out) hb);have n2_ := Aside0.mk (below_step (by repeat (first | (with_reducible first | exact HB.out | apply lA | apply lN | apply lD | refine below_set ?_ GE356.out | refine below_set ?_ GE357.out) | exact HB.out)) hb);clear BK356;clear BK357;clear HB;have BK356 := n0_;have BK357 := n1_;have HB := n2_;clear n0_ n1_ n2_;(try clear hb);(try clear hb2);(try clear hk);(try clear hi)) | ((with_reducible refine gate_dst (N := 7) rfl ?_);refine box_event ?hg (N := 7) ?hd (cs := #[.int .u64 0, .int .i64 0]) (t := 47) ?hr ?_;(case hd => rfl);(case hg => rfl);(case hr => first | (go_simp;done) | (go_simp;rfl));intro gb362 hg w25 hbox hb;have n0_ := Aside0.mk (blk_below (g := gb356) (o := .cells #[.int .i64 a0_0, .int .i64 a0_1, .int .u64 a0_2, .string a0_3] 35 (0, 0)) (by (with_reducible repeat first | apply bN | apply bD | apply bA);exact BK356.out) hb);have n1_ := Aside0.mk (blk_below (g := gb357) (o := .cells #[.int .i64 (Go.bits .and .i64 a0_0 3), .int .i64 (Go.bits .and .i64 a0_1 3), .int .u64 a0_2, .string (a0_3.extract 0 ((ji3) : Int).toNat)] 35 (0, 0)) (by (with_reducible repeat first | apply bN | apply bD | apply bA);exact BK357.out) hb);have n2_ := Aside0.mk (below_step (by repeat (first | (with_reducible first | exact HB.out | apply lA | apply lN | apply lD | refine below_set ?_ GE356.out | refine below_set ?_ GE357.out) | exact HB.out)) hb);have n3_ := Aside0.mk (hbox);have n4_ := Aside0.mk ((by rw [hg];exact (below_size (by repeat (first | (with_reducible first | exact HB.out | apply lA | apply lN | apply lD | refine below_set ?_ GE356.out | refine below_set ?_ GE357.out) | exact HB.out))) : w.heap.size ≤ gb362));have n5_ := Aside0.mk ((by rw [hg];exact (below_size (by repeat (first | (with_reducible first | exact HB.out | apply lA | apply lN | apply lD | refine below_set ?_ GE356.out | refine below_set ?_ GE357.out) | exact HB.out))) : w.heap.size ≤ gb362));have n6_ := Aside0.mk ((by rw [hg];exact Nat.ne_of_lt (blk_lt (g := gb356) (o := .cells #[.int .i64 a0_0, .int .i64 a0_1, .int .u64 a0_2, .string a0_3] 35 (0, 0)) (by (with_reducible repeat first | apply bN | apply bD | apply bA);exact BK356.out)) : gb356 ≠ gb362));have n7_ := Aside0.mk ((by rw [hg];exact Nat.ne_of_gt (blk_lt (g := gb356) (o := .cells #[.int .i64 a0_0, .int .i64 a0_1, .int .u64 a0_2, .string a0_3] 35 (0, 0)) (by (with_reducible repeat first | apply bN | apply bD | apply bA);exact BK356.out)) : gb362 ≠ gb356));have n8_ := Aside0.mk ((by rw [hg];exact Nat.ne_of_lt (blk_lt (g := gb357) (o := .cells #[.int .i64 (Go.bits .and .i64 a0_0 3), .int .i64 (Go.bits .and .i64 a0_1 3), .int .u64 a0_2, .string (a0_3.extract 0 ((ji3) : Int).toNat)] 35 (0, 0)) (by (with_reducible repeat first | apply bN | apply bD | apply bA);exact BK357.out)) : gb357 ≠ gb362));have n9_ := Aside0.mk ((by rw [hg];exact Nat.ne_of_gt (blk_lt (g := gb357) (o := .cells #[.int .i64 (Go.bits .and .i64 a0_0 3), .int .i64 (Go.bits .and .i64 a0_1 3), .int .u64 a0_2, .string (a0_3.extract 0 ((ji3) : Int).toNat)] 35 (0, 0)) (by (with_reducible repeat first | apply bN | apply bD | apply bA);exact BK357.out)) : gb362 ≠ gb357));clear BK356;clear BK357;clear HB;have BK356 := n0_;have BK357 := n1_;have HB := n2_;have BK362 := n3_;have GW362 := n4_;have GE362 := n5_;have NB356_362 := n6_;have NB362_356 := n7_;have NB357_362 := n8_;have NB362_357 := n9_;clear n0_ n1_ n2_ n3_ n4_ n5_ n6_ n7_ n8_ n9_;clear hb hbox hg;have hnb26 := NB362_356.out;have hnc26 := NB356_362.out;have hnb27 := NB362_357.out;have hnc27 := NB357_362.out;have hcz28_0 : w25.cell? ⟨gb362, 0, none⟩ = some (.int .u64 0) := (blk_cell BK362.out 0).trans rfl;have hcz28_1 : w25.cell? ⟨gb362, 1, none⟩ = some (.int .i64 0) := (blk_cell BK362.out 1).trans rfl;have hfz28_0 := blk_frozen BK362.out 0;have hfz28_1 := blk_frozen BK362.out 1) | ((with_reducible refine gate_callee (f := 31) rfl ?_);refine goesL_ (some 41) rfl rfl Try.func31 (by kernel_rfl) rfl #[.string t358, .int .i64 (Go.bits .and .i64 a1 1)] rfl (by (try simp only [List.map_toArray, List.map_cons, List.map_nil]);first | done | rfl) ?_;(with_reducible refine (keywaylaw07_get.calls k t358 (Go.bits .and .i64 a1 1) t363 t364 t365 _ A8.out).mono ?_);rintro e w29 ⟨rfl, hb⟩;refine ⟨_, rfl, ?_⟩;have n0_ := Aside0.mk (blk_below (g := gb356) (o := .cells #[.int .i64 a0_0, .int .i64 a0_1, .int .u64 a0_2, .string a0_3] 35 (0, 0)) (by (with_reducible repeat first | apply bN | apply bD | apply bA);refine blk_far ?_ NB356_362.out _;(with_reducible repeat first | apply bN | apply bD | apply bA);refine blk_far ?_ NB356_362.out _;(with_reducible repeat first | apply bN | apply bD | apply bA);exact BK356.out) hb);have n1_ := Aside0.mk (blk_below (g := gb357) (o := .cells #[.int .i64 (Go.bits .and .i64 a0_0 3), .int .i64 (Go.bits .and .i64 a0_1 3), .int .u64 a0_2, .string (a0_3.extract 0 ((ji3) : Int).toNat)] 35 (0, 0)) (by (with_reducible repeat first | apply bN | apply bD | apply bA);refine blk_far ?_ NB357_362.out _;(with_reducible repeat first | apply bN | apply bD | apply bA);refine blk_far ?_ NB357_362.out _;(with_reducible repeat first | apply bN | apply bD | apply bA);exact BK357.out) hb);have n2_ := Aside0.mk (blk_below (g := gb362) (o := .cells #[.int .u64 t359, .int .i64 t360] 47 (0, 0)) (by (with_reducible repeat first | apply bN | apply bD | apply bA);refine blk_put (cs := #[.int .u64 t359, .int .i64 0]) ?_ 1 _ rfl;(with_reducible repeat first | apply bN | apply bD | apply bA);refine blk_put (cs := #[.int .u64 0, .int .i64 0]) ?_ 0 _ rfl;(with_reducible repeat first | apply bN | apply bD | apply bA);exact BK362.out) hb);have n3_ := Aside0.mk (below_step (by repeat (first | (with_reducible first | exact HB.out | apply lA | apply lN | apply lD | refine below_set ?_ GE356.out | refine below_set ?_ GE357.out | refine below_set ?_ GE362.out) | exact HB.out)) hb);clear BK356;clear BK357;clear BK362;clear HB;have BK356 := n0_;have BK357 := n1_;have BK362 := n2_;have HB := n3_;clear n0_ n1_ n2_ n3_;(try clear hb);(try clear hb2);(try clear hk);(try clear hi)) | ((with_reducible refine gate_dst (N := 9) rfl ?_);refine box_event ?hg (N := 9) ?hd (cs := #[.int .u64 0, .int .i64 0]) (t := 47) ?hr ?_;(case hd => rfl);(case hg => rfl);(case hr => first | (go_simp;done) | (go_simp;rfl));intro gb366 hg w30 hbox hb;have n0_ := Aside0.mk (blk_below (g := gb356) (o := .cells #[.int .i64 a0_0, .int .i64 a0_1, .int .u64 a0_2, .string a0_3] 35 (0, 0)) (by (with_reducible repeat first | apply bN | apply bD | apply bA);exact BK356.out) hb);have n1_ := Aside0.mk (blk_below (g := gb357) (o := .cells #[.int .i64 (Go.bits .and .i64 a0_0 3), .int .i64 (Go.bits .and .i64 a0_1 3), .int .u64 a0_2, .string (a0_3.extract 0 ((ji3) : Int).toNat)] 35 (0, 0)) (by (with_reducible repeat first | apply bN | apply bD | apply bA);exact BK357.out) hb);have n2_ := Aside0.mk (blk_below (g := gb362) (o := .cells #[.int .u64 t359, .int .i64 t360] 47 (0, 0)) (by (with_reducible repeat first | apply bN | apply bD | apply bA);exact BK362.out) hb);have n3_ := Aside0.mk (below_step (by repeat (first | (with_reducible first | exact HB.out | apply lA | apply lN | apply lD | refine below_set ?_ GE356.out | refine below_set ?_ GE357.out | refine below_set ?_ GE362.out) | exact HB.out)) hb);have n4_ := Aside0.mk (hbox);have n5_ := Aside0.mk ((by rw [hg];exact (below_size (by repeat (first | (with_reducible first | exact HB.out | apply lA | apply lN | apply lD | refine below_set ?_ GE356.out | refine below_set ?_ GE357.out | refine below_set ?_ GE362.out) | exact HB.out))) : w.heap.size ≤ gb366));have n6_ := Aside0.mk ((by rw [hg];exact (below_size (by repeat (first | (with_reducible first | exact HB.out | apply lA | apply lN | apply lD | refine below_set ?_ GE356.out | refine below_set ?_ GE357.out | refine below_set ?_ GE362.out) | exact HB.out))) : w.heap.size ≤ gb366));have n7_ := Aside0.mk ((by rw [hg];exact Nat.ne_of_lt (blk_lt (g := gb356) (o := .cells #[.int .i64 a0_0, .int .i64 a0_1, .int .u64 a0_2, .string a0_3] 35 (0, 0)) (by (with_reducible repeat first | apply bN | apply bD | apply bA);exact BK356.out)) : gb356 ≠ gb366));have n8_ := Aside0.mk ((by rw [hg];exact Nat.ne_of_gt (blk_lt (g := gb356) (o := .cells #[.int .i64 a0_0, .int .i64 a0_1, .int .u64 a0_2, .string a0_3] 35 (0, 0)) (by (with_reducible repeat first | apply bN | apply bD | apply bA);exact BK356.out)) : gb366 ≠ gb356));have n9_ := Aside0.mk ((by rw [hg];exact Nat.ne_of_lt (blk_lt (g := gb357) (o := .cells #[.int .i64 (Go.bits .and .i64 a0_0 3), .int .i64 (Go.bits .and .i64 a0_1 3), .int .u64 a0_2, .string (a0_3.extract 0 ((ji3) : Int).toNat)] 35 (0, 0)) (by (with_reducible repeat first | apply bN | apply bD | apply bA);exact BK357.out)) : gb357 ≠ gb366));have n10_ := Aside0.mk ((by rw [hg];exact Nat.ne_of_gt (blk_lt (g := gb357) (o := .cells #[.int .i64 (Go.bits .and .i64 a0_0 3), .int .i64 (Go.bits .and .i64 a0_1 3), .int .u64 a0_2, .string (a0_3.extract 0 ((ji3) : Int).toNat)] 35 (0, 0)) (by (with_reducible repeat first | apply bN | apply bD | apply bA);exact BK357.out)) : gb366 ≠ gb357));have n11_ := Aside0.mk ((by rw [hg];exact Nat.ne_of_lt (blk_lt (g := gb362) (o := .cells #[.int .u64 t359, .int .i64 t360] 47 (0, 0)) (by (with_reducible repeat first | apply bN | apply bD | apply bA);exact BK362.out)) : gb362 ≠ gb366));have n12_ := Aside0.mk ((by rw [hg];exact Nat.ne_of_gt (blk_lt (g := gb362) (o := .cells #[.int .u64 t359, .int .i64 t360] 47 (0, 0)) (by (with_reducible repeat first | apply bN | apply bD | apply bA);exact BK362.out)) : gb366 ≠ gb362));clear BK356;clear BK357;clear BK362;clear HB;have BK356 := n0_;have BK357 := n1_;have BK362 := n2_;have HB := n3_;have BK366 := n4_;have GW366 := n5_;have GE366 := n6_;have NB356_366 := n7_;have NB366_356 := n8_;have NB357_366 := n9_;have NB366_357 := n10_;have NB362_366 := n11_;have NB366_362 := n12_;clear n0_ n1_ n2_ n3_ n4_ n5_ n6_ n7_ n8_ n9_ n10_ n11_ n12_;clear hb hbox hg;have hnb31 := NB366_356.out;have hnc31 := NB356_366.out;have hnb32 := NB366_357.out;have hnc32 := NB357_366.out;have hnb33 := NB366_362.out;have hnc33 := NB362_366.out;have hcz34_0 : w30.cell? ⟨gb366, 0, none⟩ = some (.int .u64 0) := (blk_cell BK366.out 0).trans rfl;have hcz34_1 : w30.cell? ⟨gb366, 1, none⟩ = some (.int .i64 0) := (blk_cell BK366.out 1).trans rfl;have hfz34_0 := blk_frozen BK366.out 0;have hfz34_1 := blk_frozen BK366.out 1) | ((with_reducible refine gate_callee (f := 28) rfl ?_);refine goesL_ (some 44) rfl rfl Try.func28 (by kernel_rfl) rfl #[] rfl (by (try simp only [List.map_toArray, List.map_cons, List.map_nil]);first | done | rfl) ?_;(with_reducible refine (keywaylaw07_awake.calls k  true _ A9.out).mono ?_);rintro e w35 ⟨rfl, hb⟩;refine ⟨_, rfl, ?_⟩;have n0_ := Aside0.mk (blk_below (g := gb356) (o := .cells #[.int .i64 a0_0, .int .i64 a0_1, .int .u64 a0_2, .string a0_3] 35 (0, 0)) (by (with_reducible repeat first | apply bN | apply bD | apply bA);refine blk_far ?_ NB356_366.out _;(with_reducible repeat first | apply bN | apply bD | apply bA);refine blk_far ?_ NB356_366.out _;(with_reducible repeat first | apply bN | apply bD | apply bA);exact BK356.out) hb);have n1_ := Aside0.mk (blk_below (g := gb357) (o := .cells #[.int .i64 (Go.bits .and .i64 a0_0 3), .int .i64 (Go.bits .and .i64 a0_1 3), .int .u64 a0_2, .string (a0_3.extract 0 ((ji3) : Int).toNat)] 35 (0, 0)) (by (with_reducible repeat first | apply bN | apply bD | apply bA);refine blk_far ?_ NB357_366.out _;(with_reducible repeat first | apply bN | apply bD | apply bA);refine blk_far ?_ NB357_366.out _;(with_reducible repeat first | apply bN | apply bD | apply bA);exact BK357.out) hb);have n2_ := Aside0.mk (blk_below (g := gb362) (o := .cells #[.int .u64 t359, .int .i64 t360] 47 (0, 0)) (by (with_reducible repeat first | apply bN | apply bD | apply bA);refine blk_far ?_ NB362_366.out _;(with_reducible repeat first | apply bN | apply bD | apply bA);refine blk_far ?_ NB362_366.out _;(with_reducible repeat first | apply bN | apply bD | apply bA);exact BK362.out) hb);have n3_ := Aside0.mk (blk_below (g := gb366) (o := .cells #[.int .u64 t363, .int .i64 t364] 47 (0, 0)) (by (with_reducible repeat first | apply bN | apply bD | apply bA);refine blk_put (cs := #[.int .u64 t363, .int .i64 0]) ?_ 1 _ rfl;(with_reducible repeat first | apply bN | apply bD | apply bA);refine blk_put (cs := #[.int .u64 0, .int .i64 0]) ?_ 0 _ rfl;(with_reducible repeat first | apply bN | apply bD | apply bA);exact BK366.out) hb);have n4_ := Aside0.mk (below_step (by repeat (first | (with_reducible first | exact HB.out | apply lA | apply lN | apply lD | refine below_set ?_ GE356.out | refine below_set ?_ GE357.out | refine below_set ?_ GE362.out | refine below_set ?_ GE366.out) | exact HB.out)) hb);clear BK356;clear BK357;clear BK362;clear BK366;clear HB;have BK356 := n0_;have BK357 := n1_;have BK362 := n2_;have BK366 := n3_;have HB := n4_;clear n0_ n1_ n2_ n3_ n4_;(try clear hb);(try clear hb2);(try clear hk);(try clear hi);have hcz36_0 : w35.cell? ⟨gb362, 0, none⟩ = some (.int .u64 t359) := (blk_cell BK362.out 0).trans rfl;have hcz36_1 : w35.cell? ⟨gb362, 1, none⟩ = some (.int .i64 t360) := (blk_cell BK362.out 1).trans rfl;have hfz36_0 := blk_frozen BK362.out 0;have hfz36_1 := blk_frozen BK362.out 1;have hcz37_0 : w35.cell? ⟨gb366, 0, none⟩ = some (.int .u64 t363) := (blk_cell BK366.out 0).trans rfl;have hcz37_1 : w35.cell? ⟨gb366, 1, none⟩ = some (.int .i64 t364) := (blk_cell BK366.out 1).trans rfl;have hfz37_0 := blk_frozen BK366.out 0;have hfz37_1 := blk_frozen BK366.out 1))
     go_ret
     exact ⟨by first | rfl | (simp [errW_none, errW_some] <;> rfl) | (simp only [← hji3]; first | rfl | (simp [errW_none, errW_some] <;> rfl)) | (simp [*, errW_none, errW_some] <;> rfl), by repeat (first | (with_reducible first | exact HB.out | apply lA | apply lN | apply lD | refine below_set ?_ GE356.out | refine below_set ?_ GE357.out | refine below_set ?_ GE362.out | refine below_set ?_ GE366.out) | exact HB.out)⟩
    ·rw [if_neg c11] at H
     have c11b0 : (t361 == t365) = false := by simpa using c11
     (try (have c11b1 : decide (t361 = t365) = false := by simpa using c11))
     (try (have c11b2 : (t361 == t365) = false := by simpa using c11))
     (try (have c11b3 : ¬ (t361 = t365) := by simpa using c11))
     clear c11
     exact absurd ((Option.some.inj H).trans hr_.out) (by decide)
   ·replace c10 := Bool.eq_false_iff.mpr c10
    subst c10
    have H1 : (some false) = some r := by rw [if_neg (show ¬ (false = true) by decide)] at H;exact H
    clear H
    have H := H1
    clear H1
    exact absurd ((Option.some.inj H).trans hr_.out) (by decide)
  ·rw [if_neg c5] at H
   exact absurd H (by simp)
 ·rw [if_neg c4] at H
  exact absurd H (by simp)

end Go.Proofs.Ytlimgnpkbelmcaa.F
