/- Contracts of the Go functions that the statements of this seat reach, each for every input at which its Lean function answers; written by a program. -/
import Derived.Test.YtlimgnpkbelmcaaF0
import Derived.Test.YtlimgnpkbelmcaaF11
import Derived.Test.YtlimgnpkbelmcaaF16
namespace Go.Proofs.Ytlimgnpkbelmcaa.F
open Go.RowKit Go.Proofs.YtlimgnpkbelmcaaW.PrintWords Go.Proofs.YtlimgnpkbelmcaaW.PrintLast Go.Proofs.YtlimgnpkbelmcaaW.PrintMore
attribute [local go_sem] max2_int min2_int max_two min_two max_three min_three max_four min_four   -- for this text's walks alone
set_option linter.unusedVariables false
set_option linter.unusedSimpArgs false

/-! ### keywayref03_R_Num: function 48 -/
mutual
def keywayref03_R_Num.l0 : Nat → Int → Int → Int → ByteArray → Int → Option (ByteArray × Int × Int)
 | 0, _, _, _, _, _ => none
 | k + 1, x1, x6, x7, x333000, x333001 => if x7 < 10 then (if x7 ≥ (x333000.size : Int) then ((keywayref03_R_fail.f x333000 x333001 2).bind fun bt336 => (some (bt336.1, bt336.2, 0))) else (if 0 ≤ x7 then (if x7 < (x333000.size : Int) then (if x7 = 9 then (if (IntKind.u64.wrap (bt x333000 x7)) > 1 then (keywayref03_R_Num.j1 k x1 x6 x7 (IntKind.u64.wrap (bt x333000 x7)) true x333000 x333001) else (if x7 > 0 then (keywayref03_R_Num.j1 k x1 x6 x7 (IntKind.u64.wrap (bt x333000 x7)) ((IntKind.u64.wrap (bt x333000 x7)) == 0) x333000 x333001) else (keywayref03_R_Num.j1 k x1 x6 x7 (IntKind.u64.wrap (bt x333000 x7)) false x333000 x333001))) else (if x7 > 0 then (keywayref03_R_Num.j1 k x1 x6 x7 (IntKind.u64.wrap (bt x333000 x7)) ((IntKind.u64.wrap (bt x333000 x7)) == 0) x333000 x333001) else (keywayref03_R_Num.j1 k x1 x6 x7 (IntKind.u64.wrap (bt x333000 x7)) false x333000 x333001))) else (none)) else (none))) else ((keywayref03_R_fail.f x333000 x333001 3).bind fun bt334 => (some (bt334.1, bt334.2, 0)))
def keywayref03_R_Num.j1 : Nat → Int → Int → Int → Int → Bool → ByteArray → Int → Option (ByteArray × Int × Int)
 | 0, _, _, _, _, _, _, _ => none
 | k + 1, x1, x6, x7, x8, x42, x333000, x333001 => if x42 = true then ((keywayref03_R_fail.f x333000 x333001 3).bind fun bt338 => (some (bt338.1, bt338.2, 0))) else (if 0 ≤ (IntKind.u64.wrap (wrap64 (7 * x7))) then (if x8 < 128 then (if (IntKind.u64.wrap (x6 + (shl .u64 (Int.tmod x8 128) (IntKind.u64.wrap (wrap64 (7 * x7)))))) > x1 then ((keywayref03_R_fail.f x333000 x333001 4).bind fun bt340 => (some (bt340.1, bt340.2, 0))) else (if 0 ≤ (wrap64 (x7 + 1)) then (if (wrap64 (x7 + 1)) ≤ (x333000.size : Int) then (some (x333000.extract ((wrap64 (x7 + 1)) : Int).toNat x333000.size, 0, IntKind.u64.wrap (x6 + (shl .u64 (Int.tmod x8 128) (IntKind.u64.wrap (wrap64 (7 * x7))))))) else (none)) else (none))) else (keywayref03_R_Num.l0 k x1 (IntKind.u64.wrap (x6 + (shl .u64 (Int.tmod x8 128) (IntKind.u64.wrap (wrap64 (7 * x7)))))) (wrap64 (x7 + 1)) x333000 x333001)) else (none))
end
def keywayref03_R_Num.f (k : Nat) (a0_0 : ByteArray) (a0_1 : Int) (a1 : Int) : Option (ByteArray × Int × Int) := if a0_1 = 0 then (keywayref03_R_Num.l0 k a1 0 0 a0_0 a0_1) else (some (a0_0, a0_1, 0))
set_option maxRecDepth 100000 in
theorem keywayref03_R_Num.mono_l : ∀ k, (∀ y0 y1 y2 y3 y4, LeO (keywayref03_R_Num.l0 k y0 y1 y2 y3 y4) (keywayref03_R_Num.l0 (k + 1) y0 y1 y2 y3 y4)) ∧ (∀ y0 y1 y2 y3 y4 y5 y6, LeO (keywayref03_R_Num.j1 k y0 y1 y2 y3 y4 y5 y6) (keywayref03_R_Num.j1 (k + 1) y0 y1 y2 y3 y4 y5 y6))
 | 0 => ⟨fun _ _ _ _ _ r h => by first | (cases h; done) | simp [keywayref03_R_Num.l0] at h, fun _ _ _ _ _ _ _ r h => by first | (cases h; done) | simp [keywayref03_R_Num.j1] at h⟩
 | k + 1 => by
  obtain ⟨ih0, ih1⟩ := keywayref03_R_Num.mono_l k
  refine ⟨?_, ?_⟩
  ·intro y0 y1 y2 y3 y4
   unfold keywayref03_R_Num.l0
   repeat' first
   | (with_reducible exact ih0 _ _ _ _ _)
   | (with_reducible exact ih1 _ _ _ _ _ _ _)
   | (with_reducible exact LeO.refl _)
   | (with_reducible exact LeO.none _)
   | (with_reducible refine LeO.ite ?_ ?_)
   | (with_reducible refine LeO.bind ?_ (fun _ => ?_))
   | exact ih0 _ _ _ _ _
   | exact ih1 _ _ _ _ _ _ _
   | exact LeO.none _
   | refine LeO.ite ?_ ?_
   | refine LeO.bind ?_ (fun _ => ?_)
  ·intro y0 y1 y2 y3 y4 y5 y6
   unfold keywayref03_R_Num.j1
   repeat' first
   | (with_reducible exact ih0 _ _ _ _ _)
   | (with_reducible exact ih1 _ _ _ _ _ _ _)
   | (with_reducible exact LeO.refl _)
   | (with_reducible exact LeO.none _)
   | (with_reducible refine LeO.ite ?_ ?_)
   | (with_reducible refine LeO.bind ?_ (fun _ => ?_))
   | exact ih0 _ _ _ _ _
   | exact ih1 _ _ _ _ _ _ _
   | exact LeO.none _
   | refine LeO.ite ?_ ?_
   | refine LeO.bind ?_ (fun _ => ?_)
set_option maxRecDepth 100000 in
theorem keywayref03_R_Num.mono : ∀ a0 a1 a2 k, LeO (keywayref03_R_Num.f k a0 a1 a2) (keywayref03_R_Num.f (k + 1) a0 a1 a2) := by
 intro a0 a1 a2 k
 obtain ⟨ih0, ih1⟩ := keywayref03_R_Num.mono_l k
 unfold keywayref03_R_Num.f
 repeat' first
   | (with_reducible exact ih0 _ _ _ _ _)
   | (with_reducible exact ih1 _ _ _ _ _ _ _)
   | (with_reducible exact LeO.refl _)
   | (with_reducible exact LeO.none _)
   | (with_reducible refine LeO.ite ?_ ?_)
   | (with_reducible refine LeO.bind ?_ (fun _ => ?_))
   | exact ih0 _ _ _ _ _
   | exact ih1 _ _ _ _ _ _ _
   | exact LeO.none _
   | refine LeO.ite ?_ ?_
   | refine LeO.bind ?_ (fun _ => ?_)
set_option maxHeartbeats 8000000 in
set_option maxRecDepth 100000 in
theorem keywayref03_R_Num.calls (k : Nat) (a0_0 : ByteArray) (a0_1 : Int) (a1 : Int) (r1 : ByteArray) (r2 : Int) (r3 : Int) (w : World) (h : keywayref03_R_Num.f k a0_0 a0_1 a1 = some (r1, r2, r3)) :
  Calls Try.prog 48 #[.agg #[.string a0_0, .int .i64 a0_1], .int .u64 a1] w fun e w' => e = .returned (.tuple #[.agg #[.string r1, .int .i64 r2], .int .u64 r3]) ∧ Below w.heap.size w w' := by
 have hu68 := Try.underlying68
 have HB := Aside0.mk (Below.refl w.heap.size w)
 have H : (if a0_1 = 0 then (keywayref03_R_Num.l0 k a1 0 0 a0_0 a0_1) else (some (a0_0, a0_1, 0))) = some (r1, r2, r3) := h
 clear h
 by_cases c3 : a0_1 = 0
 ·rw [if_pos c3] at H
  have c3b0 : (a0_1 == 0) = true := beq_iff_eq.mpr c3
  have c3b1 : (a0_1 != 0) = false := bne_eq_false_iff_eq.mpr c3
  clear c3
  have H' := Aside0.mk H
  clear H
  go_enter Try.func48, Try.ntmps48
  go_wp2_with (first | ((with_reducible refine gate_dst (N := 2) rfl ?_);refine box_event ?hg (N := 2) ?hd (cs := #[.string a0_0, .int .i64 a0_1]) (t := 68) ?hr ?_;(case hd => rfl);(case hg => rfl);(case hr => first | (go_simp;done) | (go_simp;rfl));intro gb332 hg w4 hbox hb;have n0_ := Aside0.mk (below_step (by repeat (first | (with_reducible first | exact HB.out | apply lA | apply lN | apply lD) | exact HB.out)) hb);have n1_ := Aside0.mk (hbox);have n2_ := Aside0.mk ((by rw [hg];exact (below_size (by repeat (first | (with_reducible first | exact HB.out | apply lA | apply lN | apply lD) | exact HB.out))) : w.heap.size ≤ gb332));have n3_ := Aside0.mk ((by rw [hg];exact (below_size (by repeat (first | (with_reducible first | exact HB.out | apply lA | apply lN | apply lD) | exact HB.out))) : w.heap.size ≤ gb332));clear HB;have HB := n0_;have BK332 := n1_;have GW332 := n2_;have GE332 := n3_;clear n0_ n1_ n2_ n3_;clear hb hbox hg) | ((with_reducible refine gate_dst (N := 4) rfl ?_);refine box_event ?hg (N := 4) ?hd (cs := #[.string (⟨#[]⟩ : ByteArray), .int .i64 0]) (t := 68) ?hr ?_;(case hd => rfl);(case hg => rfl);(case hr => first | (go_simp;done) | (go_simp;rfl));intro gb333 hg w5 hbox hb;have n0_ := Aside0.mk (blk_below (g := gb332) (o := .cells #[.string a0_0, .int .i64 a0_1] 68 (0, 0)) (by (with_reducible repeat first | apply bN | apply bD | apply bA);exact BK332.out) hb);have n1_ := Aside0.mk (below_step (by repeat (first | (with_reducible first | exact HB.out | apply lA | apply lN | apply lD | refine below_set ?_ GE332.out) | exact HB.out)) hb);have n2_ := Aside0.mk (hbox);have n3_ := Aside0.mk ((by rw [hg];exact (below_size (by repeat (first | (with_reducible first | exact HB.out | apply lA | apply lN | apply lD | refine below_set ?_ GE332.out) | exact HB.out))) : w.heap.size ≤ gb333));have n4_ := Aside0.mk ((by rw [hg];exact (below_size (by repeat (first | (with_reducible first | exact HB.out | apply lA | apply lN | apply lD | refine below_set ?_ GE332.out) | exact HB.out))) : w.heap.size ≤ gb333));have n5_ := Aside0.mk ((by rw [hg];exact Nat.ne_of_lt (blk_lt (g := gb332) (o := .cells #[.string a0_0, .int .i64 a0_1] 68 (0, 0)) (by (with_reducible repeat first | apply bN | apply bD | apply bA);exact BK332.out)) : gb332 ≠ gb333));have n6_ := Aside0.mk ((by rw [hg];exact Nat.ne_of_gt (blk_lt (g := gb332) (o := .cells #[.string a0_0, .int .i64 a0_1] 68 (0, 0)) (by (with_reducible repeat first | apply bN | apply bD | apply bA);exact BK332.out)) : gb333 ≠ gb332));clear BK332;clear HB;have BK332 := n0_;have HB := n1_;have BK333 := n2_;have GW333 := n3_;have GE333 := n4_;have NB332_333 := n5_;have NB333_332 := n6_;clear n0_ n1_ n2_ n3_ n4_ n5_ n6_;clear hb hbox hg;have hnb6 := NB332_333.out;have hnc6 := NB333_332.out;have hcz7_0 : w5.cell? ⟨gb332, 0, none⟩ = some (.string a0_0) := (blk_cell BK332.out 0).trans rfl;have hcz7_1 : w5.cell? ⟨gb332, 1, none⟩ = some (.int .i64 a0_1) := (blk_cell BK332.out 1).trans rfl;have hfz7_0 := blk_frozen BK332.out 0;have hfz7_1 := blk_frozen BK332.out 1))
  go_loopg [6, 7] k (fun kq v6 v7 w' => ∃ (x6_1 : Int) (x7_1 : Int) (x334000_1 : ByteArray) (x334001_1 : Int), v6 = .int .u64 x6_1 ∧ v7 = .int .i64 x7_1 ∧ Aside0 (keywayref03_R_Num.l0 kq a1 x6_1 x7_1 a0_0 a0_1 = some (r1, r2, r3)) ∧ Aside0 (kq ≤ k) ∧ Aside0 (w'.heap[gb332]? = some (.cells #[.string a0_0, .int .i64 a0_1] 68 (0, 0))) ∧ Aside0 (w'.heap[gb333]? = some (.cells #[.string x334000_1, .int .i64 x334001_1] 68 (0, 0))) ∧ Aside0 (Below w.heap.size w w'))
  case atStart => exact ⟨(0), (0), ((⟨#[]⟩ : ByteArray)), (0), (by first | rfl | (simp; done) | (simp [*]; done)), (by first | rfl | (simp; done) | (simp [*]; done)), H', ⟨Nat.le_refl _⟩, ⟨by (with_reducible repeat first | apply bN | apply bD | apply bA); exact BK332.out⟩, ⟨by (with_reducible repeat first | apply bN | apply bD | apply bA); exact BK333.out⟩, ⟨by repeat (first | (with_reducible first | exact HB.out | apply lA | apply lN | apply lD | refine below_set ?_ GE332.out | refine below_set ?_ GE333.out) | exact HB.out)⟩⟩
  case round =>
   clear H'
   try clear p2
   try clear c3
   try clear c3b0
   try clear c3b1
   try clear c4
   try clear c6
   try clear hcz7_0
   try clear hcz7_1
   try clear hfz7_0
   try clear hfz7_1
   obtain ⟨x6_1, x7_1, x334000_1, x334001_1, rfl, rfl, HA, HK1, BK332, BK333, HB⟩ := hrel
   cases gk with
   | zero => exact absurd HA.out (by simp [keywayref03_R_Num.l0])
   | succ k1 =>
    have H := HA.out
    clear HA
    simp only [keywayref03_R_Num.l0] at H
    by_cases c8 : x7_1 < 10
    ·rw [if_pos c8] at H
     have c8b0 : decide (x7_1 < 10) = true := decide_eq_true c8
     clear c8
     by_cases c9 : x7_1 ≥ (a0_0.size : Int)
     ·rw [if_pos c9] at H
      have c9b0 : decide ((a0_0.size : Int) ≤ x7_1) = true := decide_eq_true c9
      clear c9
      replace H := Option.bind_eq_some_iff.mp H
      obtain ⟨⟨t336, t337⟩, A100, H⟩ := H
      replace H : (some (t336, t337, 0)) = some (r1, r2, r3) := H
      have A10 := Aside0.mk A100
      clear A100
      simp only [Option.some.injEq, Prod.mk.injEq] at H
      obtain ⟨rfl, rfl, rfl⟩ := H
      have hnb11 := NB332_333.out
      have hnc11 := NB333_332.out
      have hcz12_0 : wr.cell? ⟨gb332, 0, none⟩ = some (.string a0_0) := (blk_cell BK332.out 0).trans rfl
      have hcz12_1 : wr.cell? ⟨gb332, 1, none⟩ = some (.int .i64 a0_1) := (blk_cell BK332.out 1).trans rfl
      have hfz12_0 := blk_frozen BK332.out 0
      have hfz12_1 := blk_frozen BK332.out 1
      go_wp2_with (first | ((with_reducible refine gate_callee (f := 52) rfl ?_);refine goesL_ (some 23) rfl rfl Try.func52 (by kernel_rfl) rfl #[.agg #[.string a0_0, .int .i64 a0_1], .int .i64 2] rfl (by (try simp only [List.map_toArray, List.map_cons, List.map_nil]);first | done | rfl) ?_;(with_reducible refine (keywayref03_R_fail.calls a0_0 a0_1 2 t336 t337 _ A10.out).mono ?_);rintro e w13 ⟨rfl, hb⟩;refine ⟨_, rfl, ?_⟩;have n0_ := Aside0.mk (blk_below (g := gb332) (o := .cells #[.string a0_0, .int .i64 a0_1] 68 (0, 0)) (by (with_reducible repeat first | apply bN | apply bD | apply bA);exact BK332.out) hb);have n1_ := Aside0.mk (blk_below (g := gb333) (o := .cells #[.string x334000_1, .int .i64 x334001_1] 68 (0, 0)) (by (with_reducible repeat first | apply bN | apply bD | apply bA);exact BK333.out) hb);have n2_ := Aside0.mk (below_step (by repeat (first | (with_reducible first | exact HB.out | apply lA | apply lN | apply lD | refine below_set ?_ GE332.out | refine below_set ?_ GE333.out) | exact HB.out)) hb);clear BK332;clear BK333;clear HB;have BK332 := n0_;have BK333 := n1_;have HB := n2_;clear n0_ n1_ n2_;(try clear hb);(try clear hb2);(try clear hk);(try clear hi);have hcz14_0 : w13.cell? ⟨gb333, 0, none⟩ = some (.string x334000_1) := (blk_cell BK333.out 0).trans rfl;have hcz14_1 : w13.cell? ⟨gb333, 1, none⟩ = some (.int .i64 x334001_1) := (blk_cell BK333.out 1).trans rfl;have hfz14_0 := blk_frozen BK333.out 0;have hfz14_1 := blk_frozen BK333.out 1))
      refine bodyPost_ret (results_ct rfl _ _ gb333 68 #[.string t336, .int .i64 t337] (0, 0) _ rfl (by (with_reducible repeat first | apply bN | apply bD | apply bA); refine blk_put (cs := #[.string t336, .int .i64 x334001_1]) ?_ 1 _ rfl; (with_reducible repeat first | apply bN | apply bD | apply bA); refine blk_put (cs := #[.string x334000_1, .int .i64 x334001_1]) ?_ 0 _ rfl; (with_reducible repeat first | apply bN | apply bD | apply bA); exact BK333.out) Try.underlying68 rfl (by kernel_rfl)) rfl ?_
      exact ⟨by first | rfl | (simp <;> rfl) | (simp [*] <;> rfl), by repeat (first | (with_reducible first | exact HB.out | apply lA | apply lN | apply lD | refine below_set ?_ GE332.out | refine below_set ?_ GE333.out) | exact HB.out)⟩
     ·rw [if_neg c9] at H
      have c9b0 : decide ((a0_0.size : Int) ≤ x7_1) = false := decide_eq_false c9
      clear c9
      by_cases c15 : 0 ≤ x7_1
      ·rw [if_pos c15] at H
       have c15b0 : decide (0 ≤ x7_1) = true := decide_eq_true c15
       clear c15
       by_cases c16 : x7_1 < (a0_0.size : Int)
       ·rw [if_pos c16] at H
        have c16b0 : decide (x7_1 < (a0_0.size : Int)) = true := decide_eq_true c16
        clear c16
        have HC18 := Aside0.mk H
        clear H
        have hnb19 := NB332_333.out
        have hnc19 := NB333_332.out
        have hcz20_0 : wr.cell? ⟨gb332, 0, none⟩ = some (.string a0_0) := (blk_cell BK332.out 0).trans rfl
        have hcz20_1 : wr.cell? ⟨gb332, 1, none⟩ = some (.int .i64 a0_1) := (blk_cell BK332.out 1).trans rfl
        have hfz20_0 := blk_frozen BK332.out 0
        have hfz20_1 := blk_frozen BK332.out 1
        have p17 : 0 ≤ (x7_1 : Int) := of_decide_eq_true (by first | (with_reducible assumption) | assumption)
        have q17 : x7_1 < (a0_0.size : Int) := of_decide_eq_true (by first | (with_reducible assumption) | assumption)
        have hx17 := bt_at a0_0 x7_1
        replace p17 := eq_true p17
        replace q17 := eq_true q17
        go_upto_region 10 with (fail)
        go_cut [42] (fun v42 wc => ∃ (kq : Nat) (x42_17 : Bool), v42 = .bool x42_17 ∧ Aside0 (keywayref03_R_Num.j1 kq a1 x6_1 x7_1 (IntKind.u64.wrap (bt a0_0 x7_1)) x42_17 a0_0 a0_1 = some (r1, r2, r3)) ∧ Aside0 (kq ≤ k1) ∧ Aside0 (wc.heap[gb332]? = some (.cells #[.string a0_0, .int .i64 a0_1] 68 (0, 0))) ∧ Aside0 (wc.heap[gb333]? = some (.cells #[.string x334000_1, .int .i64 x334001_1] 68 (0, 0))) ∧ Aside0 (Below w.heap.size w wc))
        case first =>
         have H := HC18.out
         clear HC18
         by_cases c21 : x7_1 = 9
         ·rw [if_pos c21] at H
          have c21b0 : (x7_1 == 9) = true := beq_iff_eq.mpr c21
          have c21b1 : (x7_1 != 9) = false := bne_eq_false_iff_eq.mpr c21
          clear c21
          (first | rw [c21b0] | (simp only [i64_w, i32_w]; rw [c21b0]) | skip)
          by_cases c22 : (IntKind.u64.wrap (bt a0_0 x7_1)) > 1
          ·rw [if_pos c22] at H
           have c22b0 : decide (1 < (IntKind.u64.wrap (bt a0_0 x7_1))) = true := decide_eq_true c22
           clear c22
           have H' := Aside0.mk H
           clear H
           go_wp2
           go_meet
           case rel => exact ⟨_, (true), (by first | rfl | (simp; done) | (simp [*]; done)), H', ⟨by have := HK1.out; first | omega | exact Nat.le_refl _⟩, ⟨by (with_reducible repeat first | apply bN | apply bD | apply bA); exact BK332.out⟩, ⟨by (with_reducible repeat first | apply bN | apply bD | apply bA); exact BK333.out⟩, ⟨by repeat (first | (with_reducible first | exact HB.out | apply lA | apply lN | apply lD | refine below_set ?_ GE332.out | refine below_set ?_ GE333.out) | exact HB.out)⟩⟩
          ·rw [if_neg c22] at H
           have c22b0 : decide (1 < (IntKind.u64.wrap (bt a0_0 x7_1))) = false := decide_eq_false c22
           clear c22
           by_cases c23 : x7_1 > 0
           ·rw [if_pos c23] at H
            have c23b0 : decide (0 < x7_1) = true := decide_eq_true c23
            clear c23
            have H' := Aside0.mk H
            clear H
            go_wp2
            go_meet
            case rel => exact ⟨_, (((IntKind.u64.wrap (bt a0_0 x7_1)) == 0)), (by first | rfl | (simp; done) | (simp [*]; done)), H', ⟨by have := HK1.out; first | omega | exact Nat.le_refl _⟩, ⟨by (with_reducible repeat first | apply bN | apply bD | apply bA); exact BK332.out⟩, ⟨by (with_reducible repeat first | apply bN | apply bD | apply bA); exact BK333.out⟩, ⟨by repeat (first | (with_reducible first | exact HB.out | apply lA | apply lN | apply lD | refine below_set ?_ GE332.out | refine below_set ?_ GE333.out) | exact HB.out)⟩⟩
           ·rw [if_neg c23] at H
            have c23b0 : decide (0 < x7_1) = false := decide_eq_false c23
            clear c23
            have H' := Aside0.mk H
            clear H
            go_wp2
            go_meet
            case rel => exact ⟨_, (false), (by first | rfl | (simp; done) | (simp [*]; done)), H', ⟨by have := HK1.out; first | omega | exact Nat.le_refl _⟩, ⟨by (with_reducible repeat first | apply bN | apply bD | apply bA); exact BK332.out⟩, ⟨by (with_reducible repeat first | apply bN | apply bD | apply bA); exact BK333.out⟩, ⟨by repeat (first | (with_reducible first | exact HB.out | apply lA | apply lN | apply lD | refine below_set ?_ GE332.out | refine below_set ?_ GE333.out) | exact HB.out)⟩⟩
         ·rw [if_neg c21] at H
          have c21b0 : (x7_1 == 9) = false := beq_eq_false_iff_ne.mpr c21
          have c21b1 : (x7_1 != 9) = true := bne_iff_ne.mpr c21
          (first | rw [c21b0] | (simp only [i64_w, i32_w]; rw [c21b0]) | skip)
          by_cases c24 : x7_1 > 0
          ·rw [if_pos c24] at H
           have c24b0 : decide (0 < x7_1) = true := decide_eq_true c24
           clear c24
           have H' := Aside0.mk H
           clear H
           go_wp2
           go_meet
           case rel => exact ⟨_, (((IntKind.u64.wrap (bt a0_0 x7_1)) == 0)), (by first | rfl | (simp; done) | (simp [*]; done)), H', ⟨by have := HK1.out; first | omega | exact Nat.le_refl _⟩, ⟨by (with_reducible repeat first | apply bN | apply bD | apply bA); exact BK332.out⟩, ⟨by (with_reducible repeat first | apply bN | apply bD | apply bA); exact BK333.out⟩, ⟨by repeat (first | (with_reducible first | exact HB.out | apply lA | apply lN | apply lD | refine below_set ?_ GE332.out | refine below_set ?_ GE333.out) | exact HB.out)⟩⟩
          ·rw [if_neg c24] at H
           have c24b0 : decide (0 < x7_1) = false := decide_eq_false c24
           clear c24
           have H' := Aside0.mk H
           clear H
           go_wp2
           go_meet
           case rel => exact ⟨_, (false), (by first | rfl | (simp; done) | (simp [*]; done)), H', ⟨by have := HK1.out; first | omega | exact Nat.le_refl _⟩, ⟨by (with_reducible repeat first | apply bN | apply bD | apply bA); exact BK332.out⟩, ⟨by (with_reducible repeat first | apply bN | apply bD | apply bA); exact BK333.out⟩, ⟨by repeat (first | (with_reducible first | exact HB.out | apply lA | apply lN | apply lD | refine below_set ?_ GE332.out | refine below_set ?_ GE333.out) | exact HB.out)⟩⟩
        case rest =>
         clear HC18
         try clear c1
         try clear p1
         try clear q1
         try clear hx1
         try clear c2
         try clear p2
         try clear c3
         try clear c3b0
         try clear c3b1
         try clear c4
         try clear c5
         try clear c6
         try clear c8
         try clear c8b0
         try clear c9
         try clear c9b0
         try clear c11
         try clear c15
         try clear c15b0
         try clear c16
         try clear c16b0
         try clear p17
         try clear q17
         try clear hx17
         try clear c19
         try clear c21
         try clear c21b0
         try clear c21b1
         try clear c22
         try clear c22b0
         try clear c23
         try clear c23b0
         try clear c24
         try clear c24b0
         try clear hcz12_0
         try clear hcz12_1
         try clear hcz14_0
         try clear hcz14_1
         try clear hcz20_0
         try clear hcz20_1
         try clear hcz7_0
         try clear hcz7_1
         try clear hfz12_0
         try clear hfz12_1
         try clear hfz14_0
         try clear hfz14_1
         try clear hfz20_0
         try clear hfz20_1
         try clear hfz7_0
         try clear hfz7_1
         try clear p17
         try clear p2
         try clear q17
         obtain ⟨kq, x42_17, rfl, HA, HJ17, BK332, BK333, HB⟩ := hcut
         cases kq with
         | zero => exact absurd HA.out (by simp [keywayref03_R_Num.j1])
         | succ kj17 =>
          have H := HA.out
          clear HA
          simp only [keywayref03_R_Num.j1] at H
          by_cases c25 : x42_17 = true
          ·subst c25
           have H1 : ((keywayref03_R_fail.f a0_0 a0_1 3).bind fun bt338 => (some (bt338.1, bt338.2, 0))) = some (r1, r2, r3) := by rw [if_pos rfl] at H;exact H
           clear H
           have H := H1
           clear H1
           replace H := Option.bind_eq_some_iff.mp H
           obtain ⟨⟨t338, t339⟩, A260, H⟩ := H
           replace H : (some (t338, t339, 0)) = some (r1, r2, r3) := H
           have A26 := Aside0.mk A260
           clear A260
           simp only [Option.some.injEq, Prod.mk.injEq] at H
           obtain ⟨rfl, rfl, rfl⟩ := H
           have hnb27 := NB332_333.out
           have hnc27 := NB333_332.out
           have hcz28_0 : wc.cell? ⟨gb332, 0, none⟩ = some (.string a0_0) := (blk_cell BK332.out 0).trans rfl
           have hcz28_1 : wc.cell? ⟨gb332, 1, none⟩ = some (.int .i64 a0_1) := (blk_cell BK332.out 1).trans rfl
           have hfz28_0 := blk_frozen BK332.out 0
           have hfz28_1 := blk_frozen BK332.out 1
           go_wp2_with (first | ((with_reducible refine gate_callee (f := 52) rfl ?_);refine goesL_ (some 44) rfl rfl Try.func52 (by kernel_rfl) rfl #[.agg #[.string a0_0, .int .i64 a0_1], .int .i64 3] rfl (by (try simp only [List.map_toArray, List.map_cons, List.map_nil]);first | done | rfl) ?_;(with_reducible refine (keywayref03_R_fail.calls a0_0 a0_1 3 t338 t339 _ A26.out).mono ?_);rintro e w29 ⟨rfl, hb⟩;refine ⟨_, rfl, ?_⟩;have n0_ := Aside0.mk (blk_below (g := gb332) (o := .cells #[.string a0_0, .int .i64 a0_1] 68 (0, 0)) (by (with_reducible repeat first | apply bN | apply bD | apply bA);exact BK332.out) hb);have n1_ := Aside0.mk (blk_below (g := gb333) (o := .cells #[.string x334000_1, .int .i64 x334001_1] 68 (0, 0)) (by (with_reducible repeat first | apply bN | apply bD | apply bA);exact BK333.out) hb);have n2_ := Aside0.mk (below_step (by repeat (first | (with_reducible first | exact HB.out | apply lA | apply lN | apply lD | refine below_set ?_ GE332.out | refine below_set ?_ GE333.out) | exact HB.out)) hb);clear BK332;clear BK333;clear HB;have BK332 := n0_;have BK333 := n1_;have HB := n2_;clear n0_ n1_ n2_;(try clear hb);(try clear hb2);(try clear hk);(try clear hi);have hcz30_0 : w29.cell? ⟨gb333, 0, none⟩ = some (.string x334000_1) := (blk_cell BK333.out 0).trans rfl;have hcz30_1 : w29.cell? ⟨gb333, 1, none⟩ = some (.int .i64 x334001_1) := (blk_cell BK333.out 1).trans rfl;have hfz30_0 := blk_frozen BK333.out 0;have hfz30_1 := blk_frozen BK333.out 1))
           refine bodyPost_ret (results_ct rfl _ _ gb333 68 #[.string t338, .int .i64 t339] (0, 0) _ rfl (by (with_reducible repeat first | apply bN | apply bD | apply bA); refine blk_put (cs := #[.string t338, .int .i64 x334001_1]) ?_ 1 _ rfl; (with_reducible repeat first | apply bN | apply bD | apply bA); refine blk_put (cs := #[.string x334000_1, .int .i64 x334001_1]) ?_ 0 _ rfl; (with_reducible repeat first | apply bN | apply bD | apply bA); exact BK333.out) Try.underlying68 rfl (by kernel_rfl)) rfl ?_
           exact ⟨by first | rfl | (simp <;> rfl) | (simp [*] <;> rfl), by repeat (first | (with_reducible first | exact HB.out | apply lA | apply lN | apply lD | refine below_set ?_ GE332.out | refine below_set ?_ GE333.out) | exact HB.out)⟩
          ·replace c25 := Bool.eq_false_iff.mpr c25
           subst c25
           have H1 : (if 0 ≤ (IntKind.u64.wrap (wrap64 (7 * x7_1))) then (if (IntKind.u64.wrap (bt a0_0 x7_1)) < 128 then (if (IntKind.u64.wrap (x6_1 + (shl .u64 (Int.tmod (IntKind.u64.wrap (bt a0_0 x7_1)) 128) (IntKind.u64.wrap (wrap64 (7 * x7_1)))))) > a1 then ((keywayref03_R_fail.f a0_0 a0_1 4).bind fun bt340 => (some (bt340.1, bt340.2, 0))) else (if 0 ≤ (wrap64 (x7_1 + 1)) then (if (wrap64 (x7_1 + 1)) ≤ (a0_0.size : Int) then (some (a0_0.extract ((wrap64 (x7_1 + 1)) : Int).toNat a0_0.size, 0, IntKind.u64.wrap (x6_1 + (shl .u64 (Int.tmod (IntKind.u64.wrap (bt a0_0 x7_1)) 128) (IntKind.u64.wrap (wrap64 (7 * x7_1))))))) else (none)) else (none))) else (keywayref03_R_Num.l0 kj17 a1 (IntKind.u64.wrap (x6_1 + (shl .u64 (Int.tmod (IntKind.u64.wrap (bt a0_0 x7_1)) 128) (IntKind.u64.wrap (wrap64 (7 * x7_1)))))) (wrap64 (x7_1 + 1)) a0_0 a0_1)) else (none)) = some (r1, r2, r3) := by rw [if_neg (show ¬ (false = true) by decide)] at H;exact H
           clear H
           have H := H1
           clear H1
           obtain ⟨ji31, hji31⟩ : ∃ j_ : Int, (IntKind.u64.wrap (wrap64 (7 * x7_1))) = j_ := ⟨_, rfl⟩
           replace H : (if 0 ≤ (ji31) then (if (IntKind.u64.wrap (bt a0_0 x7_1)) < 128 then (if (IntKind.u64.wrap (x6_1 + (shl .u64 (Int.tmod (IntKind.u64.wrap (bt a0_0 x7_1)) 128) (ji31)))) > a1 then ((keywayref03_R_fail.f a0_0 a0_1 4).bind fun bt340 => (some (bt340.1, bt340.2, 0))) else (if 0 ≤ (wrap64 (x7_1 + 1)) then (if (wrap64 (x7_1 + 1)) ≤ (a0_0.size : Int) then (some (a0_0.extract ((wrap64 (x7_1 + 1)) : Int).toNat a0_0.size, 0, IntKind.u64.wrap (x6_1 + (shl .u64 (Int.tmod (IntKind.u64.wrap (bt a0_0 x7_1)) 128) (ji31))))) else (none)) else (none))) else (keywayref03_R_Num.l0 kj17 a1 (IntKind.u64.wrap (x6_1 + (shl .u64 (Int.tmod (IntKind.u64.wrap (bt a0_0 x7_1)) 128) (ji31)))) (wrap64 (x7_1 + 1)) a0_0 a0_1)) else (none)) = some (r1, r2, r3) := by first | (rw [hji31] at H; exact H) | (simp only [hji31] at H ⊢; exact H)
           by_cases c32 : 0 ≤ (ji31)
           ·rw [if_pos c32] at H
            have c32b0 := eq_true c32
            have c32b1 : decide (0 ≤ (ji31)) = true := decide_eq_true c32
            clear c32
            obtain ⟨ji33, hji33⟩ : ∃ j_ : Int, (shl .u64 (Int.tmod (IntKind.u64.wrap (bt a0_0 x7_1)) 128) (ji31)) = j_ := ⟨_, rfl⟩
            replace H : (if (IntKind.u64.wrap (bt a0_0 x7_1)) < 128 then (if (IntKind.u64.wrap (x6_1 + (ji33))) > a1 then ((keywayref03_R_fail.f a0_0 a0_1 4).bind fun bt340 => (some (bt340.1, bt340.2, 0))) else (if 0 ≤ (wrap64 (x7_1 + 1)) then (if (wrap64 (x7_1 + 1)) ≤ (a0_0.size : Int) then (some (a0_0.extract ((wrap64 (x7_1 + 1)) : Int).toNat a0_0.size, 0, IntKind.u64.wrap (x6_1 + (ji33)))) else (none)) else (none))) else (keywayref03_R_Num.l0 kj17 a1 (IntKind.u64.wrap (x6_1 + (ji33))) (wrap64 (x7_1 + 1)) a0_0 a0_1)) = some (r1, r2, r3) := by first | (rw [hji33] at H; exact H) | (simp only [hji33] at H ⊢; exact H)
            have hji33_ : (IntKind.u64.wrap ((Int.tmod (IntKind.u64.wrap (bt a0_0 x7_1)) 128) * 2 ^ min (ji31).toNat 64)) = ji33 := hji33
            have hji33z : (ji31) ≤ 64 → (IntKind.u64.wrap ((Int.tmod (IntKind.u64.wrap (bt a0_0 x7_1)) 128) * 2 ^ (ji31).toNat)) = ji33 := shl_small hji33
            by_cases c34 : (IntKind.u64.wrap (bt a0_0 x7_1)) < 128
            ·rw [if_pos c34] at H
             have c34b0 : decide ((IntKind.u64.wrap (bt a0_0 x7_1)) < 128) = true := decide_eq_true c34
             clear c34
             by_cases c35 : (IntKind.u64.wrap (x6_1 + (ji33))) > a1
             ·rw [if_pos c35] at H
              have c35b0 : decide (a1 < (IntKind.u64.wrap (x6_1 + (ji33)))) = true := decide_eq_true c35
              clear c35
              replace H := Option.bind_eq_some_iff.mp H
              obtain ⟨⟨t340, t341⟩, A360, H⟩ := H
              replace H : (some (t340, t341, 0)) = some (r1, r2, r3) := H
              have A36 := Aside0.mk A360
              clear A360
              simp only [Option.some.injEq, Prod.mk.injEq] at H
              obtain ⟨rfl, rfl, rfl⟩ := H
              have hnb37 := NB332_333.out
              have hnc37 := NB333_332.out
              have hcz38_0 : wc.cell? ⟨gb332, 0, none⟩ = some (.string a0_0) := (blk_cell BK332.out 0).trans rfl
              have hcz38_1 : wc.cell? ⟨gb332, 1, none⟩ = some (.int .i64 a0_1) := (blk_cell BK332.out 1).trans rfl
              have hfz38_0 := blk_frozen BK332.out 0
              have hfz38_1 := blk_frozen BK332.out 1
              go_wp2_with (first | ((with_reducible refine gate_callee (f := 52) rfl ?_);refine goesL_ (some 59) rfl rfl Try.func52 (by kernel_rfl) rfl #[.agg #[.string a0_0, .int .i64 a0_1], .int .i64 4] rfl (by (try simp only [List.map_toArray, List.map_cons, List.map_nil]);first | done | rfl) ?_;(with_reducible refine (keywayref03_R_fail.calls a0_0 a0_1 4 t340 t341 _ A36.out).mono ?_);rintro e w39 ⟨rfl, hb⟩;refine ⟨_, rfl, ?_⟩;have n0_ := Aside0.mk (blk_below (g := gb332) (o := .cells #[.string a0_0, .int .i64 a0_1] 68 (0, 0)) (by (with_reducible repeat first | apply bN | apply bD | apply bA);exact BK332.out) hb);have n1_ := Aside0.mk (blk_below (g := gb333) (o := .cells #[.string x334000_1, .int .i64 x334001_1] 68 (0, 0)) (by (with_reducible repeat first | apply bN | apply bD | apply bA);exact BK333.out) hb);have n2_ := Aside0.mk (below_step (by repeat (first | (with_reducible first | exact HB.out | apply lA | apply lN | apply lD | refine below_set ?_ GE332.out | refine below_set ?_ GE333.out) | exact HB.out)) hb);clear BK332;clear BK333;clear HB;have BK332 := n0_;have BK333 := n1_;have HB := n2_;clear n0_ n1_ n2_;(try clear hb);(try clear hb2);(try clear hk);(try clear hi);have hcz40_0 : w39.cell? ⟨gb333, 0, none⟩ = some (.string x334000_1) := (blk_cell BK333.out 0).trans rfl;have hcz40_1 : w39.cell? ⟨gb333, 1, none⟩ = some (.int .i64 x334001_1) := (blk_cell BK333.out 1).trans rfl;have hfz40_0 := blk_frozen BK333.out 0;have hfz40_1 := blk_frozen BK333.out 1))
              refine bodyPost_ret (results_ct rfl _ _ gb333 68 #[.string t340, .int .i64 t341] (0, 0) _ rfl (by (with_reducible repeat first | apply bN | apply bD | apply bA); refine blk_put (cs := #[.string t340, .int .i64 x334001_1]) ?_ 1 _ rfl; (with_reducible repeat first | apply bN | apply bD | apply bA); refine blk_put (cs := #[.string x334000_1, .int .i64 x334001_1]) ?_ 0 _ rfl; (with_reducible repeat first | apply bN | apply bD | apply bA); exact BK333.out) Try.underlying68 rfl (by kernel_rfl)) rfl ?_
              exact ⟨by first | rfl | (simp [errW_none, errW_some] <;> rfl) | (simp only [← hji31, ← hji33]; first | rfl | (simp [errW_none, errW_some] <;> rfl)) | (simp [*, errW_none, errW_some] <;> rfl), by repeat (first | (with_reducible first | exact HB.out | apply lA | apply lN | apply lD | refine below_set ?_ GE332.out | refine below_set ?_ GE333.out) | exact HB.out)⟩
             ·rw [if_neg c35] at H
              have c35b0 : decide (a1 < (IntKind.u64.wrap (x6_1 + (ji33)))) = false := decide_eq_false c35
              clear c35
              obtain ⟨ji41, hji41⟩ : ∃ j_ : Int, (wrap64 (x7_1 + 1)) = j_ := ⟨_, rfl⟩
              replace H : (if 0 ≤ (ji41) then (if (ji41) ≤ (a0_0.size : Int) then (some (a0_0.extract ((ji41) : Int).toNat a0_0.size, 0, IntKind.u64.wrap (x6_1 + (ji33)))) else (none)) else (none)) = some (r1, r2, r3) := by first | (rw [hji41] at H; exact H) | (simp only [hji41] at H ⊢; exact H)
              have hji41w : (IntKind.i64.wrap (x7_1 + 1)) = ji41 := (i64_w _).trans hji41
              by_cases c42 : 0 ≤ (ji41)
              ·rw [if_pos c42] at H
               have c42b0 := eq_true c42
               have c42b1 : decide (0 ≤ (ji41)) = true := decide_eq_true c42
               clear c42
               by_cases c43 : (ji41) ≤ (a0_0.size : Int)
               ·rw [if_pos c43] at H
                have c43b0 := eq_true c43
                have c43b1 : decide ((ji41) ≤ (a0_0.size : Int)) = true := decide_eq_true c43
                clear c43
                simp only [Option.some.injEq, Prod.mk.injEq] at H
                obtain ⟨rfl, rfl, rfl⟩ := H
                have hnb44 := NB332_333.out
                have hnc44 := NB333_332.out
                have hcz45_0 : wc.cell? ⟨gb332, 0, none⟩ = some (.string a0_0) := (blk_cell BK332.out 0).trans rfl
                have hcz45_1 : wc.cell? ⟨gb332, 1, none⟩ = some (.int .i64 a0_1) := (blk_cell BK332.out 1).trans rfl
                have hfz45_0 := blk_frozen BK332.out 0
                have hfz45_1 := blk_frozen BK332.out 1
                have hcz46_0 : wc.cell? ⟨gb333, 0, none⟩ = some (.string x334000_1) := (blk_cell BK333.out 0).trans rfl
                have hcz46_1 : wc.cell? ⟨gb333, 1, none⟩ = some (.int .i64 x334001_1) := (blk_cell BK333.out 1).trans rfl
                have hfz46_0 := blk_frozen BK333.out 0
                have hfz46_1 := blk_frozen BK333.out 1
                go_wp2
                refine bodyPost_ret (results_ct rfl _ _ gb333 68 #[.string (a0_0.extract ((ji41) : Int).toNat a0_0.size), .int .i64 0] (0, 0) _ rfl (by (with_reducible repeat first | apply bN | apply bD | apply bA); refine blk_put (cs := #[.string (a0_0.extract ((ji41) : Int).toNat a0_0.size), .int .i64 x334001_1]) ?_ 1 _ rfl; (with_reducible repeat first | apply bN | apply bD | apply bA); refine blk_put (cs := #[.string x334000_1, .int .i64 x334001_1]) ?_ 0 _ rfl; (with_reducible repeat first | apply bN | apply bD | apply bA); exact BK333.out) Try.underlying68 rfl (by kernel_rfl)) rfl ?_
                exact ⟨by first | rfl | (simp [errW_none, errW_some] <;> rfl) | (simp only [← hji31, ← hji33, ← hji41]; first | rfl | (simp [errW_none, errW_some] <;> rfl)) | (simp [*, errW_none, errW_some] <;> rfl), by repeat (first | (with_reducible first | exact HB.out | apply lA | apply lN | apply lD | refine below_set ?_ GE332.out | refine below_set ?_ GE333.out) | exact HB.out)⟩
               ·rw [if_neg c43] at H
                exact absurd H (by simp)
              ·rw [if_neg c42] at H
               exact absurd H (by simp)
            ·rw [if_neg c34] at H
             have c34b0 : decide ((IntKind.u64.wrap (bt a0_0 x7_1)) < 128) = false := decide_eq_false c34
             clear c34
             have H' := Aside0.mk H
             clear H
             go_wp2
             go_roundg kj17
             case measure => have := HK1.out; have := HJ17.out; omega
             case rel => exact ⟨(IntKind.u64.wrap (x6_1 + (ji33))), (wrap64 (x7_1 + 1)), (x334000_1), (x334001_1), (by first | rfl | (simp; done) | (simp only [← hji33] <;> (first | rfl | simp)) | (simp [*]; done)), (by first | rfl | (simp; done) | (simp [*]; done)), H', ⟨by have := HK1.out; have := HJ17.out; omega⟩, ⟨by (with_reducible repeat first | apply bN | apply bD | apply bA); exact BK332.out⟩, ⟨by (with_reducible repeat first | apply bN | apply bD | apply bA); exact BK333.out⟩, ⟨by repeat (first | (with_reducible first | exact HB.out | apply lA | apply lN | apply lD | refine below_set ?_ GE332.out | refine below_set ?_ GE333.out) | exact HB.out)⟩⟩
           ·rw [if_neg c32] at H
            exact absurd H (by simp)
       ·rw [if_neg c16] at H
        exact absurd H (by simp)
      ·rw [if_neg c15] at H
       exact absurd H (by simp)
    ·rw [if_neg c8] at H
     have c8b0 : decide (x7_1 < 10) = false := decide_eq_false c8
     clear c8
     replace H := Option.bind_eq_some_iff.mp H
     obtain ⟨⟨t334, t335⟩, A470, H⟩ := H
     replace H : (some (t334, t335, 0)) = some (r1, r2, r3) := H
     have A47 := Aside0.mk A470
     clear A470
     simp only [Option.some.injEq, Prod.mk.injEq] at H
     obtain ⟨rfl, rfl, rfl⟩ := H
     have hnb48 := NB332_333.out
     have hnc48 := NB333_332.out
     have hcz49_0 : wr.cell? ⟨gb332, 0, none⟩ = some (.string a0_0) := (blk_cell BK332.out 0).trans rfl
     have hcz49_1 : wr.cell? ⟨gb332, 1, none⟩ = some (.int .i64 a0_1) := (blk_cell BK332.out 1).trans rfl
     have hfz49_0 := blk_frozen BK332.out 0
     have hfz49_1 := blk_frozen BK332.out 1
     go_wp2_with (first | ((with_reducible refine gate_callee (f := 52) rfl ?_);refine goesL_ (some 68) rfl rfl Try.func52 (by kernel_rfl) rfl #[.agg #[.string a0_0, .int .i64 a0_1], .int .i64 3] rfl (by (try simp only [List.map_toArray, List.map_cons, List.map_nil]);first | done | rfl) ?_;(with_reducible refine (keywayref03_R_fail.calls a0_0 a0_1 3 t334 t335 _ A47.out).mono ?_);rintro e w50 ⟨rfl, hb⟩;refine ⟨_, rfl, ?_⟩;have n0_ := Aside0.mk (blk_below (g := gb332) (o := .cells #[.string a0_0, .int .i64 a0_1] 68 (0, 0)) (by (with_reducible repeat first | apply bN | apply bD | apply bA);exact BK332.out) hb);have n1_ := Aside0.mk (blk_below (g := gb333) (o := .cells #[.string x334000_1, .int .i64 x334001_1] 68 (0, 0)) (by (with_reducible repeat first | apply bN | apply bD | apply bA);exact BK333.out) hb);have n2_ := Aside0.mk (below_step (by repeat (first | (with_reducible first | exact HB.out | apply lA | apply lN | apply lD | refine below_set ?_ GE332.out | refine below_set ?_ GE333.out) | exact HB.out)) hb);clear BK332;clear BK333;clear HB;have BK332 := n0_;have BK333 := n1_;have HB := n2_;clear n0_ n1_ n2_;(try clear hb);(try clear hb2);(try clear hk);(try clear hi);have hcz51_0 : w50.cell? ⟨gb333, 0, none⟩ = some (.string x334000_1) := (blk_cell BK333.out 0).trans rfl;have hcz51_1 : w50.cell? ⟨gb333, 1, none⟩ = some (.int .i64 x334001_1) := (blk_cell BK333.out 1).trans rfl;have hfz51_0 := blk_frozen BK333.out 0;have hfz51_1 := blk_frozen BK333.out 1))
     refine bodyPost_ret (results_ct rfl _ _ gb333 68 #[.string t334, .int .i64 t335] (0, 0) _ rfl (by (with_reducible repeat first | apply bN | apply bD | apply bA); refine blk_put (cs := #[.string t334, .int .i64 x334001_1]) ?_ 1 _ rfl; (with_reducible repeat first | apply bN | apply bD | apply bA); refine blk_put (cs := #[.string x334000_1, .int .i64 x334001_1]) ?_ 0 _ rfl; (with_reducible repeat first | apply bN | apply bD | apply bA); exact BK333.out) Try.underlying68 rfl (by kernel_rfl)) rfl ?_
     exact ⟨by first | rfl | (simp <;> rfl) | (simp [*] <;> rfl), by repeat (first | (with_reducible first | exact HB.out | apply lA | apply lN | apply lD | refine below_set ?_ GE332.out | refine below_set ?_ GE333.out) | exact HB.out)⟩
 ·rw [if_neg c3] at H
  have c3b0 : (a0_1 == 0) = false := beq_eq_false_iff_ne.mpr c3
  have c3b1 : (a0_1 != 0) = true := bne_iff_ne.mpr c3
  simp only [Option.some.injEq, Prod.mk.injEq] at H
  obtain ⟨rfl, rfl, rfl⟩ := H
  go_enter Try.func48, Try.ntmps48
  go_wp2_with (first | ((with_reducible refine gate_dst (N := 2) rfl ?_);refine box_event ?hg (N := 2) ?hd (cs := #[.string a0_0, .int .i64 a0_1]) (t := 68) ?hr ?_;(case hd => rfl);(case hg => rfl);(case hr => first | (go_simp;done) | (go_simp;rfl));intro gb332 hg w52 hbox hb;have n0_ := Aside0.mk (below_step (by repeat (first | (with_reducible first | exact HB.out | apply lA | apply lN | apply lD) | exact HB.out)) hb);have n1_ := Aside0.mk (hbox);have n2_ := Aside0.mk ((by rw [hg];exact (below_size (by repeat (first | (with_reducible first | exact HB.out | apply lA | apply lN | apply lD) | exact HB.out))) : w.heap.size ≤ gb332));have n3_ := Aside0.mk ((by rw [hg];exact (below_size (by repeat (first | (with_reducible first | exact HB.out | apply lA | apply lN | apply lD) | exact HB.out))) : w.heap.size ≤ gb332));clear HB;have HB := n0_;have BK332 := n1_;have GW332 := n2_;have GE332 := n3_;clear n0_ n1_ n2_ n3_;clear hb hbox hg) | ((with_reducible refine gate_dst (N := 4) rfl ?_);refine box_event ?hg (N := 4) ?hd (cs := #[.string (⟨#[]⟩ : ByteArray), .int .i64 0]) (t := 68) ?hr ?_;(case hd => rfl);(case hg => rfl);(case hr => first | (go_simp;done) | (go_simp;rfl));intro gb333 hg w53 hbox hb;have n0_ := Aside0.mk (blk_below (g := gb332) (o := .cells #[.string a0_0, .int .i64 a0_1] 68 (0, 0)) (by (with_reducible repeat first | apply bN | apply bD | apply bA);exact BK332.out) hb);have n1_ := Aside0.mk (below_step (by repeat (first | (with_reducible first | exact HB.out | apply lA | apply lN | apply lD | refine below_set ?_ GE332.out) | exact HB.out)) hb);have n2_ := Aside0.mk (hbox);have n3_ := Aside0.mk ((by rw [hg];exact (below_size (by repeat (first | (with_reducible first | exact HB.out | apply lA | apply lN | apply lD | refine below_set ?_ GE332.out) | exact HB.out))) : w.heap.size ≤ gb333));have n4_ := Aside0.mk ((by rw [hg];exact (below_size (by repeat (first | (with_reducible first | exact HB.out | apply lA | apply lN | apply lD | refine below_set ?_ GE332.out) | exact HB.out))) : w.heap.size ≤ gb333));have n5_ := Aside0.mk ((by rw [hg];exact Nat.ne_of_lt (blk_lt (g := gb332) (o := .cells #[.string a0_0, .int .i64 a0_1] 68 (0, 0)) (by (with_reducible repeat first | apply bN | apply bD | apply bA);exact BK332.out)) : gb332 ≠ gb333));have n6_ := Aside0.mk ((by rw [hg];exact Nat.ne_of_gt (blk_lt (g := gb332) (o := .cells #[.string a0_0, .int .i64 a0_1] 68 (0, 0)) (by (with_reducible repeat first | apply bN | apply bD | apply bA);exact BK332.out)) : gb333 ≠ gb332));clear BK332;clear HB;have BK332 := n0_;have HB := n1_;have BK333 := n2_;have GW333 := n3_;have GE333 := n4_;have NB332_333 := n5_;have NB333_332 := n6_;clear n0_ n1_ n2_ n3_ n4_ n5_ n6_;clear hb hbox hg;have hnb54 := NB332_333.out;have hnc54 := NB333_332.out;have hcz55_0 : w53.cell? ⟨gb332, 0, none⟩ = some (.string a0_0) := (blk_cell BK332.out 0).trans rfl;have hcz55_1 : w53.cell? ⟨gb332, 1, none⟩ = some (.int .i64 a0_1) := (blk_cell BK332.out 1).trans rfl;have hfz55_0 := blk_frozen BK332.out 0;have hfz55_1 := blk_frozen BK332.out 1;have hcz56_0 : w53.cell? ⟨gb333, 0, none⟩ = some (.string (⟨#[]⟩ : ByteArray)) := (blk_cell BK333.out 0).trans rfl;have hcz56_1 : w53.cell? ⟨gb333, 1, none⟩ = some (.int .i64 0) := (blk_cell BK333.out 1).trans rfl;have hfz56_0 := blk_frozen BK333.out 0;have hfz56_1 := blk_frozen BK333.out 1))
  refine bodyPost_ret (results_ct rfl _ _ gb333 68 #[.string a0_0, .int .i64 a0_1] (0, 0) _ rfl (by (with_reducible repeat first | apply bN | apply bD | apply bA); refine blk_put (cs := #[.string a0_0, .int .i64 0]) ?_ 1 _ rfl; (with_reducible repeat first | apply bN | apply bD | apply bA); refine blk_put (cs := #[.string (⟨#[]⟩ : ByteArray), .int .i64 0]) ?_ 0 _ rfl; (with_reducible repeat first | apply bN | apply bD | apply bA); exact BK333.out) Try.underlying68 rfl (by kernel_rfl)) rfl ?_
  exact ⟨by first | rfl | (simp <;> rfl) | (simp [*] <;> rfl), by repeat (first | (with_reducible first | exact HB.out | apply lA | apply lN | apply lD | refine below_set ?_ GE332.out | refine below_set ?_ GE333.out) | exact HB.out)⟩

/-! ### keywayref03_R_End: function 49 -/
def keywayref03_R_End.f (a0_0 : ByteArray) (a0_1 : Int) : Option (Int) := if a0_1 = 0 then (if (a0_0.size : Int) > 0 then (some 5) else (some a0_1)) else (some a0_1)
set_option maxHeartbeats 1000000 in
theorem keywayref03_R_End.calls (a0_0 : ByteArray) (a0_1 : Int) (r : Int) (w : World) (h : keywayref03_R_End.f a0_0 a0_1 = some r) :
  Calls Try.prog 49 #[.agg #[.string a0_0, .int .i64 a0_1]] w fun e w' => e = .returned (.int .i64 r) ∧ Below w.heap.size w w' := by
 have H := Aside0.mk h
 clear h
 have hu := Try.underlying68
 go_enter Try.func49, Try.ntmps49
 go_wp2
 all_goals
  go_ret
  have h := H.out
  unfold keywayref03_R_End.f at h
  simp only [beq_iff_eq, beq_eq_false_iff_ne] at *
  repeat (first | rw [if_pos (by omega)] at h | rw [if_neg (by omega)] at h)
  obtain rfl := Option.some.inj h
  exact ⟨by first | rfl | simp [*], (Below.refl _ _).alloc (Nat.le_refl _) _⟩


/-! ### keywaylaw07_get: function 31 -/
def keywaylaw07_get.j0 : Nat → ByteArray → Int → Bool → Int → Int → Int → ByteArray → Option (Int × Int × Bool)
 | 0, _, _, _, _, _, _, _ => none
 | k + 1, x0, x1, x22, x349000, x349001, x349002, x349003 => if x22 = true then (some (0, 0, false)) else ((keywayref03_R_Num.f k x349003 0 16384).bind fun bt349 => ((keywayref03_R_End.f bt349.1 bt349.2.1).bind fun t354 => (if t354 = 0 then ((keywaylaw07_put.f k x349002 (wrap64 ((wrap64 (bt349.2.2)) - 1))).bind fun t355 => (if t355.toList = x0.toList then (if (wrap64 (Int.tmod x349002 2)) = x1 then (some (x349002, wrap64 ((wrap64 (bt349.2.2)) - 1), true)) else (some (0, 0, false))) else (some (0, 0, false)))) else (some (0, 0, false)))))
def keywaylaw07_get.f (k : Nat) (a0 : ByteArray) (a1 : Int) : Option (Int × Int × Bool) := (keywayref05_Get.f k a0).bind fun bt343 => (if bt343.2.2.2.2 = true then (keywaylaw07_get.j0 k a0 a1 (bt343.1 != 1) bt343.1 bt343.2.1 bt343.2.2.1 bt343.2.2.2.1) else (keywaylaw07_get.j0 k a0 a1 true bt343.1 bt343.2.1 bt343.2.2.1 bt343.2.2.2.1))
set_option maxRecDepth 100000 in
theorem keywaylaw07_get.mono_l : ∀ k, (∀ y0 y1 y2 y3 y4 y5 y6, LeO (keywaylaw07_get.j0 k y0 y1 y2 y3 y4 y5 y6) (keywaylaw07_get.j0 (k + 1) y0 y1 y2 y3 y4 y5 y6))
 | 0 => fun _ _ _ _ _ _ _ r h => by first | (cases h; done) | simp [keywaylaw07_get.j0] at h
 | k + 1 => by
  have ih0 := keywaylaw07_get.mono_l k
  ·intro y0 y1 y2 y3 y4 y5 y6
   unfold keywaylaw07_get.j0
   repeat' first
   | (with_reducible exact ih0 _ _ _ _ _ _ _)
   | (with_reducible exact keywaylaw07_put.mono _ _ _)
   | (with_reducible exact keywayref03_R_Num.mono _ _ _ _)
   | (with_reducible exact keywayref05_Get.mono _ _)
   | (with_reducible exact LeO.refl _)
   | (with_reducible exact LeO.none _)
   | (with_reducible refine LeO.ite ?_ ?_)
   | (with_reducible refine LeO.bind ?_ (fun _ => ?_))
   | exact ih0 _ _ _ _ _ _ _
   | exact LeO.none _
   | refine LeO.ite ?_ ?_
   | refine LeO.bind ?_ (fun _ => ?_)
set_option maxRecDepth 100000 in
theorem keywaylaw07_get.mono : ∀ a0 a1 k, LeO (keywaylaw07_get.f k a0 a1) (keywaylaw07_get.f (k + 1) a0 a1) := by
 intro a0 a1 k
 have ih0 := keywaylaw07_get.mono_l k
 unfold keywaylaw07_get.f
 repeat' first
   | (with_reducible exact ih0 _ _ _ _ _ _ _)
   | (with_reducible exact keywaylaw07_put.mono _ _ _)
   | (with_reducible exact keywayref03_R_Num.mono _ _ _ _)
   | (with_reducible exact keywayref05_Get.mono _ _)
   | (with_reducible exact LeO.refl _)
   | (with_reducible exact LeO.none _)
   | (with_reducible refine LeO.ite ?_ ?_)
   | (with_reducible refine LeO.bind ?_ (fun _ => ?_))
   | exact ih0 _ _ _ _ _ _ _
   | exact LeO.none _
   | refine LeO.ite ?_ ?_
   | refine LeO.bind ?_ (fun _ => ?_)
set_option maxHeartbeats 8000000 in
set_option maxRecDepth 100000 in
theorem keywaylaw07_get.calls (k : Nat) (a0 : ByteArray) (a1 : Int) (r1 : Int) (r2 : Int) (r3 : Bool) (w : World) (h : keywaylaw07_get.f k a0 a1 = some (r1, r2, r3)) :
  Calls Try.prog 31 #[.string a0, .int .i64 a1] w fun e w' => e = .returned (.tuple #[.agg #[.int .u64 r1, .int .i64 r2], .bool r3]) ∧ Below w.heap.size w w' := by
 have hu47 := Try.underlying47
 have hu38 := Try.underlying38
 have hu68 := Try.underlying68
 have HB := Aside0.mk (Below.refl w.heap.size w)
 have H : ((keywayref05_Get.f k a0).bind fun bt343 => (if bt343.2.2.2.2 = true then (keywaylaw07_get.j0 k a0 a1 (bt343.1 != 1) bt343.1 bt343.2.1 bt343.2.2.1 bt343.2.2.2.1) else (keywaylaw07_get.j0 k a0 a1 true bt343.1 bt343.2.1 bt343.2.2.1 bt343.2.2.2.1))) = some (r1, r2, r3) := h
 clear h
 replace H := Option.bind_eq_some_iff.mp H
 obtain ⟨⟨t343, t344, t345, t346, t347⟩, A30, H⟩ := H
 replace H : (if t347 = true then (keywaylaw07_get.j0 k a0 a1 (t343 != 1) t343 t344 t345 t346) else (keywaylaw07_get.j0 k a0 a1 true t343 t344 t345 t346)) = some (r1, r2, r3) := H
 have A3 := Aside0.mk A30
 clear A30
 have HC4 := Aside0.mk H
 clear H
 go_enter Try.func31, Try.ntmps31
 go_upto_region 2 with (first | ((with_reducible refine gate_dst (N := 4) rfl ?_);refine box_event ?hg (N := 4) ?hd (cs := #[.int .u64 0, .int .i64 0]) (t := 47) ?hr ?_;(case hd => rfl);(case hg => rfl);(case hr => first | (go_simp;done) | (go_simp;rfl));intro gb342 hg w5 hbox hb;have n0_ := Aside0.mk (below_step (by repeat (first | (with_reducible first | exact HB.out | apply lA | apply lN | apply lD) | exact HB.out)) hb);have n1_ := Aside0.mk (hbox);have n2_ := Aside0.mk ((by rw [hg];exact (below_size (by repeat (first | (with_reducible first | exact HB.out | apply lA | apply lN | apply lD) | exact HB.out))) : w.heap.size ≤ gb342));have n3_ := Aside0.mk ((by rw [hg];exact (below_size (by repeat (first | (with_reducible first | exact HB.out | apply lA | apply lN | apply lD) | exact HB.out))) : w.heap.size ≤ gb342));clear HB;have HB := n0_;have BK342 := n1_;have GW342 := n2_;have GE342 := n3_;clear n0_ n1_ n2_ n3_;clear hb hbox hg) | ((with_reducible refine gate_callee (f := 24) rfl ?_);refine goesL_ (some 13) rfl rfl Try.func24 (by kernel_rfl) rfl #[.string a0] rfl (by (try simp only [List.map_toArray, List.map_cons, List.map_nil]);first | done | rfl) ?_;(with_reducible refine (keywayref05_Get.calls k a0 t343 t344 t345 t346 t347 _ A3.out).mono ?_);rintro e w6 ⟨rfl, hb⟩;refine ⟨_, rfl, ?_⟩;have n0_ := Aside0.mk (blk_below (g := gb342) (o := .cells #[.int .u64 0, .int .i64 0] 47 (0, 0)) (by (with_reducible repeat first | apply bN | apply bD | apply bA);exact BK342.out) hb);have n1_ := Aside0.mk (below_step (by repeat (first | (with_reducible first | exact HB.out | apply lA | apply lN | apply lD | refine below_set ?_ GE342.out) | exact HB.out)) hb);clear BK342;clear HB;have BK342 := n0_;have HB := n1_;clear n0_ n1_;(try clear hb);(try clear hb2);(try clear hk);(try clear hi)) | ((with_reducible refine gate_dst (N := 6) rfl ?_);refine box_event ?hg (N := 6) ?hd (cs := #[.int .i64 0, .int .i64 0, .int .u64 0, .string (⟨#[]⟩ : ByteArray)]) (t := 38) ?hr ?_;(case hd => rfl);(case hg => rfl);(case hr => first | (go_simp;done) | (go_simp;rfl));intro gb348 hg w7 hbox hb;have n0_ := Aside0.mk (blk_below (g := gb342) (o := .cells #[.int .u64 0, .int .i64 0] 47 (0, 0)) (by (with_reducible repeat first | apply bN | apply bD | apply bA);exact BK342.out) hb);have n1_ := Aside0.mk (below_step (by repeat (first | (with_reducible first | exact HB.out | apply lA | apply lN | apply lD | refine below_set ?_ GE342.out) | exact HB.out)) hb);have n2_ := Aside0.mk (hbox);have n3_ := Aside0.mk ((by rw [hg];exact (below_size (by repeat (first | (with_reducible first | exact HB.out | apply lA | apply lN | apply lD | refine below_set ?_ GE342.out) | exact HB.out))) : w.heap.size ≤ gb348));have n4_ := Aside0.mk ((by rw [hg];exact (below_size (by repeat (first | (with_reducible first | exact HB.out | apply lA | apply lN | apply lD | refine below_set ?_ GE342.out) | exact HB.out))) : w.heap.size ≤ gb348));have n5_ := Aside0.mk ((by rw [hg];exact Nat.ne_of_lt (blk_lt (g := gb342) (o := .cells #[.int .u64 0, .int .i64 0] 47 (0, 0)) (by (with_reducible repeat first | apply bN | apply bD | apply bA);exact BK342.out)) : gb342 ≠ gb348));have n6_ := Aside0.mk ((by rw [hg];exact Nat.ne_of_gt (blk_lt (g := gb342) (o := .cells #[.int .u64 0, .int .i64 0] 47 (0, 0)) (by (with_reducible repeat first | apply bN | apply bD | apply bA);exact BK342.out)) : gb348 ≠ gb342));clear BK342;clear HB;have BK342 := n0_;have HB := n1_;have BK348 := n2_;have GW348 := n3_;have GE348 := n4_;have NB342_348 := n5_;have NB348_342 := n6_;clear n0_ n1_ n2_ n3_ n4_ n5_ n6_;clear hb hbox hg;have hnb8 := NB348_342.out;have hnc8 := NB342_348.out;have hcz9_0 : w7.cell? ⟨gb348, 0, none⟩ = some (.int .i64 0) := (blk_cell BK348.out 0).trans rfl;have hcz9_1 : w7.cell? ⟨gb348, 1, none⟩ = some (.int .i64 0) := (blk_cell BK348.out 1).trans rfl;have hcz9_2 : w7.cell? ⟨gb348, 2, none⟩ = some (.int .u64 0) := (blk_cell BK348.out 2).trans rfl;have hcz9_3 : w7.cell? ⟨gb348, 3, none⟩ = some (.string (⟨#[]⟩ : ByteArray)) := (blk_cell BK348.out 3).trans rfl;have hfz9_0 := blk_frozen BK348.out 0;have hfz9_1 := blk_frozen BK348.out 1;have hfz9_2 := blk_frozen BK348.out 2;have hfz9_3 := blk_frozen BK348.out 3))
 (try simp only [Act.put, List.setIfInBounds_toArray, List.set_cons_zero, List.set_cons_succ])
 go_cut [22] (fun v22 wc => ∃ (kq : Nat) (x22_3 : Bool), v22 = .bool x22_3 ∧ Aside0 (keywaylaw07_get.j0 kq a0 a1 x22_3 t343 t344 t345 t346 = some (r1, r2, r3)) ∧ Aside0 (kq ≤ k) ∧ Aside0 (wc.heap[gb342]? = some (.cells #[.int .u64 0, .int .i64 0] 47 (0, 0))) ∧ Aside0 (wc.heap[gb348]? = some (.cells #[.int .i64 t343, .int .i64 t344, .int .u64 t345, .string t346] 38 (0, 0))) ∧ Aside0 (Below w.heap.size w wc))
 case first =>
  have H := HC4.out
  clear HC4
  by_cases c10 : t347 = true
  ·subst c10
   have H1 : (keywaylaw07_get.j0 k a0 a1 (t343 != 1) t343 t344 t345 t346) = some (r1, r2, r3) := by rw [if_pos rfl] at H;exact H
   clear H
   have H := H1
   clear H1
   have H' := Aside0.mk H
   clear H
   have hnb11 := NB348_342.out
   have hnc11 := NB342_348.out
   have hcz12_0 : w7.cell? ⟨gb348, 0, none⟩ = some (.int .i64 0) := (blk_cell BK348.out 0).trans rfl
   have hcz12_1 : w7.cell? ⟨gb348, 1, none⟩ = some (.int .i64 0) := (blk_cell BK348.out 1).trans rfl
   have hcz12_2 : w7.cell? ⟨gb348, 2, none⟩ = some (.int .u64 0) := (blk_cell BK348.out 2).trans rfl
   have hcz12_3 : w7.cell? ⟨gb348, 3, none⟩ = some (.string (⟨#[]⟩ : ByteArray)) := (blk_cell BK348.out 3).trans rfl
   have hfz12_0 := blk_frozen BK348.out 0
   have hfz12_1 := blk_frozen BK348.out 1
   have hfz12_2 := blk_frozen BK348.out 2
   have hfz12_3 := blk_frozen BK348.out 3
   go_wp2
   go_meet
   case rel => exact ⟨_, ((t343 != 1)), (by first | rfl | (simp; done) | (simp [*]; done)), H', ⟨by first | omega | exact Nat.le_refl _⟩, ⟨by (with_reducible repeat first | apply bN | apply bD | apply bA); refine blk_far ?_ NB342_348.out _; (with_reducible repeat first | apply bN | apply bD | apply bA); refine blk_far ?_ NB342_348.out _; (with_reducible repeat first | apply bN | apply bD | apply bA); refine blk_far ?_ NB342_348.out _; (with_reducible repeat first | apply bN | apply bD | apply bA); refine blk_far ?_ NB342_348.out _; (with_reducible repeat first | apply bN | apply bD | apply bA); exact BK342.out⟩, ⟨by (with_reducible repeat first | apply bN | apply bD | apply bA); refine blk_put (cs := #[.int .i64 t343, .int .i64 t344, .int .u64 t345, .string (⟨#[]⟩ : ByteArray)]) ?_ 3 _ rfl; (with_reducible repeat first | apply bN | apply bD | apply bA); refine blk_put (cs := #[.int .i64 t343, .int .i64 t344, .int .u64 0, .string (⟨#[]⟩ : ByteArray)]) ?_ 2 _ rfl; (with_reducible repeat first | apply bN | apply bD | apply bA); refine blk_put (cs := #[.int .i64 t343, .int .i64 0, .int .u64 0, .string (⟨#[]⟩ : ByteArray)]) ?_ 1 _ rfl; (with_reducible repeat first | apply bN | apply bD | apply bA); refine blk_put (cs := #[.int .i64 0, .int .i64 0, .int .u64 0, .string (⟨#[]⟩ : ByteArray)]) ?_ 0 _ rfl; (with_reducible repeat first | apply bN | apply bD | apply bA); exact BK348.out⟩, ⟨by repeat (first | (with_reducible first | exact HB.out | apply lA | apply lN | apply lD | refine below_set ?_ GE342.out | refine below_set ?_ GE348.out) | exact HB.out)⟩⟩
  ·replace c10 := Bool.eq_false_iff.mpr c10
   subst c10
   have H1 : (keywaylaw07_get.j0 k a0 a1 true t343 t344 t345 t346) = some (r1, r2, r3) := by rw [if_neg (show ¬ (false = true) by decide)] at H;exact H
   clear H
   have H := H1
   clear H1
   have H' := Aside0.mk H
   clear H
   go_wp2
   go_meet
   case rel => exact ⟨_, (true), (by first | rfl | (simp; done) | (simp [*]; done)), H', ⟨by first | omega | exact Nat.le_refl _⟩, ⟨by (with_reducible repeat first | apply bN | apply bD | apply bA); refine blk_far ?_ NB342_348.out _; (with_reducible repeat first | apply bN | apply bD | apply bA); refine blk_far ?_ NB342_348.out _; (with_reducible repeat first | apply bN | apply bD | apply bA); refine blk_far ?_ NB342_348.out _; (with_reducible repeat first | apply bN | apply bD | apply bA); refine blk_far ?_ NB342_348.out _; (with_reducible repeat first | apply bN | apply bD | apply bA); exact BK342.out⟩, ⟨by (with_reducible repeat first | apply bN | apply bD | apply bA); refine blk_put (cs := #[.int .i64 t343, .int .i64 t344, .int .u64 t345, .string (⟨#[]⟩ : ByteArray)]) ?_ 3 _ rfl; (with_reducible repeat first | apply bN | apply bD | apply bA); refine blk_put (cs := #[.int .i64 t343, .int .i64 t344, .int .u64 0, .string (⟨#[]⟩ : ByteArray)]) ?_ 2 _ rfl; (with_reducible repeat first | apply bN | apply bD | apply bA); refine blk_put (cs := #[.int .i64 t343, .int .i64 0, .int .u64 0, .string (⟨#[]⟩ : ByteArray)]) ?_ 1 _ rfl; (with_reducible repeat first | apply bN | apply bD | apply bA); refine blk_put (cs := #[.int .i64 0, .int .i64 0, .int .u64 0, .string (⟨#[]⟩ : ByteArray)]) ?_ 0 _ rfl; (with_reducible repeat first | apply bN | apply bD | apply bA); exact BK348.out⟩, ⟨by repeat (first | (with_reducible first | exact HB.out | apply lA | apply lN | apply lD | refine below_set ?_ GE342.out | refine below_set ?_ GE348.out) | exact HB.out)⟩⟩
 case rest =>
  clear HC4
  try clear c1
  try clear c2
  try clear p2
  try clear c3
  try clear c8
  try clear c10
  try clear c11
  try clear hcz12_0
  try clear hcz12_1
  try clear hcz12_2
  try clear hcz12_3
  try clear hcz9_0
  try clear hcz9_1
  try clear hcz9_2
  try clear hcz9_3
  try clear hfz12_0
  try clear hfz12_1
  try clear hfz12_2
  try clear hfz12_3
  try clear hfz9_0
  try clear hfz9_1
  try clear hfz9_2
  try clear hfz9_3
  obtain ⟨kq, x22_3, rfl, HA, HJ3, BK342, BK348, HB⟩ := hcut
  cases kq with
  | zero => exact absurd HA.out (by simp [keywaylaw07_get.j0])
  | succ kj3 =>
   have H := HA.out
   clear HA
   simp only [keywaylaw07_get.j0] at H
   by_cases c13 : x22_3 = true
   ·subst c13
    have H1 : (some (0, 0, false)) = some (r1, r2, r3) := by rw [if_pos rfl] at H;exact H
    clear H
    have H := H1
    clear H1
    simp only [Option.some.injEq, Prod.mk.injEq] at H
    obtain ⟨rfl, rfl, rfl⟩ := H
    have hnb14 := NB342_348.out
    have hnc14 := NB348_342.out
    have hcz15_0 : wc.cell? ⟨gb342, 0, none⟩ = some (.int .u64 0) := (blk_cell BK342.out 0).trans rfl
    have hcz15_1 : wc.cell? ⟨gb342, 1, none⟩ = some (.int .i64 0) := (blk_cell BK342.out 1).trans rfl
    have hfz15_0 := blk_frozen BK342.out 0
    have hfz15_1 := blk_frozen BK342.out 1
    go_wp2
    refine bodyPost_ret (results_ct rfl _ _ gb342 47 #[.int .u64 0, .int .i64 0] (0, 0) _ rfl (by (with_reducible repeat first | apply bN | apply bD | apply bA); refine blk_put (cs := #[.int .u64 0, .int .i64 0]) ?_ 1 _ rfl; (with_reducible repeat first | apply bN | apply bD | apply bA); refine blk_put (cs := #[.int .u64 0, .int .i64 0]) ?_ 0 _ rfl; (with_reducible repeat first | apply bN | apply bD | apply bA); exact BK342.out) Try.underlying47 rfl (by kernel_rfl)) rfl ?_
    exact ⟨by first | rfl | (simp <;> rfl) | (simp [*] <;> rfl), by repeat (first | (with_reducible first | exact HB.out | apply lA | apply lN | apply lD | refine below_set ?_ GE342.out | refine below_set ?_ GE348.out) | exact HB.out)⟩
   ·replace c13 := Bool.eq_false_iff.mpr c13
    subst c13
    have H1 : ((keywayref03_R_Num.f kj3 t346 0 16384).bind fun bt349 => ((keywayref03_R_End.f bt349.1 bt349.2.1).bind fun t354 => (if t354 = 0 then ((keywaylaw07_put.f kj3 t345 (wrap64 ((wrap64 (bt349.2.2)) - 1))).bind fun t355 => (if t355.toList = a0.toList then (if (wrap64 (Int.tmod t345 2)) = a1 then (some (t345, wrap64 ((wrap64 (bt349.2.2)) - 1), true)) else (some (0, 0, false))) else (some (0, 0, false)))) else (some (0, 0, false))))) = some (r1, r2, r3) := by rw [if_neg (show ¬ (false = true) by decide)] at H;exact H
    clear H
    have H := H1
    clear H1
    replace H := Option.bind_eq_some_iff.mp H
    obtain ⟨⟨t349, t350, t351⟩, A160, H⟩ := H
    replace H : ((keywayref03_R_End.f t349 t350).bind fun t354 => (if t354 = 0 then ((keywaylaw07_put.f kj3 t345 (wrap64 ((wrap64 (t351)) - 1))).bind fun t355 => (if t355.toList = a0.toList then (if (wrap64 (Int.tmod t345 2)) = a1 then (some (t345, wrap64 ((wrap64 (t351)) - 1), true)) else (some (0, 0, false))) else (some (0, 0, false)))) else (some (0, 0, false)))) = some (r1, r2, r3) := H
    have A16 := Aside0.mk A160
    clear A160
    replace H := Option.bind_eq_some_iff.mp H
    obtain ⟨t354, A170, H⟩ := H
    replace H : (if t354 = 0 then ((keywaylaw07_put.f kj3 t345 (wrap64 ((wrap64 (t351)) - 1))).bind fun t355 => (if t355.toList = a0.toList then (if (wrap64 (Int.tmod t345 2)) = a1 then (some (t345, wrap64 ((wrap64 (t351)) - 1), true)) else (some (0, 0, false))) else (some (0, 0, false)))) else (some (0, 0, false))) = some (r1, r2, r3) := H
    have A17 := Aside0.mk A170
    clear A170
    by_cases c18 : t354 = 0
    ·rw [if_pos c18] at H
     have c18b0 : (t354 == 0) = true := beq_iff_eq.mpr c18
     have c18b1 : (t354 != 0) = false := bne_eq_false_iff_eq.mpr c18
     clear c18
     replace H := Option.bind_eq_some_iff.mp H
     obtain ⟨t355, A190, H⟩ := H
     replace H : (if t355.toList = a0.toList then (if (wrap64 (Int.tmod t345 2)) = a1 then (some (t345, wrap64 ((wrap64 (t351)) - 1), true)) else (some (0, 0, false))) else (some (0, 0, false))) = some (r1, r2, r3) := H
     have A19 := Aside0.mk A190
     clear A190
     by_cases c20 : t355.toList = a0.toList
     ·rw [if_pos c20] at H
      have c20b0 : (t355.toList == a0.toList) = true := beq_iff_eq.mpr c20
      have c20b1 : (t355.toList != a0.toList) = false := bne_eq_false_iff_eq.mpr c20
      clear c20
      by_cases c21 : (wrap64 (Int.tmod t345 2)) = a1
      ·rw [if_pos c21] at H
       have c21b0 : ((wrap64 (Int.tmod t345 2)) == a1) = true := beq_iff_eq.mpr c21
       have c21b1 : ((wrap64 (Int.tmod t345 2)) != a1) = false := bne_eq_false_iff_eq.mpr c21
       clear c21
       simp only [Option.some.injEq, Prod.mk.injEq] at H
       obtain ⟨rfl, rfl, rfl⟩ := H
       have hnb22 := NB348_342.out
       have hnc22 := NB342_348.out
       have hcz23_0 : wc.cell? ⟨gb348, 0, none⟩ = some (.int .i64 t343) := (blk_cell BK348.out 0).trans rfl
       have hcz23_1 : wc.cell? ⟨gb348, 1, none⟩ = some (.int .i64 t344) := (blk_cell BK348.out 1).trans rfl
       have hcz23_2 : wc.cell? ⟨gb348, 2, none⟩ = some (.int .u64 t345) := (blk_cell BK348.out 2).trans rfl
       have hcz23_3 : wc.cell? ⟨gb348, 3, none⟩ = some (.string t346) := (blk_cell BK348.out 3).trans rfl
       have hfz23_0 := blk_frozen BK348.out 0
       have hfz23_1 := blk_frozen BK348.out 1
       have hfz23_2 := blk_frozen BK348.out 2
       have hfz23_3 := blk_frozen BK348.out 3
       go_wp2_with (first | ((with_reducible refine gate_callee (f := 48) rfl ?_);refine goesL_ (some 28) rfl rfl Try.func48 (by kernel_rfl) rfl #[.agg #[.string t346, .int .i64 0], .int .u64 16384] rfl (by (try simp only [List.map_toArray, List.map_cons, List.map_nil]);first | done | rfl) ?_;(with_reducible refine (keywayref03_R_Num.calls kj3 t346 0 16384 t349 t350 t351 _ A16.out).mono ?_);rintro e w24 ⟨rfl, hb⟩;refine ⟨_, rfl, ?_⟩;have n0_ := Aside0.mk (blk_below (g := gb342) (o := .cells #[.int .u64 0, .int .i64 0] 47 (0, 0)) (by (with_reducible repeat first | apply bN | apply bD | apply bA);exact BK342.out) hb);have n1_ := Aside0.mk (blk_below (g := gb348) (o := .cells #[.int .i64 t343, .int .i64 t344, .int .u64 t345, .string t346] 38 (0, 0)) (by (with_reducible repeat first | apply bN | apply bD | apply bA);exact BK348.out) hb);have n2_ := Aside0.mk (below_step (by repeat (first | (with_reducible first | exact HB.out | apply lA | apply lN | apply lD | refine below_set ?_ GE342.out | refine below_set ?_ GE348.out) | exact HB.out)) hb);clear BK342;clear BK348;clear HB;have BK342 := n0_;have BK348 := n1_;have HB := n2_;clear n0_ n1_ n2_;(try clear hb);(try clear hb2);(try clear hk);(try clear hi)) | ((with_reducible refine gate_dst (N := 8) rfl ?_);refine box_event ?hg (N := 8) ?hd (cs := #[.string (⟨#[]⟩ : ByteArray), .int .i64 0]) (t := 68) ?hr ?_;(case hd => rfl);(case hg => rfl);(case hr => first | (go_simp;done) | (go_simp;rfl));intro gb352 hg w25 hbox hb;have n0_ := Aside0.mk (blk_below (g := gb342) (o := .cells #[.int .u64 0, .int .i64 0] 47 (0, 0)) (by (with_reducible repeat first | apply bN | apply bD | apply bA);exact BK342.out) hb);have n1_ := Aside0.mk (blk_below (g := gb348) (o := .cells #[.int .i64 t343, .int .i64 t344, .int .u64 t345, .string t346] 38 (0, 0)) (by (with_reducible repeat first | apply bN | apply bD | apply bA);exact BK348.out) hb);have n2_ := Aside0.mk (below_step (by repeat (first | (with_reducible first | exact HB.out | apply lA | apply lN | apply lD | refine below_set ?_ GE342.out | refine below_set ?_ GE348.out) | exact HB.out)) hb);have n3_ := Aside0.mk (hbox);have n4_ := Aside0.mk ((by rw [hg];exact (below_size (by repeat (first | (with_reducible first | exact HB.out | apply lA | apply lN | apply lD | refine below_set ?_ GE342.out | refine below_set ?_ GE348.out) | exact HB.out))) : w.heap.size ≤ gb352));have n5_ := Aside0.mk ((by rw [hg];exact (below_size (by repeat (first | (with_reducible first | exact HB.out | apply lA | apply lN | apply lD | refine below_set ?_ GE342.out | refine below_set ?_ GE348.out) | exact HB.out))) : w.heap.size ≤ gb352));have n6_ := Aside0.mk ((by rw [hg];exact Nat.ne_of_lt (blk_lt (g := gb342) (o := .cells #[.int .u64 0, .int .i64 0] 47 (0, 0)) (by (with_reducible repeat first | apply bN | apply bD | apply bA);exact BK342.out)) : gb342 ≠ gb352));have n7_ := Aside0.mk ((by rw [hg];exact Nat.ne_of_gt (blk_lt (g := gb342) (o := .cells #[.int .u64 0, .int .i64 0] 47 (0, 0)) (by (with_reducible repeat first | apply bN | apply bD | apply bA);exact BK342.out)) : gb352 ≠ gb342));have n8_ := Aside0.mk ((by rw [hg];exact Nat.ne_of_lt (blk_lt (g := gb348) (o := .cells #[.int .i64 t343, .int .i64 t344, .int .u64 t345, .string t346] 38 (0, 0)) (by (with_reducible repeat first | apply bN | apply bD | apply bA);exact BK348.out)) : gb348 ≠ gb352));have n9_ := Aside0.mk ((by rw [hg];exact Nat.ne_of_gt (blk_lt (g := gb348) (o := .cells #[.int .i64 t343, .int .i64 t344, .int .u64 t345, .string t346] 38 (0, 0)) (by (with_reducible repeat first | apply bN | apply bD | apply bA);exact BK348.out)) : gb352 ≠ gb348));clear BK342;clear BK348;clear HB;have BK342 := n0_;have BK348 := n1_;have HB := n2_;have BK352 := n3_;have GW352 := n4_;have GE352 := n5_;have NB342_352 := n6_;have NB352_342 := n7_;have NB348_352 := n8_;have NB352_348 := n9_;clear n0_ n1_ n2_ n3_ n4_ n5_ n6_ n7_ n8_ n9_;clear hb hbox hg;have hnb26 := NB352_342.out;have hnc26 := NB342_352.out;have hnb27 := NB352_348.out;have hnc27 := NB348_352.out;have hcz28_0 : w25.cell? ⟨gb352, 0, none⟩ = some (.string (⟨#[]⟩ : ByteArray)) := (blk_cell BK352.out 0).trans rfl;have hcz28_1 : w25.cell? ⟨gb352, 1, none⟩ = some (.int .i64 0) := (blk_cell BK352.out 1).trans rfl;have hfz28_0 := blk_frozen BK352.out 0;have hfz28_1 := blk_frozen BK352.out 1;have hcz29_0 : w25.cell? ⟨gb348, 0, none⟩ = some (.int .i64 t343) := (blk_cell BK348.out 0).trans rfl;have hcz29_1 : w25.cell? ⟨gb348, 1, none⟩ = some (.int .i64 t344) := (blk_cell BK348.out 1).trans rfl;have hcz29_2 : w25.cell? ⟨gb348, 2, none⟩ = some (.int .u64 t345) := (blk_cell BK348.out 2).trans rfl;have hcz29_3 : w25.cell? ⟨gb348, 3, none⟩ = some (.string t346) := (blk_cell BK348.out 3).trans rfl;have hfz29_0 := blk_frozen BK348.out 0;have hfz29_1 := blk_frozen BK348.out 1;have hfz29_2 := blk_frozen BK348.out 2;have hfz29_3 := blk_frozen BK348.out 3) | ((with_reducible refine gate_dst (N := 10) rfl ?_);refine box_event ?hg (N := 10) ?hd (cs := #[.int .u64 0, .int .i64 0]) (t := 47) ?hr ?_;(case hd => rfl);(case hg => rfl);(case hr => first | (go_simp;done) | (go_simp;rfl));intro gb353 hg w30 hbox hb;have n0_ := Aside0.mk (blk_below (g := gb342) (o := .cells #[.int .u64 0, .int .i64 0] 47 (0, 0)) (by (with_reducible repeat first | apply bN | apply bD | apply bA);refine blk_far ?_ NB342_352.out _;(with_reducible repeat first | apply bN | apply bD | apply bA);refine blk_far ?_ NB342_352.out _;(with_reducible repeat first | apply bN | apply bD | apply bA);exact BK342.out) hb);have n1_ := Aside0.mk (blk_below (g := gb348) (o := .cells #[.int .i64 t343, .int .i64 t344, .int .u64 t345, .string t346] 38 (0, 0)) (by (with_reducible repeat first | apply bN | apply bD | apply bA);refine blk_far ?_ NB348_352.out _;(with_reducible repeat first | apply bN | apply bD | apply bA);refine blk_far ?_ NB348_352.out _;(with_reducible repeat first | apply bN | apply bD | apply bA);exact BK348.out) hb);have n2_ := Aside0.mk (blk_below (g := gb352) (o := .cells #[.string t349, .int .i64 t350] 68 (0, 0)) (by (with_reducible repeat first | apply bN | apply bD | apply bA);refine blk_put (cs := #[.string t349, .int .i64 0]) ?_ 1 _ rfl;(with_reducible repeat first | apply bN | apply bD | apply bA);refine blk_put (cs := #[.string (⟨#[]⟩ : ByteArray), .int .i64 0]) ?_ 0 _ rfl;(with_reducible repeat first | apply bN | apply bD | apply bA);exact BK352.out) hb);have n3_ := Aside0.mk (below_step (by repeat (first | (with_reducible first | exact HB.out | apply lA | apply lN | apply lD | refine below_set ?_ GE342.out | refine below_set ?_ GE348.out | refine below_set ?_ GE352.out) | exact HB.out)) hb);have n4_ := Aside0.mk (hbox);have n5_ := Aside0.mk ((by rw [hg];exact (below_size (by repeat (first | (with_reducible first | exact HB.out | apply lA | apply lN | apply lD | refine below_set ?_ GE342.out | refine below_set ?_ GE348.out | refine below_set ?_ GE352.out) | exact HB.out))) : w.heap.size ≤ gb353));have n6_ := Aside0.mk ((by rw [hg];exact (below_size (by repeat (first | (with_reducible first | exact HB.out | apply lA | apply lN | apply lD | refine below_set ?_ GE342.out | refine below_set ?_ GE348.out | refine below_set ?_ GE352.out) | exact HB.out))) : w.heap.size ≤ gb353));have n7_ := Aside0.mk ((by rw [hg];exact Nat.ne_of_lt (blk_lt (g := gb342) (o := .cells #[.int .u64 0, .int .i64 0] 47 (0, 0)) (by (with_reducible repeat first | apply bN | apply bD | apply bA);refine blk_far ?_ NB342_352.out _;(with_reducible repeat first | apply bN | apply bD | apply bA);refine blk_far ?_ NB342_352.out _;(with_reducible repeat first | apply bN | apply bD | apply bA);exact BK342.out)) : gb342 ≠ gb353));have n8_ := Aside0.mk ((by rw [hg];exact Nat.ne_of_gt (blk_lt (g := gb342) (o := .cells #[.int .u64 0, .int .i64 0] 47 (0, 0)) (by (with_reducible repeat first | apply bN | apply bD | apply bA);refine blk_far ?_ NB342_352.out _;(with_reducible repeat first | apply bN | apply bD | apply bA);refine blk_far ?_ NB342_352.out _;(with_reducible repeat first | apply bN | apply bD | apply bA);exact BK342.out)) : gb353 ≠ gb342));have n9_ := Aside0.mk ((by rw [hg];exact Nat.ne_of_lt (blk_lt (g := gb348) (o := .cells #[.int .i64 t343, .int .i64 t344, .int .u64 t345, .string t346] 38 (0, 0)) (by (with_reducible repeat first | apply bN | apply bD | apply bA);refine blk_far ?_ NB348_352.out _;(with_reducible repeat first | apply bN | apply bD | apply bA);refine blk_far ?_ NB348_352.out _;(with_reducible repeat first | apply bN | apply bD | apply bA);exact BK348.out)) : gb348 ≠ gb353));have n10_ := Aside0.mk ((by rw [hg];exact Nat.ne_of_gt (blk_lt (g := gb348) (o := .cells #[.int .i64 t343, .int .i64 t344, .int .u64 t345, .string t346] 38 (0, 0)) (by (with_reducible repeat first | apply bN | apply bD | apply bA);refine blk_far ?_ NB348_352.out _;(with_reducible repeat first | apply bN | apply bD | apply bA);refine blk_far ?_ NB348_352.out _;(with_reducible repeat first | apply bN | apply bD | apply bA);exact BK348.out)) : gb353 ≠ gb348));have n11_ := Aside0.mk ((by rw [hg];exact Nat.ne_of_lt (blk_lt (g := gb352) (o := .cells #[.string t349, .int .i64 t350] 68 (0, 0)) (by (with_reducible repeat first | apply bN | apply bD | apply bA);refine blk_put (cs := #[.string t349, .int .i64 0]) ?_ 1 _ rfl;(with_reducible repeat first | apply bN | apply bD | apply bA);refine blk_put (cs := #[.string (⟨#[]⟩ : ByteArray), .int .i64 0]) ?_ 0 _ rfl;(with_reducible repeat first | apply bN | apply bD | apply bA);exact BK352.out)) : gb352 ≠ gb353));have n12_ := Aside0.mk ((by rw [hg];exact Nat.ne_of_gt (blk_lt (g := gb352) (o := .cells #[.string t349, .int .i64 t350] 68 (0, 0)) (by (with_reducible repeat first | apply bN | apply bD | apply bA);refine blk_put (cs := #[.string t349, .int .i64 0]) ?_ 1 _ rfl;(with_reducible repeat first | apply bN | apply bD | apply bA);refine blk_put (cs := #[.string (⟨#[]⟩ : ByteArray), .int .i64 0]) ?_ 0 _ rfl;(with_reducible repeat first | apply bN | apply bD | apply bA);exact BK352.out)) : gb353 ≠ gb352));clear BK342;clear BK348;clear BK352;clear HB;have BK342 := n0_;have BK348 := n1_;have BK352 := n2_;have HB := n3_;have BK353 := n4_;have GW353 := n5_;have GE353 := n6_;have NB342_353 := n7_;have NB353_342 := n8_;have NB348_353 := n9_;have NB353_348 := n10_;have NB352_353 := n11_;have NB353_352 := n12_;clear n0_ n1_ n2_ n3_ n4_ n5_ n6_ n7_ n8_ n9_ n10_ n11_ n12_;clear hb hbox hg;have hnb31 := NB353_342.out;have hnc31 := NB342_353.out;have hnb32 := NB353_348.out;have hnc32 := NB348_353.out;have hnb33 := NB353_352.out;have hnc33 := NB352_353.out;have hcz34_0 : w30.cell? ⟨gb353, 0, none⟩ = some (.int .u64 0) := (blk_cell BK353.out 0).trans rfl;have hcz34_1 : w30.cell? ⟨gb353, 1, none⟩ = some (.int .i64 0) := (blk_cell BK353.out 1).trans rfl;have hfz34_0 := blk_frozen BK353.out 0;have hfz34_1 := blk_frozen BK353.out 1;have hcz35_0 : w30.cell? ⟨gb352, 0, none⟩ = some (.string t349) := (blk_cell BK352.out 0).trans rfl;have hcz35_1 : w30.cell? ⟨gb352, 1, none⟩ = some (.int .i64 t350) := (blk_cell BK352.out 1).trans rfl;have hfz35_0 := blk_frozen BK352.out 0;have hfz35_1 := blk_frozen BK352.out 1) | ((with_reducible refine gate_callee (f := 49) rfl ?_);refine goesL_ (some 38) rfl rfl Try.func49 (by kernel_rfl) rfl #[.agg #[.string t349, .int .i64 t350]] rfl (by (try simp only [List.map_toArray, List.map_cons, List.map_nil]);first | done | rfl) ?_;(with_reducible refine (keywayref03_R_End.calls t349 t350 t354 _ A17.out).mono ?_);rintro e w36 ⟨rfl, hb⟩;refine ⟨_, rfl, ?_⟩;have n0_ := Aside0.mk (blk_below (g := gb342) (o := .cells #[.int .u64 0, .int .i64 0] 47 (0, 0)) (by (with_reducible repeat first | apply bN | apply bD | apply bA);refine blk_far ?_ NB342_353.out _;(with_reducible repeat first | apply bN | apply bD | apply bA);refine blk_far ?_ NB342_353.out _;(with_reducible repeat first | apply bN | apply bD | apply bA);exact BK342.out) hb);have n1_ := Aside0.mk (blk_below (g := gb348) (o := .cells #[.int .i64 t343, .int .i64 t344, .int .u64 t345, .string t346] 38 (0, 0)) (by (with_reducible repeat first | apply bN | apply bD | apply bA);refine blk_far ?_ NB348_353.out _;(with_reducible repeat first | apply bN | apply bD | apply bA);refine blk_far ?_ NB348_353.out _;(with_reducible repeat first | apply bN | apply bD | apply bA);exact BK348.out) hb);have n2_ := Aside0.mk (blk_below (g := gb352) (o := .cells #[.string t349, .int .i64 t350] 68 (0, 0)) (by (with_reducible repeat first | apply bN | apply bD | apply bA);refine blk_far ?_ NB352_353.out _;(with_reducible repeat first | apply bN | apply bD | apply bA);refine blk_far ?_ NB352_353.out _;(with_reducible repeat first | apply bN | apply bD | apply bA);exact BK352.out) hb);have n3_ := Aside0.mk (blk_below (g := gb353) (o := .cells #[.int .u64 t345, .int .i64 (wrap64 ((wrap64 (t351)) - 1))] 47 (0, 0)) (by (with_reducible repeat first | apply bN | apply bD | apply bA);refine blk_put (cs := #[.int .u64 t345, .int .i64 0]) ?_ 1 _ rfl;(with_reducible repeat first | apply bN | apply bD | apply bA);refine blk_put (cs := #[.int .u64 0, .int .i64 0]) ?_ 0 _ rfl;(with_reducible repeat first | apply bN | apply bD | apply bA);exact BK353.out) hb);have n4_ := Aside0.mk (below_step (by repeat (first | (with_reducible first | exact HB.out | apply lA | apply lN | apply lD | refine below_set ?_ GE342.out | refine below_set ?_ GE348.out | refine below_set ?_ GE352.out | refine below_set ?_ GE353.out) | exact HB.out)) hb);clear BK342;clear BK348;clear BK352;clear BK353;clear HB;have BK342 := n0_;have BK348 := n1_;have BK352 := n2_;have BK353 := n3_;have HB := n4_;clear n0_ n1_ n2_ n3_ n4_;(try clear hb);(try clear hb2);(try clear hk);(try clear hi);have hcz37_0 : w36.cell? ⟨gb353, 0, none⟩ = some (.int .u64 t345) := (blk_cell BK353.out 0).trans rfl;have hcz37_1 : w36.cell? ⟨gb353, 1, none⟩ = some (.int .i64 (wrap64 ((wrap64 (t351)) - 1))) := (blk_cell BK353.out 1).trans rfl;have hfz37_0 := blk_frozen BK353.out 0;have hfz37_1 := blk_frozen BK353.out 1) | (go_at_call 29;(with_reducible refine (keywaylaw07_put.calls kj3 t345 (wrap64 ((wrap64 (t351)) - 1)) t355 _ A19.out).mono ?_);rintro e w38 ⟨rfl, hb⟩;have n0_ := Aside0.mk (blk_below (g := gb342) (o := .cells #[.int .u64 0, .int .i64 0] 47 (0, 0)) (by (with_reducible repeat first | apply bN | apply bD | apply bA);exact BK342.out) hb);have n1_ := Aside0.mk (blk_below (g := gb348) (o := .cells #[.int .i64 t343, .int .i64 t344, .int .u64 t345, .string t346] 38 (0, 0)) (by (with_reducible repeat first | apply bN | apply bD | apply bA);exact BK348.out) hb);have n2_ := Aside0.mk (blk_below (g := gb352) (o := .cells #[.string t349, .int .i64 t350] 68 (0, 0)) (by (with_reducible repeat first | apply bN | apply bD | apply bA);exact BK352.out) hb);have n3_ := Aside0.mk (blk_below (g := gb353) (o := .cells #[.int .u64 t345, .int .i64 (wrap64 ((wrap64 (t351)) - 1))] 47 (0, 0)) (by (with_reducible repeat first | apply bN | apply bD | apply bA);exact BK353.out) hb);have n4_ := Aside0.mk (below_step (by repeat (first | (with_reducible first | exact HB.out | apply lA | apply lN | apply lD | refine below_set ?_ GE342.out | refine below_set ?_ GE348.out | refine below_set ?_ GE352.out | refine below_set ?_ GE353.out) | exact HB.out)) hb);clear BK342;clear BK348;clear BK352;clear BK353;clear HB;have BK342 := n0_;have BK348 := n1_;have BK352 := n2_;have BK353 := n3_;have HB := n4_;clear n0_ n1_ n2_ n3_ n4_;(try clear hb);(try clear hb2);(try clear hk);(try clear hi);have hcz39_0 : w38.cell? ⟨gb353, 0, none⟩ = some (.int .u64 t345) := (blk_cell BK353.out 0).trans rfl;have hcz39_1 : w38.cell? ⟨gb353, 1, none⟩ = some (.int .i64 (wrap64 ((wrap64 (t351)) - 1))) := (blk_cell BK353.out 1).trans rfl;have hfz39_0 := blk_frozen BK353.out 0;have hfz39_1 := blk_frozen BK353.out 1;have hcz40_0 : w38.cell? ⟨gb342, 0, none⟩ = some (.int .u64 0) := (blk_cell BK342.out 0).trans rfl;have hcz40_1 : w38.cell? ⟨gb342, 1, none⟩ = some (.int .i64 0) := (blk_cell BK342.out 1).trans rfl;have hfz40_0 := blk_frozen BK342.out 0;have hfz40_1 := blk_frozen BK342.out 1))
       refine bodyPost_ret (results_ct rfl _ _ gb342 47 #[.int .u64 t345, .int .i64 (wrap64 ((wrap64 (t351)) - 1))] (0, 0) _ rfl (by (with_reducible repeat first | apply bN | apply bD | apply bA); refine blk_put (cs := #[.int .u64 t345, .int .i64 0]) ?_ 1 _ rfl; (with_reducible repeat first | apply bN | apply bD | apply bA); refine blk_put (cs := #[.int .u64 0, .int .i64 0]) ?_ 0 _ rfl; (with_reducible repeat first | apply bN | apply bD | apply bA); exact BK342.out) Try.underlying47 rfl (by kernel_rfl)) rfl ?_
       exact ⟨by first | rfl | (simp <;> rfl) | (simp [*] <;> rfl), by repeat (first | (with_reducible first | exact HB.out | apply lA | apply lN | apply lD | refine below_set ?_ GE342.out | refine below_set ?_ GE348.out | refine below_set ?_ GE352.out | refine below_set ?_ GE353.out) | exact HB.out)⟩
      ·rw [if_neg c21] at H
       have c21b0 : ((wrap64 (Int.tmod t345 2)) == a1) = false := beq_eq_false_iff_ne.mpr c21
       have c21b1 : ((wrap64 (Int.tmod t345 2)) != a1) = true := bne_iff_ne.mpr c21
       simp only [Option.some.injEq, Prod.mk.injEq] at H
       obtain ⟨rfl, rfl, rfl⟩ := H
       have hnb41 := NB348_342.out
       have hnc41 := NB342_348.out
       have hcz42_0 : wc.cell? ⟨gb348, 0, none⟩ = some (.int .i64 t343) := (blk_cell BK348.out 0).trans rfl
       have hcz42_1 : wc.cell? ⟨gb348, 1, none⟩ = some (.int .i64 t344) := (blk_cell BK348.out 1).trans rfl
       have hcz42_2 : wc.cell? ⟨gb348, 2, none⟩ = some (.int .u64 t345) := (blk_cell BK348.out 2).trans rfl
       have hcz42_3 : wc.cell? ⟨gb348, 3, none⟩ = some (.string t346) := (blk_cell BK348.out 3).trans rfl
       have hfz42_0 := blk_frozen BK348.out 0
       have hfz42_1 := blk_frozen BK348.out 1
       have hfz42_2 := blk_frozen BK348.out 2
       have hfz42_3 := blk_frozen BK348.out 3
       go_wp2_with (first | ((with_reducible refine gate_callee (f := 48) rfl ?_);refine goesL_ (some 28) rfl rfl Try.func48 (by kernel_rfl) rfl #[.agg #[.string t346, .int .i64 0], .int .u64 16384] rfl (by (try simp only [List.map_toArray, List.map_cons, List.map_nil]);first | done | rfl) ?_;(with_reducible refine (keywayref03_R_Num.calls kj3 t346 0 16384 t349 t350 t351 _ A16.out).mono ?_);rintro e w43 ⟨rfl, hb⟩;refine ⟨_, rfl, ?_⟩;have n0_ := Aside0.mk (blk_below (g := gb342) (o := .cells #[.int .u64 0, .int .i64 0] 47 (0, 0)) (by (with_reducible repeat first | apply bN | apply bD | apply bA);exact BK342.out) hb);have n1_ := Aside0.mk (blk_below (g := gb348) (o := .cells #[.int .i64 t343, .int .i64 t344, .int .u64 t345, .string t346] 38 (0, 0)) (by (with_reducible repeat first | apply bN | apply bD | apply bA);exact BK348.out) hb);have n2_ := Aside0.mk (below_step (by repeat (first | (with_reducible first | exact HB.out | apply lA | apply lN | apply lD | refine below_set ?_ GE342.out | refine below_set ?_ GE348.out) | exact HB.out)) hb);clear BK342;clear BK348;clear HB;have BK342 := n0_;have BK348 := n1_;have HB := n2_;clear n0_ n1_ n2_;(try clear hb);(try clear hb2);(try clear hk);(try clear hi)) | ((with_reducible refine gate_dst (N := 8) rfl ?_);refine box_event ?hg (N := 8) ?hd (cs := #[.string (⟨#[]⟩ : ByteArray), .int .i64 0]) (t := 68) ?hr ?_;(case hd => rfl);(case hg => rfl);(case hr => first | (go_simp;done) | (go_simp;rfl));intro gb352 hg w44 hbox hb;have n0_ := Aside0.mk (blk_below (g := gb342) (o := .cells #[.int .u64 0, .int .i64 0] 47 (0, 0)) (by (with_reducible repeat first | apply bN | apply bD | apply bA);exact BK342.out) hb);have n1_ := Aside0.mk (blk_below (g := gb348) (o := .cells #[.int .i64 t343, .int .i64 t344, .int .u64 t345, .string t346] 38 (0, 0)) (by (with_reducible repeat first | apply bN | apply bD | apply bA);exact BK348.out) hb);have n2_ := Aside0.mk (below_step (by repeat (first | (with_reducible first | exact HB.out | apply lA | apply lN | apply lD | refine below_set ?_ GE342.out | refine below_set ?_ GE348.out) | exact HB.out)) hb);have n3_ := Aside0.mk (hbox);have n4_ := Aside0.mk ((by rw [hg];exact (below_size (by repeat (first | (with_reducible first | exact HB.out | apply lA | apply lN | apply lD | refine below_set ?_ GE342.out | refine below_set ?_ GE348.out) | exact HB.out))) : w.heap.size ≤ gb352));have n5_ := Aside0.mk ((by rw [hg];exact (below_size (by repeat (first | (with_reducible first | exact HB.out | apply lA | apply lN | apply lD | refine below_set ?_ GE342.out | refine below_set ?_ GE348.out) | exact HB.out))) : w.heap.size ≤ gb352));have n6_ := Aside0.mk ((by rw [hg];exact Nat.ne_of_lt (blk_lt (g := gb342) (o := .cells #[.int .u64 0, .int .i64 0] 47 (0, 0)) (by (with_reducible repeat first | apply bN | apply bD | apply bA);exact BK342.out)) : gb342 ≠ gb352));have n7_ := Aside0.mk ((by rw [hg];exact Nat.ne_of_gt (blk_lt (g := gb342) (o := .cells #[.int .u64 0, .int .i64 0] 47 (0, 0)) (by (with_reducible repeat first | apply bN | apply bD | apply bA);exact BK342.out)) : gb352 ≠ gb342));have n8_ := Aside0.mk ((by rw [hg];exact Nat.ne_of_lt (blk_lt (g := gb348) (o := .cells #[.int .i64 t343, .int .i64 t344, .int .u64 t345, .string t346] 38 (0, 0)) (by (with_reducible repeat first | apply bN | apply bD | apply bA);exact BK348.out)) : gb348 ≠ gb352));have n9_ := Aside0.mk ((by rw [hg];exact Nat.ne_of_gt (blk_lt (g := gb348) (o := .cells #[.int .i64 t343, .int .i64 t344, .int .u64 t345, .string t346] 38 (0, 0)) (by (with_reducible repeat first | apply bN | apply bD | apply bA);exact BK348.out)) : gb352 ≠ gb348));clear BK342;clear BK348;clear HB;have BK342 := n0_;have BK348 := n1_;have HB := n2_;have BK352 := n3_;have GW352 := n4_;have GE352 := n5_;have NB342_352 := n6_;have NB352_342 := n7_;have NB348_352 := n8_;have NB352_348 := n9_;clear n0_ n1_ n2_ n3_ n4_ n5_ n6_ n7_ n8_ n9_;clear hb hbox hg;have hnb45 := NB352_342.out;have hnc45 := NB342_352.out;have hnb46 := NB352_348.out;have hnc46 := NB348_352.out;have hcz47_0 : w44.cell? ⟨gb352, 0, none⟩ = some (.string (⟨#[]⟩ : ByteArray)) := (blk_cell BK352.out 0).trans rfl;have hcz47_1 : w44.cell? ⟨gb352, 1, none⟩ = some (.int .i64 0) := (blk_cell BK352.out 1).trans rfl;have hfz47_0 := blk_frozen BK352.out 0;have hfz47_1 := blk_frozen BK352.out 1;have hcz48_0 : w44.cell? ⟨gb348, 0, none⟩ = some (.int .i64 t343) := (blk_cell BK348.out 0).trans rfl;have hcz48_1 : w44.cell? ⟨gb348, 1, none⟩ = some (.int .i64 t344) := (blk_cell BK348.out 1).trans rfl;have hcz48_2 : w44.cell? ⟨gb348, 2, none⟩ = some (.int .u64 t345) := (blk_cell BK348.out 2).trans rfl;have hcz48_3 : w44.cell? ⟨gb348, 3, none⟩ = some (.string t346) := (blk_cell BK348.out 3).trans rfl;have hfz48_0 := blk_frozen BK348.out 0;have hfz48_1 := blk_frozen BK348.out 1;have hfz48_2 := blk_frozen BK348.out 2;have hfz48_3 := blk_frozen BK348.out 3) | ((with_reducible refine gate_dst (N := 10) rfl ?_);refine box_event ?hg (N := 10) ?hd (cs := #[.int .u64 0, .int .i64 0]) (t := 47) ?hr ?_;(case hd => rfl);(case hg => rfl);(case hr => first | (go_simp;done) | (go_simp;rfl));intro gb353 hg w49 hbox hb;have n0_ := Aside0.mk (blk_below (g := gb342) (o := .cells #[.int .u64 0, .int .i64 0] 47 (0, 0)) (by (with_reducible repeat first | apply bN | apply bD | apply bA);refine blk_far ?_ NB342_352.out _;(with_reducible repeat first | apply bN | apply bD | apply bA);refine blk_far ?_ NB342_352.out _;(with_reducible repeat first | apply bN | apply bD | apply bA);exact BK342.out) hb);have n1_ := Aside0.mk (blk_below (g := gb348) (o := .cells #[.int .i64 t343, .int .i64 t344, .int .u64 t345, .string t346] 38 (0, 0)) (by (with_reducible repeat first | apply bN | apply bD | apply bA);refine blk_far ?_ NB348_352.out _;(with_reducible repeat first | apply bN | apply bD | apply bA);refine blk_far ?_ NB348_352.out _;(with_reducible repeat first | apply bN | apply bD | apply bA);exact BK348.out) hb);have n2_ := Aside0.mk (blk_below (g := gb352) (o := .cells #[.string t349, .int .i64 t350] 68 (0, 0)) (by (with_reducible repeat first | apply bN | apply bD | apply bA);refine blk_put (cs := #[.string t349, .int .i64 0]) ?_ 1 _ rfl;(with_reducible repeat first | apply bN | apply bD | apply bA);refine blk_put (cs := #[.string (⟨#[]⟩ : ByteArray), .int .i64 0]) ?_ 0 _ rfl;(with_reducible repeat first | apply bN | apply bD | apply bA);exact BK352.out) hb);have n3_ := Aside0.mk (below_step (by repeat (first | (with_reducible first | exact HB.out | apply lA | apply lN | apply lD | refine below_set ?_ GE342.out | refine below_set ?_ GE348.out | refine below_set ?_ GE352.out) | exact HB.out)) hb);have n4_ := Aside0.mk (hbox);have n5_ := Aside0.mk ((by rw [hg];exact (below_size (by repeat (first | (with_reducible first | exact HB.out | apply lA | apply lN | apply lD | refine below_set ?_ GE342.out | refine below_set ?_ GE348.out | refine below_set ?_ GE352.out) | exact HB.out))) : w.heap.size ≤ gb353));have n6_ := Aside0.mk ((by rw [hg];exact (below_size (by repeat (first | (with_reducible first | exact HB.out | apply lA | apply lN | apply lD | refine below_set ?_ GE342.out | refine below_set ?_ GE348.out | refine below_set ?_ GE352.out) | exact HB.out))) : w.heap.size ≤ gb353));have n7_ := Aside0.mk ((by rw [hg];exact Nat.ne_of_lt (blk_lt (g := gb342) (o := .cells #[.int .u64 0, .int .i64 0] 47 (0, 0)) (by (with_reducible repeat first | apply bN | apply bD | apply bA);refine blk_far ?_ NB342_352.out _;(with_reducible repeat first | apply bN | apply bD | apply bA);refine blk_far ?_ NB342_352.out _;(with_reducible repeat first | apply bN | apply bD | apply bA);exact BK342.out)) : gb342 ≠ gb353));have n8_ := Aside0.mk ((by rw [hg];exact Nat.ne_of_gt (blk_lt (g := gb342) (o := .cells #[.int .u64 0, .int .i64 0] 47 (0, 0)) (by (with_reducible repeat first | apply bN | apply bD | apply bA);refine blk_far ?_ NB342_352.out _;(with_reducible repeat first | apply bN | apply bD | apply bA);refine blk_far ?_ NB342_352.out _;(with_reducible repeat first | apply bN | apply bD | apply bA);exact BK342.out)) : gb353 ≠ gb342));have n9_ := Aside0.mk ((by rw [hg];exact Nat.ne_of_lt (blk_lt (g := gb348) (o := .cells #[.int .i64 t343, .int .i64 t344, .int .u64 t345, .string t346] 38 (0, 0)) (by (with_reducible repeat first | apply bN | apply bD | apply bA);refine blk_far ?_ NB348_352.out _;(with_reducible repeat first | apply bN | apply bD | apply bA);refine blk_far ?_ NB348_352.out _;(with_reducible repeat first | apply bN | apply bD | apply bA);exact BK348.out)) : gb348 ≠ gb353));have n10_ := Aside0.mk ((by rw [hg];exact Nat.ne_of_gt (blk_lt (g := gb348) (o := .cells #[.int .i64 t343, .int .i64 t344, .int .u64 t345, .string t346] 38 (0, 0)) (by (with_reducible repeat first | apply bN | apply bD | apply bA);refine blk_far ?_ NB348_352.out _;(with_reducible repeat first | apply bN | apply bD | apply bA);refine blk_far ?_ NB348_352.out _;(with_reducible repeat first | apply bN | apply bD | apply bA);exact BK348.out)) : gb353 ≠ gb348));have n11_ := Aside0.mk ((by rw [hg];exact Nat.ne_of_lt (blk_lt (g := gb352) (o := .cells #[.string t349, .int .i64 t350] 68 (0, 0)) (by (with_reducible repeat first | apply bN | apply bD | apply bA);refine blk_put (cs := #[.string t349, .int .i64 0]) ?_ 1 _ rfl;(with_reducible repeat first | apply bN | apply bD | apply bA);refine blk_put (cs := #[.string (⟨#[]⟩ : ByteArray), .int .i64 0]) ?_ 0 _ rfl;(with_reducible repeat first | apply bN | apply bD | apply bA);exact BK352.out)) : gb352 ≠ gb353));have n12_ := Aside0.mk ((by rw [hg];exact Nat.ne_of_gt (blk_lt (g := gb352) (o := .cells #[.string t349, .int .i64 t350] 68 (0, 0)) (by (with_reducible repeat first | apply bN | apply bD | apply bA);refine blk_put (cs := #[.string t349, .int .i64 0]) ?_ 1 _ rfl;(with_reducible repeat first | apply bN | apply bD | apply bA);refine blk_put (cs := #[.string (⟨#[]⟩ : ByteArray), .int .i64 0]) ?_ 0 _ rfl;(with_reducible repeat first | apply bN | apply bD | apply bA);exact BK352.out)) : gb353 ≠ gb352));clear BK342;clear BK348;clear BK352;clear HB;have BK342 := n0_;have BK348 := n1_;have BK352 := n2_;have HB := n3_;have BK353 := n4_;have GW353 := n5_;have GE353 := n6_;have NB342_353 := n7_;have NB353_342 := n8_;have NB348_353 := n9_;have NB353_348 := n10_;have NB352_353 := n11_;have NB353_352 := n12_;clear n0_ n1_ n2_ n3_ n4_ n5_ n6_ n7_ n8_ n9_ n10_ n11_ n12_;clear hb hbox hg;have hnb50 := NB353_342.out;have hnc50 := NB342_353.out;have hnb51 := NB353_348.out;have hnc51 := NB348_353.out;have hnb52 := NB353_352.out;have hnc52 := NB352_353.out;have hcz53_0 : w49.cell? ⟨gb353, 0, none⟩ = some (.int .u64 0) := (blk_cell BK353.out 0).trans rfl;have hcz53_1 : w49.cell? ⟨gb353, 1, none⟩ = some (.int .i64 0) := (blk_cell BK353.out 1).trans rfl;have hfz53_0 := blk_frozen BK353.out 0;have hfz53_1 := blk_frozen BK353.out 1;have hcz54_0 : w49.cell? ⟨gb352, 0, none⟩ = some (.string t349) := (blk_cell BK352.out 0).trans rfl;have hcz54_1 : w49.cell? ⟨gb352, 1, none⟩ = some (.int .i64 t350) := (blk_cell BK352.out 1).trans rfl;have hfz54_0 := blk_frozen BK352.out 0;have hfz54_1 := blk_frozen BK352.out 1) | ((with_reducible refine gate_callee (f := 49) rfl ?_);refine goesL_ (some 38) rfl rfl Try.func49 (by kernel_rfl) rfl #[.agg #[.string t349, .int .i64 t350]] rfl (by (try simp only [List.map_toArray, List.map_cons, List.map_nil]);first | done | rfl) ?_;(with_reducible refine (keywayref03_R_End.calls t349 t350 t354 _ A17.out).mono ?_);rintro e w55 ⟨rfl, hb⟩;refine ⟨_, rfl, ?_⟩;have n0_ := Aside0.mk (blk_below (g := gb342) (o := .cells #[.int .u64 0, .int .i64 0] 47 (0, 0)) (by (with_reducible repeat first | apply bN | apply bD | apply bA);refine blk_far ?_ NB342_353.out _;(with_reducible repeat first | apply bN | apply bD | apply bA);refine blk_far ?_ NB342_353.out _;(with_reducible repeat first | apply bN | apply bD | apply bA);exact BK342.out) hb);have n1_ := Aside0.mk (blk_below (g := gb348) (o := .cells #[.int .i64 t343, .int .i64 t344, .int .u64 t345, .string t346] 38 (0, 0)) (by (with_reducible repeat first | apply bN | apply bD | apply bA);refine blk_far ?_ NB348_353.out _;(with_reducible repeat first | apply bN | apply bD | apply bA);refine blk_far ?_ NB348_353.out _;(with_reducible repeat first | apply bN | apply bD | apply bA);exact BK348.out) hb);have n2_ := Aside0.mk (blk_below (g := gb352) (o := .cells #[.string t349, .int .i64 t350] 68 (0, 0)) (by (with_reducible repeat first | apply bN | apply bD | apply bA);refine blk_far ?_ NB352_353.out _;(with_reducible repeat first | apply bN | apply bD | apply bA);refine blk_far ?_ NB352_353.out _;(with_reducible repeat first | apply bN | apply bD | apply bA);exact BK352.out) hb);have n3_ := Aside0.mk (blk_below (g := gb353) (o := .cells #[.int .u64 t345, .int .i64 (wrap64 ((wrap64 (t351)) - 1))] 47 (0, 0)) (by (with_reducible repeat first | apply bN | apply bD | apply bA);refine blk_put (cs := #[.int .u64 t345, .int .i64 0]) ?_ 1 _ rfl;(with_reducible repeat first | apply bN | apply bD | apply bA);refine blk_put (cs := #[.int .u64 0, .int .i64 0]) ?_ 0 _ rfl;(with_reducible repeat first | apply bN | apply bD | apply bA);exact BK353.out) hb);have n4_ := Aside0.mk (below_step (by repeat (first | (with_reducible first | exact HB.out | apply lA | apply lN | apply lD | refine below_set ?_ GE342.out | refine below_set ?_ GE348.out | refine below_set ?_ GE352.out | refine below_set ?_ GE353.out) | exact HB.out)) hb);clear BK342;clear BK348;clear BK352;clear BK353;clear HB;have BK342 := n0_;have BK348 := n1_;have BK352 := n2_;have BK353 := n3_;have HB := n4_;clear n0_ n1_ n2_ n3_ n4_;(try clear hb);(try clear hb2);(try clear hk);(try clear hi);have hcz56_0 : w55.cell? ⟨gb353, 0, none⟩ = some (.int .u64 t345) := (blk_cell BK353.out 0).trans rfl;have hcz56_1 : w55.cell? ⟨gb353, 1, none⟩ = some (.int .i64 (wrap64 ((wrap64 (t351)) - 1))) := (blk_cell BK353.out 1).trans rfl;have hfz56_0 := blk_frozen BK353.out 0;have hfz56_1 := blk_frozen BK353.out 1) | (go_at_call 29;(with_reducible refine (keywaylaw07_put.calls kj3 t345 (wrap64 ((wrap64 (t351)) - 1)) t355 _ A19.out).mono ?_);rintro e w57 ⟨rfl, hb⟩;have n0_ := Aside0.mk (blk_below (g := gb342) (o := .cells #[.int .u64 0, .int .i64 0] 47 (0, 0)) (by (with_reducible repeat first | apply bN | apply bD | apply bA);exact BK342.out) hb);have n1_ := Aside0.mk (blk_below (g := gb348) (o := .cells #[.int .i64 t343, .int .i64 t344, .int .u64 t345, .string t346] 38 (0, 0)) (by (with_reducible repeat first | apply bN | apply bD | apply bA);exact BK348.out) hb);have n2_ := Aside0.mk (blk_below (g := gb352) (o := .cells #[.string t349, .int .i64 t350] 68 (0, 0)) (by (with_reducible repeat first | apply bN | apply bD | apply bA);exact BK352.out) hb);have n3_ := Aside0.mk (blk_below (g := gb353) (o := .cells #[.int .u64 t345, .int .i64 (wrap64 ((wrap64 (t351)) - 1))] 47 (0, 0)) (by (with_reducible repeat first | apply bN | apply bD | apply bA);exact BK353.out) hb);have n4_ := Aside0.mk (below_step (by repeat (first | (with_reducible first | exact HB.out | apply lA | apply lN | apply lD | refine below_set ?_ GE342.out | refine below_set ?_ GE348.out | refine below_set ?_ GE352.out | refine below_set ?_ GE353.out) | exact HB.out)) hb);clear BK342;clear BK348;clear BK352;clear BK353;clear HB;have BK342 := n0_;have BK348 := n1_;have BK352 := n2_;have BK353 := n3_;have HB := n4_;clear n0_ n1_ n2_ n3_ n4_;(try clear hb);(try clear hb2);(try clear hk);(try clear hi);have hcz58_0 : w57.cell? ⟨gb353, 0, none⟩ = some (.int .u64 t345) := (blk_cell BK353.out 0).trans rfl;have hcz58_1 : w57.cell? ⟨gb353, 1, none⟩ = some (.int .i64 (wrap64 ((wrap64 (t351)) - 1))) := (blk_cell BK353.out 1).trans rfl;have hfz58_0 := blk_frozen BK353.out 0;have hfz58_1 := blk_frozen BK353.out 1;have hcz59_0 : w57.cell? ⟨gb342, 0, none⟩ = some (.int .u64 0) := (blk_cell BK342.out 0).trans rfl;have hcz59_1 : w57.cell? ⟨gb342, 1, none⟩ = some (.int .i64 0) := (blk_cell BK342.out 1).trans rfl;have hfz59_0 := blk_frozen BK342.out 0;have hfz59_1 := blk_frozen BK342.out 1))
       refine bodyPost_ret (results_ct rfl _ _ gb342 47 #[.int .u64 0, .int .i64 0] (0, 0) _ rfl (by (with_reducible repeat first | apply bN | apply bD | apply bA); refine blk_put (cs := #[.int .u64 0, .int .i64 0]) ?_ 1 _ rfl; (with_reducible repeat first | apply bN | apply bD | apply bA); refine blk_put (cs := #[.int .u64 0, .int .i64 0]) ?_ 0 _ rfl; (with_reducible repeat first | apply bN | apply bD | apply bA); exact BK342.out) Try.underlying47 rfl (by kernel_rfl)) rfl ?_
       exact ⟨by first | rfl | (simp <;> rfl) | (simp [*] <;> rfl), by repeat (first | (with_reducible first | exact HB.out | apply lA | apply lN | apply lD | refine below_set ?_ GE342.out | refine below_set ?_ GE348.out | refine below_set ?_ GE352.out | refine below_set ?_ GE353.out) | exact HB.out)⟩
     ·rw [if_neg c20] at H
      have c20b0 : (t355.toList == a0.toList) = false := beq_eq_false_iff_ne.mpr c20
      have c20b1 : (t355.toList != a0.toList) = true := bne_iff_ne.mpr c20
      simp only [Option.some.injEq, Prod.mk.injEq] at H
      obtain ⟨rfl, rfl, rfl⟩ := H
      have hnb60 := NB348_342.out
      have hnc60 := NB342_348.out
      have hcz61_0 : wc.cell? ⟨gb348, 0, none⟩ = some (.int .i64 t343) := (blk_cell BK348.out 0).trans rfl
      have hcz61_1 : wc.cell? ⟨gb348, 1, none⟩ = some (.int .i64 t344) := (blk_cell BK348.out 1).trans rfl
      have hcz61_2 : wc.cell? ⟨gb348, 2, none⟩ = some (.int .u64 t345) := (blk_cell BK348.out 2).trans rfl
      have hcz61_3 : wc.cell? ⟨gb348, 3, none⟩ = some (.string t346) := (blk_cell BK348.out 3).trans rfl
      have hfz61_0 := blk_frozen BK348.out 0
      have hfz61_1 := blk_frozen BK348.out 1
      have hfz61_2 := blk_frozen BK348.out 2
      have hfz61_3 := blk_frozen BK348.out 3
      go_wp2_with (first | ((with_reducible refine gate_callee (f := 48) rfl ?_);refine goesL_ (some 28) rfl rfl Try.func48 (by kernel_rfl) rfl #[.agg #[.string t346, .int .i64 0], .int .u64 16384] rfl (by (try simp only [List.map_toArray, List.map_cons, List.map_nil]);first | done | rfl) ?_;(with_reducible refine (keywayref03_R_Num.calls kj3 t346 0 16384 t349 t350 t351 _ A16.out).mono ?_);rintro e w62 ⟨rfl, hb⟩;refine ⟨_, rfl, ?_⟩;have n0_ := Aside0.mk (blk_below (g := gb342) (o := .cells #[.int .u64 0, .int .i64 0] 47 (0, 0)) (by (with_reducible repeat first | apply bN | apply bD | apply bA);exact BK342.out) hb);have n1_ := Aside0.mk (blk_below (g := gb348) (o := .cells #[.int .i64 t343, .int .i64 t344, .int .u64 t345, .string t346] 38 (0, 0)) (by (with_reducible repeat first | apply bN | apply bD | apply bA);exact BK348.out) hb);have n2_ := Aside0.mk (below_step (by repeat (first | (with_reducible first | exact HB.out | apply lA | apply lN | apply lD | refine below_set ?_ GE342.out | refine below_set ?_ GE348.out) | exact HB.out)) hb);clear BK342;clear BK348;clear HB;have BK342 := n0_;have BK348 := n1_;have HB := n2_;clear n0_ n1_ n2_;(try clear hb);(try clear hb2);(try clear hk);(try clear hi)) | ((with_reducible refine gate_dst (N := 8) rfl ?_);refine box_event ?hg (N := 8) ?hd (cs := #[.string (⟨#[]⟩ : ByteArray), .int .i64 0]) (t := 68) ?hr ?_;(case hd => rfl);(case hg => rfl);(case hr => first | (go_simp;done) | (go_simp;rfl));intro gb352 hg w63 hbox hb;have n0_ := Aside0.mk (blk_below (g := gb342) (o := .cells #[.int .u64 0, .int .i64 0] 47 (0, 0)) (by (with_reducible repeat first | apply bN | apply bD | apply bA);exact BK342.out) hb);have n1_ := Aside0.mk (blk_below (g := gb348) (o := .cells #[.int .i64 t343, .int .i64 t344, .int .u64 t345, .string t346] 38 (0, 0)) (by (with_reducible repeat first | apply bN | apply bD | apply bA);exact BK348.out) hb);have n2_ := Aside0.mk (below_step (by repeat (first | (with_reducible first | exact HB.out | apply lA | apply lN | apply lD | refine below_set ?_ GE342.out | refine below_set ?_ GE348.out) | exact HB.out)) hb);have n3_ := Aside0.mk (hbox);have n4_ := Aside0.mk ((by rw [hg];exact (below_size (by repeat (first | (with_reducible first | exact HB.out | apply lA | apply lN | apply lD | refine below_set ?_ GE342.out | refine below_set ?_ GE348.out) | exact HB.out))) : w.heap.size ≤ gb352));have n5_ := Aside0.mk ((by rw [hg];exact (below_size (by repeat (first | (with_reducible first | exact HB.out | apply lA | apply lN | apply lD | refine below_set ?_ GE342.out | refine below_set ?_ GE348.out) | exact HB.out))) : w.heap.size ≤ gb352));have n6_ := Aside0.mk ((by rw [hg];exact Nat.ne_of_lt (blk_lt (g := gb342) (o := .cells #[.int .u64 0, .int .i64 0] 47 (0, 0)) (by (with_reducible repeat first | apply bN | apply bD | apply bA);exact BK342.out)) : gb342 ≠ gb352));have n7_ := Aside0.mk ((by rw [hg];exact Nat.ne_of_gt (blk_lt (g := gb342) (o := .cells #[.int .u64 0, .int .i64 0] 47 (0, 0)) (by (with_reducible repeat first | apply bN | apply bD | apply bA);exact BK342.out)) : gb352 ≠ gb342));have n8_ := Aside0.mk ((by rw [hg];exact Nat.ne_of_lt (blk_lt (g := gb348) (o := .cells #[.int .i64 t343, .int .i64 t344, .int .u64 t345, .string t346] 38 (0, 0)) (by (with_reducible repeat first | apply bN | apply bD | apply bA);exact BK348.out)) : gb348 ≠ gb352));have n9_ := Aside0.mk ((by rw [hg];exact Nat.ne_of_gt (blk_lt (g := gb348) (o := .cells #[.int .i64 t343, .int .i64 t344, .int .u64 t345, .string t346] 38 (0, 0)) (by (with_reducible repeat first | apply bN | apply bD | apply bA);exact BK348.out)) : gb352 ≠ gb348));clear BK342;clear BK348;clear HB;have BK342 := n0_;have BK348 := n1_;have HB := n2_;have BK352 := n3_;have GW352 := n4_;have GE352 := n5_;have NB342_352 := n6_;have NB352_342 := n7_;have NB348_352 := n8_;have NB352_348 := n9_;clear n0_ n1_ n2_ n3_ n4_ n5_ n6_ n7_ n8_ n9_;clear hb hbox hg;have hnb64 := NB352_342.out;have hnc64 := NB342_352.out;have hnb65 := NB352_348.out;have hnc65 := NB348_352.out;have hcz66_0 : w63.cell? ⟨gb352, 0, none⟩ = some (.string (⟨#[]⟩ : ByteArray)) := (blk_cell BK352.out 0).trans rfl;have hcz66_1 : w63.cell? ⟨gb352, 1, none⟩ = some (.int .i64 0) := (blk_cell BK352.out 1).trans rfl;have hfz66_0 := blk_frozen BK352.out 0;have hfz66_1 := blk_frozen BK352.out 1;have hcz67_0 : w63.cell? ⟨gb348, 0, none⟩ = some (.int .i64 t343) := (blk_cell BK348.out 0).trans rfl;have hcz67_1 : w63.cell? ⟨gb348, 1, none⟩ = some (.int .i64 t344) := (blk_cell BK348.out 1).trans rfl;have hcz67_2 : w63.cell? ⟨gb348, 2, none⟩ = some (.int .u64 t345) := (blk_cell BK348.out 2).trans rfl;have hcz67_3 : w63.cell? ⟨gb348, 3, none⟩ = some (.string t346) := (blk_cell BK348.out 3).trans rfl;have hfz67_0 := blk_frozen BK348.out 0;have hfz67_1 := blk_frozen BK348.out 1;have hfz67_2 := blk_frozen BK348.out 2;have hfz67_3 := blk_frozen BK348.out 3) | ((with_reducible refine gate_dst (N := 10) rfl ?_);refine box_event ?hg (N := 10) ?hd (cs := #[.int .u64 0, .int .i64 0]) (t := 47) ?hr ?_;(case hd => rfl);(case hg => rfl);(case hr => first | (go_simp;done) | (go_simp;rfl));intro gb353 hg w68 hbox hb;have n0_ := Aside0.mk (blk_below (g := gb342) (o := .cells #[.int .u64 0, .int .i64 0] 47 (0, 0)) (by (with_reducible repeat first | apply bN | apply bD | apply bA);refine blk_far ?_ NB342_352.out _;(with_reducible repeat first | apply bN | apply bD | apply bA);refine blk_far ?_ NB342_352.out _;(with_reducible repeat first | apply bN | apply bD | apply bA);exact BK342.out) hb);have n1_ := Aside0.mk (blk_below (g := gb348) (o := .cells #[.int .i64 t343, .int .i64 t344, .int .u64 t345, .string t346] 38 (0, 0)) (by (with_reducible repeat first | apply bN | apply bD | apply bA);refine blk_far ?_ NB348_352.out _;(with_reducible repeat first | apply bN | apply bD | apply bA);refine blk_far ?_ NB348_352.out _;(with_reducible repeat first | apply bN | apply bD | apply bA);exact BK348.out) hb);have n2_ := Aside0.mk (blk_below (g := gb352) (o := .cells #[.string t349, .int .i64 t350] 68 (0, 0)) (by (with_reducible repeat first | apply bN | apply bD | apply bA);refine blk_put (cs := #[.string t349, .int .i64 0]) ?_ 1 _ rfl;(with_reducible repeat first | apply bN | apply bD | apply bA);refine blk_put (cs := #[.string (⟨#[]⟩ : ByteArray), .int .i64 0]) ?_ 0 _ rfl;(with_reducible repeat first | apply bN | apply bD | apply bA);exact BK352.out) hb);have n3_ := Aside0.mk (below_step (by repeat (first | (with_reducible first | exact HB.out | apply lA | apply lN | apply lD | refine below_set ?_ GE342.out | refine below_set ?_ GE348.out | refine below_set ?_ GE352.out) | exact HB.out)) hb);have n4_ := Aside0.mk (hbox);have n5_ := Aside0.mk ((by rw [hg];exact (below_size (by repeat (first | (with_reducible first | exact HB.out | apply lA | apply lN | apply lD | refine below_set ?_ GE342.out | refine below_set ?_ GE348.out | refine below_set ?_ GE352.out) | exact HB.out))) : w.heap.size ≤ gb353));have n6_ := Aside0.mk ((by rw [hg];exact (below_size (by repeat (first | (with_reducible first | exact HB.out | apply lA | apply lN | apply lD | refine below_set ?_ GE342.out | refine below_set ?_ GE348.out | refine below_set ?_ GE352.out) | exact HB.out))) : w.heap.size ≤ gb353));have n7_ := Aside0.mk ((by rw [hg];exact Nat.ne_of_lt (blk_lt (g := gb342) (o := .cells #[.int .u64 0, .int .i64 0] 47 (0, 0)) (by (with_reducible repeat first | apply bN | apply bD | apply bA);refine blk_far ?_ NB342_352.out _;(with_reducible repeat first | apply bN | apply bD | apply bA);refine blk_far ?_ NB342_352.out _;(with_reducible repeat first | apply bN | apply bD | apply bA);exact BK342.out)) : gb342 ≠ gb353));have n8_ := Aside0.mk ((by rw [hg];exact Nat.ne_of_gt (blk_lt (g := gb342) (o := .cells #[.int .u64 0, .int .i64 0] 47 (0, 0)) (by (with_reducible repeat first | apply bN | apply bD | apply bA);refine blk_far ?_ NB342_352.out _;(with_reducible repeat first | apply bN | apply bD | apply bA);refine blk_far ?_ NB342_352.out _;(with_reducible repeat first | apply bN | apply bD | apply bA);exact BK342.out)) : gb353 ≠ gb342));have n9_ := Aside0.mk ((by rw [hg];exact Nat.ne_of_lt (blk_lt (g := gb348) (o := .cells #[.int .i64 t343, .int .i64 t344, .int .u64 t345, .string t346] 38 (0, 0)) (by (with_reducible repeat first | apply bN | apply bD | apply bA);refine blk_far ?_ NB348_352.out _;(with_reducible repeat first | apply bN | apply bD | apply bA);refine blk_far ?_ NB348_352.out _;(with_reducible repeat first | apply bN | apply bD | apply bA);exact BK348.out)) : gb348 ≠ gb353));have n10_ := Aside0.mk ((by rw [hg];exact Nat.ne_of_gt (blk_lt (g := gb348) (o := .cells #[.int .i64 t343, .int .i64 t344, .int .u64 t345, .string t346] 38 (0, 0)) (by (with_reducible repeat first | apply bN | apply bD | apply bA);refine blk_far ?_ NB348_352.out _;(with_reducible repeat first | apply bN | apply bD | apply bA);refine blk_far ?_ NB348_352.out _;(with_reducible repeat first | apply bN | apply bD | apply bA);exact BK348.out)) : gb353 ≠ gb348));have n11_ := Aside0.mk ((by rw [hg];exact Nat.ne_of_lt (blk_lt (g := gb352) (o := .cells #[.string t349, .int .i64 t350] 68 (0, 0)) (by (with_reducible repeat first | apply bN | apply bD | apply bA);refine blk_put (cs := #[.string t349, .int .i64 0]) ?_ 1 _ rfl;(with_reducible repeat first | apply bN | apply bD | apply bA);refine blk_put (cs := #[.string (⟨#[]⟩ : ByteArray), .int .i64 0]) ?_ 0 _ rfl;(with_reducible repeat first | apply bN | apply bD | apply bA);exact BK352.out)) : gb352 ≠ gb353));have n12_ := Aside0.mk ((by rw [hg];exact Nat.ne_of_gt (blk_lt (g := gb352) (o := .cells #[.string t349, .int .i64 t350] 68 (0, 0)) (by (with_reducible repeat first | apply bN | apply bD | apply bA);refine blk_put (cs := #[.string t349, .int .i64 0]) ?_ 1 _ rfl;(with_reducible repeat first | apply bN | apply bD | apply bA);refine blk_put (cs := #[.string (⟨#[]⟩ : ByteArray), .int .i64 0]) ?_ 0 _ rfl;(with_reducible repeat first | apply bN | apply bD | apply bA);exact BK352.out)) : gb353 ≠ gb352));clear BK342;clear BK348;clear BK352;clear HB;have BK342 := n0_;have BK348 := n1_;have BK352 := n2_;have HB := n3_;have BK353 := n4_;have GW353 := n5_;have GE353 := n6_;have NB342_353 := n7_;have NB353_342 := n8_;have NB348_353 := n9_;have NB353_348 := n10_;have NB352_353 := n11_;have NB353_352 := n12_;clear n0_ n1_ n2_ n3_ n4_ n5_ n6_ n7_ n8_ n9_ n10_ n11_ n12_;clear hb hbox hg;have hnb69 := NB353_342.out;have hnc69 := NB342_353.out;have hnb70 := NB353_348.out;have hnc70 := NB348_353.out;have hnb71 := NB353_352.out;have hnc71 := NB352_353.out;have hcz72_0 : w68.cell? ⟨gb353, 0, none⟩ = some (.int .u64 0) := (blk_cell BK353.out 0).trans rfl;have hcz72_1 : w68.cell? ⟨gb353, 1, none⟩ = some (.int .i64 0) := (blk_cell BK353.out 1).trans rfl;have hfz72_0 := blk_frozen BK353.out 0;have hfz72_1 := blk_frozen BK353.out 1;have hcz73_0 : w68.cell? ⟨gb352, 0, none⟩ = some (.string t349) := (blk_cell BK352.out 0).trans rfl;have hcz73_1 : w68.cell? ⟨gb352, 1, none⟩ = some (.int .i64 t350) := (blk_cell BK352.out 1).trans rfl;have hfz73_0 := blk_frozen BK352.out 0;have hfz73_1 := blk_frozen BK352.out 1) | ((with_reducible refine gate_callee (f := 49) rfl ?_);refine goesL_ (some 38) rfl rfl Try.func49 (by kernel_rfl) rfl #[.agg #[.string t349, .int .i64 t350]] rfl (by (try simp only [List.map_toArray, List.map_cons, List.map_nil]);first | done | rfl) ?_;(with_reducible refine (keywayref03_R_End.calls t349 t350 t354 _ A17.out).mono ?_);rintro e w74 ⟨rfl, hb⟩;refine ⟨_, rfl, ?_⟩;have n0_ := Aside0.mk (blk_below (g := gb342) (o := .cells #[.int .u64 0, .int .i64 0] 47 (0, 0)) (by (with_reducible repeat first | apply bN | apply bD | apply bA);refine blk_far ?_ NB342_353.out _;(with_reducible repeat first | apply bN | apply bD | apply bA);refine blk_far ?_ NB342_353.out _;(with_reducible repeat first | apply bN | apply bD | apply bA);exact BK342.out) hb);have n1_ := Aside0.mk (blk_below (g := gb348) (o := .cells #[.int .i64 t343, .int .i64 t344, .int .u64 t345, .string t346] 38 (0, 0)) (by (with_reducible repeat first | apply bN | apply bD | apply bA);refine blk_far ?_ NB348_353.out _;(with_reducible repeat first | apply bN | apply bD | apply bA);refine blk_far ?_ NB348_353.out _;(with_reducible repeat first | apply bN | apply bD | apply bA);exact BK348.out) hb);have n2_ := Aside0.mk (blk_below (g := gb352) (o := .cells #[.string t349, .int .i64 t350] 68 (0, 0)) (by (with_reducible repeat first | apply bN | apply bD | apply bA);refine blk_far ?_ NB352_353.out _;(with_reducible repeat first | apply bN | apply bD | apply bA);refine blk_far ?_ NB352_353.out _;(with_reducible repeat first | apply bN | apply bD | apply bA);exact BK352.out) hb);have n3_ := Aside0.mk (blk_below (g := gb353) (o := .cells #[.int .u64 t345, .int .i64 (wrap64 ((wrap64 (t351)) - 1))] 47 (0, 0)) (by (with_reducible repeat first | apply bN | apply bD | apply bA);refine blk_put (cs := #[.int .u64 t345, .int .i64 0]) ?_ 1 _ rfl;(with_reducible repeat first | apply bN | apply bD | apply bA);refine blk_put (cs := #[.int .u64 0, .int .i64 0]) ?_ 0 _ rfl;(with_reducible repeat first | apply bN | apply bD | apply bA);exact BK353.out) hb);have n4_ := Aside0.mk (below_step (by repeat (first | (with_reducible first | exact HB.out | apply lA | apply lN | apply lD | refine below_set ?_ GE342.out | refine below_set ?_ GE348.out | refine below_set ?_ GE352.out | refine below_set ?_ GE353.out) | exact HB.out)) hb);clear BK342;clear BK348;clear BK352;clear BK353;clear HB;have BK342 := n0_;have BK348 := n1_;have BK352 := n2_;have BK353 := n3_;have HB := n4_;clear n0_ n1_ n2_ n3_ n4_;(try clear hb);(try clear hb2);(try clear hk);(try clear hi);have hcz75_0 : w74.cell? ⟨gb353, 0, none⟩ = some (.int .u64 t345) := (blk_cell BK353.out 0).trans rfl;have hcz75_1 : w74.cell? ⟨gb353, 1, none⟩ = some (.int .i64 (wrap64 ((wrap64 (t351)) - 1))) := (blk_cell BK353.out 1).trans rfl;have hfz75_0 := blk_frozen BK353.out 0;have hfz75_1 := blk_frozen BK353.out 1) | (go_at_call 29;(with_reducible refine (keywaylaw07_put.calls kj3 t345 (wrap64 ((wrap64 (t351)) - 1)) t355 _ A19.out).mono ?_);rintro e w76 ⟨rfl, hb⟩;have n0_ := Aside0.mk (blk_below (g := gb342) (o := .cells #[.int .u64 0, .int .i64 0] 47 (0, 0)) (by (with_reducible repeat first | apply bN | apply bD | apply bA);exact BK342.out) hb);have n1_ := Aside0.mk (blk_below (g := gb348) (o := .cells #[.int .i64 t343, .int .i64 t344, .int .u64 t345, .string t346] 38 (0, 0)) (by (with_reducible repeat first | apply bN | apply bD | apply bA);exact BK348.out) hb);have n2_ := Aside0.mk (blk_below (g := gb352) (o := .cells #[.string t349, .int .i64 t350] 68 (0, 0)) (by (with_reducible repeat first | apply bN | apply bD | apply bA);exact BK352.out) hb);have n3_ := Aside0.mk (blk_below (g := gb353) (o := .cells #[.int .u64 t345, .int .i64 (wrap64 ((wrap64 (t351)) - 1))] 47 (0, 0)) (by (with_reducible repeat first | apply bN | apply bD | apply bA);exact BK353.out) hb);have n4_ := Aside0.mk (below_step (by repeat (first | (with_reducible first | exact HB.out | apply lA | apply lN | apply lD | refine below_set ?_ GE342.out | refine below_set ?_ GE348.out | refine below_set ?_ GE352.out | refine below_set ?_ GE353.out) | exact HB.out)) hb);clear BK342;clear BK348;clear BK352;clear BK353;clear HB;have BK342 := n0_;have BK348 := n1_;have BK352 := n2_;have BK353 := n3_;have HB := n4_;clear n0_ n1_ n2_ n3_ n4_;(try clear hb);(try clear hb2);(try clear hk);(try clear hi);have hcz77_0 : w76.cell? ⟨gb342, 0, none⟩ = some (.int .u64 0) := (blk_cell BK342.out 0).trans rfl;have hcz77_1 : w76.cell? ⟨gb342, 1, none⟩ = some (.int .i64 0) := (blk_cell BK342.out 1).trans rfl;have hfz77_0 := blk_frozen BK342.out 0;have hfz77_1 := blk_frozen BK342.out 1))
      refine bodyPost_ret (results_ct rfl _ _ gb342 47 #[.int .u64 0, .int .i64 0] (0, 0) _ rfl (by (with_reducible repeat first | apply bN | apply bD | apply bA); refine blk_put (cs := #[.int .u64 0, .int .i64 0]) ?_ 1 _ rfl; (with_reducible repeat first | apply bN | apply bD | apply bA); refine blk_put (cs := #[.int .u64 0, .int .i64 0]) ?_ 0 _ rfl; (with_reducible repeat first | apply bN | apply bD | apply bA); exact BK342.out) Try.underlying47 rfl (by kernel_rfl)) rfl ?_
      exact ⟨by first | rfl | (simp <;> rfl) | (simp [*] <;> rfl), by repeat (first | (with_reducible first | exact HB.out | apply lA | apply lN | apply lD | refine below_set ?_ GE342.out | refine below_set ?_ GE348.out | refine below_set ?_ GE352.out | refine below_set ?_ GE353.out) | exact HB.out)⟩
    ·rw [if_neg c18] at H
     have c18b0 : (t354 == 0) = false := beq_eq_false_iff_ne.mpr c18
     have c18b1 : (t354 != 0) = true := bne_iff_ne.mpr c18
     simp only [Option.some.injEq, Prod.mk.injEq] at H
     obtain ⟨rfl, rfl, rfl⟩ := H
     have hnb78 := NB348_342.out
     have hnc78 := NB342_348.out
     have hcz79_0 : wc.cell? ⟨gb348, 0, none⟩ = some (.int .i64 t343) := (blk_cell BK348.out 0).trans rfl
     have hcz79_1 : wc.cell? ⟨gb348, 1, none⟩ = some (.int .i64 t344) := (blk_cell BK348.out 1).trans rfl
     have hcz79_2 : wc.cell? ⟨gb348, 2, none⟩ = some (.int .u64 t345) := (blk_cell BK348.out 2).trans rfl
     have hcz79_3 : wc.cell? ⟨gb348, 3, none⟩ = some (.string t346) := (blk_cell BK348.out 3).trans rfl
     have hfz79_0 := blk_frozen BK348.out 0
     have hfz79_1 := blk_frozen BK348.out 1
     have hfz79_2 := blk_frozen BK348.out 2
     have hfz79_3 := blk_frozen BK348.out 3
     go_wp2_with (first | ((with_reducible refine gate_callee (f := 48) rfl ?_);refine goesL_ (some 28) rfl rfl Try.func48 (by kernel_rfl) rfl #[.agg #[.string t346, .int .i64 0], .int .u64 16384] rfl (by (try simp only [List.map_toArray, List.map_cons, List.map_nil]);first | done | rfl) ?_;(with_reducible refine (keywayref03_R_Num.calls kj3 t346 0 16384 t349 t350 t351 _ A16.out).mono ?_);rintro e w80 ⟨rfl, hb⟩;refine ⟨_, rfl, ?_⟩;have n0_ := Aside0.mk (blk_below (g := gb342) (o := .cells #[.int .u64 0, .int .i64 0] 47 (0, 0)) (by (with_reducible repeat first | apply bN | apply bD | apply bA);exact BK342.out) hb);have n1_ := Aside0.mk (blk_below (g := gb348) (o := .cells #[.int .i64 t343, .int .i64 t344, .int .u64 t345, .string t346] 38 (0, 0)) (by (with_reducible repeat first | apply bN | apply bD | apply bA);exact BK348.out) hb);have n2_ := Aside0.mk (below_step (by repeat (first | (with_reducible first | exact HB.out | apply lA | apply lN | apply lD | refine below_set ?_ GE342.out | refine below_set ?_ GE348.out) | exact HB.out)) hb);clear BK342;clear BK348;clear HB;have BK342 := n0_;have BK348 := n1_;have HB := n2_;clear n0_ n1_ n2_;(try clear hb);(try clear hb2);(try clear hk);(try clear hi)) | ((with_reducible refine gate_dst (N := 8) rfl ?_);refine box_event ?hg (N := 8) ?hd (cs := #[.string (⟨#[]⟩ : ByteArray), .int .i64 0]) (t := 68) ?hr ?_;(case hd => rfl);(case hg => rfl);(case hr => first | (go_simp;done) | (go_simp;rfl));intro gb352 hg w81 hbox hb;have n0_ := Aside0.mk (blk_below (g := gb342) (o := .cells #[.int .u64 0, .int .i64 0] 47 (0, 0)) (by (with_reducible repeat first | apply bN | apply bD | apply bA);exact BK342.out) hb);have n1_ := Aside0.mk (blk_below (g := gb348) (o := .cells #[.int .i64 t343, .int .i64 t344, .int .u64 t345, .string t346] 38 (0, 0)) (by (with_reducible repeat first | apply bN | apply bD | apply bA);exact BK348.out) hb);have n2_ := Aside0.mk (below_step (by repeat (first | (with_reducible first | exact HB.out | apply lA | apply lN | apply lD | refine below_set ?_ GE342.out | refine below_set ?_ GE348.out) | exact HB.out)) hb);have n3_ := Aside0.mk (hbox);have n4_ := Aside0.mk ((by rw [hg];exact (below_size (by repeat (first | (with_reducible first | exact HB.out | apply lA | apply lN | apply lD | refine below_set ?_ GE342.out | refine below_set ?_ GE348.out) | exact HB.out))) : w.heap.size ≤ gb352));have n5_ := Aside0.mk ((by rw [hg];exact (below_size (by repeat (first | (with_reducible first | exact HB.out | apply lA | apply lN | apply lD | refine below_set ?_ GE342.out | refine below_set ?_ GE348.out) | exact HB.out))) : w.heap.size ≤ gb352));have n6_ := Aside0.mk ((by rw [hg];exact Nat.ne_of_lt (blk_lt (g := gb342) (o := .cells #[.int .u64 0, .int .i64 0] 47 (0, 0)) (by (with_reducible repeat first | apply bN | apply bD | apply bA);exact BK342.out)) : gb342 ≠ gb352));have n7_ := Aside0.mk ((by rw [hg];exact Nat.ne_of_gt (blk_lt (g := gb342) (o := .cells #[.int .u64 0, .int .i64 0] 47 (0, 0)) (by (with_reducible repeat first | apply bN | apply bD | apply bA);exact BK342.out)) : gb352 ≠ gb342));have n8_ := Aside0.mk ((by rw [hg];exact Nat.ne_of_lt (blk_lt (g := gb348) (o := .cells #[.int .i64 t343, .int .i64 t344, .int .u64 t345, .string t346] 38 (0, 0)) (by (with_reducible repeat first | apply bN | apply bD | apply bA);exact BK348.out)) : gb348 ≠ gb352));have n9_ := Aside0.mk ((by rw [hg];exact Nat.ne_of_gt (blk_lt (g := gb348) (o := .cells #[.int .i64 t343, .int .i64 t344, .int .u64 t345, .string t346] 38 (0, 0)) (by (with_reducible repeat first | apply bN | apply bD | apply bA);exact BK348.out)) : gb352 ≠ gb348));clear BK342;clear BK348;clear HB;have BK342 := n0_;have BK348 := n1_;have HB := n2_;have BK352 := n3_;have GW352 := n4_;have GE352 := n5_;have NB342_352 := n6_;have NB352_342 := n7_;have NB348_352 := n8_;have NB352_348 := n9_;clear n0_ n1_ n2_ n3_ n4_ n5_ n6_ n7_ n8_ n9_;clear hb hbox hg;have hnb82 := NB352_342.out;have hnc82 := NB342_352.out;have hnb83 := NB352_348.out;have hnc83 := NB348_352.out;have hcz84_0 : w81.cell? ⟨gb352, 0, none⟩ = some (.string (⟨#[]⟩ : ByteArray)) := (blk_cell BK352.out 0).trans rfl;have hcz84_1 : w81.cell? ⟨gb352, 1, none⟩ = some (.int .i64 0) := (blk_cell BK352.out 1).trans rfl;have hfz84_0 := blk_frozen BK352.out 0;have hfz84_1 := blk_frozen BK352.out 1;have hcz85_0 : w81.cell? ⟨gb348, 0, none⟩ = some (.int .i64 t343) := (blk_cell BK348.out 0).trans rfl;have hcz85_1 : w81.cell? ⟨gb348, 1, none⟩ = some (.int .i64 t344) := (blk_cell BK348.out 1).trans rfl;have hcz85_2 : w81.cell? ⟨gb348, 2, none⟩ = some (.int .u64 t345) := (blk_cell BK348.out 2).trans rfl;have hcz85_3 : w81.cell? ⟨gb348, 3, none⟩ = some (.string t346) := (blk_cell BK348.out 3).trans rfl;have hfz85_0 := blk_frozen BK348.out 0;have hfz85_1 := blk_frozen BK348.out 1;have hfz85_2 := blk_frozen BK348.out 2;have hfz85_3 := blk_frozen BK348.out 3) | ((with_reducible refine gate_dst (N := 10) rfl ?_);refine box_event ?hg (N := 10) ?hd (cs := #[.int .u64 0, .int .i64 0]) (t := 47) ?hr ?_;(case hd => rfl);(case hg => rfl);(case hr => first | (go_simp;done) | (go_simp;rfl));intro gb353 hg w86 hbox hb;have n0_ := Aside0.mk (blk_below (g := gb342) (o := .cells #[.int .u64 0, .int .i64 0] 47 (0, 0)) (by (with_reducible repeat first | apply bN | apply bD | apply bA);refine blk_far ?_ NB342_352.out _;(with_reducible repeat first | apply bN | apply bD | apply bA);refine blk_far ?_ NB342_352.out _;(with_reducible repeat first | apply bN | apply bD | apply bA);exact BK342.out) hb);have n1_ := Aside0.mk (blk_below (g := gb348) (o := .cells #[.int .i64 t343, .int .i64 t344, .int .u64 t345, .string t346] 38 (0, 0)) (by (with_reducible repeat first | apply bN | apply bD | apply bA);refine blk_far ?_ NB348_352.out _;(with_reducible repeat first | apply bN | apply bD | apply bA);refine blk_far ?_ NB348_352.out _;(with_reducible repeat first | apply bN | apply bD | apply bA);exact BK348.out) hb);have n2_ := Aside0.mk (blk_below (g := gb352) (o := .cells #[.string t349, .int .i64 t350] 68 (0, 0)) (by (with_reducible repeat first | apply bN | apply bD | apply bA);refine blk_put (cs := #[.string t349, .int .i64 0]) ?_ 1 _ rfl;(with_reducible repeat first | apply bN | apply bD | apply bA);refine blk_put (cs := #[.string (⟨#[]⟩ : ByteArray), .int .i64 0]) ?_ 0 _ rfl;(with_reducible repeat first | apply bN | apply bD | apply bA);exact BK352.out) hb);have n3_ := Aside0.mk (below_step (by repeat (first | (with_reducible first | exact HB.out | apply lA | apply lN | apply lD | refine below_set ?_ GE342.out | refine below_set ?_ GE348.out | refine below_set ?_ GE352.out) | exact HB.out)) hb);have n4_ := Aside0.mk (hbox);have n5_ := Aside0.mk ((by rw [hg];exact (below_size (by repeat (first | (with_reducible first | exact HB.out | apply lA | apply lN | apply lD | refine below_set ?_ GE342.out | refine below_set ?_ GE348.out | refine below_set ?_ GE352.out) | exact HB.out))) : w.heap.size ≤ gb353));have n6_ := Aside0.mk ((by rw [hg];exact (below_size (by repeat (first | (with_reducible first | exact HB.out | apply lA | apply lN | apply lD | refine below_set ?_ GE342.out | refine below_set ?_ GE348.out | refine below_set ?_ GE352.out) | exact HB.out))) : w.heap.size ≤ gb353));have n7_ := Aside0.mk ((by rw [hg];exact Nat.ne_of_lt (blk_lt (g := gb342) (o := .cells #[.int .u64 0, .int .i64 0] 47 (0, 0)) (by (with_reducible repeat first | apply bN | apply bD | apply bA);refine blk_far ?_ NB342_352.out _;(with_reducible repeat first | apply bN | apply bD | apply bA);refine blk_far ?_ NB342_352.out _;(with_reducible repeat first | apply bN | apply bD | apply bA);exact BK342.out)) : gb342 ≠ gb353));have n8_ := Aside0.mk ((by rw [hg];exact Nat.ne_of_gt (blk_lt (g := gb342) (o := .cells #[.int .u64 0, .int .i64 0] 47 (0, 0)) (by (with_reducible repeat first | apply bN | apply bD | apply bA);refine blk_far ?_ NB342_352.out _;(with_reducible repeat first | apply bN | apply bD | apply bA);refine blk_far ?_ NB342_352.out _;(with_reducible repeat first | apply bN | apply bD | apply bA);exact BK342.out)) : gb353 ≠ gb342));have n9_ := Aside0.mk ((by rw [hg];exact Nat.ne_of_lt (blk_lt (g := gb348) (o := .cells #[.int .i64 t343, .int .i64 t344, .int .u64 t345, .string t346] 38 (0, 0)) (by (with_reducible repeat first | apply bN | apply bD | apply bA);refine blk_far ?_ NB348_352.out _;(with_reducible repeat first | apply bN | apply bD | apply bA);refine blk_far ?_ NB348_352.out _;(with_reducible repeat first | apply bN | apply bD | apply bA);exact BK348.out)) : gb348 ≠ gb353));have n10_ := Aside0.mk ((by rw [hg];exact Nat.ne_of_gt (blk_lt (g := gb348) (o := .cells #[.int .i64 t343, .int .i64 t344, .int .u64 t345, .string t346] 38 (0, 0)) (by (with_reducible repeat first | apply bN | apply bD | apply bA);refine blk_far ?_ NB348_352.out _;(with_reducible repeat first | apply bN | apply bD | apply bA);refine blk_far ?_ NB348_352.out _;(with_reducible repeat first | apply bN | apply bD | apply bA);exact BK348.out)) : gb353 ≠ gb348));have n11_ := Aside0.mk ((by rw [hg];exact Nat.ne_of_lt (blk_lt (g := gb352) (o := .cells #[.string t349, .int .i64 t350] 68 (0, 0)) (by (with_reducible repeat first | apply bN | apply bD | apply bA);refine blk_put (cs := #[.string t349, .int .i64 0]) ?_ 1 _ rfl;(with_reducible repeat first | apply bN | apply bD | apply bA);refine blk_put (cs := #[.string (⟨#[]⟩ : ByteArray), .int .i64 0]) ?_ 0 _ rfl;(with_reducible repeat first | apply bN | apply bD | apply bA);exact BK352.out)) : gb352 ≠ gb353));have n12_ := Aside0.mk ((by rw [hg];exact Nat.ne_of_gt (blk_lt (g := gb352) (o := .cells #[.string t349, .int .i64 t350] 68 (0, 0)) (by (with_reducible repeat first | apply bN | apply bD | apply bA);refine blk_put (cs := #[.string t349, .int .i64 0]) ?_ 1 _ rfl;(with_reducible repeat first | apply bN | apply bD | apply bA);refine blk_put (cs := #[.string (⟨#[]⟩ : ByteArray), .int .i64 0]) ?_ 0 _ rfl;(with_reducible repeat first | apply bN | apply bD | apply bA);exact BK352.out)) : gb353 ≠ gb352));clear BK342;clear BK348;clear BK352;clear HB;have BK342 := n0_;have BK348 := n1_;have BK352 := n2_;have HB := n3_;have BK353 := n4_;have GW353 := n5_;have GE353 := n6_;have NB342_353 := n7_;have NB353_342 := n8_;have NB348_353 := n9_;have NB353_348 := n10_;have NB352_353 := n11_;have NB353_352 := n12_;clear n0_ n1_ n2_ n3_ n4_ n5_ n6_ n7_ n8_ n9_ n10_ n11_ n12_;clear hb hbox hg;have hnb87 := NB353_342.out;have hnc87 := NB342_353.out;have hnb88 := NB353_348.out;have hnc88 := NB348_353.out;have hnb89 := NB353_352.out;have hnc89 := NB352_353.out;have hcz90_0 : w86.cell? ⟨gb353, 0, none⟩ = some (.int .u64 0) := (blk_cell BK353.out 0).trans rfl;have hcz90_1 : w86.cell? ⟨gb353, 1, none⟩ = some (.int .i64 0) := (blk_cell BK353.out 1).trans rfl;have hfz90_0 := blk_frozen BK353.out 0;have hfz90_1 := blk_frozen BK353.out 1;have hcz91_0 : w86.cell? ⟨gb352, 0, none⟩ = some (.string t349) := (blk_cell BK352.out 0).trans rfl;have hcz91_1 : w86.cell? ⟨gb352, 1, none⟩ = some (.int .i64 t350) := (blk_cell BK352.out 1).trans rfl;have hfz91_0 := blk_frozen BK352.out 0;have hfz91_1 := blk_frozen BK352.out 1) | ((with_reducible refine gate_callee (f := 49) rfl ?_);refine goesL_ (some 38) rfl rfl Try.func49 (by kernel_rfl) rfl #[.agg #[.string t349, .int .i64 t350]] rfl (by (try simp only [List.map_toArray, List.map_cons, List.map_nil]);first | done | rfl) ?_;(with_reducible refine (keywayref03_R_End.calls t349 t350 t354 _ A17.out).mono ?_);rintro e w92 ⟨rfl, hb⟩;refine ⟨_, rfl, ?_⟩;have n0_ := Aside0.mk (blk_below (g := gb342) (o := .cells #[.int .u64 0, .int .i64 0] 47 (0, 0)) (by (with_reducible repeat first | apply bN | apply bD | apply bA);refine blk_far ?_ NB342_353.out _;(with_reducible repeat first | apply bN | apply bD | apply bA);refine blk_far ?_ NB342_353.out _;(with_reducible repeat first | apply bN | apply bD | apply bA);exact BK342.out) hb);have n1_ := Aside0.mk (blk_below (g := gb348) (o := .cells #[.int .i64 t343, .int .i64 t344, .int .u64 t345, .string t346] 38 (0, 0)) (by (with_reducible repeat first | apply bN | apply bD | apply bA);refine blk_far ?_ NB348_353.out _;(with_reducible repeat first | apply bN | apply bD | apply bA);refine blk_far ?_ NB348_353.out _;(with_reducible repeat first | apply bN | apply bD | apply bA);exact BK348.out) hb);have n2_ := Aside0.mk (blk_below (g := gb352) (o := .cells #[.string t349, .int .i64 t350] 68 (0, 0)) (by (with_reducible repeat first | apply bN | apply bD | apply bA);refine blk_far ?_ NB352_353.out _;(with_reducible repeat first | apply bN | apply bD | apply bA);refine blk_far ?_ NB352_353.out _;(with_reducible repeat first | apply bN | apply bD | apply bA);exact BK352.out) hb);have n3_ := Aside0.mk (blk_below (g := gb353) (o := .cells #[.int .u64 t345, .int .i64 (wrap64 ((wrap64 (t351)) - 1))] 47 (0, 0)) (by (with_reducible repeat first | apply bN | apply bD | apply bA);refine blk_put (cs := #[.int .u64 t345, .int .i64 0]) ?_ 1 _ rfl;(with_reducible repeat first | apply bN | apply bD | apply bA);refine blk_put (cs := #[.int .u64 0, .int .i64 0]) ?_ 0 _ rfl;(with_reducible repeat first | apply bN | apply bD | apply bA);exact BK353.out) hb);have n4_ := Aside0.mk (below_step (by repeat (first | (with_reducible first | exact HB.out | apply lA | apply lN | apply lD | refine below_set ?_ GE342.out | refine below_set ?_ GE348.out | refine below_set ?_ GE352.out | refine below_set ?_ GE353.out) | exact HB.out)) hb);clear BK342;clear BK348;clear BK352;clear BK353;clear HB;have BK342 := n0_;have BK348 := n1_;have BK352 := n2_;have BK353 := n3_;have HB := n4_;clear n0_ n1_ n2_ n3_ n4_;(try clear hb);(try clear hb2);(try clear hk);(try clear hi);have hcz93_0 : w92.cell? ⟨gb342, 0, none⟩ = some (.int .u64 0) := (blk_cell BK342.out 0).trans rfl;have hcz93_1 : w92.cell? ⟨gb342, 1, none⟩ = some (.int .i64 0) := (blk_cell BK342.out 1).trans rfl;have hfz93_0 := blk_frozen BK342.out 0;have hfz93_1 := blk_frozen BK342.out 1))
     refine bodyPost_ret (results_ct rfl _ _ gb342 47 #[.int .u64 0, .int .i64 0] (0, 0) _ rfl (by (with_reducible repeat first | apply bN | apply bD | apply bA); refine blk_put (cs := #[.int .u64 0, .int .i64 0]) ?_ 1 _ rfl; (with_reducible repeat first | apply bN | apply bD | apply bA); refine blk_put (cs := #[.int .u64 0, .int .i64 0]) ?_ 0 _ rfl; (with_reducible repeat first | apply bN | apply bD | apply bA); exact BK342.out) Try.underlying47 rfl (by kernel_rfl)) rfl ?_
     exact ⟨by first | rfl | (simp <;> rfl) | (simp [*] <;> rfl), by repeat (first | (with_reducible first | exact HB.out | apply lA | apply lN | apply lD | refine below_set ?_ GE342.out | refine below_set ?_ GE348.out | refine below_set ?_ GE352.out | refine below_set ?_ GE353.out) | exact HB.out)⟩

end Go.Proofs.Ytlimgnpkbelmcaa.F
