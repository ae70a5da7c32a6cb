/- Contracts of the Go functions that the statements of this seat reach, each for every input at which its Lean function answers; written by a program. -/
import Derived.Test.YtlimgnpkbelmcaaF0
import Derived.Test.YtlimgnpkbelmcaaF8
import Derived.Test.YtlimgnpkbelmcaaF12
import Derived.Test.YtlimgnpkbelmcaaF13
namespace Go.Proofs.Ytlimgnpkbelmcaa.F
open Go.RowKit Go.Proofs.YtlimgnpkbelmcaaW.PrintWords Go.Proofs.YtlimgnpkbelmcaaW.PrintLast Go.Proofs.YtlimgnpkbelmcaaW.PrintMore
attribute [local go_sem] max2_int min2_int max_two min_two max_three min_three max_four min_four   -- for this text's walks alone
set_option linter.unusedVariables false
set_option linter.unusedSimpArgs false

/-! ### super_Get: function 27 -/
def super_Get.f (k : Nat) (a0 : ByteArray) (a1 : Int) : Option (Int × Int × Bool) := (page_Get.f k a0).bind fun bt275 => (if bt275.2.2.2.2 = 0 then (if bt275.1 = 1 then (if bt275.2.1 = a1 then ((wire_New.f bt275.2.2.2.1).bind fun bt281 => ((wire_Reader_Num.f k bt281.1 bt281.2 16384).bind fun bt284 => ((wire_Reader_End.f k bt284.2.1 bt284.2.2).bind fun bt288 => (if bt288.1 = 0 then ((super_May.f bt275.2.2.1 (wrap64 ((wrap64 (bt284.1)) - 1))).bind fun t291 => (if t291 = true then ((super_Where.f bt275.2.2.1).bind fun t292 => (if t292 = a1 then (some (bt275.2.2.1, wrap64 ((wrap64 (bt284.1)) - 1), true)) else (some (0, 0, false)))) else (some (0, 0, false)))) else (some (0, 0, false)))))) else (some (0, 0, false))) else (some (0, 0, false))) else (some (0, 0, false)))
set_option maxRecDepth 100000 in
theorem super_Get.mono : ∀ a0 a1 k, LeO (super_Get.f k a0 a1) (super_Get.f (k + 1) a0 a1) := by
 intro a0 a1 k
 unfold super_Get.f
 repeat' first
   | (with_reducible exact page_Get.mono _ _)
   | (with_reducible exact wire_Reader_End.mono _ _ _)
   | (with_reducible exact wire_Reader_Num.mono _ _ _ _)
   | (with_reducible exact LeO.refl _)
   | (with_reducible exact LeO.none _)
   | (with_reducible refine LeO.ite ?_ ?_)
   | (with_reducible refine LeO.bind ?_ (fun _ => ?_))
   | exact page_Get.mono _ _
   | exact wire_Reader_End.mono _ _ _
   | exact wire_Reader_Num.mono _ _ _ _
   | exact LeO.none _
   | refine LeO.ite ?_ ?_
   | refine LeO.bind ?_ (fun _ => ?_)
def super_Get.T5 : Bool × List (List Nat × List Nat) := (true, [([], []), ([0], [0]), ([], []), ([2], [2]), ([3], [3]), ([4], [4]), ([1, 5], [1, 5]), ([], []), ([7, 6, 3, 0, 1, 2, 3, 4, 5, 6, 7], [6, 7])])
def super_Get.B5 : List Nat := [0, 1, 0, 4, 12, 28, 63, 0, 255]
theorem super_Get.tab5 : rtab .any (opsOf Try.f27 5) = super_Get.T5 := by kernel_rfl
theorem super_Get.bits5 : waitsOk super_Get.T5.2 super_Get.B5 = true := by kernel_rfl
set_option maxHeartbeats 8000000 in
set_option maxRecDepth 100000 in
theorem super_Get.calls (k : Nat) (a0 : ByteArray) (a1 : Int) (r1 : Int) (r2 : Int) (r3 : Bool) (w : World) (h : super_Get.f k a0 a1 = some (r1, r2, r3)) :
  Calls Try.prog 27 #[.string a0, .int .i64 a1] w fun e w' => e = .returned (.tuple #[.agg #[.int .u64 r1, .int .i64 r2], .bool r3]) ∧ Below w.heap.size w w' := by
 have hu47 := Try.underlying47
 have hu35 := Try.underlying35
 have HB := Aside0.mk (Below.refl w.heap.size w)
 have H : ((page_Get.f k a0).bind fun bt275 => (if bt275.2.2.2.2 = 0 then (if bt275.1 = 1 then (if bt275.2.1 = a1 then ((wire_New.f bt275.2.2.2.1).bind fun bt281 => ((wire_Reader_Num.f k bt281.1 bt281.2 16384).bind fun bt284 => ((wire_Reader_End.f k bt284.2.1 bt284.2.2).bind fun bt288 => (if bt288.1 = 0 then ((super_May.f bt275.2.2.1 (wrap64 ((wrap64 (bt284.1)) - 1))).bind fun t291 => (if t291 = true then ((super_Where.f bt275.2.2.1).bind fun t292 => (if t292 = a1 then (some (bt275.2.2.1, wrap64 ((wrap64 (bt284.1)) - 1), true)) else (some (0, 0, false)))) else (some (0, 0, false)))) else (some (0, 0, false)))))) else (some (0, 0, false))) else (some (0, 0, false))) else (some (0, 0, false)))) = some (r1, r2, r3) := h
 clear h
 replace H := Option.bind_eq_some_iff.mp H
 obtain ⟨⟨t275, t276, t277, t278, t279⟩, A30, H⟩ := H
 replace H : (if t279 = 0 then (if t275 = 1 then (if t276 = a1 then ((wire_New.f t278).bind fun bt281 => ((wire_Reader_Num.f k bt281.1 bt281.2 16384).bind fun bt284 => ((wire_Reader_End.f k bt284.2.1 bt284.2.2).bind fun bt288 => (if bt288.1 = 0 then ((super_May.f t277 (wrap64 ((wrap64 (bt284.1)) - 1))).bind fun t291 => (if t291 = true then ((super_Where.f t277).bind fun t292 => (if t292 = a1 then (some (t277, wrap64 ((wrap64 (bt284.1)) - 1), true)) else (some (0, 0, false)))) else (some (0, 0, false)))) else (some (0, 0, false)))))) else (some (0, 0, false))) else (some (0, 0, false))) else (some (0, 0, false))) = some (r1, r2, r3) := H
 have A3 := Aside0.mk A30
 clear A30
 by_cases c4 : t279 = 0
 ·rw [if_pos c4] at H
  have c4b0 : (t279 == 0) = true := beq_iff_eq.mpr c4
  have c4b1 : (t279 != 0) = false := bne_eq_false_iff_eq.mpr c4
  clear c4
  by_cases c5 : t275 = 1
  ·rw [if_pos c5] at H
   have c5b0 : (t275 == 1) = true := beq_iff_eq.mpr c5
   have c5b1 : (t275 != 1) = false := bne_eq_false_iff_eq.mpr c5
   clear c5
   by_cases c6 : t276 = a1
   ·rw [if_pos c6] at H
    have c6b0 : (t276 == a1) = true := beq_iff_eq.mpr c6
    have c6b1 : (t276 != a1) = false := bne_eq_false_iff_eq.mpr c6
    clear c6
    replace H := Option.bind_eq_some_iff.mp H
    obtain ⟨⟨t281, t282⟩, A70, H⟩ := H
    replace H : ((wire_Reader_Num.f k t281 t282 16384).bind fun bt284 => ((wire_Reader_End.f k bt284.2.1 bt284.2.2).bind fun bt288 => (if bt288.1 = 0 then ((super_May.f t277 (wrap64 ((wrap64 (bt284.1)) - 1))).bind fun t291 => (if t291 = true then ((super_Where.f t277).bind fun t292 => (if t292 = a1 then (some (t277, wrap64 ((wrap64 (bt284.1)) - 1), true)) else (some (0, 0, false)))) else (some (0, 0, false)))) else (some (0, 0, false))))) = some (r1, r2, r3) := H
    have A7 := Aside0.mk A70
    clear A70
    replace H := Option.bind_eq_some_iff.mp H
    obtain ⟨⟨t284, t285, t286⟩, A80, H⟩ := H
    replace H : ((wire_Reader_End.f k t285 t286).bind fun bt288 => (if bt288.1 = 0 then ((super_May.f t277 (wrap64 ((wrap64 (t284)) - 1))).bind fun t291 => (if t291 = true then ((super_Where.f t277).bind fun t292 => (if t292 = a1 then (some (t277, wrap64 ((wrap64 (t284)) - 1), true)) else (some (0, 0, false)))) else (some (0, 0, false)))) else (some (0, 0, false)))) = some (r1, r2, r3) := H
    have A8 := Aside0.mk A80
    clear A80
    replace H := Option.bind_eq_some_iff.mp H
    obtain ⟨⟨t288, t289, t290⟩, A90, H⟩ := H
    replace H : (if t288 = 0 then ((super_May.f t277 (wrap64 ((wrap64 (t284)) - 1))).bind fun t291 => (if t291 = true then ((super_Where.f t277).bind fun t292 => (if t292 = a1 then (some (t277, wrap64 ((wrap64 (t284)) - 1), true)) else (some (0, 0, false)))) else (some (0, 0, false)))) else (some (0, 0, false))) = some (r1, r2, r3) := H
    have A9 := Aside0.mk A90
    clear A90
    by_cases c10 : t288 = 0
    ·rw [if_pos c10] at H
     have c10b0 : (t288 == 0) = true := beq_iff_eq.mpr c10
     have c10b1 : (t288 != 0) = false := bne_eq_false_iff_eq.mpr c10
     clear c10
     replace H := Option.bind_eq_some_iff.mp H
     obtain ⟨t291, A110, H⟩ := H
     replace H : (if t291 = true then ((super_Where.f t277).bind fun t292 => (if t292 = a1 then (some (t277, wrap64 ((wrap64 (t284)) - 1), true)) else (some (0, 0, false)))) else (some (0, 0, false))) = some (r1, r2, r3) := H
     have A11 := Aside0.mk A110
     clear A110
     by_cases c12 : t291 = true
     ·subst c12
      have H1 : ((super_Where.f t277).bind fun t292 => (if t292 = a1 then (some (t277, wrap64 ((wrap64 (t284)) - 1), true)) else (some (0, 0, false)))) = some (r1, r2, r3) := by rw [if_pos rfl] at H; exact H
      clear H
      have H := H1
      clear H1
      replace H := Option.bind_eq_some_iff.mp H
      obtain ⟨t292, A130, H⟩ := H
      replace H : (if t292 = a1 then (some (t277, wrap64 ((wrap64 (t284)) - 1), true)) else (some (0, 0, false))) = some (r1, r2, r3) := H
      have A13 := Aside0.mk A130
      clear A130
      by_cases c14 : t292 = a1
      ·rw [if_pos c14] at H
       have c14b0 : (t292 == a1) = true := beq_iff_eq.mpr c14
       have c14b1 : (t292 != a1) = false := bne_eq_false_iff_eq.mpr c14
       clear c14
       simp only [Option.some.injEq, Prod.mk.injEq] at H
       obtain ⟨rfl, rfl, rfl⟩ := H
       go_enter Try.func27, Try.ntmps27
       try go_wp2_with (first | ((with_reducible refine gate_dst (N := 4) rfl ?_); refine box_event ?hg (N := 4) ?hd (cs := #[.int .u64 0, .int .i64 0]) (t := 47) ?hr ?_; (case hd => rfl); (case hg => rfl); (case hr => first | (go_simp; done) | (go_simp; rfl)); intro gb274 hg w15 hbox hb; have n0_ := Aside0.mk (below_step (by repeat (first | (with_reducible first | exact HB.out | apply lA | apply lN | apply lD) | exact HB.out)) hb); have n1_ := Aside0.mk (hbox); have n2_ := Aside0.mk ((by rw [hg]; exact (below_size (by repeat (first | (with_reducible first | exact HB.out | apply lA | apply lN | apply lD) | exact HB.out))) : w.heap.size ≤ gb274)); have n3_ := Aside0.mk ((by rw [hg]; exact (below_size (by repeat (first | (with_reducible first | exact HB.out | apply lA | apply lN | apply lD) | exact HB.out))) : w.heap.size ≤ gb274)); clear HB; have HB := n0_; have BK274 := n1_; have GW274 := n2_; have GE274 := n3_; clear n0_ n1_ n2_ n3_; clear hb hbox hg) | ((with_reducible refine gate_callee (f := 23) rfl ?_); refine goesL_ (some 12) rfl rfl Try.func23 (by kernel_rfl) rfl #[.string a0] rfl (by (try simp only [List.map_toArray, List.map_cons, List.map_nil]); first | done | rfl) ?_; (with_reducible refine (page_Get.calls k a0 t275 t276 t277 t278 t279 _ A3.out).mono ?_); rintro e w16 ⟨rfl, hb⟩; refine ⟨_, rfl, ?_⟩; have n0_ := Aside0.mk (blk_below (g := gb274) (o := .cells #[.int .u64 0, .int .i64 0] 47 (0, 0)) (by (with_reducible repeat (first | apply bN | apply bD | apply bA)); exact BK274.out) hb); have n1_ := Aside0.mk (below_step (by repeat (first | (with_reducible first | exact HB.out | apply lA | apply lN | apply lD | refine below_set ?_ GE274.out) | exact HB.out)) hb); clear BK274; clear HB; have BK274 := n0_; have HB := n1_; clear n0_ n1_; (try clear hb); (try clear hb2); (try clear hk); (try clear hi)) | ((with_reducible refine gate_dst (N := 6) rfl ?_); refine box_event ?hg (N := 6) ?hd (cs := #[.int .i64 0, .int .i64 0, .int .u64 0, .string (⟨#[]⟩ : ByteArray)]) (t := 35) ?hr ?_; (case hd => rfl); (case hg => rfl); (case hr => first | (go_simp; done) | (go_simp; rfl)); intro gb280 hg w17 hbox hb; have n0_ := Aside0.mk (blk_below (g := gb274) (o := .cells #[.int .u64 0, .int .i64 0] 47 (0, 0)) (by (with_reducible repeat (first | apply bN | apply bD | apply bA)); exact BK274.out) hb); have n1_ := Aside0.mk (below_step (by repeat (first | (with_reducible first | exact HB.out | apply lA | apply lN | apply lD | refine below_set ?_ GE274.out) | exact HB.out)) hb); have n2_ := Aside0.mk (hbox); have n3_ := Aside0.mk ((by rw [hg]; exact (below_size (by repeat (first | (with_reducible first | exact HB.out | apply lA | apply lN | apply lD | refine below_set ?_ GE274.out) | exact HB.out))) : w.heap.size ≤ gb280)); have n4_ := Aside0.mk ((by rw [hg]; exact (below_size (by repeat (first | (with_reducible first | exact HB.out | apply lA | apply lN | apply lD | refine below_set ?_ GE274.out) | exact HB.out))) : w.heap.size ≤ gb280)); have n5_ := Aside0.mk ((by rw [hg]; exact Nat.ne_of_lt (blk_lt (g := gb274) (o := .cells #[.int .u64 0, .int .i64 0] 47 (0, 0)) (by (with_reducible repeat (first | apply bN | apply bD | apply bA)); exact BK274.out)) : gb274 ≠ gb280)); have n6_ := Aside0.mk ((by rw [hg]; exact Nat.ne_of_gt (blk_lt (g := gb274) (o := .cells #[.int .u64 0, .int .i64 0] 47 (0, 0)) (by (with_reducible repeat (first | apply bN | apply bD | apply bA)); exact BK274.out)) : gb280 ≠ gb274)); clear BK274; clear HB; have BK274 := n0_; have HB := n1_; have BK280 := n2_; have GW280 := n3_; have GE280 := n4_; have NB274_280 := n5_; have NB280_274 := n6_; clear n0_ n1_ n2_ n3_ n4_ n5_ n6_; clear hb hbox hg; have hnb18 := NB280_274.out; have hnc18 := NB274_280.out; have hcz19_0 : w17.cell? ⟨gb280, 0, none⟩ = some (.int .i64 0) := (blk_cell BK280.out 0).trans rfl; have hcz19_1 : w17.cell? ⟨gb280, 1, none⟩ = some (.int .i64 0) := (blk_cell BK280.out 1).trans rfl; have hcz19_2 : w17.cell? ⟨gb280, 2, none⟩ = some (.int .u64 0) := (blk_cell BK280.out 2).trans rfl; have hcz19_3 : w17.cell? ⟨gb280, 3, none⟩ = some (.string (⟨#[]⟩ : ByteArray)) := (blk_cell BK280.out 3).trans rfl; have hfz19_0 := blk_frozen BK280.out 0; have hfz19_1 := blk_frozen BK280.out 1; have hfz19_2 := blk_frozen BK280.out 2; have hfz19_3 := blk_frozen BK280.out 3) | ((with_reducible refine gate_callee (f := 39) rfl ?_); refine goesL_ (some 31) rfl rfl Try.func39 (by kernel_rfl) rfl #[.string t278] rfl (by (try simp only [List.map_toArray, List.map_cons, List.map_nil]); first | done | rfl) ?_; (with_reducible refine (wire_New.calls t278 t281 t282 w _ ?side1 A7.out).mono ?_); (case side1 => repeat (first | (with_reducible first | exact HB.out | apply lA | apply lN | apply lD | refine below_set ?_ GE274.out | refine below_set ?_ GE280.out) | exact HB.out)); rintro e w20 ⟨g283, rfl, hi, hb, hb2⟩; refine ⟨_, rfl, ?_⟩; have n0_ := Aside0.mk (blk_below (g := gb274) (o := .cells #[.int .u64 0, .int .i64 0] 47 (0, 0)) (by (with_reducible repeat (first | apply bN | apply bD | apply bA)); refine blk_far ?_ NB274_280.out _; (with_reducible repeat (first | apply bN | apply bD | apply bA)); refine blk_far ?_ NB274_280.out _; (with_reducible repeat (first | apply bN | apply bD | apply bA)); refine blk_far ?_ NB274_280.out _; (with_reducible repeat (first | apply bN | apply bD | apply bA)); refine blk_far ?_ NB274_280.out _; (with_reducible repeat (first | apply bN | apply bD | apply bA)); exact BK274.out) hb2); have n1_ := Aside0.mk (blk_below (g := gb280) (o := .cells #[.int .i64 t275, .int .i64 t276, .int .u64 t277, .string t278] 35 (0, 0)) (by (with_reducible repeat (first | apply bN | apply bD | apply bA)); refine blk_put (cs := #[.int .i64 t275, .int .i64 t276, .int .u64 t277, .string (⟨#[]⟩ : ByteArray)]) ?_ 3 _ rfl; (with_reducible repeat (first | apply bN | apply bD | apply bA)); refine blk_put (cs := #[.int .i64 t275, .int .i64 t276, .int .u64 0, .string (⟨#[]⟩ : ByteArray)]) ?_ 2 _ rfl; (with_reducible repeat (first | apply bN | apply bD | apply bA)); refine blk_put (cs := #[.int .i64 t275, .int .i64 0, .int .u64 0, .string (⟨#[]⟩ : ByteArray)]) ?_ 1 _ rfl; (with_reducible repeat (first | apply bN | apply bD | apply bA)); refine blk_put (cs := #[.int .i64 0, .int .i64 0, .int .u64 0, .string (⟨#[]⟩ : ByteArray)]) ?_ 0 _ rfl; (with_reducible repeat (first | apply bN | apply bD | apply bA)); exact BK280.out) hb2); have n2_ := Aside0.mk (hb); have n3_ := Aside0.mk (hi); have n4_ := Aside0.mk (IsS79.ne_blk hi (blk_below (g := gb274) (o := .cells #[.int .u64 0, .int .i64 0] 47 (0, 0)) (by (with_reducible repeat (first | apply bN | apply bD | apply bA)); refine blk_far ?_ NB274_280.out _; (with_reducible repeat (first | apply bN | apply bD | apply bA)); refine blk_far ?_ NB274_280.out _; (with_reducible repeat (first | apply bN | apply bD | apply bA)); refine blk_far ?_ NB274_280.out _; (with_reducible repeat (first | apply bN | apply bD | apply bA)); refine blk_far ?_ NB274_280.out _; (with_reducible repeat (first | apply bN | apply bD | apply bA)); exact BK274.out) hb2) (by decide)); have n5_ := Aside0.mk (Ne.symm (IsS79.ne_blk hi (blk_below (g := gb274) (o := .cells #[.int .u64 0, .int .i64 0] 47 (0, 0)) (by (with_reducible repeat (first | apply bN | apply bD | apply bA)); refine blk_far ?_ NB274_280.out _; (with_reducible repeat (first | apply bN | apply bD | apply bA)); refine blk_far ?_ NB274_280.out _; (with_reducible repeat (first | apply bN | apply bD | apply bA)); refine blk_far ?_ NB274_280.out _; (with_reducible repeat (first | apply bN | apply bD | apply bA)); refine blk_far ?_ NB274_280.out _; (with_reducible repeat (first | apply bN | apply bD | apply bA)); exact BK274.out) hb2) (by decide))); have n6_ := Aside0.mk (IsS79.ne_blk hi (blk_below (g := gb280) (o := .cells #[.int .i64 t275, .int .i64 t276, .int .u64 t277, .string t278] 35 (0, 0)) (by (with_reducible repeat (first | apply bN | apply bD | apply bA)); refine blk_put (cs := #[.int .i64 t275, .int .i64 t276, .int .u64 t277, .string (⟨#[]⟩ : ByteArray)]) ?_ 3 _ rfl; (with_reducible repeat (first | apply bN | apply bD | apply bA)); refine blk_put (cs := #[.int .i64 t275, .int .i64 t276, .int .u64 0, .string (⟨#[]⟩ : ByteArray)]) ?_ 2 _ rfl; (with_reducible repeat (first | apply bN | apply bD | apply bA)); refine blk_put (cs := #[.int .i64 t275, .int .i64 0, .int .u64 0, .string (⟨#[]⟩ : ByteArray)]) ?_ 1 _ rfl; (with_reducible repeat (first | apply bN | apply bD | apply bA)); refine blk_put (cs := #[.int .i64 0, .int .i64 0, .int .u64 0, .string (⟨#[]⟩ : ByteArray)]) ?_ 0 _ rfl; (with_reducible repeat (first | apply bN | apply bD | apply bA)); exact BK280.out) hb2) (by decide)); have n7_ := Aside0.mk (Ne.symm (IsS79.ne_blk hi (blk_below (g := gb280) (o := .cells #[.int .i64 t275, .int .i64 t276, .int .u64 t277, .string t278] 35 (0, 0)) (by (with_reducible repeat (first | apply bN | apply bD | apply bA)); refine blk_put (cs := #[.int .i64 t275, .int .i64 t276, .int .u64 t277, .string (⟨#[]⟩ : ByteArray)]) ?_ 3 _ rfl; (with_reducible repeat (first | apply bN | apply bD | apply bA)); refine blk_put (cs := #[.int .i64 t275, .int .i64 t276, .int .u64 0, .string (⟨#[]⟩ : ByteArray)]) ?_ 2 _ rfl; (with_reducible repeat (first | apply bN | apply bD | apply bA)); refine blk_put (cs := #[.int .i64 t275, .int .i64 0, .int .u64 0, .string (⟨#[]⟩ : ByteArray)]) ?_ 1 _ rfl; (with_reducible repeat (first | apply bN | apply bD | apply bA)); refine blk_put (cs := #[.int .i64 0, .int .i64 0, .int .u64 0, .string (⟨#[]⟩ : ByteArray)]) ?_ 0 _ rfl; (with_reducible repeat (first | apply bN | apply bD | apply bA)); exact BK280.out) hb2) (by decide))); clear BK274; clear BK280; clear HB; have BK274 := n0_; have BK280 := n1_; have HB := n2_; have HI283 := n3_; have NB283_274 := n4_; have NB274_283 := n5_; have NB283_280 := n6_; have NB280_283 := n7_; clear n0_ n1_ n2_ n3_ n4_ n5_ n6_ n7_; (try clear hb); (try clear hb2); (try clear hk); (try clear hi)))
       have n0_ := Aside0.mk (blk_drew BK274.out)
       have n1_ := Aside0.mk (blk_drew BK280.out)
       have n2_ := Aside0.mk (IsS79.drew HI283.out)
       have n3_ := Aside0.mk (below_drew1 HB.out)
       clear BK274
       clear BK280
       clear HI283
       clear HB
       have BK274 := n0_
       have BK280 := n1_
       have HI283 := n2_
       have HB := n3_
       clear n0_ n1_ n2_ n3_
       refine start_ (n := 9) (S := fun w' => w'.cell? ⟨gb280, 0, none⟩ = some (.int .i64 t275) ∧ w'.cell? ⟨gb280, 1, none⟩ = some (.int .i64 t276) ∧ w'.cell? ⟨gb280, 2, none⟩ = some (.int .u64 t277) ∧ w'.cell? ⟨gb280, 3, none⟩ = some (.string t278)) (ds := []) #[false, false, false, false, false, false, false, false, false] (by kernel_rfl) rfl rfl ⟨(blk_cell BK280.out 0).trans rfl, (blk_cell BK280.out 1).trans rfl, (blk_cell BK280.out 2).trans rfl, (blk_cell BK280.out 3).trans rfl⟩ (fun hHeld => ?_); refine with_tabW super_Get.tab5 super_Get.bits5 (fun HT_ HW_ => ?_)
       generalize w20.drew = w21 at BK274 BK280 HI283 HB hHeld ⊢
       refine pure_ (i := 0) (N := some 32) (v := ?_) (a' := ?_) #[true, false, false, false, false, false, false, false, false] rfl rfl (any_of HT_.out (by kernel_rfl)) (fun _ _ _ h => h) (Or.inl ⟨by rfl, ?_⟩) ?_ ?_
       rotate_left
       ·intro w'
        go_simp
        with_reducible rfl
       rotate_left
       ·simp only [Act.put, List.setIfInBounds_toArray, List.set_cons_zero, List.set_cons_succ, i64_w, i32_w]
        rfl
       refine pure_ (i := 2) (N := some 34) (v := ?_) (a' := ?_) #[true, false, true, false, false, false, false, false, false] rfl rfl (any_of HT_.out (by kernel_rfl)) (fun _ _ _ h => h) (Or.inl ⟨by rfl, ?_⟩) ?_ ?_
       rotate_left
       ·intro w'
        go_simp
        with_reducible rfl
       rotate_left
       ·simp only [Act.put, List.setIfInBounds_toArray, List.set_cons_zero, List.set_cons_succ, i64_w, i32_w]
        rfl
       refine take_ (i := 1) (N := some 33) (v := ?_) (a' := ?_) #[true, true, true, false, false, false, false, false, false] rfl rfl (take_ofW HT_.out HW_.out (by kernel_rfl)) (fun _ _ _ h => h) (Or.inl ⟨by rfl, ?_⟩) hHeld ?_ ?_
       rotate_left
       ·rintro w' ⟨s0, s1, s2, s3⟩
        go_simp
        with_reducible rfl
       rotate_left
       ·simp only [Act.put, List.setIfInBounds_toArray, List.set_cons_zero, List.set_cons_succ, i64_w, i32_w]
        rfl
       refine join_ (σ := Nat) 1 #[true, true, true, true, true, true, true, true, false] (fun s_ => [(35, .int .u64 t284), (9, .pointer (some ⟨s_, 0, none⟩)), (36, .int .i64 (wrap64 (t284))), (37, .int .i64 (wrap64 ((wrap64 (t284)) - 1))), (38, .agg #[.int .u64 t277, .int .i64 (wrap64 ((wrap64 (t284)) - 1))])]) (fun s_ w' => (w'.cell? ⟨gb280, 0, none⟩ = some (.int .i64 t275) ∧ w'.cell? ⟨gb280, 1, none⟩ = some (.int .i64 t276) ∧ w'.cell? ⟨gb280, 2, none⟩ = some (.int .u64 t277) ∧ w'.cell? ⟨gb280, 3, none⟩ = some (.string t278)) ∧ (w'.heap[gb274]? = some (.cells #[.int .u64 0, .int .i64 0] 47 (0, 0))) ∧ (w'.heap[gb280]? = some (.cells #[.int .i64 t275, .int .i64 t276, .int .u64 t277, .string t278] 35 (0, 0))) ∧ (w'.heap[s_]? = some (.cells #[.int .u64 0, .int .i64 0] 47 (0, 0))) ∧ (w.heap.size ≤ s_) ∧ (w.heap.size ≤ s_) ∧ (g283 ≠ s_) ∧ (s_ ≠ g283) ∧ (gb274 ≠ s_) ∧ (s_ ≠ gb274) ∧ (gb280 ≠ s_) ∧ (s_ ≠ gb280) ∧ (IsS79 w w' g283 t285 t286) ∧ (Below w.heap.size w w')) ?_ ?_
       rotate_left
       ·intro hCont
        refine two_ (i := 3) (j := 7) (Ni := some 35) (Nj := some 9) #[true, true, true, true, false, false, false, false, false] #[true, true, true, false, false, false, false, true, false] rfl rfl rfl rfl (two_of HT_.out (by kernel_rfl)) (by decide) (by decide) (fun K hK => ?_) (fun K hK => ?_)
        ·skip
         refine goes_ Try.func45 (by kernel_rfl) rfl #[.pointer (some ⟨g283, 0, none⟩), .int .u64 16384] (by rfl) rfl rfl (by (try simp only [List.map_toArray, List.map_cons, List.map_nil]); first | done | rfl) ?_
         with_reducible refine (wire_Reader_Num.calls k g283 t281 t282 16384 t284 t285 t286 w _ ?side1 ?side2 A8.out).mono ?_
         (case side1 => repeat (first | (with_reducible first | exact HI283.out | apply IsS79.alloc | apply IsS79.drewN | apply IsS79.drew | apply IsS79.set_0 | apply IsS79.set_1 | refine IsS79.far ?_ NB283_274.out _ | refine IsS79.far ?_ NB283_280.out _) | exact HI283.out))
         (case side2 => repeat (first | (with_reducible first | exact HB.out | apply lA | apply lN | apply lD | refine below_set ?_ (IsS79.ge HI283.out) | refine below_set ?_ GE274.out | refine below_set ?_ GE280.out) | exact HB.out))
         rintro e w22 ⟨rfl, hi, hb, hk⟩
         refine ⟨_, rfl, ?_⟩
         have n0_ := Aside0.mk (KeepBut.blk hk (g' := gb274) (o := .cells #[.int .u64 0, .int .i64 0] 47 (0, 0)) (by (with_reducible repeat (first | apply bN | apply bD | apply bA)); exact BK274.out) NB274_283.out (by simp))
         have n1_ := Aside0.mk (KeepBut.blk hk (g' := gb280) (o := .cells #[.int .i64 t275, .int .i64 t276, .int .u64 t277, .string t278] 35 (0, 0)) (by (with_reducible repeat (first | apply bN | apply bD | apply bA)); exact BK280.out) NB280_283.out (by simp))
         have n2_ := Aside0.mk (hb)
         have n3_ := Aside0.mk (hi)
         clear BK274
         clear BK280
         clear HB
         clear HI283
         have BK274 := n0_
         have BK280 := n1_
         have HB := n2_
         have HI283 := n3_
         clear n0_ n1_ n2_ n3_
         (try clear hb)
         (try clear hb2)
         (try clear hk)
         (try clear hi)
         refine hK.out _ _ ⟨(blk_cell BK280.out 0).trans rfl, (blk_cell BK280.out 1).trans rfl, (blk_cell BK280.out 2).trans rfl, (blk_cell BK280.out 3).trans rfl⟩ (fun hHeld => ?_)
         clear hK K
         refine norm_ (a' := ?_) ?_ ?_
         rotate_left
         ·show Act.put _ (some 35) _ = _
          simp only [Act.put, List.setIfInBounds_toArray, List.set_cons_zero, List.set_cons_succ, i64_w, i32_w]
          rfl
         refine pure_ (i := 4) (N := some 36) (v := ?_) (a' := ?_) #[true, true, true, true, true, false, false, false, false] rfl rfl (any_of HT_.out (by kernel_rfl)) (fun _ _ _ h => h) (Or.inl ⟨by rfl, ?_⟩) ?_ ?_
         rotate_left
         ·intro w'
          go_simp
          with_reducible rfl
         rotate_left
         ·simp only [Act.put, List.setIfInBounds_toArray, List.set_cons_zero, List.set_cons_succ, i64_w, i32_w]
          rfl
         refine pure_ (i := 5) (N := some 37) (v := ?_) (a' := ?_) #[true, true, true, true, true, true, false, false, false] rfl rfl (any_of HT_.out (by kernel_rfl)) (fun _ _ _ h => h) (Or.inl ⟨by rfl, ?_⟩) ?_ ?_
         rotate_left
         ·intro w'
          go_simp
          with_reducible rfl
         rotate_left
         ·simp only [Act.put, List.setIfInBounds_toArray, List.set_cons_zero, List.set_cons_succ, i64_w, i32_w]
          rfl
         refine pure_ (i := 6) (N := some 38) (v := ?_) (a' := ?_) #[true, true, true, true, true, true, true, false, false] rfl rfl (any_of HT_.out (by kernel_rfl)) (fun _ _ _ h => h) (Or.inl ⟨by rfl, ?_⟩) ?_ ?_
         rotate_left
         ·intro w'
          go_simp
          with_reducible rfl
         rotate_left
         ·simp only [Act.put, List.setIfInBounds_toArray, List.set_cons_zero, List.set_cons_succ, i64_w, i32_w]
          rfl
         refine one_ (i := 7) (N := some 9) #[true, true, true, true, true, true, true, true, false] rfl rfl (one_of HT_.out (by kernel_rfl)) (by decide) (fun K hK => ?_)
         refine box_step ?hg (N := 9) ?hd (cs := #[.int .u64 0, .int .i64 0]) (t := 47) ?hr ?_; (case hd => rfl); (case hg => rfl); (case hr => first | (go_simp; done) | (go_simp; rfl))
         intro gb287 hg w23 hbox hb
         have n0_ := Aside0.mk (blk_below (g := gb274) (o := .cells #[.int .u64 0, .int .i64 0] 47 (0, 0)) (by (with_reducible repeat (first | apply bN | apply bD | apply bA)); exact BK274.out) hb)
         have n1_ := Aside0.mk (blk_below (g := gb280) (o := .cells #[.int .i64 t275, .int .i64 t276, .int .u64 t277, .string t278] 35 (0, 0)) (by (with_reducible repeat (first | apply bN | apply bD | apply bA)); exact BK280.out) hb)
         have n2_ := Aside0.mk (IsS79.below (by repeat (first | (with_reducible first | exact HI283.out | apply IsS79.alloc | apply IsS79.drewN | apply IsS79.drew | apply IsS79.set_0 | apply IsS79.set_1 | refine IsS79.far ?_ NB283_274.out _ | refine IsS79.far ?_ NB283_280.out _) | exact HI283.out)) hb)
         have n3_ := Aside0.mk (below_step (by repeat (first | (with_reducible first | exact HB.out | apply lA | apply lN | apply lD | refine below_set ?_ (IsS79.ge HI283.out) | refine below_set ?_ GE274.out | refine below_set ?_ GE280.out) | exact HB.out)) hb)
         have n4_ := Aside0.mk (hbox)
         have n5_ := Aside0.mk ((by rw [hg]; exact (below_size (by repeat (first | (with_reducible first | exact HB.out | apply lA | apply lN | apply lD | refine below_set ?_ (IsS79.ge HI283.out) | refine below_set ?_ GE274.out | refine below_set ?_ GE280.out) | exact HB.out))) : w.heap.size ≤ gb287))
         have n6_ := Aside0.mk ((by rw [hg]; exact (below_size (by repeat (first | (with_reducible first | exact HB.out | apply lA | apply lN | apply lD | refine below_set ?_ (IsS79.ge HI283.out) | refine below_set ?_ GE274.out | refine below_set ?_ GE280.out) | exact HB.out))) : w.heap.size ≤ gb287))
         have n7_ := Aside0.mk ((by rw [hg]; exact Nat.ne_of_lt (blk_lt (g := gb274) (o := .cells #[.int .u64 0, .int .i64 0] 47 (0, 0)) (by (with_reducible repeat (first | apply bN | apply bD | apply bA)); exact BK274.out)) : gb274 ≠ gb287))
         have n8_ := Aside0.mk ((by rw [hg]; exact Nat.ne_of_gt (blk_lt (g := gb274) (o := .cells #[.int .u64 0, .int .i64 0] 47 (0, 0)) (by (with_reducible repeat (first | apply bN | apply bD | apply bA)); exact BK274.out)) : gb287 ≠ gb274))
         have n9_ := Aside0.mk ((by rw [hg]; exact Nat.ne_of_lt (blk_lt (g := gb280) (o := .cells #[.int .i64 t275, .int .i64 t276, .int .u64 t277, .string t278] 35 (0, 0)) (by (with_reducible repeat (first | apply bN | apply bD | apply bA)); exact BK280.out)) : gb280 ≠ gb287))
         have n10_ := Aside0.mk ((by rw [hg]; exact Nat.ne_of_gt (blk_lt (g := gb280) (o := .cells #[.int .i64 t275, .int .i64 t276, .int .u64 t277, .string t278] 35 (0, 0)) (by (with_reducible repeat (first | apply bN | apply bD | apply bA)); exact BK280.out)) : gb287 ≠ gb280))
         have n11_ := Aside0.mk ((by rw [hg]; exact Nat.ne_of_lt (IsS79.lt (show IsS79 w _ g283 t285 t286 from by repeat (first | (with_reducible first | exact HI283.out | apply IsS79.alloc | apply IsS79.drewN | apply IsS79.drew | apply IsS79.set_0 | apply IsS79.set_1 | refine IsS79.far ?_ NB283_274.out _ | refine IsS79.far ?_ NB283_280.out _) | exact HI283.out))) : g283 ≠ gb287))
         have n12_ := Aside0.mk ((by rw [hg]; exact Nat.ne_of_gt (IsS79.lt (show IsS79 w _ g283 t285 t286 from by repeat (first | (with_reducible first | exact HI283.out | apply IsS79.alloc | apply IsS79.drewN | apply IsS79.drew | apply IsS79.set_0 | apply IsS79.set_1 | refine IsS79.far ?_ NB283_274.out _ | refine IsS79.far ?_ NB283_280.out _) | exact HI283.out))) : gb287 ≠ g283))
         clear BK274
         clear BK280
         clear HI283
         clear HB
         have BK274 := n0_
         have BK280 := n1_
         have HI283 := n2_
         have HB := n3_
         have BK287 := n4_
         have GW287 := n5_
         have GE287 := n6_
         have NB274_287 := n7_
         have NB287_274 := n8_
         have NB280_287 := n9_
         have NB287_280 := n10_
         have NB283_287 := n11_
         have NB287_283 := n12_
         clear n0_ n1_ n2_ n3_ n4_ n5_ n6_ n7_ n8_ n9_ n10_ n11_ n12_
         clear hb hbox hg
         refine hK.out _ _ ⟨(blk_cell BK280.out 0).trans rfl, (blk_cell BK280.out 1).trans rfl, (blk_cell BK280.out 2).trans rfl, (blk_cell BK280.out 3).trans rfl⟩ (fun hHeld => ?_)
         clear hK K
         refine norm_ (a' := ?_) ?_ ?_
         rotate_left
         ·show Act.put _ (some 9) _ = _
          simp only [Act.put, List.setIfInBounds_toArray, List.set_cons_zero, List.set_cons_succ, i64_w, i32_w]
          rfl
         exact norm_ (by simp only [putAll, Act.put, List.setIfInBounds_toArray, List.set_cons_zero, List.set_cons_succ]) (hCont (gb287) _ ⟨hHeld, (by (with_reducible repeat (first | apply bN | apply bD | apply bA)); exact BK274.out), (by (with_reducible repeat (first | apply bN | apply bD | apply bA)); exact BK280.out), (by (with_reducible repeat (first | apply bN | apply bD | apply bA)); exact BK287.out), GW287.out, GE287.out, NB283_287.out, NB287_283.out, NB274_287.out, NB287_274.out, NB280_287.out, NB287_280.out, (by repeat (first | (with_reducible first | exact HI283.out | apply IsS79.alloc | apply IsS79.drewN | apply IsS79.drew | apply IsS79.set_0 | apply IsS79.set_1 | refine IsS79.far ?_ NB283_274.out _ | refine IsS79.far ?_ NB283_280.out _ | refine IsS79.far ?_ NB283_287.out _) | exact HI283.out)), (by repeat (first | (with_reducible first | exact HB.out | apply lA | apply lN | apply lD | refine below_set ?_ (IsS79.ge HI283.out) | refine below_set ?_ GE274.out | refine below_set ?_ GE280.out | refine below_set ?_ GE287.out) | exact HB.out))⟩)
        ·skip
         refine box_step ?hg (N := 9) ?hd (cs := #[.int .u64 0, .int .i64 0]) (t := 47) ?hr ?_; (case hd => rfl); (case hg => rfl); (case hr => first | (go_simp; done) | (go_simp; rfl))
         intro gb287 hg w22 hbox hb
         have n0_ := Aside0.mk (blk_below (g := gb274) (o := .cells #[.int .u64 0, .int .i64 0] 47 (0, 0)) (by (with_reducible repeat (first | apply bN | apply bD | apply bA)); exact BK274.out) hb)
         have n1_ := Aside0.mk (blk_below (g := gb280) (o := .cells #[.int .i64 t275, .int .i64 t276, .int .u64 t277, .string t278] 35 (0, 0)) (by (with_reducible repeat (first | apply bN | apply bD | apply bA)); exact BK280.out) hb)
         have n2_ := Aside0.mk (IsS79.below (by repeat (first | (with_reducible first | exact HI283.out | apply IsS79.alloc | apply IsS79.drewN | apply IsS79.drew | apply IsS79.set_0 | apply IsS79.set_1 | refine IsS79.far ?_ NB283_274.out _ | refine IsS79.far ?_ NB283_280.out _) | exact HI283.out)) hb)
         have n3_ := Aside0.mk (below_step (by repeat (first | (with_reducible first | exact HB.out | apply lA | apply lN | apply lD | refine below_set ?_ (IsS79.ge HI283.out) | refine below_set ?_ GE274.out | refine below_set ?_ GE280.out) | exact HB.out)) hb)
         have n4_ := Aside0.mk (hbox)
         have n5_ := Aside0.mk ((by rw [hg]; exact (below_size (by repeat (first | (with_reducible first | exact HB.out | apply lA | apply lN | apply lD | refine below_set ?_ (IsS79.ge HI283.out) | refine below_set ?_ GE274.out | refine below_set ?_ GE280.out) | exact HB.out))) : w.heap.size ≤ gb287))
         have n6_ := Aside0.mk ((by rw [hg]; exact (below_size (by repeat (first | (with_reducible first | exact HB.out | apply lA | apply lN | apply lD | refine below_set ?_ (IsS79.ge HI283.out) | refine below_set ?_ GE274.out | refine below_set ?_ GE280.out) | exact HB.out))) : w.heap.size ≤ gb287))
         have n7_ := Aside0.mk ((by rw [hg]; exact Nat.ne_of_lt (blk_lt (g := gb274) (o := .cells #[.int .u64 0, .int .i64 0] 47 (0, 0)) (by (with_reducible repeat (first | apply bN | apply bD | apply bA)); exact BK274.out)) : gb274 ≠ gb287))
         have n8_ := Aside0.mk ((by rw [hg]; exact Nat.ne_of_gt (blk_lt (g := gb274) (o := .cells #[.int .u64 0, .int .i64 0] 47 (0, 0)) (by (with_reducible repeat (first | apply bN | apply bD | apply bA)); exact BK274.out)) : gb287 ≠ gb274))
         have n9_ := Aside0.mk ((by rw [hg]; exact Nat.ne_of_lt (blk_lt (g := gb280) (o := .cells #[.int .i64 t275, .int .i64 t276, .int .u64 t277, .string t278] 35 (0, 0)) (by (with_reducible repeat (first | apply bN | apply bD | apply bA)); exact BK280.out)) : gb280 ≠ gb287))
         have n10_ := Aside0.mk ((by rw [hg]; exact Nat.ne_of_gt (blk_lt (g := gb280) (o := .cells #[.int .i64 t275, .int .i64 t276, .int .u64 t277, .string t278] 35 (0, 0)) (by (with_reducible repeat (first | apply bN | apply bD | apply bA)); exact BK280.out)) : gb287 ≠ gb280))
         have n11_ := Aside0.mk ((by rw [hg]; exact Nat.ne_of_lt (IsS79.lt (show IsS79 w _ g283 t281 t282 from by repeat (first | (with_reducible first | exact HI283.out | apply IsS79.alloc | apply IsS79.drewN | apply IsS79.drew | apply IsS79.set_0 | apply IsS79.set_1 | refine IsS79.far ?_ NB283_274.out _ | refine IsS79.far ?_ NB283_280.out _) | exact HI283.out))) : g283 ≠ gb287))
         have n12_ := Aside0.mk ((by rw [hg]; exact Nat.ne_of_gt (IsS79.lt (show IsS79 w _ g283 t281 t282 from by repeat (first | (with_reducible first | exact HI283.out | apply IsS79.alloc | apply IsS79.drewN | apply IsS79.drew | apply IsS79.set_0 | apply IsS79.set_1 | refine IsS79.far ?_ NB283_274.out _ | refine IsS79.far ?_ NB283_280.out _) | exact HI283.out))) : gb287 ≠ g283))
         clear BK274
         clear BK280
         clear HI283
         clear HB
         have BK274 := n0_
         have BK280 := n1_
         have HI283 := n2_
         have HB := n3_
         have BK287 := n4_
         have GW287 := n5_
         have GE287 := n6_
         have NB274_287 := n7_
         have NB287_274 := n8_
         have NB280_287 := n9_
         have NB287_280 := n10_
         have NB283_287 := n11_
         have NB287_283 := n12_
         clear n0_ n1_ n2_ n3_ n4_ n5_ n6_ n7_ n8_ n9_ n10_ n11_ n12_
         clear hb hbox hg
         refine hK.out _ _ ⟨(blk_cell BK280.out 0).trans rfl, (blk_cell BK280.out 1).trans rfl, (blk_cell BK280.out 2).trans rfl, (blk_cell BK280.out 3).trans rfl⟩ (fun hHeld => ?_)
         clear hK K
         refine norm_ (a' := ?_) ?_ ?_
         rotate_left
         ·show Act.put _ (some 9) _ = _
          simp only [Act.put, List.setIfInBounds_toArray, List.set_cons_zero, List.set_cons_succ, i64_w, i32_w]
          rfl
         refine one_ (i := 3) (N := some 35) #[true, true, true, true, false, false, false, true, false] rfl rfl (one_of HT_.out (by kernel_rfl)) (by decide) (fun K hK => ?_)
         refine goes_ Try.func45 (by kernel_rfl) rfl #[.pointer (some ⟨g283, 0, none⟩), .int .u64 16384] (by rfl) rfl rfl (by (try simp only [List.map_toArray, List.map_cons, List.map_nil]); first | done | rfl) ?_
         with_reducible refine (wire_Reader_Num.calls k g283 t281 t282 16384 t284 t285 t286 w _ ?side1 ?side2 A8.out).mono ?_
         (case side1 => repeat (first | (with_reducible first | exact HI283.out | apply IsS79.alloc | apply IsS79.drewN | apply IsS79.drew | apply IsS79.set_0 | apply IsS79.set_1 | refine IsS79.far ?_ NB283_274.out _ | refine IsS79.far ?_ NB283_280.out _ | refine IsS79.far ?_ NB283_287.out _) | exact HI283.out))
         (case side2 => repeat (first | (with_reducible first | exact HB.out | apply lA | apply lN | apply lD | refine below_set ?_ (IsS79.ge HI283.out) | refine below_set ?_ GE274.out | refine below_set ?_ GE280.out | refine below_set ?_ GE287.out) | exact HB.out))
         rintro e w23 ⟨rfl, hi, hb, hk⟩
         refine ⟨_, rfl, ?_⟩
         have n0_ := Aside0.mk (KeepBut.blk hk (g' := gb274) (o := .cells #[.int .u64 0, .int .i64 0] 47 (0, 0)) (by (with_reducible repeat (first | apply bN | apply bD | apply bA)); exact BK274.out) NB274_283.out (by simp))
         have n1_ := Aside0.mk (KeepBut.blk hk (g' := gb280) (o := .cells #[.int .i64 t275, .int .i64 t276, .int .u64 t277, .string t278] 35 (0, 0)) (by (with_reducible repeat (first | apply bN | apply bD | apply bA)); exact BK280.out) NB280_283.out (by simp))
         have n2_ := Aside0.mk (KeepBut.blk hk (g' := gb287) (o := .cells #[.int .u64 0, .int .i64 0] 47 (0, 0)) (by (with_reducible repeat (first | apply bN | apply bD | apply bA)); exact BK287.out) NB287_283.out (by simp))
         have n3_ := Aside0.mk (hb)
         have n4_ := Aside0.mk (hi)
         clear BK274
         clear BK280
         clear BK287
         clear HB
         clear HI283
         have BK274 := n0_
         have BK280 := n1_
         have BK287 := n2_
         have HB := n3_
         have HI283 := n4_
         clear n0_ n1_ n2_ n3_ n4_
         (try clear hb)
         (try clear hb2)
         (try clear hk)
         (try clear hi)
         refine hK.out _ _ ⟨(blk_cell BK280.out 0).trans rfl, (blk_cell BK280.out 1).trans rfl, (blk_cell BK280.out 2).trans rfl, (blk_cell BK280.out 3).trans rfl⟩ (fun hHeld => ?_)
         clear hK K
         refine norm_ (a' := ?_) ?_ ?_
         rotate_left
         ·show Act.put _ (some 35) _ = _
          simp only [Act.put, List.setIfInBounds_toArray, List.set_cons_zero, List.set_cons_succ, i64_w, i32_w]
          rfl
         refine pure_ (i := 4) (N := some 36) (v := ?_) (a' := ?_) #[true, true, true, true, true, false, false, true, false] rfl rfl (any_of HT_.out (by kernel_rfl)) (fun _ _ _ h => h) (Or.inl ⟨by rfl, ?_⟩) ?_ ?_
         rotate_left
         ·intro w'
          go_simp
          with_reducible rfl
         rotate_left
         ·simp only [Act.put, List.setIfInBounds_toArray, List.set_cons_zero, List.set_cons_succ, i64_w, i32_w]
          rfl
         refine pure_ (i := 5) (N := some 37) (v := ?_) (a' := ?_) #[true, true, true, true, true, true, false, true, false] rfl rfl (any_of HT_.out (by kernel_rfl)) (fun _ _ _ h => h) (Or.inl ⟨by rfl, ?_⟩) ?_ ?_
         rotate_left
         ·intro w'
          go_simp
          with_reducible rfl
         rotate_left
         ·simp only [Act.put, List.setIfInBounds_toArray, List.set_cons_zero, List.set_cons_succ, i64_w, i32_w]
          rfl
         refine pure_ (i := 6) (N := some 38) (v := ?_) (a' := ?_) #[true, true, true, true, true, true, true, true, false] rfl rfl (any_of HT_.out (by kernel_rfl)) (fun _ _ _ h => h) (Or.inl ⟨by rfl, ?_⟩) ?_ ?_
         rotate_left
         ·intro w'
          go_simp
          with_reducible rfl
         rotate_left
         ·simp only [Act.put, List.setIfInBounds_toArray, List.set_cons_zero, List.set_cons_succ, i64_w, i32_w]
          rfl
         exact norm_ (by simp only [putAll, Act.put, List.setIfInBounds_toArray, List.set_cons_zero, List.set_cons_succ]) (hCont (gb287) _ ⟨hHeld, (by (with_reducible repeat (first | apply bN | apply bD | apply bA)); exact BK274.out), (by (with_reducible repeat (first | apply bN | apply bD | apply bA)); exact BK280.out), (by (with_reducible repeat (first | apply bN | apply bD | apply bA)); exact BK287.out), GW287.out, GE287.out, NB283_287.out, NB287_283.out, NB274_287.out, NB287_274.out, NB280_287.out, NB287_280.out, (by repeat (first | (with_reducible first | exact HI283.out | apply IsS79.alloc | apply IsS79.drewN | apply IsS79.drew | apply IsS79.set_0 | apply IsS79.set_1 | refine IsS79.far ?_ NB283_274.out _ | refine IsS79.far ?_ NB283_280.out _ | refine IsS79.far ?_ NB283_287.out _) | exact HI283.out)), (by repeat (first | (with_reducible first | exact HB.out | apply lA | apply lN | apply lD | refine below_set ?_ (IsS79.ge HI283.out) | refine below_set ?_ GE274.out | refine below_set ?_ GE280.out | refine below_set ?_ GE287.out) | exact HB.out))⟩)
       rintro gb287 w24 ⟨hS_, h0_, h1_, h2_, h3_, h4_, h5_, h6_, h7_, h8_, h9_, h10_, h11_, h12_⟩
       have n0_ : Aside0 (w24.heap[gb274]? = some (.cells #[.int .u64 0, .int .i64 0] 47 (0, 0))) := ⟨h0_⟩
       have n1_ : Aside0 (w24.heap[gb280]? = some (.cells #[.int .i64 t275, .int .i64 t276, .int .u64 t277, .string t278] 35 (0, 0))) := ⟨h1_⟩
       have n2_ : Aside0 (w24.heap[gb287]? = some (.cells #[.int .u64 0, .int .i64 0] 47 (0, 0))) := ⟨h2_⟩
       have n3_ : Aside0 (w.heap.size ≤ gb287) := ⟨h3_⟩
       have n4_ : Aside0 (w.heap.size ≤ gb287) := ⟨h4_⟩
       have n5_ : Aside0 (g283 ≠ gb287) := ⟨h5_⟩
       have n6_ : Aside0 (gb287 ≠ g283) := ⟨h6_⟩
       have n7_ : Aside0 (gb274 ≠ gb287) := ⟨h7_⟩
       have n8_ : Aside0 (gb287 ≠ gb274) := ⟨h8_⟩
       have n9_ : Aside0 (gb280 ≠ gb287) := ⟨h9_⟩
       have n10_ : Aside0 (gb287 ≠ gb280) := ⟨h10_⟩
       have n11_ : Aside0 (IsS79 w w24 g283 t285 t286) := ⟨h11_⟩
       have n12_ : Aside0 (Below w.heap.size w w24) := ⟨h12_⟩
       clear BK274
       clear BK280
       clear HI283
       clear HB
       clear h0_ h1_ h2_ h3_ h4_ h5_ h6_ h7_ h8_ h9_ h10_ h11_ h12_
       have BK274 := n0_
       have BK280 := n1_
       have BK287 := n2_
       have GW287 := n3_
       have GE287 := n4_
       have NB283_287 := n5_
       have NB287_283 := n6_
       have NB274_287 := n7_
       have NB287_274 := n8_
       have NB280_287 := n9_
       have NB287_280 := n10_
       have HI283 := n11_
       have HB := n12_
       clear n0_ n1_ n2_ n3_ n4_ n5_ n6_ n7_ n8_ n9_ n10_ n11_ n12_
       have hHeld : w24.cell? ⟨gb280, 0, none⟩ = some (.int .i64 t275) ∧ w24.cell? ⟨gb280, 1, none⟩ = some (.int .i64 t276) ∧ w24.cell? ⟨gb280, 2, none⟩ = some (.int .u64 t277) ∧ w24.cell? ⟨gb280, 3, none⟩ = some (.string t278) := hS_
       refine norm_ (a' := ?_) ?_ ?_
       rotate_left
       ·simp only [putAll, Act.put, List.setIfInBounds_toArray, List.set_cons_zero, List.set_cons_succ]
        rfl
       refine one_ (i := 8) (N := none) #[true, true, true, true, true, true, true, true, true] rfl rfl (one_of HT_.out (by kernel_rfl)) (by decide) (fun K hK => ?_)
       have hs25 : w24.cell? ⟨gb287, 0, none⟩ = some (.int .u64 0) := (blk_cell BK287.out 0).trans rfl
       have hfs25 := blk_frozen BK287.out 0
       have hns25_0 := NB274_287.out
       have hns25_1 := NB280_287.out
       have hms25_0 := NB287_274.out
       have hms25_1 := NB287_280.out
       have hs26 : w24.cell? ⟨gb287, 1, none⟩ = some (.int .i64 0) := (blk_cell BK287.out 1).trans rfl
       have hfs26 := blk_frozen BK287.out 1
       have hns26_0 := NB274_287.out
       have hns26_1 := NB280_287.out
       have hms26_0 := NB287_274.out
       have hms26_1 := NB287_280.out
       refine skip_ (w1 := ?_) (by rfl) rfl ?_ ?_
       rotate_left
       ·go_simp
        rfl
       refine hK.out _ _ ⟨((cell_far (p := ⟨gb287, _, none⟩) NB280_287.out _).trans (((cell_far (p := ⟨gb287, _, none⟩) NB280_287.out _).trans (hHeld.1)))), ((cell_far (p := ⟨gb287, _, none⟩) NB280_287.out _).trans (((cell_far (p := ⟨gb287, _, none⟩) NB280_287.out _).trans (hHeld.2.1)))), ((cell_far (p := ⟨gb287, _, none⟩) NB280_287.out _).trans (((cell_far (p := ⟨gb287, _, none⟩) NB280_287.out _).trans (hHeld.2.2.1)))), ((cell_far (p := ⟨gb287, _, none⟩) NB280_287.out _).trans (((cell_far (p := ⟨gb287, _, none⟩) NB280_287.out _).trans (hHeld.2.2.2))))⟩ (fun hHeld => ?_)
       clear hK K
       refine done_ (done_of HT_.out (by kernel_rfl)) ?_
       try go_wp2_with (first | ((with_reducible refine gate_callee (f := 46) rfl ?_); refine goesL_ (some 40) rfl rfl Try.func46 (by kernel_rfl) rfl #[.pointer (some ⟨g283, 0, none⟩)] rfl (by (try simp only [List.map_toArray, List.map_cons, List.map_nil]); first | done | rfl) ?_; (with_reducible refine (wire_Reader_End.calls k g283 t285 t286 t288 t289 t290 w _ ?side1 ?side2 A9.out).mono ?_); (case side1 => repeat (first | (with_reducible first | exact HI283.out | apply IsS79.alloc | apply IsS79.drewN | apply IsS79.drew | apply IsS79.set_0 | apply IsS79.set_1 | refine IsS79.far ?_ NB283_274.out _ | refine IsS79.far ?_ NB283_280.out _ | refine IsS79.far ?_ NB283_287.out _) | exact HI283.out)); (case side2 => repeat (first | (with_reducible first | exact HB.out | apply lA | apply lN | apply lD | refine below_set ?_ (IsS79.ge HI283.out) | refine below_set ?_ GE274.out | refine below_set ?_ GE280.out | refine below_set ?_ GE287.out) | exact HB.out)); rintro e w27 ⟨rfl, hi, hb, hk⟩; refine ⟨_, rfl, ?_⟩; have n0_ := Aside0.mk (KeepBut.blk hk (g' := gb274) (o := .cells #[.int .u64 0, .int .i64 0] 47 (0, 0)) (by (with_reducible repeat (first | apply bN | apply bD | apply bA)); refine blk_far ?_ NB274_287.out _; (with_reducible repeat (first | apply bN | apply bD | apply bA)); refine blk_far ?_ NB274_287.out _; (with_reducible repeat (first | apply bN | apply bD | apply bA)); exact BK274.out) NB274_283.out (by simp)); have n1_ := Aside0.mk (KeepBut.blk hk (g' := gb280) (o := .cells #[.int .i64 t275, .int .i64 t276, .int .u64 t277, .string t278] 35 (0, 0)) (by (with_reducible repeat (first | apply bN | apply bD | apply bA)); refine blk_far ?_ NB280_287.out _; (with_reducible repeat (first | apply bN | apply bD | apply bA)); refine blk_far ?_ NB280_287.out _; (with_reducible repeat (first | apply bN | apply bD | apply bA)); exact BK280.out) NB280_283.out (by simp)); have n2_ := Aside0.mk (KeepBut.blk hk (g' := gb287) (o := .cells #[.int .u64 t277, .int .i64 (wrap64 ((wrap64 (t284)) - 1))] 47 (0, 0)) (by (with_reducible repeat (first | apply bN | apply bD | apply bA)); refine blk_put (cs := #[.int .u64 t277, .int .i64 0]) ?_ 1 _ rfl; (with_reducible repeat (first | apply bN | apply bD | apply bA)); refine blk_put (cs := #[.int .u64 0, .int .i64 0]) ?_ 0 _ rfl; (with_reducible repeat (first | apply bN | apply bD | apply bA)); exact BK287.out) NB287_283.out (by simp)); have n3_ := Aside0.mk (hb); have n4_ := Aside0.mk (hi); clear BK274; clear BK280; clear BK287; clear HB; clear HI283; have BK274 := n0_; have BK280 := n1_; have BK287 := n2_; have HB := n3_; have HI283 := n4_; clear n0_ n1_ n2_ n3_ n4_; (try clear hb); (try clear hb2); (try clear hk); (try clear hi); have hnb28 := NB287_274.out; have hnc28 := NB274_287.out; have hnb29 := NB287_280.out; have hnc29 := NB280_287.out; have hnb30 := NB287_283.out; have hnc30 := NB283_287.out; have hcz31_0 : w27.cell? ⟨gb287, 0, none⟩ = some (.int .u64 t277) := (blk_cell BK287.out 0).trans rfl; have hcz31_1 : w27.cell? ⟨gb287, 1, none⟩ = some (.int .i64 (wrap64 ((wrap64 (t284)) - 1))) := (blk_cell BK287.out 1).trans rfl; have hfz31_0 := blk_frozen BK287.out 0; have hfz31_1 := blk_frozen BK287.out 1) | (go_at_call 30; (with_reducible refine (super_May.calls t277 (wrap64 ((wrap64 (t284)) - 1)) true _ A11.out).mono ?_); rintro e w32 ⟨rfl, hb⟩; have n0_ := Aside0.mk (blk_below (g := gb274) (o := .cells #[.int .u64 0, .int .i64 0] 47 (0, 0)) (by (with_reducible repeat (first | apply bN | apply bD | apply bA)); exact BK274.out) hb); have n1_ := Aside0.mk (blk_below (g := gb280) (o := .cells #[.int .i64 t275, .int .i64 t276, .int .u64 t277, .string t278] 35 (0, 0)) (by (with_reducible repeat (first | apply bN | apply bD | apply bA)); exact BK280.out) hb); have n2_ := Aside0.mk (IsS79.below (by repeat (first | (with_reducible first | exact HI283.out | apply IsS79.alloc | apply IsS79.drewN | apply IsS79.drew | apply IsS79.set_0 | apply IsS79.set_1 | refine IsS79.far ?_ NB283_274.out _ | refine IsS79.far ?_ NB283_280.out _ | refine IsS79.far ?_ NB283_287.out _) | exact HI283.out)) hb); have n3_ := Aside0.mk (blk_below (g := gb287) (o := .cells #[.int .u64 t277, .int .i64 (wrap64 ((wrap64 (t284)) - 1))] 47 (0, 0)) (by (with_reducible repeat (first | apply bN | apply bD | apply bA)); exact BK287.out) hb); have n4_ := Aside0.mk (below_step (by repeat (first | (with_reducible first | exact HB.out | apply lA | apply lN | apply lD | refine below_set ?_ (IsS79.ge HI283.out) | refine below_set ?_ GE274.out | refine below_set ?_ GE280.out | refine below_set ?_ GE287.out) | exact HB.out)) hb); clear BK274; clear BK280; clear HI283; clear BK287; clear HB; have BK274 := n0_; have BK280 := n1_; have HI283 := n2_; have BK287 := n3_; have HB := n4_; clear n0_ n1_ n2_ n3_ n4_; (try clear hb); (try clear hb2); (try clear hk); (try clear hi); have hcz33_0 : w32.cell? ⟨gb287, 0, none⟩ = some (.int .u64 t277) := (blk_cell BK287.out 0).trans rfl; have hcz33_1 : w32.cell? ⟨gb287, 1, none⟩ = some (.int .i64 (wrap64 ((wrap64 (t284)) - 1))) := (blk_cell BK287.out 1).trans rfl; have hfz33_0 := blk_frozen BK287.out 0; have hfz33_1 := blk_frozen BK287.out 1) | (go_at_call 26; (with_reducible refine (super_Where.calls t277 t292 _ A13.out).mono ?_); rintro e w' ⟨rfl, ⟨nd, rfl⟩⟩; (try (rw [drewN_self w32]; generalize hq_ : World.drewN w32 _ = w32; have n0_ : Aside0 (w32.heap[gb274]? = some (.cells #[.int .u64 0, .int .i64 0] 47 (0, 0))) := ⟨by rw [← hq_]; exact (by (with_reducible repeat (first | apply bN | apply bD | apply bA)); exact BK274.out)⟩; have n1_ : Aside0 (w32.heap[gb280]? = some (.cells #[.int .i64 t275, .int .i64 t276, .int .u64 t277, .string t278] 35 (0, 0))) := ⟨by rw [← hq_]; exact (by (with_reducible repeat (first | apply bN | apply bD | apply bA)); exact BK280.out)⟩; have n2_ : Aside0 (w32.heap[gb287]? = some (.cells #[.int .u64 t277, .int .i64 (wrap64 ((wrap64 (t284)) - 1))] 47 (0, 0))) := ⟨by rw [← hq_]; exact (by (with_reducible repeat (first | apply bN | apply bD | apply bA)); exact BK287.out)⟩; have n3_ : Aside0 (IsS79 w w32 g283 t289 t290) := ⟨by rw [← hq_]; exact (by repeat (first | (with_reducible first | exact HI283.out | apply IsS79.alloc | apply IsS79.drewN | apply IsS79.drew | apply IsS79.set_0 | apply IsS79.set_1 | refine IsS79.far ?_ NB283_274.out _ | refine IsS79.far ?_ NB283_280.out _ | refine IsS79.far ?_ NB283_287.out _) | exact HI283.out))⟩; have n4_ : Aside0 (Below w.heap.size w w32) := ⟨by rw [← hq_]; exact (by repeat (first | (with_reducible first | exact HB.out | apply lA | apply lN | apply lD | refine below_set ?_ (IsS79.ge HI283.out) | refine below_set ?_ GE274.out | refine below_set ?_ GE280.out | refine below_set ?_ GE287.out) | exact HB.out))⟩; clear BK274 BK280 BK287 HI283 HB hq_; have BK274 := n0_; have BK280 := n1_; have BK287 := n2_; have HI283 := n3_; have HB := n4_; clear n0_ n1_ n2_ n3_ n4_)); have hcz34_0 : w32.cell? ⟨gb287, 0, none⟩ = some (.int .u64 t277) := (blk_cell BK287.out 0).trans rfl; have hcz34_1 : w32.cell? ⟨gb287, 1, none⟩ = some (.int .i64 (wrap64 ((wrap64 (t284)) - 1))) := (blk_cell BK287.out 1).trans rfl; have hfz34_0 := blk_frozen BK287.out 0; have hfz34_1 := blk_frozen BK287.out 1; have hnb35 := NB274_283.out; have hnc35 := NB283_274.out; have hcz36_0 : w32.cell? ⟨gb274, 0, none⟩ = some (.int .u64 0) := (blk_cell BK274.out 0).trans rfl; have hcz36_1 : w32.cell? ⟨gb274, 1, none⟩ = some (.int .i64 0) := (blk_cell BK274.out 1).trans rfl; have hfz36_0 := blk_frozen BK274.out 0; have hfz36_1 := blk_frozen BK274.out 1))
       refine bodyPost_ret (results_ct rfl _ _ gb274 47 #[.int .u64 t277, .int .i64 (wrap64 ((wrap64 (t284)) - 1))] (0, 0) _ rfl (by (with_reducible repeat (first | apply bN | apply bD | apply bA)); refine blk_put (cs := #[.int .u64 t277, .int .i64 0]) ?_ 1 _ rfl; (with_reducible repeat (first | apply bN | apply bD | apply bA)); refine blk_put (cs := #[.int .u64 0, .int .i64 0]) ?_ 0 _ rfl; (with_reducible repeat (first | apply bN | apply bD | apply bA)); exact BK274.out) Try.underlying47 rfl (by kernel_rfl)) rfl ?_
       exact ⟨by first | rfl | (simp <;> rfl) | (simp [*] <;> rfl), by repeat (first | (with_reducible first | exact HB.out | apply lA | apply lN | apply lD | refine below_set ?_ (IsS79.ge HI283.out) | refine below_set ?_ GE274.out | refine below_set ?_ GE280.out | refine below_set ?_ GE287.out) | exact HB.out)⟩
      ·rw [if_neg c14] at H
       have c14b0 : (t292 == a1) = false := beq_eq_false_iff_ne.mpr c14
       have c14b1 : (t292 != a1) = true := bne_iff_ne.mpr c14
       simp only [Option.some.injEq, Prod.mk.injEq] at H
       obtain ⟨rfl, rfl, rfl⟩ := H
       go_enter Try.func27, Try.ntmps27
       try go_wp2_with (first | ((with_reducible refine gate_dst (N := 4) rfl ?_); refine box_event ?hg (N := 4) ?hd (cs := #[.int .u64 0, .int .i64 0]) (t := 47) ?hr ?_; (case hd => rfl); (case hg => rfl); (case hr => first | (go_simp; done) | (go_simp; rfl)); intro gb274 hg w37 hbox hb; have n0_ := Aside0.mk (below_step (by repeat (first | (with_reducible first | exact HB.out | apply lA | apply lN | apply lD) | exact HB.out)) hb); have n1_ := Aside0.mk (hbox); have n2_ := Aside0.mk ((by rw [hg]; exact (below_size (by repeat (first | (with_reducible first | exact HB.out | apply lA | apply lN | apply lD) | exact HB.out))) : w.heap.size ≤ gb274)); have n3_ := Aside0.mk ((by rw [hg]; exact (below_size (by repeat (first | (with_reducible first | exact HB.out | apply lA | apply lN | apply lD) | exact HB.out))) : w.heap.size ≤ gb274)); clear HB; have HB := n0_; have BK274 := n1_; have GW274 := n2_; have GE274 := n3_; clear n0_ n1_ n2_ n3_; clear hb hbox hg) | ((with_reducible refine gate_callee (f := 23) rfl ?_); refine goesL_ (some 12) rfl rfl Try.func23 (by kernel_rfl) rfl #[.string a0] rfl (by (try simp only [List.map_toArray, List.map_cons, List.map_nil]); first | done | rfl) ?_; (with_reducible refine (page_Get.calls k a0 t275 t276 t277 t278 t279 _ A3.out).mono ?_); rintro e w38 ⟨rfl, hb⟩; refine ⟨_, rfl, ?_⟩; have n0_ := Aside0.mk (blk_below (g := gb274) (o := .cells #[.int .u64 0, .int .i64 0] 47 (0, 0)) (by (with_reducible repeat (first | apply bN | apply bD | apply bA)); exact BK274.out) hb); have n1_ := Aside0.mk (below_step (by repeat (first | (with_reducible first | exact HB.out | apply lA | apply lN | apply lD | refine below_set ?_ GE274.out) | exact HB.out)) hb); clear BK274; clear HB; have BK274 := n0_; have HB := n1_; clear n0_ n1_; (try clear hb); (try clear hb2); (try clear hk); (try clear hi)) | ((with_reducible refine gate_dst (N := 6) rfl ?_); refine box_event ?hg (N := 6) ?hd (cs := #[.int .i64 0, .int .i64 0, .int .u64 0, .string (⟨#[]⟩ : ByteArray)]) (t := 35) ?hr ?_; (case hd => rfl); (case hg => rfl); (case hr => first | (go_simp; done) | (go_simp; rfl)); intro gb280 hg w39 hbox hb; have n0_ := Aside0.mk (blk_below (g := gb274) (o := .cells #[.int .u64 0, .int .i64 0] 47 (0, 0)) (by (with_reducible repeat (first | apply bN | apply bD | apply bA)); exact BK274.out) hb); have n1_ := Aside0.mk (below_step (by repeat (first | (with_reducible first | exact HB.out | apply lA | apply lN | apply lD | refine below_set ?_ GE274.out) | exact HB.out)) hb); have n2_ := Aside0.mk (hbox); have n3_ := Aside0.mk ((by rw [hg]; exact (below_size (by repeat (first | (with_reducible first | exact HB.out | apply lA | apply lN | apply lD | refine below_set ?_ GE274.out) | exact HB.out))) : w.heap.size ≤ gb280)); have n4_ := Aside0.mk ((by rw [hg]; exact (below_size (by repeat (first | (with_reducible first | exact HB.out | apply lA | apply lN | apply lD | refine below_set ?_ GE274.out) | exact HB.out))) : w.heap.size ≤ gb280)); have n5_ := Aside0.mk ((by rw [hg]; exact Nat.ne_of_lt (blk_lt (g := gb274) (o := .cells #[.int .u64 0, .int .i64 0] 47 (0, 0)) (by (with_reducible repeat (first | apply bN | apply bD | apply bA)); exact BK274.out)) : gb274 ≠ gb280)); have n6_ := Aside0.mk ((by rw [hg]; exact Nat.ne_of_gt (blk_lt (g := gb274) (o := .cells #[.int .u64 0, .int .i64 0] 47 (0, 0)) (by (with_reducible repeat (first | apply bN | apply bD | apply bA)); exact BK274.out)) : gb280 ≠ gb274)); clear BK274; clear HB; have BK274 := n0_; have HB := n1_; have BK280 := n2_; have GW280 := n3_; have GE280 := n4_; have NB274_280 := n5_; have NB280_274 := n6_; clear n0_ n1_ n2_ n3_ n4_ n5_ n6_; clear hb hbox hg; have hnb40 := NB280_274.out; have hnc40 := NB274_280.out; have hcz41_0 : w39.cell? ⟨gb280, 0, none⟩ = some (.int .i64 0) := (blk_cell BK280.out 0).trans rfl; have hcz41_1 : w39.cell? ⟨gb280, 1, none⟩ = some (.int .i64 0) := (blk_cell BK280.out 1).trans rfl; have hcz41_2 : w39.cell? ⟨gb280, 2, none⟩ = some (.int .u64 0) := (blk_cell BK280.out 2).trans rfl; have hcz41_3 : w39.cell? ⟨gb280, 3, none⟩ = some (.string (⟨#[]⟩ : ByteArray)) := (blk_cell BK280.out 3).trans rfl; have hfz41_0 := blk_frozen BK280.out 0; have hfz41_1 := blk_frozen BK280.out 1; have hfz41_2 := blk_frozen BK280.out 2; have hfz41_3 := blk_frozen BK280.out 3) | ((with_reducible refine gate_callee (f := 39) rfl ?_); refine goesL_ (some 31) rfl rfl Try.func39 (by kernel_rfl) rfl #[.string t278] rfl (by (try simp only [List.map_toArray, List.map_cons, List.map_nil]); first | done | rfl) ?_; (with_reducible refine (wire_New.calls t278 t281 t282 w _ ?side1 A7.out).mono ?_); (case side1 => repeat (first | (with_reducible first | exact HB.out | apply lA | apply lN | apply lD | refine below_set ?_ GE274.out | refine below_set ?_ GE280.out) | exact HB.out)); rintro e w42 ⟨g283, rfl, hi, hb, hb2⟩; refine ⟨_, rfl, ?_⟩; have n0_ := Aside0.mk (blk_below (g := gb274) (o := .cells #[.int .u64 0, .int .i64 0] 47 (0, 0)) (by (with_reducible repeat (first | apply bN | apply bD | apply bA)); refine blk_far ?_ NB274_280.out _; (with_reducible repeat (first | apply bN | apply bD | apply bA)); refine blk_far ?_ NB274_280.out _; (with_reducible repeat (first | apply bN | apply bD | apply bA)); refine blk_far ?_ NB274_280.out _; (with_reducible repeat (first | apply bN | apply bD | apply bA)); refine blk_far ?_ NB274_280.out _; (with_reducible repeat (first | apply bN | apply bD | apply bA)); exact BK274.out) hb2); have n1_ := Aside0.mk (blk_below (g := gb280) (o := .cells #[.int .i64 t275, .int .i64 t276, .int .u64 t277, .string t278] 35 (0, 0)) (by (with_reducible repeat (first | apply bN | apply bD | apply bA)); refine blk_put (cs := #[.int .i64 t275, .int .i64 t276, .int .u64 t277, .string (⟨#[]⟩ : ByteArray)]) ?_ 3 _ rfl; (with_reducible repeat (first | apply bN | apply bD | apply bA)); refine blk_put (cs := #[.int .i64 t275, .int .i64 t276, .int .u64 0, .string (⟨#[]⟩ : ByteArray)]) ?_ 2 _ rfl; (with_reducible repeat (first | apply bN | apply bD | apply bA)); refine blk_put (cs := #[.int .i64 t275, .int .i64 0, .int .u64 0, .string (⟨#[]⟩ : ByteArray)]) ?_ 1 _ rfl; (with_reducible repeat (first | apply bN | apply bD | apply bA)); refine blk_put (cs := #[.int .i64 0, .int .i64 0, .int .u64 0, .string (⟨#[]⟩ : ByteArray)]) ?_ 0 _ rfl; (with_reducible repeat (first | apply bN | apply bD | apply bA)); exact BK280.out) hb2); have n2_ := Aside0.mk (hb); have n3_ := Aside0.mk (hi); have n4_ := Aside0.mk (IsS79.ne_blk hi (blk_below (g := gb274) (o := .cells #[.int .u64 0, .int .i64 0] 47 (0, 0)) (by (with_reducible repeat (first | apply bN | apply bD | apply bA)); refine blk_far ?_ NB274_280.out _; (with_reducible repeat (first | apply bN | apply bD | apply bA)); refine blk_far ?_ NB274_280.out _; (with_reducible repeat (first | apply bN | apply bD | apply bA)); refine blk_far ?_ NB274_280.out _; (with_reducible repeat (first | apply bN | apply bD | apply bA)); refine blk_far ?_ NB274_280.out _; (with_reducible repeat (first | apply bN | apply bD | apply bA)); exact BK274.out) hb2) (by decide)); have n5_ := Aside0.mk (Ne.symm (IsS79.ne_blk hi (blk_below (g := gb274) (o := .cells #[.int .u64 0, .int .i64 0] 47 (0, 0)) (by (with_reducible repeat (first | apply bN | apply bD | apply bA)); refine blk_far ?_ NB274_280.out _; (with_reducible repeat (first | apply bN | apply bD | apply bA)); refine blk_far ?_ NB274_280.out _; (with_reducible repeat (first | apply bN | apply bD | apply bA)); refine blk_far ?_ NB274_280.out _; (with_reducible repeat (first | apply bN | apply bD | apply bA)); refine blk_far ?_ NB274_280.out _; (with_reducible repeat (first | apply bN | apply bD | apply bA)); exact BK274.out) hb2) (by decide))); have n6_ := Aside0.mk (IsS79.ne_blk hi (blk_below (g := gb280) (o := .cells #[.int .i64 t275, .int .i64 t276, .int .u64 t277, .string t278] 35 (0, 0)) (by (with_reducible repeat (first | apply bN | apply bD | apply bA)); refine blk_put (cs := #[.int .i64 t275, .int .i64 t276, .int .u64 t277, .string (⟨#[]⟩ : ByteArray)]) ?_ 3 _ rfl; (with_reducible repeat (first | apply bN | apply bD | apply bA)); refine blk_put (cs := #[.int .i64 t275, .int .i64 t276, .int .u64 0, .string (⟨#[]⟩ : ByteArray)]) ?_ 2 _ rfl; (with_reducible repeat (first | apply bN | apply bD | apply bA)); refine blk_put (cs := #[.int .i64 t275, .int .i64 0, .int .u64 0, .string (⟨#[]⟩ : ByteArray)]) ?_ 1 _ rfl; (with_reducible repeat (first | apply bN | apply bD | apply bA)); refine blk_put (cs := #[.int .i64 0, .int .i64 0, .int .u64 0, .string (⟨#[]⟩ : ByteArray)]) ?_ 0 _ rfl; (with_reducible repeat (first | apply bN | apply bD | apply bA)); exact BK280.out) hb2) (by decide)); have n7_ := Aside0.mk (Ne.symm (IsS79.ne_blk hi (blk_below (g := gb280) (o := .cells #[.int .i64 t275, .int .i64 t276, .int .u64 t277, .string t278] 35 (0, 0)) (by (with_reducible repeat (first | apply bN | apply bD | apply bA)); refine blk_put (cs := #[.int .i64 t275, .int .i64 t276, .int .u64 t277, .string (⟨#[]⟩ : ByteArray)]) ?_ 3 _ rfl; (with_reducible repeat (first | apply bN | apply bD | apply bA)); refine blk_put (cs := #[.int .i64 t275, .int .i64 t276, .int .u64 0, .string (⟨#[]⟩ : ByteArray)]) ?_ 2 _ rfl; (with_reducible repeat (first | apply bN | apply bD | apply bA)); refine blk_put (cs := #[.int .i64 t275, .int .i64 0, .int .u64 0, .string (⟨#[]⟩ : ByteArray)]) ?_ 1 _ rfl; (with_reducible repeat (first | apply bN | apply bD | apply bA)); refine blk_put (cs := #[.int .i64 0, .int .i64 0, .int .u64 0, .string (⟨#[]⟩ : ByteArray)]) ?_ 0 _ rfl; (with_reducible repeat (first | apply bN | apply bD | apply bA)); exact BK280.out) hb2) (by decide))); clear BK274; clear BK280; clear HB; have BK274 := n0_; have BK280 := n1_; have HB := n2_; have HI283 := n3_; have NB283_274 := n4_; have NB274_283 := n5_; have NB283_280 := n6_; have NB280_283 := n7_; clear n0_ n1_ n2_ n3_ n4_ n5_ n6_ n7_; (try clear hb); (try clear hb2); (try clear hk); (try clear hi)))
       have n0_ := Aside0.mk (blk_drew BK274.out)
       have n1_ := Aside0.mk (blk_drew BK280.out)
       have n2_ := Aside0.mk (IsS79.drew HI283.out)
       have n3_ := Aside0.mk (below_drew1 HB.out)
       clear BK274
       clear BK280
       clear HI283
       clear HB
       have BK274 := n0_
       have BK280 := n1_
       have HI283 := n2_
       have HB := n3_
       clear n0_ n1_ n2_ n3_
       refine start_ (n := 9) (S := fun w' => w'.cell? ⟨gb280, 0, none⟩ = some (.int .i64 t275) ∧ w'.cell? ⟨gb280, 1, none⟩ = some (.int .i64 t276) ∧ w'.cell? ⟨gb280, 2, none⟩ = some (.int .u64 t277) ∧ w'.cell? ⟨gb280, 3, none⟩ = some (.string t278)) (ds := []) #[false, false, false, false, false, false, false, false, false] (by kernel_rfl) rfl rfl ⟨(blk_cell BK280.out 0).trans rfl, (blk_cell BK280.out 1).trans rfl, (blk_cell BK280.out 2).trans rfl, (blk_cell BK280.out 3).trans rfl⟩ (fun hHeld => ?_); refine with_tabW super_Get.tab5 super_Get.bits5 (fun HT_ HW_ => ?_)
       generalize w42.drew = w43 at BK274 BK280 HI283 HB hHeld ⊢
       refine pure_ (i := 0) (N := some 32) (v := ?_) (a' := ?_) #[true, false, false, false, false, false, false, false, false] rfl rfl (any_of HT_.out (by kernel_rfl)) (fun _ _ _ h => h) (Or.inl ⟨by rfl, ?_⟩) ?_ ?_
       rotate_left
       ·intro w'
        go_simp
        with_reducible rfl
       rotate_left
       ·simp only [Act.put, List.setIfInBounds_toArray, List.set_cons_zero, List.set_cons_succ, i64_w, i32_w]
        rfl
       refine pure_ (i := 2) (N := some 34) (v := ?_) (a' := ?_) #[true, false, true, false, false, false, false, false, false] rfl rfl (any_of HT_.out (by kernel_rfl)) (fun _ _ _ h => h) (Or.inl ⟨by rfl, ?_⟩) ?_ ?_
       rotate_left
       ·intro w'
        go_simp
        with_reducible rfl
       rotate_left
       ·simp only [Act.put, List.setIfInBounds_toArray, List.set_cons_zero, List.set_cons_succ, i64_w, i32_w]
        rfl
       refine take_ (i := 1) (N := some 33) (v := ?_) (a' := ?_) #[true, true, true, false, false, false, false, false, false] rfl rfl (take_ofW HT_.out HW_.out (by kernel_rfl)) (fun _ _ _ h => h) (Or.inl ⟨by rfl, ?_⟩) hHeld ?_ ?_
       rotate_left
       ·rintro w' ⟨s0, s1, s2, s3⟩
        go_simp
        with_reducible rfl
       rotate_left
       ·simp only [Act.put, List.setIfInBounds_toArray, List.set_cons_zero, List.set_cons_succ, i64_w, i32_w]
        rfl
       refine join_ (σ := Nat) 1 #[true, true, true, true, true, true, true, true, false] (fun s_ => [(35, .int .u64 t284), (9, .pointer (some ⟨s_, 0, none⟩)), (36, .int .i64 (wrap64 (t284))), (37, .int .i64 (wrap64 ((wrap64 (t284)) - 1))), (38, .agg #[.int .u64 t277, .int .i64 (wrap64 ((wrap64 (t284)) - 1))])]) (fun s_ w' => (w'.cell? ⟨gb280, 0, none⟩ = some (.int .i64 t275) ∧ w'.cell? ⟨gb280, 1, none⟩ = some (.int .i64 t276) ∧ w'.cell? ⟨gb280, 2, none⟩ = some (.int .u64 t277) ∧ w'.cell? ⟨gb280, 3, none⟩ = some (.string t278)) ∧ (w'.heap[gb274]? = some (.cells #[.int .u64 0, .int .i64 0] 47 (0, 0))) ∧ (w'.heap[gb280]? = some (.cells #[.int .i64 t275, .int .i64 t276, .int .u64 t277, .string t278] 35 (0, 0))) ∧ (w'.heap[s_]? = some (.cells #[.int .u64 0, .int .i64 0] 47 (0, 0))) ∧ (w.heap.size ≤ s_) ∧ (w.heap.size ≤ s_) ∧ (g283 ≠ s_) ∧ (s_ ≠ g283) ∧ (gb274 ≠ s_) ∧ (s_ ≠ gb274) ∧ (gb280 ≠ s_) ∧ (s_ ≠ gb280) ∧ (IsS79 w w' g283 t285 t286) ∧ (Below w.heap.size w w')) ?_ ?_
       rotate_left
       ·intro hCont
        refine two_ (i := 3) (j := 7) (Ni := some 35) (Nj := some 9) #[true, true, true, true, false, false, false, false, false] #[true, true, true, false, false, false, false, true, false] rfl rfl rfl rfl (two_of HT_.out (by kernel_rfl)) (by decide) (by decide) (fun K hK => ?_) (fun K hK => ?_)
        ·skip
         refine goes_ Try.func45 (by kernel_rfl) rfl #[.pointer (some ⟨g283, 0, none⟩), .int .u64 16384] (by rfl) rfl rfl (by (try simp only [List.map_toArray, List.map_cons, List.map_nil]); first | done | rfl) ?_
         with_reducible refine (wire_Reader_Num.calls k g283 t281 t282 16384 t284 t285 t286 w _ ?side1 ?side2 A8.out).mono ?_
         (case side1 => repeat (first | (with_reducible first | exact HI283.out | apply IsS79.alloc | apply IsS79.drewN | apply IsS79.drew | apply IsS79.set_0 | apply IsS79.set_1 | refine IsS79.far ?_ NB283_274.out _ | refine IsS79.far ?_ NB283_280.out _) | exact HI283.out))
         (case side2 => repeat (first | (with_reducible first | exact HB.out | apply lA | apply lN | apply lD | refine below_set ?_ (IsS79.ge HI283.out) | refine below_set ?_ GE274.out | refine below_set ?_ GE280.out) | exact HB.out))
         rintro e w44 ⟨rfl, hi, hb, hk⟩
         refine ⟨_, rfl, ?_⟩
         have n0_ := Aside0.mk (KeepBut.blk hk (g' := gb274) (o := .cells #[.int .u64 0, .int .i64 0] 47 (0, 0)) (by (with_reducible repeat (first | apply bN | apply bD | apply bA)); exact BK274.out) NB274_283.out (by simp))
         have n1_ := Aside0.mk (KeepBut.blk hk (g' := gb280) (o := .cells #[.int .i64 t275, .int .i64 t276, .int .u64 t277, .string t278] 35 (0, 0)) (by (with_reducible repeat (first | apply bN | apply bD | apply bA)); exact BK280.out) NB280_283.out (by simp))
         have n2_ := Aside0.mk (hb)
         have n3_ := Aside0.mk (hi)
         clear BK274
         clear BK280
         clear HB
         clear HI283
         have BK274 := n0_
         have BK280 := n1_
         have HB := n2_
         have HI283 := n3_
         clear n0_ n1_ n2_ n3_
         (try clear hb)
         (try clear hb2)
         (try clear hk)
         (try clear hi)
         refine hK.out _ _ ⟨(blk_cell BK280.out 0).trans rfl, (blk_cell BK280.out 1).trans rfl, (blk_cell BK280.out 2).trans rfl, (blk_cell BK280.out 3).trans rfl⟩ (fun hHeld => ?_)
         clear hK K
         refine norm_ (a' := ?_) ?_ ?_
         rotate_left
         ·show Act.put _ (some 35) _ = _
          simp only [Act.put, List.setIfInBounds_toArray, List.set_cons_zero, List.set_cons_succ, i64_w, i32_w]
          rfl
         refine pure_ (i := 4) (N := some 36) (v := ?_) (a' := ?_) #[true, true, true, true, true, false, false, false, false] rfl rfl (any_of HT_.out (by kernel_rfl)) (fun _ _ _ h => h) (Or.inl ⟨by rfl, ?_⟩) ?_ ?_
         rotate_left
         ·intro w'
          go_simp
          with_reducible rfl
         rotate_left
         ·simp only [Act.put, List.setIfInBounds_toArray, List.set_cons_zero, List.set_cons_succ, i64_w, i32_w]
          rfl
         refine pure_ (i := 5) (N := some 37) (v := ?_) (a' := ?_) #[true, true, true, true, true, true, false, false, false] rfl rfl (any_of HT_.out (by kernel_rfl)) (fun _ _ _ h => h) (Or.inl ⟨by rfl, ?_⟩) ?_ ?_
         rotate_left
         ·intro w'
          go_simp
          with_reducible rfl
         rotate_left
         ·simp only [Act.put, List.setIfInBounds_toArray, List.set_cons_zero, List.set_cons_succ, i64_w, i32_w]
          rfl
         refine pure_ (i := 6) (N := some 38) (v := ?_) (a' := ?_) #[true, true, true, true, true, true, true, false, false] rfl rfl (any_of HT_.out (by kernel_rfl)) (fun _ _ _ h => h) (Or.inl ⟨by rfl, ?_⟩) ?_ ?_
         rotate_left
         ·intro w'
          go_simp
          with_reducible rfl
         rotate_left
         ·simp only [Act.put, List.setIfInBounds_toArray, List.set_cons_zero, List.set_cons_succ, i64_w, i32_w]
          rfl
         refine one_ (i := 7) (N := some 9) #[true, true, true, true, true, true, true, true, false] rfl rfl (one_of HT_.out (by kernel_rfl)) (by decide) (fun K hK => ?_)
         refine box_step ?hg (N := 9) ?hd (cs := #[.int .u64 0, .int .i64 0]) (t := 47) ?hr ?_; (case hd => rfl); (case hg => rfl); (case hr => first | (go_simp; done) | (go_simp; rfl))
         intro gb287 hg w45 hbox hb
         have n0_ := Aside0.mk (blk_below (g := gb274) (o := .cells #[.int .u64 0, .int .i64 0] 47 (0, 0)) (by (with_reducible repeat (first | apply bN | apply bD | apply bA)); exact BK274.out) hb)
         have n1_ := Aside0.mk (blk_below (g := gb280) (o := .cells #[.int .i64 t275, .int .i64 t276, .int .u64 t277, .string t278] 35 (0, 0)) (by (with_reducible repeat (first | apply bN | apply bD | apply bA)); exact BK280.out) hb)
         have n2_ := Aside0.mk (IsS79.below (by repeat (first | (with_reducible first | exact HI283.out | apply IsS79.alloc | apply IsS79.drewN | apply IsS79.drew | apply IsS79.set_0 | apply IsS79.set_1 | refine IsS79.far ?_ NB283_274.out _ | refine IsS79.far ?_ NB283_280.out _) | exact HI283.out)) hb)
         have n3_ := Aside0.mk (below_step (by repeat (first | (with_reducible first | exact HB.out | apply lA | apply lN | apply lD | refine below_set ?_ (IsS79.ge HI283.out) | refine below_set ?_ GE274.out | refine below_set ?_ GE280.out) | exact HB.out)) hb)
         have n4_ := Aside0.mk (hbox)
         have n5_ := Aside0.mk ((by rw [hg]; exact (below_size (by repeat (first | (with_reducible first | exact HB.out | apply lA | apply lN | apply lD | refine below_set ?_ (IsS79.ge HI283.out) | refine below_set ?_ GE274.out | refine below_set ?_ GE280.out) | exact HB.out))) : w.heap.size ≤ gb287))
         have n6_ := Aside0.mk ((by rw [hg]; exact (below_size (by repeat (first | (with_reducible first | exact HB.out | apply lA | apply lN | apply lD | refine below_set ?_ (IsS79.ge HI283.out) | refine below_set ?_ GE274.out | refine below_set ?_ GE280.out) | exact HB.out))) : w.heap.size ≤ gb287))
         have n7_ := Aside0.mk ((by rw [hg]; exact Nat.ne_of_lt (blk_lt (g := gb274) (o := .cells #[.int .u64 0, .int .i64 0] 47 (0, 0)) (by (with_reducible repeat (first | apply bN | apply bD | apply bA)); exact BK274.out)) : gb274 ≠ gb287))
         have n8_ := Aside0.mk ((by rw [hg]; exact Nat.ne_of_gt (blk_lt (g := gb274) (o := .cells #[.int .u64 0, .int .i64 0] 47 (0, 0)) (by (with_reducible repeat (first | apply bN | apply bD | apply bA)); exact BK274.out)) : gb287 ≠ gb274))
         have n9_ := Aside0.mk ((by rw [hg]; exact Nat.ne_of_lt (blk_lt (g := gb280) (o := .cells #[.int .i64 t275, .int .i64 t276, .int .u64 t277, .string t278] 35 (0, 0)) (by (with_reducible repeat (first | apply bN | apply bD | apply bA)); exact BK280.out)) : gb280 ≠ gb287))
         have n10_ := Aside0.mk ((by rw [hg]; exact Nat.ne_of_gt (blk_lt (g := gb280) (o := .cells #[.int .i64 t275, .int .i64 t276, .int .u64 t277, .string t278] 35 (0, 0)) (by (with_reducible repeat (first | apply bN | apply bD | apply bA)); exact BK280.out)) : gb287 ≠ gb280))
         have n11_ := Aside0.mk ((by rw [hg]; exact Nat.ne_of_lt (IsS79.lt (show IsS79 w _ g283 t285 t286 from by repeat (first | (with_reducible first | exact HI283.out | apply IsS79.alloc | apply IsS79.drewN | apply IsS79.drew | apply IsS79.set_0 | apply IsS79.set_1 | refine IsS79.far ?_ NB283_274.out _ | refine IsS79.far ?_ NB283_280.out _) | exact HI283.out))) : g283 ≠ gb287))
         have n12_ := Aside0.mk ((by rw [hg]; exact Nat.ne_of_gt (IsS79.lt (show IsS79 w _ g283 t285 t286 from by repeat (first | (with_reducible first | exact HI283.out | apply IsS79.alloc | apply IsS79.drewN | apply IsS79.drew | apply IsS79.set_0 | apply IsS79.set_1 | refine IsS79.far ?_ NB283_274.out _ | refine IsS79.far ?_ NB283_280.out _) | exact HI283.out))) : gb287 ≠ g283))
         clear BK274
         clear BK280
         clear HI283
         clear HB
         have BK274 := n0_
         have BK280 := n1_
         have HI283 := n2_
         have HB := n3_
         have BK287 := n4_
         have GW287 := n5_
         have GE287 := n6_
         have NB274_287 := n7_
         have NB287_274 := n8_
         have NB280_287 := n9_
         have NB287_280 := n10_
         have NB283_287 := n11_
         have NB287_283 := n12_
         clear n0_ n1_ n2_ n3_ n4_ n5_ n6_ n7_ n8_ n9_ n10_ n11_ n12_
         clear hb hbox hg
         refine hK.out _ _ ⟨(blk_cell BK280.out 0).trans rfl, (blk_cell BK280.out 1).trans rfl, (blk_cell BK280.out 2).trans rfl, (blk_cell BK280.out 3).trans rfl⟩ (fun hHeld => ?_)
         clear hK K
         refine norm_ (a' := ?_) ?_ ?_
         rotate_left
         ·show Act.put _ (some 9) _ = _
          simp only [Act.put, List.setIfInBounds_toArray, List.set_cons_zero, List.set_cons_succ, i64_w, i32_w]
          rfl
         exact norm_ (by simp only [putAll, Act.put, List.setIfInBounds_toArray, List.set_cons_zero, List.set_cons_succ]) (hCont (gb287) _ ⟨hHeld, (by (with_reducible repeat (first | apply bN | apply bD | apply bA)); exact BK274.out), (by (with_reducible repeat (first | apply bN | apply bD | apply bA)); exact BK280.out), (by (with_reducible repeat (first | apply bN | apply bD | apply bA)); exact BK287.out), GW287.out, GE287.out, NB283_287.out, NB287_283.out, NB274_287.out, NB287_274.out, NB280_287.out, NB287_280.out, (by repeat (first | (with_reducible first | exact HI283.out | apply IsS79.alloc | apply IsS79.drewN | apply IsS79.drew | apply IsS79.set_0 | apply IsS79.set_1 | refine IsS79.far ?_ NB283_274.out _ | refine IsS79.far ?_ NB283_280.out _ | refine IsS79.far ?_ NB283_287.out _) | exact HI283.out)), (by repeat (first | (with_reducible first | exact HB.out | apply lA | apply lN | apply lD | refine below_set ?_ (IsS79.ge HI283.out) | refine below_set ?_ GE274.out | refine below_set ?_ GE280.out | refine below_set ?_ GE287.out) | exact HB.out))⟩)
        ·skip
         refine box_step ?hg (N := 9) ?hd (cs := #[.int .u64 0, .int .i64 0]) (t := 47) ?hr ?_; (case hd => rfl); (case hg => rfl); (case hr => first | (go_simp; done) | (go_simp; rfl))
         intro gb287 hg w44 hbox hb
         have n0_ := Aside0.mk (blk_below (g := gb274) (o := .cells #[.int .u64 0, .int .i64 0] 47 (0, 0)) (by (with_reducible repeat (first | apply bN | apply bD | apply bA)); exact BK274.out) hb)
         have n1_ := Aside0.mk (blk_below (g := gb280) (o := .cells #[.int .i64 t275, .int .i64 t276, .int .u64 t277, .string t278] 35 (0, 0)) (by (with_reducible repeat (first | apply bN | apply bD | apply bA)); exact BK280.out) hb)
         have n2_ := Aside0.mk (IsS79.below (by repeat (first | (with_reducible first | exact HI283.out | apply IsS79.alloc | apply IsS79.drewN | apply IsS79.drew | apply IsS79.set_0 | apply IsS79.set_1 | refine IsS79.far ?_ NB283_274.out _ | refine IsS79.far ?_ NB283_280.out _) | exact HI283.out)) hb)
         have n3_ := Aside0.mk (below_step (by repeat (first | (with_reducible first | exact HB.out | apply lA | apply lN | apply lD | refine below_set ?_ (IsS79.ge HI283.out) | refine below_set ?_ GE274.out | refine below_set ?_ GE280.out) | exact HB.out)) hb)
         have n4_ := Aside0.mk (hbox)
         have n5_ := Aside0.mk ((by rw [hg]; exact (below_size (by repeat (first | (with_reducible first | exact HB.out | apply lA | apply lN | apply lD | refine below_set ?_ (IsS79.ge HI283.out) | refine below_set ?_ GE274.out | refine below_set ?_ GE280.out) | exact HB.out))) : w.heap.size ≤ gb287))
         have n6_ := Aside0.mk ((by rw [hg]; exact (below_size (by repeat (first | (with_reducible first | exact HB.out | apply lA | apply lN | apply lD | refine below_set ?_ (IsS79.ge HI283.out) | refine below_set ?_ GE274.out | refine below_set ?_ GE280.out) | exact HB.out))) : w.heap.size ≤ gb287))
         have n7_ := Aside0.mk ((by rw [hg]; exact Nat.ne_of_lt (blk_lt (g := gb274) (o := .cells #[.int .u64 0, .int .i64 0] 47 (0, 0)) (by (with_reducible repeat (first | apply bN | apply bD | apply bA)); exact BK274.out)) : gb274 ≠ gb287))
         have n8_ := Aside0.mk ((by rw [hg]; exact Nat.ne_of_gt (blk_lt (g := gb274) (o := .cells #[.int .u64 0, .int .i64 0] 47 (0, 0)) (by (with_reducible repeat (first | apply bN | apply bD | apply bA)); exact BK274.out)) : gb287 ≠ gb274))
         have n9_ := Aside0.mk ((by rw [hg]; exact Nat.ne_of_lt (blk_lt (g := gb280) (o := .cells #[.int .i64 t275, .int .i64 t276, .int .u64 t277, .string t278] 35 (0, 0)) (by (with_reducible repeat (first | apply bN | apply bD | apply bA)); exact BK280.out)) : gb280 ≠ gb287))
         have n10_ := Aside0.mk ((by rw [hg]; exact Nat.ne_of_gt (blk_lt (g := gb280) (o := .cells #[.int .i64 t275, .int .i64 t276, .int .u64 t277, .string t278] 35 (0, 0)) (by (with_reducible repeat (first | apply bN | apply bD | apply bA)); exact BK280.out)) : gb287 ≠ gb280))
         have n11_ := Aside0.mk ((by rw [hg]; exact Nat.ne_of_lt (IsS79.lt (show IsS79 w _ g283 t281 t282 from by repeat (first | (with_reducible first | exact HI283.out | apply IsS79.alloc | apply IsS79.drewN | apply IsS79.drew | apply IsS79.set_0 | apply IsS79.set_1 | refine IsS79.far ?_ NB283_274.out _ | refine IsS79.far ?_ NB283_280.out _) | exact HI283.out))) : g283 ≠ gb287))
         have n12_ := Aside0.mk ((by rw [hg]; exact Nat.ne_of_gt (IsS79.lt (show IsS79 w _ g283 t281 t282 from by repeat (first | (with_reducible first | exact HI283.out | apply IsS79.alloc | apply IsS79.drewN | apply IsS79.drew | apply IsS79.set_0 | apply IsS79.set_1 | refine IsS79.far ?_ NB283_274.out _ | refine IsS79.far ?_ NB283_280.out _) | exact HI283.out))) : gb287 ≠ g283))
         clear BK274
         clear BK280
         clear HI283
         clear HB
         have BK274 := n0_
         have BK280 := n1_
         have HI283 := n2_
         have HB := n3_
         have BK287 := n4_
         have GW287 := n5_
         have GE287 := n6_
         have NB274_287 := n7_
         have NB287_274 := n8_
         have NB280_287 := n9_
         have NB287_280 := n10_
         have NB283_287 := n11_
         have NB287_283 := n12_
         clear n0_ n1_ n2_ n3_ n4_ n5_ n6_ n7_ n8_ n9_ n10_ n11_ n12_
         clear hb hbox hg
         refine hK.out _ _ ⟨(blk_cell BK280.out 0).trans rfl, (blk_cell BK280.out 1).trans rfl, (blk_cell BK280.out 2).trans rfl, (blk_cell BK280.out 3).trans rfl⟩ (fun hHeld => ?_)
         clear hK K
         refine norm_ (a' := ?_) ?_ ?_
         rotate_left
         ·show Act.put _ (some 9) _ = _
          simp only [Act.put, List.setIfInBounds_toArray, List.set_cons_zero, List.set_cons_succ, i64_w, i32_w]
          rfl
         refine one_ (i := 3) (N := some 35) #[true, true, true, true, false, false, false, true, false] rfl rfl (one_of HT_.out (by kernel_rfl)) (by decide) (fun K hK => ?_)
         refine goes_ Try.func45 (by kernel_rfl) rfl #[.pointer (some ⟨g283, 0, none⟩), .int .u64 16384] (by rfl) rfl rfl (by (try simp only [List.map_toArray, List.map_cons, List.map_nil]); first | done | rfl) ?_
         with_reducible refine (wire_Reader_Num.calls k g283 t281 t282 16384 t284 t285 t286 w _ ?side1 ?side2 A8.out).mono ?_
         (case side1 => repeat (first | (with_reducible first | exact HI283.out | apply IsS79.alloc | apply IsS79.drewN | apply IsS79.drew | apply IsS79.set_0 | apply IsS79.set_1 | refine IsS79.far ?_ NB283_274.out _ | refine IsS79.far ?_ NB283_280.out _ | refine IsS79.far ?_ NB283_287.out _) | exact HI283.out))
         (case side2 => repeat (first | (with_reducible first | exact HB.out | apply lA | apply lN | apply lD | refine below_set ?_ (IsS79.ge HI283.out) | refine below_set ?_ GE274.out | refine below_set ?_ GE280.out | refine below_set ?_ GE287.out) | exact HB.out))
         rintro e w45 ⟨rfl, hi, hb, hk⟩
         refine ⟨_, rfl, ?_⟩
         have n0_ := Aside0.mk (KeepBut.blk hk (g' := gb274) (o := .cells #[.int .u64 0, .int .i64 0] 47 (0, 0)) (by (with_reducible repeat (first | apply bN | apply bD | apply bA)); exact BK274.out) NB274_283.out (by simp))
         have n1_ := Aside0.mk (KeepBut.blk hk (g' := gb280) (o := .cells #[.int .i64 t275, .int .i64 t276, .int .u64 t277, .string t278] 35 (0, 0)) (by (with_reducible repeat (first | apply bN | apply bD | apply bA)); exact BK280.out) NB280_283.out (by simp))
         have n2_ := Aside0.mk (KeepBut.blk hk (g' := gb287) (o := .cells #[.int .u64 0, .int .i64 0] 47 (0, 0)) (by (with_reducible repeat (first | apply bN | apply bD | apply bA)); exact BK287.out) NB287_283.out (by simp))
         have n3_ := Aside0.mk (hb)
         have n4_ := Aside0.mk (hi)
         clear BK274
         clear BK280
         clear BK287
         clear HB
         clear HI283
         have BK274 := n0_
         have BK280 := n1_
         have BK287 := n2_
         have HB := n3_
         have HI283 := n4_
         clear n0_ n1_ n2_ n3_ n4_
         (try clear hb)
         (try clear hb2)
         (try clear hk)
         (try clear hi)
         refine hK.out _ _ ⟨(blk_cell BK280.out 0).trans rfl, (blk_cell BK280.out 1).trans rfl, (blk_cell BK280.out 2).trans rfl, (blk_cell BK280.out 3).trans rfl⟩ (fun hHeld => ?_)
         clear hK K
         refine norm_ (a' := ?_) ?_ ?_
         rotate_left
         ·show Act.put _ (some 35) _ = _
          simp only [Act.put, List.setIfInBounds_toArray, List.set_cons_zero, List.set_cons_succ, i64_w, i32_w]
          rfl
         refine pure_ (i := 4) (N := some 36) (v := ?_) (a' := ?_) #[true, true, true, true, true, false, false, true, false] rfl rfl (any_of HT_.out (by kernel_rfl)) (fun _ _ _ h => h) (Or.inl ⟨by rfl, ?_⟩) ?_ ?_
         rotate_left
         ·intro w'
          go_simp
          with_reducible rfl
         rotate_left
         ·simp only [Act.put, List.setIfInBounds_toArray, List.set_cons_zero, List.set_cons_succ, i64_w, i32_w]
          rfl
         refine pure_ (i := 5) (N := some 37) (v := ?_) (a' := ?_) #[true, true, true, true, true, true, false, true, false] rfl rfl (any_of HT_.out (by kernel_rfl)) (fun _ _ _ h => h) (Or.inl ⟨by rfl, ?_⟩) ?_ ?_
         rotate_left
         ·intro w'
          go_simp
          with_reducible rfl
         rotate_left
         ·simp only [Act.put, List.setIfInBounds_toArray, List.set_cons_zero, List.set_cons_succ, i64_w, i32_w]
          rfl
         refine pure_ (i := 6) (N := some 38) (v := ?_) (a' := ?_) #[true, true, true, true, true, true, true, true, false] rfl rfl (any_of HT_.out (by kernel_rfl)) (fun _ _ _ h => h) (Or.inl ⟨by rfl, ?_⟩) ?_ ?_
         rotate_left
         ·intro w'
          go_simp
          with_reducible rfl
         rotate_left
         ·simp only [Act.put, List.setIfInBounds_toArray, List.set_cons_zero, List.set_cons_succ, i64_w, i32_w]
          rfl
         exact norm_ (by simp only [putAll, Act.put, List.setIfInBounds_toArray, List.set_cons_zero, List.set_cons_succ]) (hCont (gb287) _ ⟨hHeld, (by (with_reducible repeat (first | apply bN | apply bD | apply bA)); exact BK274.out), (by (with_reducible repeat (first | apply bN | apply bD | apply bA)); exact BK280.out), (by (with_reducible repeat (first | apply bN | apply bD | apply bA)); exact BK287.out), GW287.out, GE287.out, NB283_287.out, NB287_283.out, NB274_287.out, NB287_274.out, NB280_287.out, NB287_280.out, (by repeat (first | (with_reducible first | exact HI283.out | apply IsS79.alloc | apply IsS79.drewN | apply IsS79.drew | apply IsS79.set_0 | apply IsS79.set_1 | refine IsS79.far ?_ NB283_274.out _ | refine IsS79.far ?_ NB283_280.out _ | refine IsS79.far ?_ NB283_287.out _) | exact HI283.out)), (by repeat (first | (with_reducible first | exact HB.out | apply lA | apply lN | apply lD | refine below_set ?_ (IsS79.ge HI283.out) | refine below_set ?_ GE274.out | refine below_set ?_ GE280.out | refine below_set ?_ GE287.out) | exact HB.out))⟩)
       rintro gb287 w46 ⟨hS_, h0_, h1_, h2_, h3_, h4_, h5_, h6_, h7_, h8_, h9_, h10_, h11_, h12_⟩
       have n0_ : Aside0 (w46.heap[gb274]? = some (.cells #[.int .u64 0, .int .i64 0] 47 (0, 0))) := ⟨h0_⟩
       have n1_ : Aside0 (w46.heap[gb280]? = some (.cells #[.int .i64 t275, .int .i64 t276, .int .u64 t277, .string t278] 35 (0, 0))) := ⟨h1_⟩
       have n2_ : Aside0 (w46.heap[gb287]? = some (.cells #[.int .u64 0, .int .i64 0] 47 (0, 0))) := ⟨h2_⟩
       have n3_ : Aside0 (w.heap.size ≤ gb287) := ⟨h3_⟩
       have n4_ : Aside0 (w.heap.size ≤ gb287) := ⟨h4_⟩
       have n5_ : Aside0 (g283 ≠ gb287) := ⟨h5_⟩
       have n6_ : Aside0 (gb287 ≠ g283) := ⟨h6_⟩
       have n7_ : Aside0 (gb274 ≠ gb287) := ⟨h7_⟩
       have n8_ : Aside0 (gb287 ≠ gb274) := ⟨h8_⟩
       have n9_ : Aside0 (gb280 ≠ gb287) := ⟨h9_⟩
       have n10_ : Aside0 (gb287 ≠ gb280) := ⟨h10_⟩
       have n11_ : Aside0 (IsS79 w w46 g283 t285 t286) := ⟨h11_⟩
       have n12_ : Aside0 (Below w.heap.size w w46) := ⟨h12_⟩
       clear BK274
       clear BK280
       clear HI283
       clear HB
       clear h0_ h1_ h2_ h3_ h4_ h5_ h6_ h7_ h8_ h9_ h10_ h11_ h12_
       have BK274 := n0_
       have BK280 := n1_
       have BK287 := n2_
       have GW287 := n3_
       have GE287 := n4_
       have NB283_287 := n5_
       have NB287_283 := n6_
       have NB274_287 := n7_
       have NB287_274 := n8_
       have NB280_287 := n9_
       have NB287_280 := n10_
       have HI283 := n11_
       have HB := n12_
       clear n0_ n1_ n2_ n3_ n4_ n5_ n6_ n7_ n8_ n9_ n10_ n11_ n12_
       have hHeld : w46.cell? ⟨gb280, 0, none⟩ = some (.int .i64 t275) ∧ w46.cell? ⟨gb280, 1, none⟩ = some (.int .i64 t276) ∧ w46.cell? ⟨gb280, 2, none⟩ = some (.int .u64 t277) ∧ w46.cell? ⟨gb280, 3, none⟩ = some (.string t278) := hS_
       refine norm_ (a' := ?_) ?_ ?_
       rotate_left
       ·simp only [putAll, Act.put, List.setIfInBounds_toArray, List.set_cons_zero, List.set_cons_succ]
        rfl
       refine one_ (i := 8) (N := none) #[true, true, true, true, true, true, true, true, true] rfl rfl (one_of HT_.out (by kernel_rfl)) (by decide) (fun K hK => ?_)
       have hs47 : w46.cell? ⟨gb287, 0, none⟩ = some (.int .u64 0) := (blk_cell BK287.out 0).trans rfl
       have hfs47 := blk_frozen BK287.out 0
       have hns47_0 := NB274_287.out
       have hns47_1 := NB280_287.out
       have hms47_0 := NB287_274.out
       have hms47_1 := NB287_280.out
       have hs48 : w46.cell? ⟨gb287, 1, none⟩ = some (.int .i64 0) := (blk_cell BK287.out 1).trans rfl
       have hfs48 := blk_frozen BK287.out 1
       have hns48_0 := NB274_287.out
       have hns48_1 := NB280_287.out
       have hms48_0 := NB287_274.out
       have hms48_1 := NB287_280.out
       refine skip_ (w1 := ?_) (by rfl) rfl ?_ ?_
       rotate_left
       ·go_simp
        rfl
       refine hK.out _ _ ⟨((cell_far (p := ⟨gb287, _, none⟩) NB280_287.out _).trans (((cell_far (p := ⟨gb287, _, none⟩) NB280_287.out _).trans (hHeld.1)))), ((cell_far (p := ⟨gb287, _, none⟩) NB280_287.out _).trans (((cell_far (p := ⟨gb287, _, none⟩) NB280_287.out _).trans (hHeld.2.1)))), ((cell_far (p := ⟨gb287, _, none⟩) NB280_287.out _).trans (((cell_far (p := ⟨gb287, _, none⟩) NB280_287.out _).trans (hHeld.2.2.1)))), ((cell_far (p := ⟨gb287, _, none⟩) NB280_287.out _).trans (((cell_far (p := ⟨gb287, _, none⟩) NB280_287.out _).trans (hHeld.2.2.2))))⟩ (fun hHeld => ?_)
       clear hK K
       refine done_ (done_of HT_.out (by kernel_rfl)) ?_
       try go_wp2_with (first | ((with_reducible refine gate_callee (f := 46) rfl ?_); refine goesL_ (some 40) rfl rfl Try.func46 (by kernel_rfl) rfl #[.pointer (some ⟨g283, 0, none⟩)] rfl (by (try simp only [List.map_toArray, List.map_cons, List.map_nil]); first | done | rfl) ?_; (with_reducible refine (wire_Reader_End.calls k g283 t285 t286 t288 t289 t290 w _ ?side1 ?side2 A9.out).mono ?_); (case side1 => repeat (first | (with_reducible first | exact HI283.out | apply IsS79.alloc | apply IsS79.drewN | apply IsS79.drew | apply IsS79.set_0 | apply IsS79.set_1 | refine IsS79.far ?_ NB283_274.out _ | refine IsS79.far ?_ NB283_280.out _ | refine IsS79.far ?_ NB283_287.out _) | exact HI283.out)); (case side2 => repeat (first | (with_reducible first | exact HB.out | apply lA | apply lN | apply lD | refine below_set ?_ (IsS79.ge HI283.out) | refine below_set ?_ GE274.out | refine below_set ?_ GE280.out | refine below_set ?_ GE287.out) | exact HB.out)); rintro e w49 ⟨rfl, hi, hb, hk⟩; refine ⟨_, rfl, ?_⟩; have n0_ := Aside0.mk (KeepBut.blk hk (g' := gb274) (o := .cells #[.int .u64 0, .int .i64 0] 47 (0, 0)) (by (with_reducible repeat (first | apply bN | apply bD | apply bA)); refine blk_far ?_ NB274_287.out _; (with_reducible repeat (first | apply bN | apply bD | apply bA)); refine blk_far ?_ NB274_287.out _; (with_reducible repeat (first | apply bN | apply bD | apply bA)); exact BK274.out) NB274_283.out (by simp)); have n1_ := Aside0.mk (KeepBut.blk hk (g' := gb280) (o := .cells #[.int .i64 t275, .int .i64 t276, .int .u64 t277, .string t278] 35 (0, 0)) (by (with_reducible repeat (first | apply bN | apply bD | apply bA)); refine blk_far ?_ NB280_287.out _; (with_reducible repeat (first | apply bN | apply bD | apply bA)); refine blk_far ?_ NB280_287.out _; (with_reducible repeat (first | apply bN | apply bD | apply bA)); exact BK280.out) NB280_283.out (by simp)); have n2_ := Aside0.mk (KeepBut.blk hk (g' := gb287) (o := .cells #[.int .u64 t277, .int .i64 (wrap64 ((wrap64 (t284)) - 1))] 47 (0, 0)) (by (with_reducible repeat (first | apply bN | apply bD | apply bA)); refine blk_put (cs := #[.int .u64 t277, .int .i64 0]) ?_ 1 _ rfl; (with_reducible repeat (first | apply bN | apply bD | apply bA)); refine blk_put (cs := #[.int .u64 0, .int .i64 0]) ?_ 0 _ rfl; (with_reducible repeat (first | apply bN | apply bD | apply bA)); exact BK287.out) NB287_283.out (by simp)); have n3_ := Aside0.mk (hb); have n4_ := Aside0.mk (hi); clear BK274; clear BK280; clear BK287; clear HB; clear HI283; have BK274 := n0_; have BK280 := n1_; have BK287 := n2_; have HB := n3_; have HI283 := n4_; clear n0_ n1_ n2_ n3_ n4_; (try clear hb); (try clear hb2); (try clear hk); (try clear hi); have hnb50 := NB287_274.out; have hnc50 := NB274_287.out; have hnb51 := NB287_280.out; have hnc51 := NB280_287.out; have hnb52 := NB287_283.out; have hnc52 := NB283_287.out; have hcz53_0 : w49.cell? ⟨gb287, 0, none⟩ = some (.int .u64 t277) := (blk_cell BK287.out 0).trans rfl; have hcz53_1 : w49.cell? ⟨gb287, 1, none⟩ = some (.int .i64 (wrap64 ((wrap64 (t284)) - 1))) := (blk_cell BK287.out 1).trans rfl; have hfz53_0 := blk_frozen BK287.out 0; have hfz53_1 := blk_frozen BK287.out 1) | (go_at_call 30; (with_reducible refine (super_May.calls t277 (wrap64 ((wrap64 (t284)) - 1)) true _ A11.out).mono ?_); rintro e w54 ⟨rfl, hb⟩; have n0_ := Aside0.mk (blk_below (g := gb274) (o := .cells #[.int .u64 0, .int .i64 0] 47 (0, 0)) (by (with_reducible repeat (first | apply bN | apply bD | apply bA)); exact BK274.out) hb); have n1_ := Aside0.mk (blk_below (g := gb280) (o := .cells #[.int .i64 t275, .int .i64 t276, .int .u64 t277, .string t278] 35 (0, 0)) (by (with_reducible repeat (first | apply bN | apply bD | apply bA)); exact BK280.out) hb); have n2_ := Aside0.mk (IsS79.below (by repeat (first | (with_reducible first | exact HI283.out | apply IsS79.alloc | apply IsS79.drewN | apply IsS79.drew | apply IsS79.set_0 | apply IsS79.set_1 | refine IsS79.far ?_ NB283_274.out _ | refine IsS79.far ?_ NB283_280.out _ | refine IsS79.far ?_ NB283_287.out _) | exact HI283.out)) hb); have n3_ := Aside0.mk (blk_below (g := gb287) (o := .cells #[.int .u64 t277, .int .i64 (wrap64 ((wrap64 (t284)) - 1))] 47 (0, 0)) (by (with_reducible repeat (first | apply bN | apply bD | apply bA)); exact BK287.out) hb); have n4_ := Aside0.mk (below_step (by repeat (first | (with_reducible first | exact HB.out | apply lA | apply lN | apply lD | refine below_set ?_ (IsS79.ge HI283.out) | refine below_set ?_ GE274.out | refine below_set ?_ GE280.out | refine below_set ?_ GE287.out) | exact HB.out)) hb); clear BK274; clear BK280; clear HI283; clear BK287; clear HB; have BK274 := n0_; have BK280 := n1_; have HI283 := n2_; have BK287 := n3_; have HB := n4_; clear n0_ n1_ n2_ n3_ n4_; (try clear hb); (try clear hb2); (try clear hk); (try clear hi); have hcz55_0 : w54.cell? ⟨gb287, 0, none⟩ = some (.int .u64 t277) := (blk_cell BK287.out 0).trans rfl; have hcz55_1 : w54.cell? ⟨gb287, 1, none⟩ = some (.int .i64 (wrap64 ((wrap64 (t284)) - 1))) := (blk_cell BK287.out 1).trans rfl; have hfz55_0 := blk_frozen BK287.out 0; have hfz55_1 := blk_frozen BK287.out 1) | (go_at_call 26; (with_reducible refine (super_Where.calls t277 t292 _ A13.out).mono ?_); rintro e w' ⟨rfl, ⟨nd, rfl⟩⟩; (try (rw [drewN_self w54]; generalize hq_ : World.drewN w54 _ = w54; have n0_ : Aside0 (w54.heap[gb274]? = some (.cells #[.int .u64 0, .int .i64 0] 47 (0, 0))) := ⟨by rw [← hq_]; exact (by (with_reducible repeat (first | apply bN | apply bD | apply bA)); exact BK274.out)⟩; have n1_ : Aside0 (w54.heap[gb280]? = some (.cells #[.int .i64 t275, .int .i64 t276, .int .u64 t277, .string t278] 35 (0, 0))) := ⟨by rw [← hq_]; exact (by (with_reducible repeat (first | apply bN | apply bD | apply bA)); exact BK280.out)⟩; have n2_ : Aside0 (w54.heap[gb287]? = some (.cells #[.int .u64 t277, .int .i64 (wrap64 ((wrap64 (t284)) - 1))] 47 (0, 0))) := ⟨by rw [← hq_]; exact (by (with_reducible repeat (first | apply bN | apply bD | apply bA)); exact BK287.out)⟩; have n3_ : Aside0 (IsS79 w w54 g283 t289 t290) := ⟨by rw [← hq_]; exact (by repeat (first | (with_reducible first | exact HI283.out | apply IsS79.alloc | apply IsS79.drewN | apply IsS79.drew | apply IsS79.set_0 | apply IsS79.set_1 | refine IsS79.far ?_ NB283_274.out _ | refine IsS79.far ?_ NB283_280.out _ | refine IsS79.far ?_ NB283_287.out _) | exact HI283.out))⟩; have n4_ : Aside0 (Below w.heap.size w w54) := ⟨by rw [← hq_]; exact (by repeat (first | (with_reducible first | exact HB.out | apply lA | apply lN | apply lD | refine below_set ?_ (IsS79.ge HI283.out) | refine below_set ?_ GE274.out | refine below_set ?_ GE280.out | refine below_set ?_ GE287.out) | exact HB.out))⟩; clear BK274 BK280 BK287 HI283 HB hq_; have BK274 := n0_; have BK280 := n1_; have BK287 := n2_; have HI283 := n3_; have HB := n4_; clear n0_ n1_ n2_ n3_ n4_)); have hnb56 := NB274_283.out; have hnc56 := NB283_274.out; have hcz57_0 : w54.cell? ⟨gb274, 0, none⟩ = some (.int .u64 0) := (blk_cell BK274.out 0).trans rfl; have hcz57_1 : w54.cell? ⟨gb274, 1, none⟩ = some (.int .i64 0) := (blk_cell BK274.out 1).trans rfl; have hfz57_0 := blk_frozen BK274.out 0; have hfz57_1 := blk_frozen BK274.out 1))
       refine bodyPost_ret (results_ct rfl _ _ gb274 47 #[.int .u64 0, .int .i64 0] (0, 0) _ rfl (by (with_reducible repeat (first | apply bN | apply bD | apply bA)); refine blk_put (cs := #[.int .u64 0, .int .i64 0]) ?_ 1 _ rfl; (with_reducible repeat (first | apply bN | apply bD | apply bA)); refine blk_put (cs := #[.int .u64 0, .int .i64 0]) ?_ 0 _ rfl; (with_reducible repeat (first | apply bN | apply bD | apply bA)); exact BK274.out) Try.underlying47 rfl (by kernel_rfl)) rfl ?_
       exact ⟨by first | rfl | (simp <;> rfl) | (simp [*] <;> rfl), by repeat (first | (with_reducible first | exact HB.out | apply lA | apply lN | apply lD | refine below_set ?_ (IsS79.ge HI283.out) | refine below_set ?_ GE274.out | refine below_set ?_ GE280.out | refine below_set ?_ GE287.out) | exact HB.out)⟩
     ·replace c12 := Bool.eq_false_iff.mpr c12
      subst c12
      have H1 : (some (0, 0, false)) = some (r1, r2, r3) := by rw [if_neg (show ¬ (false = true) by decide)] at H; exact H
      clear H
      have H := H1
      clear H1
      simp only [Option.some.injEq, Prod.mk.injEq] at H
      obtain ⟨rfl, rfl, rfl⟩ := H
      go_enter Try.func27, Try.ntmps27
      try go_wp2_with (first | ((with_reducible refine gate_dst (N := 4) rfl ?_); refine box_event ?hg (N := 4) ?hd (cs := #[.int .u64 0, .int .i64 0]) (t := 47) ?hr ?_; (case hd => rfl); (case hg => rfl); (case hr => first | (go_simp; done) | (go_simp; rfl)); intro gb274 hg w58 hbox hb; have n0_ := Aside0.mk (below_step (by repeat (first | (with_reducible first | exact HB.out | apply lA | apply lN | apply lD) | exact HB.out)) hb); have n1_ := Aside0.mk (hbox); have n2_ := Aside0.mk ((by rw [hg]; exact (below_size (by repeat (first | (with_reducible first | exact HB.out | apply lA | apply lN | apply lD) | exact HB.out))) : w.heap.size ≤ gb274)); have n3_ := Aside0.mk ((by rw [hg]; exact (below_size (by repeat (first | (with_reducible first | exact HB.out | apply lA | apply lN | apply lD) | exact HB.out))) : w.heap.size ≤ gb274)); clear HB; have HB := n0_; have BK274 := n1_; have GW274 := n2_; have GE274 := n3_; clear n0_ n1_ n2_ n3_; clear hb hbox hg) | ((with_reducible refine gate_callee (f := 23) rfl ?_); refine goesL_ (some 12) rfl rfl Try.func23 (by kernel_rfl) rfl #[.string a0] rfl (by (try simp only [List.map_toArray, List.map_cons, List.map_nil]); first | done | rfl) ?_; (with_reducible refine (page_Get.calls k a0 t275 t276 t277 t278 t279 _ A3.out).mono ?_); rintro e w59 ⟨rfl, hb⟩; refine ⟨_, rfl, ?_⟩; have n0_ := Aside0.mk (blk_below (g := gb274) (o := .cells #[.int .u64 0, .int .i64 0] 47 (0, 0)) (by (with_reducible repeat (first | apply bN | apply bD | apply bA)); exact BK274.out) hb); have n1_ := Aside0.mk (below_step (by repeat (first | (with_reducible first | exact HB.out | apply lA | apply lN | apply lD | refine below_set ?_ GE274.out) | exact HB.out)) hb); clear BK274; clear HB; have BK274 := n0_; have HB := n1_; clear n0_ n1_; (try clear hb); (try clear hb2); (try clear hk); (try clear hi)) | ((with_reducible refine gate_dst (N := 6) rfl ?_); refine box_event ?hg (N := 6) ?hd (cs := #[.int .i64 0, .int .i64 0, .int .u64 0, .string (⟨#[]⟩ : ByteArray)]) (t := 35) ?hr ?_; (case hd => rfl); (case hg => rfl); (case hr => first | (go_simp; done) | (go_simp; rfl)); intro gb280 hg w60 hbox hb; have n0_ := Aside0.mk (blk_below (g := gb274) (o := .cells #[.int .u64 0, .int .i64 0] 47 (0, 0)) (by (with_reducible repeat (first | apply bN | apply bD | apply bA)); exact BK274.out) hb); have n1_ := Aside0.mk (below_step (by repeat (first | (with_reducible first | exact HB.out | apply lA | apply lN | apply lD | refine below_set ?_ GE274.out) | exact HB.out)) hb); have n2_ := Aside0.mk (hbox); have n3_ := Aside0.mk ((by rw [hg]; exact (below_size (by repeat (first | (with_reducible first | exact HB.out | apply lA | apply lN | apply lD | refine below_set ?_ GE274.out) | exact HB.out))) : w.heap.size ≤ gb280)); have n4_ := Aside0.mk ((by rw [hg]; exact (below_size (by repeat (first | (with_reducible first | exact HB.out | apply lA | apply lN | apply lD | refine below_set ?_ GE274.out) | exact HB.out))) : w.heap.size ≤ gb280)); have n5_ := Aside0.mk ((by rw [hg]; exact Nat.ne_of_lt (blk_lt (g := gb274) (o := .cells #[.int .u64 0, .int .i64 0] 47 (0, 0)) (by (with_reducible repeat (first | apply bN | apply bD | apply bA)); exact BK274.out)) : gb274 ≠ gb280)); have n6_ := Aside0.mk ((by rw [hg]; exact Nat.ne_of_gt (blk_lt (g := gb274) (o := .cells #[.int .u64 0, .int .i64 0] 47 (0, 0)) (by (with_reducible repeat (first | apply bN | apply bD | apply bA)); exact BK274.out)) : gb280 ≠ gb274)); clear BK274; clear HB; have BK274 := n0_; have HB := n1_; have BK280 := n2_; have GW280 := n3_; have GE280 := n4_; have NB274_280 := n5_; have NB280_274 := n6_; clear n0_ n1_ n2_ n3_ n4_ n5_ n6_; clear hb hbox hg; have hnb61 := NB280_274.out; have hnc61 := NB274_280.out; have hcz62_0 : w60.cell? ⟨gb280, 0, none⟩ = some (.int .i64 0) := (blk_cell BK280.out 0).trans rfl; have hcz62_1 : w60.cell? ⟨gb280, 1, none⟩ = some (.int .i64 0) := (blk_cell BK280.out 1).trans rfl; have hcz62_2 : w60.cell? ⟨gb280, 2, none⟩ = some (.int .u64 0) := (blk_cell BK280.out 2).trans rfl; have hcz62_3 : w60.cell? ⟨gb280, 3, none⟩ = some (.string (⟨#[]⟩ : ByteArray)) := (blk_cell BK280.out 3).trans rfl; have hfz62_0 := blk_frozen BK280.out 0; have hfz62_1 := blk_frozen BK280.out 1; have hfz62_2 := blk_frozen BK280.out 2; have hfz62_3 := blk_frozen BK280.out 3) | ((with_reducible refine gate_callee (f := 39) rfl ?_); refine goesL_ (some 31) rfl rfl Try.func39 (by kernel_rfl) rfl #[.string t278] rfl (by (try simp only [List.map_toArray, List.map_cons, List.map_nil]); first | done | rfl) ?_; (with_reducible refine (wire_New.calls t278 t281 t282 w _ ?side1 A7.out).mono ?_); (case side1 => repeat (first | (with_reducible first | exact HB.out | apply lA | apply lN | apply lD | refine below_set ?_ GE274.out | refine below_set ?_ GE280.out) | exact HB.out)); rintro e w63 ⟨g283, rfl, hi, hb, hb2⟩; refine ⟨_, rfl, ?_⟩; have n0_ := Aside0.mk (blk_below (g := gb274) (o := .cells #[.int .u64 0, .int .i64 0] 47 (0, 0)) (by (with_reducible repeat (first | apply bN | apply bD | apply bA)); refine blk_far ?_ NB274_280.out _; (with_reducible repeat (first | apply bN | apply bD | apply bA)); refine blk_far ?_ NB274_280.out _; (with_reducible repeat (first | apply bN | apply bD | apply bA)); refine blk_far ?_ NB274_280.out _; (with_reducible repeat (first | apply bN | apply bD | apply bA)); refine blk_far ?_ NB274_280.out _; (with_reducible repeat (first | apply bN | apply bD | apply bA)); exact BK274.out) hb2); have n1_ := Aside0.mk (blk_below (g := gb280) (o := .cells #[.int .i64 t275, .int .i64 t276, .int .u64 t277, .string t278] 35 (0, 0)) (by (with_reducible repeat (first | apply bN | apply bD | apply bA)); refine blk_put (cs := #[.int .i64 t275, .int .i64 t276, .int .u64 t277, .string (⟨#[]⟩ : ByteArray)]) ?_ 3 _ rfl; (with_reducible repeat (first | apply bN | apply bD | apply bA)); refine blk_put (cs := #[.int .i64 t275, .int .i64 t276, .int .u64 0, .string (⟨#[]⟩ : ByteArray)]) ?_ 2 _ rfl; (with_reducible repeat (first | apply bN | apply bD | apply bA)); refine blk_put (cs := #[.int .i64 t275, .int .i64 0, .int .u64 0, .string (⟨#[]⟩ : ByteArray)]) ?_ 1 _ rfl; (with_reducible repeat (first | apply bN | apply bD | apply bA)); refine blk_put (cs := #[.int .i64 0, .int .i64 0, .int .u64 0, .string (⟨#[]⟩ : ByteArray)]) ?_ 0 _ rfl; (with_reducible repeat (first | apply bN | apply bD | apply bA)); exact BK280.out) hb2); have n2_ := Aside0.mk (hb); have n3_ := Aside0.mk (hi); have n4_ := Aside0.mk (IsS79.ne_blk hi (blk_below (g := gb274) (o := .cells #[.int .u64 0, .int .i64 0] 47 (0, 0)) (by (with_reducible repeat (first | apply bN | apply bD | apply bA)); refine blk_far ?_ NB274_280.out _; (with_reducible repeat (first | apply bN | apply bD | apply bA)); refine blk_far ?_ NB274_280.out _; (with_reducible repeat (first | apply bN | apply bD | apply bA)); refine blk_far ?_ NB274_280.out _; (with_reducible repeat (first | apply bN | apply bD | apply bA)); refine blk_far ?_ NB274_280.out _; (with_reducible repeat (first | apply bN | apply bD | apply bA)); exact BK274.out) hb2) (by decide)); have n5_ := Aside0.mk (Ne.symm (IsS79.ne_blk hi (blk_below (g := gb274) (o := .cells #[.int .u64 0, .int .i64 0] 47 (0, 0)) (by (with_reducible repeat (first | apply bN | apply bD | apply bA)); refine blk_far ?_ NB274_280.out _; (with_reducible repeat (first | apply bN | apply bD | apply bA)); refine blk_far ?_ NB274_280.out _; (with_reducible repeat (first | apply bN | apply bD | apply bA)); refine blk_far ?_ NB274_280.out _; (with_reducible repeat (first | apply bN | apply bD | apply bA)); refine blk_far ?_ NB274_280.out _; (with_reducible repeat (first | apply bN | apply bD | apply bA)); exact BK274.out) hb2) (by decide))); have n6_ := Aside0.mk (IsS79.ne_blk hi (blk_below (g := gb280) (o := .cells #[.int .i64 t275, .int .i64 t276, .int .u64 t277, .string t278] 35 (0, 0)) (by (with_reducible repeat (first | apply bN | apply bD | apply bA)); refine blk_put (cs := #[.int .i64 t275, .int .i64 t276, .int .u64 t277, .string (⟨#[]⟩ : ByteArray)]) ?_ 3 _ rfl; (with_reducible repeat (first | apply bN | apply bD | apply bA)); refine blk_put (cs := #[.int .i64 t275, .int .i64 t276, .int .u64 0, .string (⟨#[]⟩ : ByteArray)]) ?_ 2 _ rfl; (with_reducible repeat (first | apply bN | apply bD | apply bA)); refine blk_put (cs := #[.int .i64 t275, .int .i64 0, .int .u64 0, .string (⟨#[]⟩ : ByteArray)]) ?_ 1 _ rfl; (with_reducible repeat (first | apply bN | apply bD | apply bA)); refine blk_put (cs := #[.int .i64 0, .int .i64 0, .int .u64 0, .string (⟨#[]⟩ : ByteArray)]) ?_ 0 _ rfl; (with_reducible repeat (first | apply bN | apply bD | apply bA)); exact BK280.out) hb2) (by decide)); have n7_ := Aside0.mk (Ne.symm (IsS79.ne_blk hi (blk_below (g := gb280) (o := .cells #[.int .i64 t275, .int .i64 t276, .int .u64 t277, .string t278] 35 (0, 0)) (by (with_reducible repeat (first | apply bN | apply bD | apply bA)); refine blk_put (cs := #[.int .i64 t275, .int .i64 t276, .int .u64 t277, .string (⟨#[]⟩ : ByteArray)]) ?_ 3 _ rfl; (with_reducible repeat (first | apply bN | apply bD | apply bA)); refine blk_put (cs := #[.int .i64 t275, .int .i64 t276, .int .u64 0, .string (⟨#[]⟩ : ByteArray)]) ?_ 2 _ rfl; (with_reducible repeat (first | apply bN | apply bD | apply bA)); refine blk_put (cs := #[.int .i64 t275, .int .i64 0, .int .u64 0, .string (⟨#[]⟩ : ByteArray)]) ?_ 1 _ rfl; (with_reducible repeat (first | apply bN | apply bD | apply bA)); refine blk_put (cs := #[.int .i64 0, .int .i64 0, .int .u64 0, .string (⟨#[]⟩ : ByteArray)]) ?_ 0 _ rfl; (with_reducible repeat (first | apply bN | apply bD | apply bA)); exact BK280.out) hb2) (by decide))); clear BK274; clear BK280; clear HB; have BK274 := n0_; have BK280 := n1_; have HB := n2_; have HI283 := n3_; have NB283_274 := n4_; have NB274_283 := n5_; have NB283_280 := n6_; have NB280_283 := n7_; clear n0_ n1_ n2_ n3_ n4_ n5_ n6_ n7_; (try clear hb); (try clear hb2); (try clear hk); (try clear hi)))
      have n0_ := Aside0.mk (blk_drew BK274.out)
      have n1_ := Aside0.mk (blk_drew BK280.out)
      have n2_ := Aside0.mk (IsS79.drew HI283.out)
      have n3_ := Aside0.mk (below_drew1 HB.out)
      clear BK274
      clear BK280
      clear HI283
      clear HB
      have BK274 := n0_
      have BK280 := n1_
      have HI283 := n2_
      have HB := n3_
      clear n0_ n1_ n2_ n3_
      refine start_ (n := 9) (S := fun w' => w'.cell? ⟨gb280, 0, none⟩ = some (.int .i64 t275) ∧ w'.cell? ⟨gb280, 1, none⟩ = some (.int .i64 t276) ∧ w'.cell? ⟨gb280, 2, none⟩ = some (.int .u64 t277) ∧ w'.cell? ⟨gb280, 3, none⟩ = some (.string t278)) (ds := []) #[false, false, false, false, false, false, false, false, false] (by kernel_rfl) rfl rfl ⟨(blk_cell BK280.out 0).trans rfl, (blk_cell BK280.out 1).trans rfl, (blk_cell BK280.out 2).trans rfl, (blk_cell BK280.out 3).trans rfl⟩ (fun hHeld => ?_); refine with_tabW super_Get.tab5 super_Get.bits5 (fun HT_ HW_ => ?_)
      generalize w63.drew = w64 at BK274 BK280 HI283 HB hHeld ⊢
      refine pure_ (i := 0) (N := some 32) (v := ?_) (a' := ?_) #[true, false, false, false, false, false, false, false, false] rfl rfl (any_of HT_.out (by kernel_rfl)) (fun _ _ _ h => h) (Or.inl ⟨by rfl, ?_⟩) ?_ ?_
      rotate_left
      ·intro w'
       go_simp
       with_reducible rfl
      rotate_left
      ·simp only [Act.put, List.setIfInBounds_toArray, List.set_cons_zero, List.set_cons_succ, i64_w, i32_w]
       rfl
      refine pure_ (i := 2) (N := some 34) (v := ?_) (a' := ?_) #[true, false, true, false, false, false, false, false, false] rfl rfl (any_of HT_.out (by kernel_rfl)) (fun _ _ _ h => h) (Or.inl ⟨by rfl, ?_⟩) ?_ ?_
      rotate_left
      ·intro w'
       go_simp
       with_reducible rfl
      rotate_left
      ·simp only [Act.put, List.setIfInBounds_toArray, List.set_cons_zero, List.set_cons_succ, i64_w, i32_w]
       rfl
      refine take_ (i := 1) (N := some 33) (v := ?_) (a' := ?_) #[true, true, true, false, false, false, false, false, false] rfl rfl (take_ofW HT_.out HW_.out (by kernel_rfl)) (fun _ _ _ h => h) (Or.inl ⟨by rfl, ?_⟩) hHeld ?_ ?_
      rotate_left
      ·rintro w' ⟨s0, s1, s2, s3⟩
       go_simp
       with_reducible rfl
      rotate_left
      ·simp only [Act.put, List.setIfInBounds_toArray, List.set_cons_zero, List.set_cons_succ, i64_w, i32_w]
       rfl
      refine join_ (σ := Nat) 1 #[true, true, true, true, true, true, true, true, false] (fun s_ => [(35, .int .u64 t284), (9, .pointer (some ⟨s_, 0, none⟩)), (36, .int .i64 (wrap64 (t284))), (37, .int .i64 (wrap64 ((wrap64 (t284)) - 1))), (38, .agg #[.int .u64 t277, .int .i64 (wrap64 ((wrap64 (t284)) - 1))])]) (fun s_ w' => (w'.cell? ⟨gb280, 0, none⟩ = some (.int .i64 t275) ∧ w'.cell? ⟨gb280, 1, none⟩ = some (.int .i64 t276) ∧ w'.cell? ⟨gb280, 2, none⟩ = some (.int .u64 t277) ∧ w'.cell? ⟨gb280, 3, none⟩ = some (.string t278)) ∧ (w'.heap[gb274]? = some (.cells #[.int .u64 0, .int .i64 0] 47 (0, 0))) ∧ (w'.heap[gb280]? = some (.cells #[.int .i64 t275, .int .i64 t276, .int .u64 t277, .string t278] 35 (0, 0))) ∧ (w'.heap[s_]? = some (.cells #[.int .u64 0, .int .i64 0] 47 (0, 0))) ∧ (w.heap.size ≤ s_) ∧ (w.heap.size ≤ s_) ∧ (g283 ≠ s_) ∧ (s_ ≠ g283) ∧ (gb274 ≠ s_) ∧ (s_ ≠ gb274) ∧ (gb280 ≠ s_) ∧ (s_ ≠ gb280) ∧ (IsS79 w w' g283 t285 t286) ∧ (Below w.heap.size w w')) ?_ ?_
      rotate_left
      ·intro hCont
       refine two_ (i := 3) (j := 7) (Ni := some 35) (Nj := some 9) #[true, true, true, true, false, false, false, false, false] #[true, true, true, false, false, false, false, true, false] rfl rfl rfl rfl (two_of HT_.out (by kernel_rfl)) (by decide) (by decide) (fun K hK => ?_) (fun K hK => ?_)
       ·skip
        refine goes_ Try.func45 (by kernel_rfl) rfl #[.pointer (some ⟨g283, 0, none⟩), .int .u64 16384] (by rfl) rfl rfl (by (try simp only [List.map_toArray, List.map_cons, List.map_nil]); first | done | rfl) ?_
        with_reducible refine (wire_Reader_Num.calls k g283 t281 t282 16384 t284 t285 t286 w _ ?side1 ?side2 A8.out).mono ?_
        (case side1 => repeat (first | (with_reducible first | exact HI283.out | apply IsS79.alloc | apply IsS79.drewN | apply IsS79.drew | apply IsS79.set_0 | apply IsS79.set_1 | refine IsS79.far ?_ NB283_274.out _ | refine IsS79.far ?_ NB283_280.out _) | exact HI283.out))
        (case side2 => repeat (first | (with_reducible first | exact HB.out | apply lA | apply lN | apply lD | refine below_set ?_ (IsS79.ge HI283.out) | refine below_set ?_ GE274.out | refine below_set ?_ GE280.out) | exact HB.out))
        rintro e w65 ⟨rfl, hi, hb, hk⟩
        refine ⟨_, rfl, ?_⟩
        have n0_ := Aside0.mk (KeepBut.blk hk (g' := gb274) (o := .cells #[.int .u64 0, .int .i64 0] 47 (0, 0)) (by (with_reducible repeat (first | apply bN | apply bD | apply bA)); exact BK274.out) NB274_283.out (by simp))
        have n1_ := Aside0.mk (KeepBut.blk hk (g' := gb280) (o := .cells #[.int .i64 t275, .int .i64 t276, .int .u64 t277, .string t278] 35 (0, 0)) (by (with_reducible repeat (first | apply bN | apply bD | apply bA)); exact BK280.out) NB280_283.out (by simp))
        have n2_ := Aside0.mk (hb)
        have n3_ := Aside0.mk (hi)
        clear BK274
        clear BK280
        clear HB
        clear HI283
        have BK274 := n0_
        have BK280 := n1_
        have HB := n2_
        have HI283 := n3_
        clear n0_ n1_ n2_ n3_
        (try clear hb)
        (try clear hb2)
        (try clear hk)
        (try clear hi)
        refine hK.out _ _ ⟨(blk_cell BK280.out 0).trans rfl, (blk_cell BK280.out 1).trans rfl, (blk_cell BK280.out 2).trans rfl, (blk_cell BK280.out 3).trans rfl⟩ (fun hHeld => ?_)
        clear hK K
        refine norm_ (a' := ?_) ?_ ?_
        rotate_left
        ·show Act.put _ (some 35) _ = _
         simp only [Act.put, List.setIfInBounds_toArray, List.set_cons_zero, List.set_cons_succ, i64_w, i32_w]
         rfl
        refine pure_ (i := 4) (N := some 36) (v := ?_) (a' := ?_) #[true, true, true, true, true, false, false, false, false] rfl rfl (any_of HT_.out (by kernel_rfl)) (fun _ _ _ h => h) (Or.inl ⟨by rfl, ?_⟩) ?_ ?_
        rotate_left
        ·intro w'
         go_simp
         with_reducible rfl
        rotate_left
        ·simp only [Act.put, List.setIfInBounds_toArray, List.set_cons_zero, List.set_cons_succ, i64_w, i32_w]
         rfl
        refine pure_ (i := 5) (N := some 37) (v := ?_) (a' := ?_) #[true, true, true, true, true, true, false, false, false] rfl rfl (any_of HT_.out (by kernel_rfl)) (fun _ _ _ h => h) (Or.inl ⟨by rfl, ?_⟩) ?_ ?_
        rotate_left
        ·intro w'
         go_simp
         with_reducible rfl
        rotate_left
        ·simp only [Act.put, List.setIfInBounds_toArray, List.set_cons_zero, List.set_cons_succ, i64_w, i32_w]
         rfl
        refine pure_ (i := 6) (N := some 38) (v := ?_) (a' := ?_) #[true, true, true, true, true, true, true, false, false] rfl rfl (any_of HT_.out (by kernel_rfl)) (fun _ _ _ h => h) (Or.inl ⟨by rfl, ?_⟩) ?_ ?_
        rotate_left
        ·intro w'
         go_simp
         with_reducible rfl
        rotate_left
        ·simp only [Act.put, List.setIfInBounds_toArray, List.set_cons_zero, List.set_cons_succ, i64_w, i32_w]
         rfl
        refine one_ (i := 7) (N := some 9) #[true, true, true, true, true, true, true, true, false] rfl rfl (one_of HT_.out (by kernel_rfl)) (by decide) (fun K hK => ?_)
        refine box_step ?hg (N := 9) ?hd (cs := #[.int .u64 0, .int .i64 0]) (t := 47) ?hr ?_; (case hd => rfl); (case hg => rfl); (case hr => first | (go_simp; done) | (go_simp; rfl))
        intro gb287 hg w66 hbox hb
        have n0_ := Aside0.mk (blk_below (g := gb274) (o := .cells #[.int .u64 0, .int .i64 0] 47 (0, 0)) (by (with_reducible repeat (first | apply bN | apply bD | apply bA)); exact BK274.out) hb)
        have n1_ := Aside0.mk (blk_below (g := gb280) (o := .cells #[.int .i64 t275, .int .i64 t276, .int .u64 t277, .string t278] 35 (0, 0)) (by (with_reducible repeat (first | apply bN | apply bD | apply bA)); exact BK280.out) hb)
        have n2_ := Aside0.mk (IsS79.below (by repeat (first | (with_reducible first | exact HI283.out | apply IsS79.alloc | apply IsS79.drewN | apply IsS79.drew | apply IsS79.set_0 | apply IsS79.set_1 | refine IsS79.far ?_ NB283_274.out _ | refine IsS79.far ?_ NB283_280.out _) | exact HI283.out)) hb)
        have n3_ := Aside0.mk (below_step (by repeat (first | (with_reducible first | exact HB.out | apply lA | apply lN | apply lD | refine below_set ?_ (IsS79.ge HI283.out) | refine below_set ?_ GE274.out | refine below_set ?_ GE280.out) | exact HB.out)) hb)
        have n4_ := Aside0.mk (hbox)
        have n5_ := Aside0.mk ((by rw [hg]; exact (below_size (by repeat (first | (with_reducible first | exact HB.out | apply lA | apply lN | apply lD | refine below_set ?_ (IsS79.ge HI283.out) | refine below_set ?_ GE274.out | refine below_set ?_ GE280.out) | exact HB.out))) : w.heap.size ≤ gb287))
        have n6_ := Aside0.mk ((by rw [hg]; exact (below_size (by repeat (first | (with_reducible first | exact HB.out | apply lA | apply lN | apply lD | refine below_set ?_ (IsS79.ge HI283.out) | refine below_set ?_ GE274.out | refine below_set ?_ GE280.out) | exact HB.out))) : w.heap.size ≤ gb287))
        have n7_ := Aside0.mk ((by rw [hg]; exact Nat.ne_of_lt (blk_lt (g := gb274) (o := .cells #[.int .u64 0, .int .i64 0] 47 (0, 0)) (by (with_reducible repeat (first | apply bN | apply bD | apply bA)); exact BK274.out)) : gb274 ≠ gb287))
        have n8_ := Aside0.mk ((by rw [hg]; exact Nat.ne_of_gt (blk_lt (g := gb274) (o := .cells #[.int .u64 0, .int .i64 0] 47 (0, 0)) (by (with_reducible repeat (first | apply bN | apply bD | apply bA)); exact BK274.out)) : gb287 ≠ gb274))
        have n9_ := Aside0.mk ((by rw [hg]; exact Nat.ne_of_lt (blk_lt (g := gb280) (o := .cells #[.int .i64 t275, .int .i64 t276, .int .u64 t277, .string t278] 35 (0, 0)) (by (with_reducible repeat (first | apply bN | apply bD | apply bA)); exact BK280.out)) : gb280 ≠ gb287))
        have n10_ := Aside0.mk ((by rw [hg]; exact Nat.ne_of_gt (blk_lt (g := gb280) (o := .cells #[.int .i64 t275, .int .i64 t276, .int .u64 t277, .string t278] 35 (0, 0)) (by (with_reducible repeat (first | apply bN | apply bD | apply bA)); exact BK280.out)) : gb287 ≠ gb280))
        have n11_ := Aside0.mk ((by rw [hg]; exact Nat.ne_of_lt (IsS79.lt (show IsS79 w _ g283 t285 t286 from by repeat (first | (with_reducible first | exact HI283.out | apply IsS79.alloc | apply IsS79.drewN | apply IsS79.drew | apply IsS79.set_0 | apply IsS79.set_1 | refine IsS79.far ?_ NB283_274.out _ | refine IsS79.far ?_ NB283_280.out _) | exact HI283.out))) : g283 ≠ gb287))
        have n12_ := Aside0.mk ((by rw [hg]; exact Nat.ne_of_gt (IsS79.lt (show IsS79 w _ g283 t285 t286 from by repeat (first | (with_reducible first | exact HI283.out | apply IsS79.alloc | apply IsS79.drewN | apply IsS79.drew | apply IsS79.set_0 | apply IsS79.set_1 | refine IsS79.far ?_ NB283_274.out _ | refine IsS79.far ?_ NB283_280.out _) | exact HI283.out))) : gb287 ≠ g283))
        clear BK274
        clear BK280
        clear HI283
        clear HB
        have BK274 := n0_
        have BK280 := n1_
        have HI283 := n2_
        have HB := n3_
        have BK287 := n4_
        have GW287 := n5_
        have GE287 := n6_
        have NB274_287 := n7_
        have NB287_274 := n8_
        have NB280_287 := n9_
        have NB287_280 := n10_
        have NB283_287 := n11_
        have NB287_283 := n12_
        clear n0_ n1_ n2_ n3_ n4_ n5_ n6_ n7_ n8_ n9_ n10_ n11_ n12_
        clear hb hbox hg
        refine hK.out _ _ ⟨(blk_cell BK280.out 0).trans rfl, (blk_cell BK280.out 1).trans rfl, (blk_cell BK280.out 2).trans rfl, (blk_cell BK280.out 3).trans rfl⟩ (fun hHeld => ?_)
        clear hK K
        refine norm_ (a' := ?_) ?_ ?_
        rotate_left
        ·show Act.put _ (some 9) _ = _
         simp only [Act.put, List.setIfInBounds_toArray, List.set_cons_zero, List.set_cons_succ, i64_w, i32_w]
         rfl
        exact norm_ (by simp only [putAll, Act.put, List.setIfInBounds_toArray, List.set_cons_zero, List.set_cons_succ]) (hCont (gb287) _ ⟨hHeld, (by (with_reducible repeat (first | apply bN | apply bD | apply bA)); exact BK274.out), (by (with_reducible repeat (first | apply bN | apply bD | apply bA)); exact BK280.out), (by (with_reducible repeat (first | apply bN | apply bD | apply bA)); exact BK287.out), GW287.out, GE287.out, NB283_287.out, NB287_283.out, NB274_287.out, NB287_274.out, NB280_287.out, NB287_280.out, (by repeat (first | (with_reducible first | exact HI283.out | apply IsS79.alloc | apply IsS79.drewN | apply IsS79.drew | apply IsS79.set_0 | apply IsS79.set_1 | refine IsS79.far ?_ NB283_274.out _ | refine IsS79.far ?_ NB283_280.out _ | refine IsS79.far ?_ NB283_287.out _) | exact HI283.out)), (by repeat (first | (with_reducible first | exact HB.out | apply lA | apply lN | apply lD | refine below_set ?_ (IsS79.ge HI283.out) | refine below_set ?_ GE274.out | refine below_set ?_ GE280.out | refine below_set ?_ GE287.out) | exact HB.out))⟩)
       ·skip
        refine box_step ?hg (N := 9) ?hd (cs := #[.int .u64 0, .int .i64 0]) (t := 47) ?hr ?_; (case hd => rfl); (case hg => rfl); (case hr => first | (go_simp; done) | (go_simp; rfl))
        intro gb287 hg w65 hbox hb
        have n0_ := Aside0.mk (blk_below (g := gb274) (o := .cells #[.int .u64 0, .int .i64 0] 47 (0, 0)) (by (with_reducible repeat (first | apply bN | apply bD | apply bA)); exact BK274.out) hb)
        have n1_ := Aside0.mk (blk_below (g := gb280) (o := .cells #[.int .i64 t275, .int .i64 t276, .int .u64 t277, .string t278] 35 (0, 0)) (by (with_reducible repeat (first | apply bN | apply bD | apply bA)); exact BK280.out) hb)
        have n2_ := Aside0.mk (IsS79.below (by repeat (first | (with_reducible first | exact HI283.out | apply IsS79.alloc | apply IsS79.drewN | apply IsS79.drew | apply IsS79.set_0 | apply IsS79.set_1 | refine IsS79.far ?_ NB283_274.out _ | refine IsS79.far ?_ NB283_280.out _) | exact HI283.out)) hb)
        have n3_ := Aside0.mk (below_step (by repeat (first | (with_reducible first | exact HB.out | apply lA | apply lN | apply lD | refine below_set ?_ (IsS79.ge HI283.out) | refine below_set ?_ GE274.out | refine below_set ?_ GE280.out) | exact HB.out)) hb)
        have n4_ := Aside0.mk (hbox)
        have n5_ := Aside0.mk ((by rw [hg]; exact (below_size (by repeat (first | (with_reducible first | exact HB.out | apply lA | apply lN | apply lD | refine below_set ?_ (IsS79.ge HI283.out) | refine below_set ?_ GE274.out | refine below_set ?_ GE280.out) | exact HB.out))) : w.heap.size ≤ gb287))
        have n6_ := Aside0.mk ((by rw [hg]; exact (below_size (by repeat (first | (with_reducible first | exact HB.out | apply lA | apply lN | apply lD | refine below_set ?_ (IsS79.ge HI283.out) | refine below_set ?_ GE274.out | refine below_set ?_ GE280.out) | exact HB.out))) : w.heap.size ≤ gb287))
        have n7_ := Aside0.mk ((by rw [hg]; exact Nat.ne_of_lt (blk_lt (g := gb274) (o := .cells #[.int .u64 0, .int .i64 0] 47 (0, 0)) (by (with_reducible repeat (first | apply bN | apply bD | apply bA)); exact BK274.out)) : gb274 ≠ gb287))
        have n8_ := Aside0.mk ((by rw [hg]; exact Nat.ne_of_gt (blk_lt (g := gb274) (o := .cells #[.int .u64 0, .int .i64 0] 47 (0, 0)) (by (with_reducible repeat (first | apply bN | apply bD | apply bA)); exact BK274.out)) : gb287 ≠ gb274))
        have n9_ := Aside0.mk ((by rw [hg]; exact Nat.ne_of_lt (blk_lt (g := gb280) (o := .cells #[.int .i64 t275, .int .i64 t276, .int .u64 t277, .string t278] 35 (0, 0)) (by (with_reducible repeat (first | apply bN | apply bD | apply bA)); exact BK280.out)) : gb280 ≠ gb287))
        have n10_ := Aside0.mk ((by rw [hg]; exact Nat.ne_of_gt (blk_lt (g := gb280) (o := .cells #[.int .i64 t275, .int .i64 t276, .int .u64 t277, .string t278] 35 (0, 0)) (by (with_reducible repeat (first | apply bN | apply bD | apply bA)); exact BK280.out)) : gb287 ≠ gb280))
        have n11_ := Aside0.mk ((by rw [hg]; exact Nat.ne_of_lt (IsS79.lt (show IsS79 w _ g283 t281 t282 from by repeat (first | (with_reducible first | exact HI283.out | apply IsS79.alloc | apply IsS79.drewN | apply IsS79.drew | apply IsS79.set_0 | apply IsS79.set_1 | refine IsS79.far ?_ NB283_274.out _ | refine IsS79.far ?_ NB283_280.out _) | exact HI283.out))) : g283 ≠ gb287))
        have n12_ := Aside0.mk ((by rw [hg]; exact Nat.ne_of_gt (IsS79.lt (show IsS79 w _ g283 t281 t282 from by repeat (first | (with_reducible first | exact HI283.out | apply IsS79.alloc | apply IsS79.drewN | apply IsS79.drew | apply IsS79.set_0 | apply IsS79.set_1 | refine IsS79.far ?_ NB283_274.out _ | refine IsS79.far ?_ NB283_280.out _) | exact HI283.out))) : gb287 ≠ g283))
        clear BK274
        clear BK280
        clear HI283
        clear HB
        have BK274 := n0_
        have BK280 := n1_
        have HI283 := n2_
        have HB := n3_
        have BK287 := n4_
        have GW287 := n5_
        have GE287 := n6_
        have NB274_287 := n7_
        have NB287_274 := n8_
        have NB280_287 := n9_
        have NB287_280 := n10_
        have NB283_287 := n11_
        have NB287_283 := n12_
        clear n0_ n1_ n2_ n3_ n4_ n5_ n6_ n7_ n8_ n9_ n10_ n11_ n12_
        clear hb hbox hg
        refine hK.out _ _ ⟨(blk_cell BK280.out 0).trans rfl, (blk_cell BK280.out 1).trans rfl, (blk_cell BK280.out 2).trans rfl, (blk_cell BK280.out 3).trans rfl⟩ (fun hHeld => ?_)
        clear hK K
        refine norm_ (a' := ?_) ?_ ?_
        rotate_left
        ·show Act.put _ (some 9) _ = _
         simp only [Act.put, List.setIfInBounds_toArray, List.set_cons_zero, List.set_cons_succ, i64_w, i32_w]
         rfl
        refine one_ (i := 3) (N := some 35) #[true, true, true, true, false, false, false, true, false] rfl rfl (one_of HT_.out (by kernel_rfl)) (by decide) (fun K hK => ?_)
        refine goes_ Try.func45 (by kernel_rfl) rfl #[.pointer (some ⟨g283, 0, none⟩), .int .u64 16384] (by rfl) rfl rfl (by (try simp only [List.map_toArray, List.map_cons, List.map_nil]); first | done | rfl) ?_
        with_reducible refine (wire_Reader_Num.calls k g283 t281 t282 16384 t284 t285 t286 w _ ?side1 ?side2 A8.out).mono ?_
        (case side1 => repeat (first | (with_reducible first | exact HI283.out | apply IsS79.alloc | apply IsS79.drewN | apply IsS79.drew | apply IsS79.set_0 | apply IsS79.set_1 | refine IsS79.far ?_ NB283_274.out _ | refine IsS79.far ?_ NB283_280.out _ | refine IsS79.far ?_ NB283_287.out _) | exact HI283.out))
        (case side2 => repeat (first | (with_reducible first | exact HB.out | apply lA | apply lN | apply lD | refine below_set ?_ (IsS79.ge HI283.out) | refine below_set ?_ GE274.out | refine below_set ?_ GE280.out | refine below_set ?_ GE287.out) | exact HB.out))
        rintro e w66 ⟨rfl, hi, hb, hk⟩
        refine ⟨_, rfl, ?_⟩
        have n0_ := Aside0.mk (KeepBut.blk hk (g' := gb274) (o := .cells #[.int .u64 0, .int .i64 0] 47 (0, 0)) (by (with_reducible repeat (first | apply bN | apply bD | apply bA)); exact BK274.out) NB274_283.out (by simp))
        have n1_ := Aside0.mk (KeepBut.blk hk (g' := gb280) (o := .cells #[.int .i64 t275, .int .i64 t276, .int .u64 t277, .string t278] 35 (0, 0)) (by (with_reducible repeat (first | apply bN | apply bD | apply bA)); exact BK280.out) NB280_283.out (by simp))
        have n2_ := Aside0.mk (KeepBut.blk hk (g' := gb287) (o := .cells #[.int .u64 0, .int .i64 0] 47 (0, 0)) (by (with_reducible repeat (first | apply bN | apply bD | apply bA)); exact BK287.out) NB287_283.out (by simp))
        have n3_ := Aside0.mk (hb)
        have n4_ := Aside0.mk (hi)
        clear BK274
        clear BK280
        clear BK287
        clear HB
        clear HI283
        have BK274 := n0_
        have BK280 := n1_
        have BK287 := n2_
        have HB := n3_
        have HI283 := n4_
        clear n0_ n1_ n2_ n3_ n4_
        (try clear hb)
        (try clear hb2)
        (try clear hk)
        (try clear hi)
        refine hK.out _ _ ⟨(blk_cell BK280.out 0).trans rfl, (blk_cell BK280.out 1).trans rfl, (blk_cell BK280.out 2).trans rfl, (blk_cell BK280.out 3).trans rfl⟩ (fun hHeld => ?_)
        clear hK K
        refine norm_ (a' := ?_) ?_ ?_
        rotate_left
        ·show Act.put _ (some 35) _ = _
         simp only [Act.put, List.setIfInBounds_toArray, List.set_cons_zero, List.set_cons_succ, i64_w, i32_w]
         rfl
        refine pure_ (i := 4) (N := some 36) (v := ?_) (a' := ?_) #[true, true, true, true, true, false, false, true, false] rfl rfl (any_of HT_.out (by kernel_rfl)) (fun _ _ _ h => h) (Or.inl ⟨by rfl, ?_⟩) ?_ ?_
        rotate_left
        ·intro w'
         go_simp
         with_reducible rfl
        rotate_left
        ·simp only [Act.put, List.setIfInBounds_toArray, List.set_cons_zero, List.set_cons_succ, i64_w, i32_w]
         rfl
        refine pure_ (i := 5) (N := some 37) (v := ?_) (a' := ?_) #[true, true, true, true, true, true, false, true, false] rfl rfl (any_of HT_.out (by kernel_rfl)) (fun _ _ _ h => h) (Or.inl ⟨by rfl, ?_⟩) ?_ ?_
        rotate_left
        ·intro w'
         go_simp
         with_reducible rfl
        rotate_left
        ·simp only [Act.put, List.setIfInBounds_toArray, List.set_cons_zero, List.set_cons_succ, i64_w, i32_w]
         rfl
        refine pure_ (i := 6) (N := some 38) (v := ?_) (a' := ?_) #[true, true, true, true, true, true, true, true, false] rfl rfl (any_of HT_.out (by kernel_rfl)) (fun _ _ _ h => h) (Or.inl ⟨by rfl, ?_⟩) ?_ ?_
        rotate_left
        ·intro w'
         go_simp
         with_reducible rfl
        rotate_left
        ·simp only [Act.put, List.setIfInBounds_toArray, List.set_cons_zero, List.set_cons_succ, i64_w, i32_w]
         rfl
        exact norm_ (by simp only [putAll, Act.put, List.setIfInBounds_toArray, List.set_cons_zero, List.set_cons_succ]) (hCont (gb287) _ ⟨hHeld, (by (with_reducible repeat (first | apply bN | apply bD | apply bA)); exact BK274.out), (by (with_reducible repeat (first | apply bN | apply bD | apply bA)); exact BK280.out), (by (with_reducible repeat (first | apply bN | apply bD | apply bA)); exact BK287.out), GW287.out, GE287.out, NB283_287.out, NB287_283.out, NB274_287.out, NB287_274.out, NB280_287.out, NB287_280.out, (by repeat (first | (with_reducible first | exact HI283.out | apply IsS79.alloc | apply IsS79.drewN | apply IsS79.drew | apply IsS79.set_0 | apply IsS79.set_1 | refine IsS79.far ?_ NB283_274.out _ | refine IsS79.far ?_ NB283_280.out _ | refine IsS79.far ?_ NB283_287.out _) | exact HI283.out)), (by repeat (first | (with_reducible first | exact HB.out | apply lA | apply lN | apply lD | refine below_set ?_ (IsS79.ge HI283.out) | refine below_set ?_ GE274.out | refine below_set ?_ GE280.out | refine below_set ?_ GE287.out) | exact HB.out))⟩)
      rintro gb287 w67 ⟨hS_, h0_, h1_, h2_, h3_, h4_, h5_, h6_, h7_, h8_, h9_, h10_, h11_, h12_⟩
      have n0_ : Aside0 (w67.heap[gb274]? = some (.cells #[.int .u64 0, .int .i64 0] 47 (0, 0))) := ⟨h0_⟩
      have n1_ : Aside0 (w67.heap[gb280]? = some (.cells #[.int .i64 t275, .int .i64 t276, .int .u64 t277, .string t278] 35 (0, 0))) := ⟨h1_⟩
      have n2_ : Aside0 (w67.heap[gb287]? = some (.cells #[.int .u64 0, .int .i64 0] 47 (0, 0))) := ⟨h2_⟩
      have n3_ : Aside0 (w.heap.size ≤ gb287) := ⟨h3_⟩
      have n4_ : Aside0 (w.heap.size ≤ gb287) := ⟨h4_⟩
      have n5_ : Aside0 (g283 ≠ gb287) := ⟨h5_⟩
      have n6_ : Aside0 (gb287 ≠ g283) := ⟨h6_⟩
      have n7_ : Aside0 (gb274 ≠ gb287) := ⟨h7_⟩
      have n8_ : Aside0 (gb287 ≠ gb274) := ⟨h8_⟩
      have n9_ : Aside0 (gb280 ≠ gb287) := ⟨h9_⟩
      have n10_ : Aside0 (gb287 ≠ gb280) := ⟨h10_⟩
      have n11_ : Aside0 (IsS79 w w67 g283 t285 t286) := ⟨h11_⟩
      have n12_ : Aside0 (Below w.heap.size w w67) := ⟨h12_⟩
      clear BK274
      clear BK280
      clear HI283
      clear HB
      clear h0_ h1_ h2_ h3_ h4_ h5_ h6_ h7_ h8_ h9_ h10_ h11_ h12_
      have BK274 := n0_
      have BK280 := n1_
      have BK287 := n2_
      have GW287 := n3_
      have GE287 := n4_
      have NB283_287 := n5_
      have NB287_283 := n6_
      have NB274_287 := n7_
      have NB287_274 := n8_
      have NB280_287 := n9_
      have NB287_280 := n10_
      have HI283 := n11_
      have HB := n12_
      clear n0_ n1_ n2_ n3_ n4_ n5_ n6_ n7_ n8_ n9_ n10_ n11_ n12_
      have hHeld : w67.cell? ⟨gb280, 0, none⟩ = some (.int .i64 t275) ∧ w67.cell? ⟨gb280, 1, none⟩ = some (.int .i64 t276) ∧ w67.cell? ⟨gb280, 2, none⟩ = some (.int .u64 t277) ∧ w67.cell? ⟨gb280, 3, none⟩ = some (.string t278) := hS_
      refine norm_ (a' := ?_) ?_ ?_
      rotate_left
      ·simp only [putAll, Act.put, List.setIfInBounds_toArray, List.set_cons_zero, List.set_cons_succ]
       rfl
      refine one_ (i := 8) (N := none) #[true, true, true, true, true, true, true, true, true] rfl rfl (one_of HT_.out (by kernel_rfl)) (by decide) (fun K hK => ?_)
      have hs68 : w67.cell? ⟨gb287, 0, none⟩ = some (.int .u64 0) := (blk_cell BK287.out 0).trans rfl
      have hfs68 := blk_frozen BK287.out 0
      have hns68_0 := NB274_287.out
      have hns68_1 := NB280_287.out
      have hms68_0 := NB287_274.out
      have hms68_1 := NB287_280.out
      have hs69 : w67.cell? ⟨gb287, 1, none⟩ = some (.int .i64 0) := (blk_cell BK287.out 1).trans rfl
      have hfs69 := blk_frozen BK287.out 1
      have hns69_0 := NB274_287.out
      have hns69_1 := NB280_287.out
      have hms69_0 := NB287_274.out
      have hms69_1 := NB287_280.out
      refine skip_ (w1 := ?_) (by rfl) rfl ?_ ?_
      rotate_left
      ·go_simp
       rfl
      refine hK.out _ _ ⟨((cell_far (p := ⟨gb287, _, none⟩) NB280_287.out _).trans (((cell_far (p := ⟨gb287, _, none⟩) NB280_287.out _).trans (hHeld.1)))), ((cell_far (p := ⟨gb287, _, none⟩) NB280_287.out _).trans (((cell_far (p := ⟨gb287, _, none⟩) NB280_287.out _).trans (hHeld.2.1)))), ((cell_far (p := ⟨gb287, _, none⟩) NB280_287.out _).trans (((cell_far (p := ⟨gb287, _, none⟩) NB280_287.out _).trans (hHeld.2.2.1)))), ((cell_far (p := ⟨gb287, _, none⟩) NB280_287.out _).trans (((cell_far (p := ⟨gb287, _, none⟩) NB280_287.out _).trans (hHeld.2.2.2))))⟩ (fun hHeld => ?_)
      clear hK K
      refine done_ (done_of HT_.out (by kernel_rfl)) ?_
      try go_wp2_with (first | ((with_reducible refine gate_callee (f := 46) rfl ?_); refine goesL_ (some 40) rfl rfl Try.func46 (by kernel_rfl) rfl #[.pointer (some ⟨g283, 0, none⟩)] rfl (by (try simp only [List.map_toArray, List.map_cons, List.map_nil]); first | done | rfl) ?_; (with_reducible refine (wire_Reader_End.calls k g283 t285 t286 t288 t289 t290 w _ ?side1 ?side2 A9.out).mono ?_); (case side1 => repeat (first | (with_reducible first | exact HI283.out | apply IsS79.alloc | apply IsS79.drewN | apply IsS79.drew | apply IsS79.set_0 | apply IsS79.set_1 | refine IsS79.far ?_ NB283_274.out _ | refine IsS79.far ?_ NB283_280.out _ | refine IsS79.far ?_ NB283_287.out _) | exact HI283.out)); (case side2 => repeat (first | (with_reducible first | exact HB.out | apply lA | apply lN | apply lD | refine below_set ?_ (IsS79.ge HI283.out) | refine below_set ?_ GE274.out | refine below_set ?_ GE280.out | refine below_set ?_ GE287.out) | exact HB.out)); rintro e w70 ⟨rfl, hi, hb, hk⟩; refine ⟨_, rfl, ?_⟩; have n0_ := Aside0.mk (KeepBut.blk hk (g' := gb274) (o := .cells #[.int .u64 0, .int .i64 0] 47 (0, 0)) (by (with_reducible repeat (first | apply bN | apply bD | apply bA)); refine blk_far ?_ NB274_287.out _; (with_reducible repeat (first | apply bN | apply bD | apply bA)); refine blk_far ?_ NB274_287.out _; (with_reducible repeat (first | apply bN | apply bD | apply bA)); exact BK274.out) NB274_283.out (by simp)); have n1_ := Aside0.mk (KeepBut.blk hk (g' := gb280) (o := .cells #[.int .i64 t275, .int .i64 t276, .int .u64 t277, .string t278] 35 (0, 0)) (by (with_reducible repeat (first | apply bN | apply bD | apply bA)); refine blk_far ?_ NB280_287.out _; (with_reducible repeat (first | apply bN | apply bD | apply bA)); refine blk_far ?_ NB280_287.out _; (with_reducible repeat (first | apply bN | apply bD | apply bA)); exact BK280.out) NB280_283.out (by simp)); have n2_ := Aside0.mk (KeepBut.blk hk (g' := gb287) (o := .cells #[.int .u64 t277, .int .i64 (wrap64 ((wrap64 (t284)) - 1))] 47 (0, 0)) (by (with_reducible repeat (first | apply bN | apply bD | apply bA)); refine blk_put (cs := #[.int .u64 t277, .int .i64 0]) ?_ 1 _ rfl; (with_reducible repeat (first | apply bN | apply bD | apply bA)); refine blk_put (cs := #[.int .u64 0, .int .i64 0]) ?_ 0 _ rfl; (with_reducible repeat (first | apply bN | apply bD | apply bA)); exact BK287.out) NB287_283.out (by simp)); have n3_ := Aside0.mk (hb); have n4_ := Aside0.mk (hi); clear BK274; clear BK280; clear BK287; clear HB; clear HI283; have BK274 := n0_; have BK280 := n1_; have BK287 := n2_; have HB := n3_; have HI283 := n4_; clear n0_ n1_ n2_ n3_ n4_; (try clear hb); (try clear hb2); (try clear hk); (try clear hi); have hnb71 := NB287_274.out; have hnc71 := NB274_287.out; have hnb72 := NB287_280.out; have hnc72 := NB280_287.out; have hnb73 := NB287_283.out; have hnc73 := NB283_287.out; have hcz74_0 : w70.cell? ⟨gb287, 0, none⟩ = some (.int .u64 t277) := (blk_cell BK287.out 0).trans rfl; have hcz74_1 : w70.cell? ⟨gb287, 1, none⟩ = some (.int .i64 (wrap64 ((wrap64 (t284)) - 1))) := (blk_cell BK287.out 1).trans rfl; have hfz74_0 := blk_frozen BK287.out 0; have hfz74_1 := blk_frozen BK287.out 1) | (go_at_call 30; (with_reducible refine (super_May.calls t277 (wrap64 ((wrap64 (t284)) - 1)) false _ A11.out).mono ?_); rintro e w75 ⟨rfl, hb⟩; have n0_ := Aside0.mk (blk_below (g := gb274) (o := .cells #[.int .u64 0, .int .i64 0] 47 (0, 0)) (by (with_reducible repeat (first | apply bN | apply bD | apply bA)); exact BK274.out) hb); have n1_ := Aside0.mk (blk_below (g := gb280) (o := .cells #[.int .i64 t275, .int .i64 t276, .int .u64 t277, .string t278] 35 (0, 0)) (by (with_reducible repeat (first | apply bN | apply bD | apply bA)); exact BK280.out) hb); have n2_ := Aside0.mk (IsS79.below (by repeat (first | (with_reducible first | exact HI283.out | apply IsS79.alloc | apply IsS79.drewN | apply IsS79.drew | apply IsS79.set_0 | apply IsS79.set_1 | refine IsS79.far ?_ NB283_274.out _ | refine IsS79.far ?_ NB283_280.out _ | refine IsS79.far ?_ NB283_287.out _) | exact HI283.out)) hb); have n3_ := Aside0.mk (blk_below (g := gb287) (o := .cells #[.int .u64 t277, .int .i64 (wrap64 ((wrap64 (t284)) - 1))] 47 (0, 0)) (by (with_reducible repeat (first | apply bN | apply bD | apply bA)); exact BK287.out) hb); have n4_ := Aside0.mk (below_step (by repeat (first | (with_reducible first | exact HB.out | apply lA | apply lN | apply lD | refine below_set ?_ (IsS79.ge HI283.out) | refine below_set ?_ GE274.out | refine below_set ?_ GE280.out | refine below_set ?_ GE287.out) | exact HB.out)) hb); clear BK274; clear BK280; clear HI283; clear BK287; clear HB; have BK274 := n0_; have BK280 := n1_; have HI283 := n2_; have BK287 := n3_; have HB := n4_; clear n0_ n1_ n2_ n3_ n4_; (try clear hb); (try clear hb2); (try clear hk); (try clear hi); have hnb76 := NB274_283.out; have hnc76 := NB283_274.out; have hcz77_0 : w75.cell? ⟨gb274, 0, none⟩ = some (.int .u64 0) := (blk_cell BK274.out 0).trans rfl; have hcz77_1 : w75.cell? ⟨gb274, 1, none⟩ = some (.int .i64 0) := (blk_cell BK274.out 1).trans rfl; have hfz77_0 := blk_frozen BK274.out 0; have hfz77_1 := blk_frozen BK274.out 1))
      refine bodyPost_ret (results_ct rfl _ _ gb274 47 #[.int .u64 0, .int .i64 0] (0, 0) _ rfl (by (with_reducible repeat (first | apply bN | apply bD | apply bA)); refine blk_put (cs := #[.int .u64 0, .int .i64 0]) ?_ 1 _ rfl; (with_reducible repeat (first | apply bN | apply bD | apply bA)); refine blk_put (cs := #[.int .u64 0, .int .i64 0]) ?_ 0 _ rfl; (with_reducible repeat (first | apply bN | apply bD | apply bA)); exact BK274.out) Try.underlying47 rfl (by kernel_rfl)) rfl ?_
      exact ⟨by first | rfl | (simp <;> rfl) | (simp [*] <;> rfl), by repeat (first | (with_reducible first | exact HB.out | apply lA | apply lN | apply lD | refine below_set ?_ (IsS79.ge HI283.out) | refine below_set ?_ GE274.out | refine below_set ?_ GE280.out | refine below_set ?_ GE287.out) | exact HB.out)⟩
    ·rw [if_neg c10] at H
     have c10b0 : (t288 == 0) = false := beq_eq_false_iff_ne.mpr c10
     have c10b1 : (t288 != 0) = true := bne_iff_ne.mpr c10
     simp only [Option.some.injEq, Prod.mk.injEq] at H
     obtain ⟨rfl, rfl, rfl⟩ := H
     go_enter Try.func27, Try.ntmps27
     try go_wp2_with (first | ((with_reducible refine gate_dst (N := 4) rfl ?_); refine box_event ?hg (N := 4) ?hd (cs := #[.int .u64 0, .int .i64 0]) (t := 47) ?hr ?_; (case hd => rfl); (case hg => rfl); (case hr => first | (go_simp; done) | (go_simp; rfl)); intro gb274 hg w78 hbox hb; have n0_ := Aside0.mk (below_step (by repeat (first | (with_reducible first | exact HB.out | apply lA | apply lN | apply lD) | exact HB.out)) hb); have n1_ := Aside0.mk (hbox); have n2_ := Aside0.mk ((by rw [hg]; exact (below_size (by repeat (first | (with_reducible first | exact HB.out | apply lA | apply lN | apply lD) | exact HB.out))) : w.heap.size ≤ gb274)); have n3_ := Aside0.mk ((by rw [hg]; exact (below_size (by repeat (first | (with_reducible first | exact HB.out | apply lA | apply lN | apply lD) | exact HB.out))) : w.heap.size ≤ gb274)); clear HB; have HB := n0_; have BK274 := n1_; have GW274 := n2_; have GE274 := n3_; clear n0_ n1_ n2_ n3_; clear hb hbox hg) | ((with_reducible refine gate_callee (f := 23) rfl ?_); refine goesL_ (some 12) rfl rfl Try.func23 (by kernel_rfl) rfl #[.string a0] rfl (by (try simp only [List.map_toArray, List.map_cons, List.map_nil]); first | done | rfl) ?_; (with_reducible refine (page_Get.calls k a0 t275 t276 t277 t278 t279 _ A3.out).mono ?_); rintro e w79 ⟨rfl, hb⟩; refine ⟨_, rfl, ?_⟩; have n0_ := Aside0.mk (blk_below (g := gb274) (o := .cells #[.int .u64 0, .int .i64 0] 47 (0, 0)) (by (with_reducible repeat (first | apply bN | apply bD | apply bA)); exact BK274.out) hb); have n1_ := Aside0.mk (below_step (by repeat (first | (with_reducible first | exact HB.out | apply lA | apply lN | apply lD | refine below_set ?_ GE274.out) | exact HB.out)) hb); clear BK274; clear HB; have BK274 := n0_; have HB := n1_; clear n0_ n1_; (try clear hb); (try clear hb2); (try clear hk); (try clear hi)) | ((with_reducible refine gate_dst (N := 6) rfl ?_); refine box_event ?hg (N := 6) ?hd (cs := #[.int .i64 0, .int .i64 0, .int .u64 0, .string (⟨#[]⟩ : ByteArray)]) (t := 35) ?hr ?_; (case hd => rfl); (case hg => rfl); (case hr => first | (go_simp; done) | (go_simp; rfl)); intro gb280 hg w80 hbox hb; have n0_ := Aside0.mk (blk_below (g := gb274) (o := .cells #[.int .u64 0, .int .i64 0] 47 (0, 0)) (by (with_reducible repeat (first | apply bN | apply bD | apply bA)); exact BK274.out) hb); have n1_ := Aside0.mk (below_step (by repeat (first | (with_reducible first | exact HB.out | apply lA | apply lN | apply lD | refine below_set ?_ GE274.out) | exact HB.out)) hb); have n2_ := Aside0.mk (hbox); have n3_ := Aside0.mk ((by rw [hg]; exact (below_size (by repeat (first | (with_reducible first | exact HB.out | apply lA | apply lN | apply lD | refine below_set ?_ GE274.out) | exact HB.out))) : w.heap.size ≤ gb280)); have n4_ := Aside0.mk ((by rw [hg]; exact (below_size (by repeat (first | (with_reducible first | exact HB.out | apply lA | apply lN | apply lD | refine below_set ?_ GE274.out) | exact HB.out))) : w.heap.size ≤ gb280)); have n5_ := Aside0.mk ((by rw [hg]; exact Nat.ne_of_lt (blk_lt (g := gb274) (o := .cells #[.int .u64 0, .int .i64 0] 47 (0, 0)) (by (with_reducible repeat (first | apply bN | apply bD | apply bA)); exact BK274.out)) : gb274 ≠ gb280)); have n6_ := Aside0.mk ((by rw [hg]; exact Nat.ne_of_gt (blk_lt (g := gb274) (o := .cells #[.int .u64 0, .int .i64 0] 47 (0, 0)) (by (with_reducible repeat (first | apply bN | apply bD | apply bA)); exact BK274.out)) : gb280 ≠ gb274)); clear BK274; clear HB; have BK274 := n0_; have HB := n1_; have BK280 := n2_; have GW280 := n3_; have GE280 := n4_; have NB274_280 := n5_; have NB280_274 := n6_; clear n0_ n1_ n2_ n3_ n4_ n5_ n6_; clear hb hbox hg; have hnb81 := NB280_274.out; have hnc81 := NB274_280.out; have hcz82_0 : w80.cell? ⟨gb280, 0, none⟩ = some (.int .i64 0) := (blk_cell BK280.out 0).trans rfl; have hcz82_1 : w80.cell? ⟨gb280, 1, none⟩ = some (.int .i64 0) := (blk_cell BK280.out 1).trans rfl; have hcz82_2 : w80.cell? ⟨gb280, 2, none⟩ = some (.int .u64 0) := (blk_cell BK280.out 2).trans rfl; have hcz82_3 : w80.cell? ⟨gb280, 3, none⟩ = some (.string (⟨#[]⟩ : ByteArray)) := (blk_cell BK280.out 3).trans rfl; have hfz82_0 := blk_frozen BK280.out 0; have hfz82_1 := blk_frozen BK280.out 1; have hfz82_2 := blk_frozen BK280.out 2; have hfz82_3 := blk_frozen BK280.out 3) | ((with_reducible refine gate_callee (f := 39) rfl ?_); refine goesL_ (some 31) rfl rfl Try.func39 (by kernel_rfl) rfl #[.string t278] rfl (by (try simp only [List.map_toArray, List.map_cons, List.map_nil]); first | done | rfl) ?_; (with_reducible refine (wire_New.calls t278 t281 t282 w _ ?side1 A7.out).mono ?_); (case side1 => repeat (first | (with_reducible first | exact HB.out | apply lA | apply lN | apply lD | refine below_set ?_ GE274.out | refine below_set ?_ GE280.out) | exact HB.out)); rintro e w83 ⟨g283, rfl, hi, hb, hb2⟩; refine ⟨_, rfl, ?_⟩; have n0_ := Aside0.mk (blk_below (g := gb274) (o := .cells #[.int .u64 0, .int .i64 0] 47 (0, 0)) (by (with_reducible repeat (first | apply bN | apply bD | apply bA)); refine blk_far ?_ NB274_280.out _; (with_reducible repeat (first | apply bN | apply bD | apply bA)); refine blk_far ?_ NB274_280.out _; (with_reducible repeat (first | apply bN | apply bD | apply bA)); refine blk_far ?_ NB274_280.out _; (with_reducible repeat (first | apply bN | apply bD | apply bA)); refine blk_far ?_ NB274_280.out _; (with_reducible repeat (first | apply bN | apply bD | apply bA)); exact BK274.out) hb2); have n1_ := Aside0.mk (blk_below (g := gb280) (o := .cells #[.int .i64 t275, .int .i64 t276, .int .u64 t277, .string t278] 35 (0, 0)) (by (with_reducible repeat (first | apply bN | apply bD | apply bA)); refine blk_put (cs := #[.int .i64 t275, .int .i64 t276, .int .u64 t277, .string (⟨#[]⟩ : ByteArray)]) ?_ 3 _ rfl; (with_reducible repeat (first | apply bN | apply bD | apply bA)); refine blk_put (cs := #[.int .i64 t275, .int .i64 t276, .int .u64 0, .string (⟨#[]⟩ : ByteArray)]) ?_ 2 _ rfl; (with_reducible repeat (first | apply bN | apply bD | apply bA)); refine blk_put (cs := #[.int .i64 t275, .int .i64 0, .int .u64 0, .string (⟨#[]⟩ : ByteArray)]) ?_ 1 _ rfl; (with_reducible repeat (first | apply bN | apply bD | apply bA)); refine blk_put (cs := #[.int .i64 0, .int .i64 0, .int .u64 0, .string (⟨#[]⟩ : ByteArray)]) ?_ 0 _ rfl; (with_reducible repeat (first | apply bN | apply bD | apply bA)); exact BK280.out) hb2); have n2_ := Aside0.mk (hb); have n3_ := Aside0.mk (hi); have n4_ := Aside0.mk (IsS79.ne_blk hi (blk_below (g := gb274) (o := .cells #[.int .u64 0, .int .i64 0] 47 (0, 0)) (by (with_reducible repeat (first | apply bN | apply bD | apply bA)); refine blk_far ?_ NB274_280.out _; (with_reducible repeat (first | apply bN | apply bD | apply bA)); refine blk_far ?_ NB274_280.out _; (with_reducible repeat (first | apply bN | apply bD | apply bA)); refine blk_far ?_ NB274_280.out _; (with_reducible repeat (first | apply bN | apply bD | apply bA)); refine blk_far ?_ NB274_280.out _; (with_reducible repeat (first | apply bN | apply bD | apply bA)); exact BK274.out) hb2) (by decide)); have n5_ := Aside0.mk (Ne.symm (IsS79.ne_blk hi (blk_below (g := gb274) (o := .cells #[.int .u64 0, .int .i64 0] 47 (0, 0)) (by (with_reducible repeat (first | apply bN | apply bD | apply bA)); refine blk_far ?_ NB274_280.out _; (with_reducible repeat (first | apply bN | apply bD | apply bA)); refine blk_far ?_ NB274_280.out _; (with_reducible repeat (first | apply bN | apply bD | apply bA)); refine blk_far ?_ NB274_280.out _; (with_reducible repeat (first | apply bN | apply bD | apply bA)); refine blk_far ?_ NB274_280.out _; (with_reducible repeat (first | apply bN | apply bD | apply bA)); exact BK274.out) hb2) (by decide))); have n6_ := Aside0.mk (IsS79.ne_blk hi (blk_below (g := gb280) (o := .cells #[.int .i64 t275, .int .i64 t276, .int .u64 t277, .string t278] 35 (0, 0)) (by (with_reducible repeat (first | apply bN | apply bD | apply bA)); refine blk_put (cs := #[.int .i64 t275, .int .i64 t276, .int .u64 t277, .string (⟨#[]⟩ : ByteArray)]) ?_ 3 _ rfl; (with_reducible repeat (first | apply bN | apply bD | apply bA)); refine blk_put (cs := #[.int .i64 t275, .int .i64 t276, .int .u64 0, .string (⟨#[]⟩ : ByteArray)]) ?_ 2 _ rfl; (with_reducible repeat (first | apply bN | apply bD | apply bA)); refine blk_put (cs := #[.int .i64 t275, .int .i64 0, .int .u64 0, .string (⟨#[]⟩ : ByteArray)]) ?_ 1 _ rfl; (with_reducible repeat (first | apply bN | apply bD | apply bA)); refine blk_put (cs := #[.int .i64 0, .int .i64 0, .int .u64 0, .string (⟨#[]⟩ : ByteArray)]) ?_ 0 _ rfl; (with_reducible repeat (first | apply bN | apply bD | apply bA)); exact BK280.out) hb2) (by decide)); have n7_ := Aside0.mk (Ne.symm (IsS79.ne_blk hi (blk_below (g := gb280) (o := .cells #[.int .i64 t275, .int .i64 t276, .int .u64 t277, .string t278] 35 (0, 0)) (by (with_reducible repeat (first | apply bN | apply bD | apply bA)); refine blk_put (cs := #[.int .i64 t275, .int .i64 t276, .int .u64 t277, .string (⟨#[]⟩ : ByteArray)]) ?_ 3 _ rfl; (with_reducible repeat (first | apply bN | apply bD | apply bA)); refine blk_put (cs := #[.int .i64 t275, .int .i64 t276, .int .u64 0, .string (⟨#[]⟩ : ByteArray)]) ?_ 2 _ rfl; (with_reducible repeat (first | apply bN | apply bD | apply bA)); refine blk_put (cs := #[.int .i64 t275, .int .i64 0, .int .u64 0, .string (⟨#[]⟩ : ByteArray)]) ?_ 1 _ rfl; (with_reducible repeat (first | apply bN | apply bD | apply bA)); refine blk_put (cs := #[.int .i64 0, .int .i64 0, .int .u64 0, .string (⟨#[]⟩ : ByteArray)]) ?_ 0 _ rfl; (with_reducible repeat (first | apply bN | apply bD | apply bA)); exact BK280.out) hb2) (by decide))); clear BK274; clear BK280; clear HB; have BK274 := n0_; have BK280 := n1_; have HB := n2_; have HI283 := n3_; have NB283_274 := n4_; have NB274_283 := n5_; have NB283_280 := n6_; have NB280_283 := n7_; clear n0_ n1_ n2_ n3_ n4_ n5_ n6_ n7_; (try clear hb); (try clear hb2); (try clear hk); (try clear hi)))
     have n0_ := Aside0.mk (blk_drew BK274.out)
     have n1_ := Aside0.mk (blk_drew BK280.out)
     have n2_ := Aside0.mk (IsS79.drew HI283.out)
     have n3_ := Aside0.mk (below_drew1 HB.out)
     clear BK274
     clear BK280
     clear HI283
     clear HB
     have BK274 := n0_
     have BK280 := n1_
     have HI283 := n2_
     have HB := n3_
     clear n0_ n1_ n2_ n3_
     refine start_ (n := 9) (S := fun w' => w'.cell? ⟨gb280, 0, none⟩ = some (.int .i64 t275) ∧ w'.cell? ⟨gb280, 1, none⟩ = some (.int .i64 t276) ∧ w'.cell? ⟨gb280, 2, none⟩ = some (.int .u64 t277) ∧ w'.cell? ⟨gb280, 3, none⟩ = some (.string t278)) (ds := []) #[false, false, false, false, false, false, false, false, false] (by kernel_rfl) rfl rfl ⟨(blk_cell BK280.out 0).trans rfl, (blk_cell BK280.out 1).trans rfl, (blk_cell BK280.out 2).trans rfl, (blk_cell BK280.out 3).trans rfl⟩ (fun hHeld => ?_); refine with_tabW super_Get.tab5 super_Get.bits5 (fun HT_ HW_ => ?_)
     generalize w83.drew = w84 at BK274 BK280 HI283 HB hHeld ⊢
     refine pure_ (i := 0) (N := some 32) (v := ?_) (a' := ?_) #[true, false, false, false, false, false, false, false, false] rfl rfl (any_of HT_.out (by kernel_rfl)) (fun _ _ _ h => h) (Or.inl ⟨by rfl, ?_⟩) ?_ ?_
     rotate_left
     ·intro w'
      go_simp
      with_reducible rfl
     rotate_left
     ·simp only [Act.put, List.setIfInBounds_toArray, List.set_cons_zero, List.set_cons_succ, i64_w, i32_w]
      rfl
     refine pure_ (i := 2) (N := some 34) (v := ?_) (a' := ?_) #[true, false, true, false, false, false, false, false, false] rfl rfl (any_of HT_.out (by kernel_rfl)) (fun _ _ _ h => h) (Or.inl ⟨by rfl, ?_⟩) ?_ ?_
     rotate_left
     ·intro w'
      go_simp
      with_reducible rfl
     rotate_left
     ·simp only [Act.put, List.setIfInBounds_toArray, List.set_cons_zero, List.set_cons_succ, i64_w, i32_w]
      rfl
     refine take_ (i := 1) (N := some 33) (v := ?_) (a' := ?_) #[true, true, true, false, false, false, false, false, false] rfl rfl (take_ofW HT_.out HW_.out (by kernel_rfl)) (fun _ _ _ h => h) (Or.inl ⟨by rfl, ?_⟩) hHeld ?_ ?_
     rotate_left
     ·rintro w' ⟨s0, s1, s2, s3⟩
      go_simp
      with_reducible rfl
     rotate_left
     ·simp only [Act.put, List.setIfInBounds_toArray, List.set_cons_zero, List.set_cons_succ, i64_w, i32_w]
      rfl
     refine join_ (σ := Nat) 1 #[true, true, true, true, true, true, true, true, false] (fun s_ => [(35, .int .u64 t284), (9, .pointer (some ⟨s_, 0, none⟩)), (36, .int .i64 (wrap64 (t284))), (37, .int .i64 (wrap64 ((wrap64 (t284)) - 1))), (38, .agg #[.int .u64 t277, .int .i64 (wrap64 ((wrap64 (t284)) - 1))])]) (fun s_ w' => (w'.cell? ⟨gb280, 0, none⟩ = some (.int .i64 t275) ∧ w'.cell? ⟨gb280, 1, none⟩ = some (.int .i64 t276) ∧ w'.cell? ⟨gb280, 2, none⟩ = some (.int .u64 t277) ∧ w'.cell? ⟨gb280, 3, none⟩ = some (.string t278)) ∧ (w'.heap[gb274]? = some (.cells #[.int .u64 0, .int .i64 0] 47 (0, 0))) ∧ (w'.heap[gb280]? = some (.cells #[.int .i64 t275, .int .i64 t276, .int .u64 t277, .string t278] 35 (0, 0))) ∧ (w'.heap[s_]? = some (.cells #[.int .u64 0, .int .i64 0] 47 (0, 0))) ∧ (w.heap.size ≤ s_) ∧ (w.heap.size ≤ s_) ∧ (g283 ≠ s_) ∧ (s_ ≠ g283) ∧ (gb274 ≠ s_) ∧ (s_ ≠ gb274) ∧ (gb280 ≠ s_) ∧ (s_ ≠ gb280) ∧ (IsS79 w w' g283 t285 t286) ∧ (Below w.heap.size w w')) ?_ ?_
     rotate_left
     ·intro hCont
      refine two_ (i := 3) (j := 7) (Ni := some 35) (Nj := some 9) #[true, true, true, true, false, false, false, false, false] #[true, true, true, false, false, false, false, true, false] rfl rfl rfl rfl (two_of HT_.out (by kernel_rfl)) (by decide) (by decide) (fun K hK => ?_) (fun K hK => ?_)
      ·skip
       refine goes_ Try.func45 (by kernel_rfl) rfl #[.pointer (some ⟨g283, 0, none⟩), .int .u64 16384] (by rfl) rfl rfl (by (try simp only [List.map_toArray, List.map_cons, List.map_nil]); first | done | rfl) ?_
       with_reducible refine (wire_Reader_Num.calls k g283 t281 t282 16384 t284 t285 t286 w _ ?side1 ?side2 A8.out).mono ?_
       (case side1 => repeat (first | (with_reducible first | exact HI283.out | apply IsS79.alloc | apply IsS79.drewN | apply IsS79.drew | apply IsS79.set_0 | apply IsS79.set_1 | refine IsS79.far ?_ NB283_274.out _ | refine IsS79.far ?_ NB283_280.out _) | exact HI283.out))
       (case side2 => repeat (first | (with_reducible first | exact HB.out | apply lA | apply lN | apply lD | refine below_set ?_ (IsS79.ge HI283.out) | refine below_set ?_ GE274.out | refine below_set ?_ GE280.out) | exact HB.out))
       rintro e w85 ⟨rfl, hi, hb, hk⟩
       refine ⟨_, rfl, ?_⟩
       have n0_ := Aside0.mk (KeepBut.blk hk (g' := gb274) (o := .cells #[.int .u64 0, .int .i64 0] 47 (0, 0)) (by (with_reducible repeat (first | apply bN | apply bD | apply bA)); exact BK274.out) NB274_283.out (by simp))
       have n1_ := Aside0.mk (KeepBut.blk hk (g' := gb280) (o := .cells #[.int .i64 t275, .int .i64 t276, .int .u64 t277, .string t278] 35 (0, 0)) (by (with_reducible repeat (first | apply bN | apply bD | apply bA)); exact BK280.out) NB280_283.out (by simp))
       have n2_ := Aside0.mk (hb)
       have n3_ := Aside0.mk (hi)
       clear BK274
       clear BK280
       clear HB
       clear HI283
       have BK274 := n0_
       have BK280 := n1_
       have HB := n2_
       have HI283 := n3_
       clear n0_ n1_ n2_ n3_
       (try clear hb)
       (try clear hb2)
       (try clear hk)
       (try clear hi)
       refine hK.out _ _ ⟨(blk_cell BK280.out 0).trans rfl, (blk_cell BK280.out 1).trans rfl, (blk_cell BK280.out 2).trans rfl, (blk_cell BK280.out 3).trans rfl⟩ (fun hHeld => ?_)
       clear hK K
       refine norm_ (a' := ?_) ?_ ?_
       rotate_left
       ·show Act.put _ (some 35) _ = _
        simp only [Act.put, List.setIfInBounds_toArray, List.set_cons_zero, List.set_cons_succ, i64_w, i32_w]
        rfl
       refine pure_ (i := 4) (N := some 36) (v := ?_) (a' := ?_) #[true, true, true, true, true, false, false, false, false] rfl rfl (any_of HT_.out (by kernel_rfl)) (fun _ _ _ h => h) (Or.inl ⟨by rfl, ?_⟩) ?_ ?_
       rotate_left
       ·intro w'
        go_simp
        with_reducible rfl
       rotate_left
       ·simp only [Act.put, List.setIfInBounds_toArray, List.set_cons_zero, List.set_cons_succ, i64_w, i32_w]
        rfl
       refine pure_ (i := 5) (N := some 37) (v := ?_) (a' := ?_) #[true, true, true, true, true, true, false, false, false] rfl rfl (any_of HT_.out (by kernel_rfl)) (fun _ _ _ h => h) (Or.inl ⟨by rfl, ?_⟩) ?_ ?_
       rotate_left
       ·intro w'
        go_simp
        with_reducible rfl
       rotate_left
       ·simp only [Act.put, List.setIfInBounds_toArray, List.set_cons_zero, List.set_cons_succ, i64_w, i32_w]
        rfl
       refine pure_ (i := 6) (N := some 38) (v := ?_) (a' := ?_) #[true, true, true, true, true, true, true, false, false] rfl rfl (any_of HT_.out (by kernel_rfl)) (fun _ _ _ h => h) (Or.inl ⟨by rfl, ?_⟩) ?_ ?_
       rotate_left
       ·intro w'
        go_simp
        with_reducible rfl
       rotate_left
       ·simp only [Act.put, List.setIfInBounds_toArray, List.set_cons_zero, List.set_cons_succ, i64_w, i32_w]
        rfl
       refine one_ (i := 7) (N := some 9) #[true, true, true, true, true, true, true, true, false] rfl rfl (one_of HT_.out (by kernel_rfl)) (by decide) (fun K hK => ?_)
       refine box_step ?hg (N := 9) ?hd (cs := #[.int .u64 0, .int .i64 0]) (t := 47) ?hr ?_; (case hd => rfl); (case hg => rfl); (case hr => first | (go_simp; done) | (go_simp; rfl))
       intro gb287 hg w86 hbox hb
       have n0_ := Aside0.mk (blk_below (g := gb274) (o := .cells #[.int .u64 0, .int .i64 0] 47 (0, 0)) (by (with_reducible repeat (first | apply bN | apply bD | apply bA)); exact BK274.out) hb)
       have n1_ := Aside0.mk (blk_below (g := gb280) (o := .cells #[.int .i64 t275, .int .i64 t276, .int .u64 t277, .string t278] 35 (0, 0)) (by (with_reducible repeat (first | apply bN | apply bD | apply bA)); exact BK280.out) hb)
       have n2_ := Aside0.mk (IsS79.below (by repeat (first | (with_reducible first | exact HI283.out | apply IsS79.alloc | apply IsS79.drewN | apply IsS79.drew | apply IsS79.set_0 | apply IsS79.set_1 | refine IsS79.far ?_ NB283_274.out _ | refine IsS79.far ?_ NB283_280.out _) | exact HI283.out)) hb)
       have n3_ := Aside0.mk (below_step (by repeat (first | (with_reducible first | exact HB.out | apply lA | apply lN | apply lD | refine below_set ?_ (IsS79.ge HI283.out) | refine below_set ?_ GE274.out | refine below_set ?_ GE280.out) | exact HB.out)) hb)
       have n4_ := Aside0.mk (hbox)
       have n5_ := Aside0.mk ((by rw [hg]; exact (below_size (by repeat (first | (with_reducible first | exact HB.out | apply lA | apply lN | apply lD | refine below_set ?_ (IsS79.ge HI283.out) | refine below_set ?_ GE274.out | refine below_set ?_ GE280.out) | exact HB.out))) : w.heap.size ≤ gb287))
       have n6_ := Aside0.mk ((by rw [hg]; exact (below_size (by repeat (first | (with_reducible first | exact HB.out | apply lA | apply lN | apply lD | refine below_set ?_ (IsS79.ge HI283.out) | refine below_set ?_ GE274.out | refine below_set ?_ GE280.out) | exact HB.out))) : w.heap.size ≤ gb287))
       have n7_ := Aside0.mk ((by rw [hg]; exact Nat.ne_of_lt (blk_lt (g := gb274) (o := .cells #[.int .u64 0, .int .i64 0] 47 (0, 0)) (by (with_reducible repeat (first | apply bN | apply bD | apply bA)); exact BK274.out)) : gb274 ≠ gb287))
       have n8_ := Aside0.mk ((by rw [hg]; exact Nat.ne_of_gt (blk_lt (g := gb274) (o := .cells #[.int .u64 0, .int .i64 0] 47 (0, 0)) (by (with_reducible repeat (first | apply bN | apply bD | apply bA)); exact BK274.out)) : gb287 ≠ gb274))
       have n9_ := Aside0.mk ((by rw [hg]; exact Nat.ne_of_lt (blk_lt (g := gb280) (o := .cells #[.int .i64 t275, .int .i64 t276, .int .u64 t277, .string t278] 35 (0, 0)) (by (with_reducible repeat (first | apply bN | apply bD | apply bA)); exact BK280.out)) : gb280 ≠ gb287))
       have n10_ := Aside0.mk ((by rw [hg]; exact Nat.ne_of_gt (blk_lt (g := gb280) (o := .cells #[.int .i64 t275, .int .i64 t276, .int .u64 t277, .string t278] 35 (0, 0)) (by (with_reducible repeat (first | apply bN | apply bD | apply bA)); exact BK280.out)) : gb287 ≠ gb280))
       have n11_ := Aside0.mk ((by rw [hg]; exact Nat.ne_of_lt (IsS79.lt (show IsS79 w _ g283 t285 t286 from by repeat (first | (with_reducible first | exact HI283.out | apply IsS79.alloc | apply IsS79.drewN | apply IsS79.drew | apply IsS79.set_0 | apply IsS79.set_1 | refine IsS79.far ?_ NB283_274.out _ | refine IsS79.far ?_ NB283_280.out _) | exact HI283.out))) : g283 ≠ gb287))
       have n12_ := Aside0.mk ((by rw [hg]; exact Nat.ne_of_gt (IsS79.lt (show IsS79 w _ g283 t285 t286 from by repeat (first | (with_reducible first | exact HI283.out | apply IsS79.alloc | apply IsS79.drewN | apply IsS79.drew | apply IsS79.set_0 | apply IsS79.set_1 | refine IsS79.far ?_ NB283_274.out _ | refine IsS79.far ?_ NB283_280.out _) | exact HI283.out))) : gb287 ≠ g283))
       clear BK274
       clear BK280
       clear HI283
       clear HB
       have BK274 := n0_
       have BK280 := n1_
       have HI283 := n2_
       have HB := n3_
       have BK287 := n4_
       have GW287 := n5_
       have GE287 := n6_
       have NB274_287 := n7_
       have NB287_274 := n8_
       have NB280_287 := n9_
       have NB287_280 := n10_
       have NB283_287 := n11_
       have NB287_283 := n12_
       clear n0_ n1_ n2_ n3_ n4_ n5_ n6_ n7_ n8_ n9_ n10_ n11_ n12_
       clear hb hbox hg
       refine hK.out _ _ ⟨(blk_cell BK280.out 0).trans rfl, (blk_cell BK280.out 1).trans rfl, (blk_cell BK280.out 2).trans rfl, (blk_cell BK280.out 3).trans rfl⟩ (fun hHeld => ?_)
       clear hK K
       refine norm_ (a' := ?_) ?_ ?_
       rotate_left
       ·show Act.put _ (some 9) _ = _
        simp only [Act.put, List.setIfInBounds_toArray, List.set_cons_zero, List.set_cons_succ, i64_w, i32_w]
        rfl
       exact norm_ (by simp only [putAll, Act.put, List.setIfInBounds_toArray, List.set_cons_zero, List.set_cons_succ]) (hCont (gb287) _ ⟨hHeld, (by (with_reducible repeat (first | apply bN | apply bD | apply bA)); exact BK274.out), (by (with_reducible repeat (first | apply bN | apply bD | apply bA)); exact BK280.out), (by (with_reducible repeat (first | apply bN | apply bD | apply bA)); exact BK287.out), GW287.out, GE287.out, NB283_287.out, NB287_283.out, NB274_287.out, NB287_274.out, NB280_287.out, NB287_280.out, (by repeat (first | (with_reducible first | exact HI283.out | apply IsS79.alloc | apply IsS79.drewN | apply IsS79.drew | apply IsS79.set_0 | apply IsS79.set_1 | refine IsS79.far ?_ NB283_274.out _ | refine IsS79.far ?_ NB283_280.out _ | refine IsS79.far ?_ NB283_287.out _) | exact HI283.out)), (by repeat (first | (with_reducible first | exact HB.out | apply lA | apply lN | apply lD | refine below_set ?_ (IsS79.ge HI283.out) | refine below_set ?_ GE274.out | refine below_set ?_ GE280.out | refine below_set ?_ GE287.out) | exact HB.out))⟩)
      ·skip
       refine box_step ?hg (N := 9) ?hd (cs := #[.int .u64 0, .int .i64 0]) (t := 47) ?hr ?_; (case hd => rfl); (case hg => rfl); (case hr => first | (go_simp; done) | (go_simp; rfl))
       intro gb287 hg w85 hbox hb
       have n0_ := Aside0.mk (blk_below (g := gb274) (o := .cells #[.int .u64 0, .int .i64 0] 47 (0, 0)) (by (with_reducible repeat (first | apply bN | apply bD | apply bA)); exact BK274.out) hb)
       have n1_ := Aside0.mk (blk_below (g := gb280) (o := .cells #[.int .i64 t275, .int .i64 t276, .int .u64 t277, .string t278] 35 (0, 0)) (by (with_reducible repeat (first | apply bN | apply bD | apply bA)); exact BK280.out) hb)
       have n2_ := Aside0.mk (IsS79.below (by repeat (first | (with_reducible first | exact HI283.out | apply IsS79.alloc | apply IsS79.drewN | apply IsS79.drew | apply IsS79.set_0 | apply IsS79.set_1 | refine IsS79.far ?_ NB283_274.out _ | refine IsS79.far ?_ NB283_280.out _) | exact HI283.out)) hb)
       have n3_ := Aside0.mk (below_step (by repeat (first | (with_reducible first | exact HB.out | apply lA | apply lN | apply lD | refine below_set ?_ (IsS79.ge HI283.out) | refine below_set ?_ GE274.out | refine below_set ?_ GE280.out) | exact HB.out)) hb)
       have n4_ := Aside0.mk (hbox)
       have n5_ := Aside0.mk ((by rw [hg]; exact (below_size (by repeat (first | (with_reducible first | exact HB.out | apply lA | apply lN | apply lD | refine below_set ?_ (IsS79.ge HI283.out) | refine below_set ?_ GE274.out | refine below_set ?_ GE280.out) | exact HB.out))) : w.heap.size ≤ gb287))
       have n6_ := Aside0.mk ((by rw [hg]; exact (below_size (by repeat (first | (with_reducible first | exact HB.out | apply lA | apply lN | apply lD | refine below_set ?_ (IsS79.ge HI283.out) | refine below_set ?_ GE274.out | refine below_set ?_ GE280.out) | exact HB.out))) : w.heap.size ≤ gb287))
       have n7_ := Aside0.mk ((by rw [hg]; exact Nat.ne_of_lt (blk_lt (g := gb274) (o := .cells #[.int .u64 0, .int .i64 0] 47 (0, 0)) (by (with_reducible repeat (first | apply bN | apply bD | apply bA)); exact BK274.out)) : gb274 ≠ gb287))
       have n8_ := Aside0.mk ((by rw [hg]; exact Nat.ne_of_gt (blk_lt (g := gb274) (o := .cells #[.int .u64 0, .int .i64 0] 47 (0, 0)) (by (with_reducible repeat (first | apply bN | apply bD | apply bA)); exact BK274.out)) : gb287 ≠ gb274))
       have n9_ := Aside0.mk ((by rw [hg]; exact Nat.ne_of_lt (blk_lt (g := gb280) (o := .cells #[.int .i64 t275, .int .i64 t276, .int .u64 t277, .string t278] 35 (0, 0)) (by (with_reducible repeat (first | apply bN | apply bD | apply bA)); exact BK280.out)) : gb280 ≠ gb287))
       have n10_ := Aside0.mk ((by rw [hg]; exact Nat.ne_of_gt (blk_lt (g := gb280) (o := .cells #[.int .i64 t275, .int .i64 t276, .int .u64 t277, .string t278] 35 (0, 0)) (by (with_reducible repeat (first | apply bN | apply bD | apply bA)); exact BK280.out)) : gb287 ≠ gb280))
       have n11_ := Aside0.mk ((by rw [hg]; exact Nat.ne_of_lt (IsS79.lt (show IsS79 w _ g283 t281 t282 from by repeat (first | (with_reducible first | exact HI283.out | apply IsS79.alloc | apply IsS79.drewN | apply IsS79.drew | apply IsS79.set_0 | apply IsS79.set_1 | refine IsS79.far ?_ NB283_274.out _ | refine IsS79.far ?_ NB283_280.out _) | exact HI283.out))) : g283 ≠ gb287))
       have n12_ := Aside0.mk ((by rw [hg]; exact Nat.ne_of_gt (IsS79.lt (show IsS79 w _ g283 t281 t282 from by repeat (first | (with_reducible first | exact HI283.out | apply IsS79.alloc | apply IsS79.drewN | apply IsS79.drew | apply IsS79.set_0 | apply IsS79.set_1 | refine IsS79.far ?_ NB283_274.out _ | refine IsS79.far ?_ NB283_280.out _) | exact HI283.out))) : gb287 ≠ g283))
       clear BK274
       clear BK280
       clear HI283
       clear HB
       have BK274 := n0_
       have BK280 := n1_
       have HI283 := n2_
       have HB := n3_
       have BK287 := n4_
       have GW287 := n5_
       have GE287 := n6_
       have NB274_287 := n7_
       have NB287_274 := n8_
       have NB280_287 := n9_
       have NB287_280 := n10_
       have NB283_287 := n11_
       have NB287_283 := n12_
       clear n0_ n1_ n2_ n3_ n4_ n5_ n6_ n7_ n8_ n9_ n10_ n11_ n12_
       clear hb hbox hg
       refine hK.out _ _ ⟨(blk_cell BK280.out 0).trans rfl, (blk_cell BK280.out 1).trans rfl, (blk_cell BK280.out 2).trans rfl, (blk_cell BK280.out 3).trans rfl⟩ (fun hHeld => ?_)
       clear hK K
       refine norm_ (a' := ?_) ?_ ?_
       rotate_left
       ·show Act.put _ (some 9) _ = _
        simp only [Act.put, List.setIfInBounds_toArray, List.set_cons_zero, List.set_cons_succ, i64_w, i32_w]
        rfl
       refine one_ (i := 3) (N := some 35) #[true, true, true, true, false, false, false, true, false] rfl rfl (one_of HT_.out (by kernel_rfl)) (by decide) (fun K hK => ?_)
       refine goes_ Try.func45 (by kernel_rfl) rfl #[.pointer (some ⟨g283, 0, none⟩), .int .u64 16384] (by rfl) rfl rfl (by (try simp only [List.map_toArray, List.map_cons, List.map_nil]); first | done | rfl) ?_
       with_reducible refine (wire_Reader_Num.calls k g283 t281 t282 16384 t284 t285 t286 w _ ?side1 ?side2 A8.out).mono ?_
       (case side1 => repeat (first | (with_reducible first | exact HI283.out | apply IsS79.alloc | apply IsS79.drewN | apply IsS79.drew | apply IsS79.set_0 | apply IsS79.set_1 | refine IsS79.far ?_ NB283_274.out _ | refine IsS79.far ?_ NB283_280.out _ | refine IsS79.far ?_ NB283_287.out _) | exact HI283.out))
       (case side2 => repeat (first | (with_reducible first | exact HB.out | apply lA | apply lN | apply lD | refine below_set ?_ (IsS79.ge HI283.out) | refine below_set ?_ GE274.out | refine below_set ?_ GE280.out | refine below_set ?_ GE287.out) | exact HB.out))
       rintro e w86 ⟨rfl, hi, hb, hk⟩
       refine ⟨_, rfl, ?_⟩
       have n0_ := Aside0.mk (KeepBut.blk hk (g' := gb274) (o := .cells #[.int .u64 0, .int .i64 0] 47 (0, 0)) (by (with_reducible repeat (first | apply bN | apply bD | apply bA)); exact BK274.out) NB274_283.out (by simp))
       have n1_ := Aside0.mk (KeepBut.blk hk (g' := gb280) (o := .cells #[.int .i64 t275, .int .i64 t276, .int .u64 t277, .string t278] 35 (0, 0)) (by (with_reducible repeat (first | apply bN | apply bD | apply bA)); exact BK280.out) NB280_283.out (by simp))
       have n2_ := Aside0.mk (KeepBut.blk hk (g' := gb287) (o := .cells #[.int .u64 0, .int .i64 0] 47 (0, 0)) (by (with_reducible repeat (first | apply bN | apply bD | apply bA)); exact BK287.out) NB287_283.out (by simp))
       have n3_ := Aside0.mk (hb)
       have n4_ := Aside0.mk (hi)
       clear BK274
       clear BK280
       clear BK287
       clear HB
       clear HI283
       have BK274 := n0_
       have BK280 := n1_
       have BK287 := n2_
       have HB := n3_
       have HI283 := n4_
       clear n0_ n1_ n2_ n3_ n4_
       (try clear hb)
       (try clear hb2)
       (try clear hk)
       (try clear hi)
       refine hK.out _ _ ⟨(blk_cell BK280.out 0).trans rfl, (blk_cell BK280.out 1).trans rfl, (blk_cell BK280.out 2).trans rfl, (blk_cell BK280.out 3).trans rfl⟩ (fun hHeld => ?_)
       clear hK K
       refine norm_ (a' := ?_) ?_ ?_
       rotate_left
       ·show Act.put _ (some 35) _ = _
        simp only [Act.put, List.setIfInBounds_toArray, List.set_cons_zero, List.set_cons_succ, i64_w, i32_w]
        rfl
       refine pure_ (i := 4) (N := some 36) (v := ?_) (a' := ?_) #[true, true, true, true, true, false, false, true, false] rfl rfl (any_of HT_.out (by kernel_rfl)) (fun _ _ _ h => h) (Or.inl ⟨by rfl, ?_⟩) ?_ ?_
       rotate_left
       ·intro w'
        go_simp
        with_reducible rfl
       rotate_left
       ·simp only [Act.put, List.setIfInBounds_toArray, List.set_cons_zero, List.set_cons_succ, i64_w, i32_w]
        rfl
       refine pure_ (i := 5) (N := some 37) (v := ?_) (a' := ?_) #[true, true, true, true, true, true, false, true, false] rfl rfl (any_of HT_.out (by kernel_rfl)) (fun _ _ _ h => h) (Or.inl ⟨by rfl, ?_⟩) ?_ ?_
       rotate_left
       ·intro w'
        go_simp
        with_reducible rfl
       rotate_left
       ·simp only [Act.put, List.setIfInBounds_toArray, List.set_cons_zero, List.set_cons_succ, i64_w, i32_w]
        rfl
       refine pure_ (i := 6) (N := some 38) (v := ?_) (a' := ?_) #[true, true, true, true, true, true, true, true, false] rfl rfl (any_of HT_.out (by kernel_rfl)) (fun _ _ _ h => h) (Or.inl ⟨by rfl, ?_⟩) ?_ ?_
       rotate_left
       ·intro w'
        go_simp
        with_reducible rfl
       rotate_left
       ·simp only [Act.put, List.setIfInBounds_toArray, List.set_cons_zero, List.set_cons_succ, i64_w, i32_w]
        rfl
       exact norm_ (by simp only [putAll, Act.put, List.setIfInBounds_toArray, List.set_cons_zero, List.set_cons_succ]) (hCont (gb287) _ ⟨hHeld, (by (with_reducible repeat (first | apply bN | apply bD | apply bA)); exact BK274.out), (by (with_reducible repeat (first | apply bN | apply bD | apply bA)); exact BK280.out), (by (with_reducible repeat (first | apply bN | apply bD | apply bA)); exact BK287.out), GW287.out, GE287.out, NB283_287.out, NB287_283.out, NB274_287.out, NB287_274.out, NB280_287.out, NB287_280.out, (by repeat (first | (with_reducible first | exact HI283.out | apply IsS79.alloc | apply IsS79.drewN | apply IsS79.drew | apply IsS79.set_0 | apply IsS79.set_1 | refine IsS79.far ?_ NB283_274.out _ | refine IsS79.far ?_ NB283_280.out _ | refine IsS79.far ?_ NB283_287.out _) | exact HI283.out)), (by repeat (first | (with_reducible first | exact HB.out | apply lA | apply lN | apply lD | refine below_set ?_ (IsS79.ge HI283.out) | refine below_set ?_ GE274.out | refine below_set ?_ GE280.out | refine below_set ?_ GE287.out) | exact HB.out))⟩)
     rintro gb287 w87 ⟨hS_, h0_, h1_, h2_, h3_, h4_, h5_, h6_, h7_, h8_, h9_, h10_, h11_, h12_⟩
     have n0_ : Aside0 (w87.heap[gb274]? = some (.cells #[.int .u64 0, .int .i64 0] 47 (0, 0))) := ⟨h0_⟩
     have n1_ : Aside0 (w87.heap[gb280]? = some (.cells #[.int .i64 t275, .int .i64 t276, .int .u64 t277, .string t278] 35 (0, 0))) := ⟨h1_⟩
     have n2_ : Aside0 (w87.heap[gb287]? = some (.cells #[.int .u64 0, .int .i64 0] 47 (0, 0))) := ⟨h2_⟩
     have n3_ : Aside0 (w.heap.size ≤ gb287) := ⟨h3_⟩
     have n4_ : Aside0 (w.heap.size ≤ gb287) := ⟨h4_⟩
     have n5_ : Aside0 (g283 ≠ gb287) := ⟨h5_⟩
     have n6_ : Aside0 (gb287 ≠ g283) := ⟨h6_⟩
     have n7_ : Aside0 (gb274 ≠ gb287) := ⟨h7_⟩
     have n8_ : Aside0 (gb287 ≠ gb274) := ⟨h8_⟩
     have n9_ : Aside0 (gb280 ≠ gb287) := ⟨h9_⟩
     have n10_ : Aside0 (gb287 ≠ gb280) := ⟨h10_⟩
     have n11_ : Aside0 (IsS79 w w87 g283 t285 t286) := ⟨h11_⟩
     have n12_ : Aside0 (Below w.heap.size w w87) := ⟨h12_⟩
     clear BK274
     clear BK280
     clear HI283
     clear HB
     clear h0_ h1_ h2_ h3_ h4_ h5_ h6_ h7_ h8_ h9_ h10_ h11_ h12_
     have BK274 := n0_
     have BK280 := n1_
     have BK287 := n2_
     have GW287 := n3_
     have GE287 := n4_
     have NB283_287 := n5_
     have NB287_283 := n6_
     have NB274_287 := n7_
     have NB287_274 := n8_
     have NB280_287 := n9_
     have NB287_280 := n10_
     have HI283 := n11_
     have HB := n12_
     clear n0_ n1_ n2_ n3_ n4_ n5_ n6_ n7_ n8_ n9_ n10_ n11_ n12_
     have hHeld : w87.cell? ⟨gb280, 0, none⟩ = some (.int .i64 t275) ∧ w87.cell? ⟨gb280, 1, none⟩ = some (.int .i64 t276) ∧ w87.cell? ⟨gb280, 2, none⟩ = some (.int .u64 t277) ∧ w87.cell? ⟨gb280, 3, none⟩ = some (.string t278) := hS_
     refine norm_ (a' := ?_) ?_ ?_
     rotate_left
     ·simp only [putAll, Act.put, List.setIfInBounds_toArray, List.set_cons_zero, List.set_cons_succ]
      rfl
     refine one_ (i := 8) (N := none) #[true, true, true, true, true, true, true, true, true] rfl rfl (one_of HT_.out (by kernel_rfl)) (by decide) (fun K hK => ?_)
     have hs88 : w87.cell? ⟨gb287, 0, none⟩ = some (.int .u64 0) := (blk_cell BK287.out 0).trans rfl
     have hfs88 := blk_frozen BK287.out 0
     have hns88_0 := NB274_287.out
     have hns88_1 := NB280_287.out
     have hms88_0 := NB287_274.out
     have hms88_1 := NB287_280.out
     have hs89 : w87.cell? ⟨gb287, 1, none⟩ = some (.int .i64 0) := (blk_cell BK287.out 1).trans rfl
     have hfs89 := blk_frozen BK287.out 1
     have hns89_0 := NB274_287.out
     have hns89_1 := NB280_287.out
     have hms89_0 := NB287_274.out
     have hms89_1 := NB287_280.out
     refine skip_ (w1 := ?_) (by rfl) rfl ?_ ?_
     rotate_left
     ·go_simp
      rfl
     refine hK.out _ _ ⟨((cell_far (p := ⟨gb287, _, none⟩) NB280_287.out _).trans (((cell_far (p := ⟨gb287, _, none⟩) NB280_287.out _).trans (hHeld.1)))), ((cell_far (p := ⟨gb287, _, none⟩) NB280_287.out _).trans (((cell_far (p := ⟨gb287, _, none⟩) NB280_287.out _).trans (hHeld.2.1)))), ((cell_far (p := ⟨gb287, _, none⟩) NB280_287.out _).trans (((cell_far (p := ⟨gb287, _, none⟩) NB280_287.out _).trans (hHeld.2.2.1)))), ((cell_far (p := ⟨gb287, _, none⟩) NB280_287.out _).trans (((cell_far (p := ⟨gb287, _, none⟩) NB280_287.out _).trans (hHeld.2.2.2))))⟩ (fun hHeld => ?_)
     clear hK K
     refine done_ (done_of HT_.out (by kernel_rfl)) ?_
     try go_wp2_with (first | ((with_reducible refine gate_callee (f := 46) rfl ?_); refine goesL_ (some 40) rfl rfl Try.func46 (by kernel_rfl) rfl #[.pointer (some ⟨g283, 0, none⟩)] rfl (by (try simp only [List.map_toArray, List.map_cons, List.map_nil]); first | done | rfl) ?_; (with_reducible refine (wire_Reader_End.calls k g283 t285 t286 t288 t289 t290 w _ ?side1 ?side2 A9.out).mono ?_); (case side1 => repeat (first | (with_reducible first | exact HI283.out | apply IsS79.alloc | apply IsS79.drewN | apply IsS79.drew | apply IsS79.set_0 | apply IsS79.set_1 | refine IsS79.far ?_ NB283_274.out _ | refine IsS79.far ?_ NB283_280.out _ | refine IsS79.far ?_ NB283_287.out _) | exact HI283.out)); (case side2 => repeat (first | (with_reducible first | exact HB.out | apply lA | apply lN | apply lD | refine below_set ?_ (IsS79.ge HI283.out) | refine below_set ?_ GE274.out | refine below_set ?_ GE280.out | refine below_set ?_ GE287.out) | exact HB.out)); rintro e w90 ⟨rfl, hi, hb, hk⟩; refine ⟨_, rfl, ?_⟩; have n0_ := Aside0.mk (KeepBut.blk hk (g' := gb274) (o := .cells #[.int .u64 0, .int .i64 0] 47 (0, 0)) (by (with_reducible repeat (first | apply bN | apply bD | apply bA)); refine blk_far ?_ NB274_287.out _; (with_reducible repeat (first | apply bN | apply bD | apply bA)); refine blk_far ?_ NB274_287.out _; (with_reducible repeat (first | apply bN | apply bD | apply bA)); exact BK274.out) NB274_283.out (by simp)); have n1_ := Aside0.mk (KeepBut.blk hk (g' := gb280) (o := .cells #[.int .i64 t275, .int .i64 t276, .int .u64 t277, .string t278] 35 (0, 0)) (by (with_reducible repeat (first | apply bN | apply bD | apply bA)); refine blk_far ?_ NB280_287.out _; (with_reducible repeat (first | apply bN | apply bD | apply bA)); refine blk_far ?_ NB280_287.out _; (with_reducible repeat (first | apply bN | apply bD | apply bA)); exact BK280.out) NB280_283.out (by simp)); have n2_ := Aside0.mk (KeepBut.blk hk (g' := gb287) (o := .cells #[.int .u64 t277, .int .i64 (wrap64 ((wrap64 (t284)) - 1))] 47 (0, 0)) (by (with_reducible repeat (first | apply bN | apply bD | apply bA)); refine blk_put (cs := #[.int .u64 t277, .int .i64 0]) ?_ 1 _ rfl; (with_reducible repeat (first | apply bN | apply bD | apply bA)); refine blk_put (cs := #[.int .u64 0, .int .i64 0]) ?_ 0 _ rfl; (with_reducible repeat (first | apply bN | apply bD | apply bA)); exact BK287.out) NB287_283.out (by simp)); have n3_ := Aside0.mk (hb); have n4_ := Aside0.mk (hi); clear BK274; clear BK280; clear BK287; clear HB; clear HI283; have BK274 := n0_; have BK280 := n1_; have BK287 := n2_; have HB := n3_; have HI283 := n4_; clear n0_ n1_ n2_ n3_ n4_; (try clear hb); (try clear hb2); (try clear hk); (try clear hi); have hnb91 := NB274_287.out; have hnc91 := NB287_274.out; have hnb92 := NB274_283.out; have hnc92 := NB283_274.out; have hcz93_0 : w90.cell? ⟨gb274, 0, none⟩ = some (.int .u64 0) := (blk_cell BK274.out 0).trans rfl; have hcz93_1 : w90.cell? ⟨gb274, 1, none⟩ = some (.int .i64 0) := (blk_cell BK274.out 1).trans rfl; have hfz93_0 := blk_frozen BK274.out 0; have hfz93_1 := blk_frozen BK274.out 1))
     refine bodyPost_ret (results_ct rfl _ _ gb274 47 #[.int .u64 0, .int .i64 0] (0, 0) _ rfl (by (with_reducible repeat (first | apply bN | apply bD | apply bA)); refine blk_put (cs := #[.int .u64 0, .int .i64 0]) ?_ 1 _ rfl; (with_reducible repeat (first | apply bN | apply bD | apply bA)); refine blk_put (cs := #[.int .u64 0, .int .i64 0]) ?_ 0 _ rfl; (with_reducible repeat (first | apply bN | apply bD | apply bA)); exact BK274.out) Try.underlying47 rfl (by kernel_rfl)) rfl ?_
     exact ⟨by first | rfl | (simp <;> rfl) | (simp [*] <;> rfl), by repeat (first | (with_reducible first | exact HB.out | apply lA | apply lN | apply lD | refine below_set ?_ (IsS79.ge HI283.out) | refine below_set ?_ GE274.out | refine below_set ?_ GE280.out | refine below_set ?_ GE287.out) | exact HB.out)⟩
   ·rw [if_neg c6] at H
    have c6b0 : (t276 == a1) = false := beq_eq_false_iff_ne.mpr c6
    have c6b1 : (t276 != a1) = true := bne_iff_ne.mpr c6
    simp only [Option.some.injEq, Prod.mk.injEq] at H
    obtain ⟨rfl, rfl, rfl⟩ := H
    go_enter Try.func27, Try.ntmps27
    go_wp2_with (first | ((with_reducible refine gate_dst (N := 4) rfl ?_); refine box_event ?hg (N := 4) ?hd (cs := #[.int .u64 0, .int .i64 0]) (t := 47) ?hr ?_; (case hd => rfl); (case hg => rfl); (case hr => first | (go_simp; done) | (go_simp; rfl)); intro gb274 hg w94 hbox hb; have n0_ := Aside0.mk (below_step (by repeat (first | (with_reducible first | exact HB.out | apply lA | apply lN | apply lD) | exact HB.out)) hb); have n1_ := Aside0.mk (hbox); have n2_ := Aside0.mk ((by rw [hg]; exact (below_size (by repeat (first | (with_reducible first | exact HB.out | apply lA | apply lN | apply lD) | exact HB.out))) : w.heap.size ≤ gb274)); have n3_ := Aside0.mk ((by rw [hg]; exact (below_size (by repeat (first | (with_reducible first | exact HB.out | apply lA | apply lN | apply lD) | exact HB.out))) : w.heap.size ≤ gb274)); clear HB; have HB := n0_; have BK274 := n1_; have GW274 := n2_; have GE274 := n3_; clear n0_ n1_ n2_ n3_; clear hb hbox hg) | ((with_reducible refine gate_callee (f := 23) rfl ?_); refine goesL_ (some 12) rfl rfl Try.func23 (by kernel_rfl) rfl #[.string a0] rfl (by (try simp only [List.map_toArray, List.map_cons, List.map_nil]); first | done | rfl) ?_; (with_reducible refine (page_Get.calls k a0 t275 t276 t277 t278 t279 _ A3.out).mono ?_); rintro e w95 ⟨rfl, hb⟩; refine ⟨_, rfl, ?_⟩; have n0_ := Aside0.mk (blk_below (g := gb274) (o := .cells #[.int .u64 0, .int .i64 0] 47 (0, 0)) (by (with_reducible repeat (first | apply bN | apply bD | apply bA)); exact BK274.out) hb); have n1_ := Aside0.mk (below_step (by repeat (first | (with_reducible first | exact HB.out | apply lA | apply lN | apply lD | refine below_set ?_ GE274.out) | exact HB.out)) hb); clear BK274; clear HB; have BK274 := n0_; have HB := n1_; clear n0_ n1_; (try clear hb); (try clear hb2); (try clear hk); (try clear hi)) | ((with_reducible refine gate_dst (N := 6) rfl ?_); refine box_event ?hg (N := 6) ?hd (cs := #[.int .i64 0, .int .i64 0, .int .u64 0, .string (⟨#[]⟩ : ByteArray)]) (t := 35) ?hr ?_; (case hd => rfl); (case hg => rfl); (case hr => first | (go_simp; done) | (go_simp; rfl)); intro gb280 hg w96 hbox hb; have n0_ := Aside0.mk (blk_below (g := gb274) (o := .cells #[.int .u64 0, .int .i64 0] 47 (0, 0)) (by (with_reducible repeat (first | apply bN | apply bD | apply bA)); exact BK274.out) hb); have n1_ := Aside0.mk (below_step (by repeat (first | (with_reducible first | exact HB.out | apply lA | apply lN | apply lD | refine below_set ?_ GE274.out) | exact HB.out)) hb); have n2_ := Aside0.mk (hbox); have n3_ := Aside0.mk ((by rw [hg]; exact (below_size (by repeat (first | (with_reducible first | exact HB.out | apply lA | apply lN | apply lD | refine below_set ?_ GE274.out) | exact HB.out))) : w.heap.size ≤ gb280)); have n4_ := Aside0.mk ((by rw [hg]; exact (below_size (by repeat (first | (with_reducible first | exact HB.out | apply lA | apply lN | apply lD | refine below_set ?_ GE274.out) | exact HB.out))) : w.heap.size ≤ gb280)); have n5_ := Aside0.mk ((by rw [hg]; exact Nat.ne_of_lt (blk_lt (g := gb274) (o := .cells #[.int .u64 0, .int .i64 0] 47 (0, 0)) (by (with_reducible repeat (first | apply bN | apply bD | apply bA)); exact BK274.out)) : gb274 ≠ gb280)); have n6_ := Aside0.mk ((by rw [hg]; exact Nat.ne_of_gt (blk_lt (g := gb274) (o := .cells #[.int .u64 0, .int .i64 0] 47 (0, 0)) (by (with_reducible repeat (first | apply bN | apply bD | apply bA)); exact BK274.out)) : gb280 ≠ gb274)); clear BK274; clear HB; have BK274 := n0_; have HB := n1_; have BK280 := n2_; have GW280 := n3_; have GE280 := n4_; have NB274_280 := n5_; have NB280_274 := n6_; clear n0_ n1_ n2_ n3_ n4_ n5_ n6_; clear hb hbox hg; have hnb97 := NB280_274.out; have hnc97 := NB274_280.out; have hcz98_0 : w96.cell? ⟨gb280, 0, none⟩ = some (.int .i64 0) := (blk_cell BK280.out 0).trans rfl; have hcz98_1 : w96.cell? ⟨gb280, 1, none⟩ = some (.int .i64 0) := (blk_cell BK280.out 1).trans rfl; have hcz98_2 : w96.cell? ⟨gb280, 2, none⟩ = some (.int .u64 0) := (blk_cell BK280.out 2).trans rfl; have hcz98_3 : w96.cell? ⟨gb280, 3, none⟩ = some (.string (⟨#[]⟩ : ByteArray)) := (blk_cell BK280.out 3).trans rfl; have hfz98_0 := blk_frozen BK280.out 0; have hfz98_1 := blk_frozen BK280.out 1; have hfz98_2 := blk_frozen BK280.out 2; have hfz98_3 := blk_frozen BK280.out 3; have hcz99_0 : w96.cell? ⟨gb274, 0, none⟩ = some (.int .u64 0) := (blk_cell BK274.out 0).trans rfl; have hcz99_1 : w96.cell? ⟨gb274, 1, none⟩ = some (.int .i64 0) := (blk_cell BK274.out 1).trans rfl; have hfz99_0 := blk_frozen BK274.out 0; have hfz99_1 := blk_frozen BK274.out 1))
    refine bodyPost_ret (results_ct rfl _ _ gb274 47 #[.int .u64 0, .int .i64 0] (0, 0) _ rfl (by (with_reducible repeat (first | apply bN | apply bD | apply bA)); refine blk_put (cs := #[.int .u64 0, .int .i64 0]) ?_ 1 _ rfl; (with_reducible repeat (first | apply bN | apply bD | apply bA)); refine blk_put (cs := #[.int .u64 0, .int .i64 0]) ?_ 0 _ rfl; (with_reducible repeat (first | apply bN | apply bD | apply bA)); refine blk_far ?_ NB274_280.out _; (with_reducible repeat (first | apply bN | apply bD | apply bA)); refine blk_far ?_ NB274_280.out _; (with_reducible repeat (first | apply bN | apply bD | apply bA)); refine blk_far ?_ NB274_280.out _; (with_reducible repeat (first | apply bN | apply bD | apply bA)); refine blk_far ?_ NB274_280.out _; (with_reducible repeat (first | apply bN | apply bD | apply bA)); exact BK274.out) Try.underlying47 rfl (by kernel_rfl)) rfl ?_
    exact ⟨by first | rfl | (simp <;> rfl) | (simp [*] <;> rfl), by repeat (first | (with_reducible first | exact HB.out | apply lA | apply lN | apply lD | refine below_set ?_ GE274.out | refine below_set ?_ GE280.out) | exact HB.out)⟩
  ·rw [if_neg c5] at H
   have c5b0 : (t275 == 1) = false := beq_eq_false_iff_ne.mpr c5
   have c5b1 : (t275 != 1) = true := bne_iff_ne.mpr c5
   simp only [Option.some.injEq, Prod.mk.injEq] at H
   obtain ⟨rfl, rfl, rfl⟩ := H
   go_enter Try.func27, Try.ntmps27
   go_wp2_with (first | ((with_reducible refine gate_dst (N := 4) rfl ?_); refine box_event ?hg (N := 4) ?hd (cs := #[.int .u64 0, .int .i64 0]) (t := 47) ?hr ?_; (case hd => rfl); (case hg => rfl); (case hr => first | (go_simp; done) | (go_simp; rfl)); intro gb274 hg w100 hbox hb; have n0_ := Aside0.mk (below_step (by repeat (first | (with_reducible first | exact HB.out | apply lA | apply lN | apply lD) | exact HB.out)) hb); have n1_ := Aside0.mk (hbox); have n2_ := Aside0.mk ((by rw [hg]; exact (below_size (by repeat (first | (with_reducible first | exact HB.out | apply lA | apply lN | apply lD) | exact HB.out))) : w.heap.size ≤ gb274)); have n3_ := Aside0.mk ((by rw [hg]; exact (below_size (by repeat (first | (with_reducible first | exact HB.out | apply lA | apply lN | apply lD) | exact HB.out))) : w.heap.size ≤ gb274)); clear HB; have HB := n0_; have BK274 := n1_; have GW274 := n2_; have GE274 := n3_; clear n0_ n1_ n2_ n3_; clear hb hbox hg) | ((with_reducible refine gate_callee (f := 23) rfl ?_); refine goesL_ (some 12) rfl rfl Try.func23 (by kernel_rfl) rfl #[.string a0] rfl (by (try simp only [List.map_toArray, List.map_cons, List.map_nil]); first | done | rfl) ?_; (with_reducible refine (page_Get.calls k a0 t275 t276 t277 t278 t279 _ A3.out).mono ?_); rintro e w101 ⟨rfl, hb⟩; refine ⟨_, rfl, ?_⟩; have n0_ := Aside0.mk (blk_below (g := gb274) (o := .cells #[.int .u64 0, .int .i64 0] 47 (0, 0)) (by (with_reducible repeat (first | apply bN | apply bD | apply bA)); exact BK274.out) hb); have n1_ := Aside0.mk (below_step (by repeat (first | (with_reducible first | exact HB.out | apply lA | apply lN | apply lD | refine below_set ?_ GE274.out) | exact HB.out)) hb); clear BK274; clear HB; have BK274 := n0_; have HB := n1_; clear n0_ n1_; (try clear hb); (try clear hb2); (try clear hk); (try clear hi)) | ((with_reducible refine gate_dst (N := 6) rfl ?_); refine box_event ?hg (N := 6) ?hd (cs := #[.int .i64 0, .int .i64 0, .int .u64 0, .string (⟨#[]⟩ : ByteArray)]) (t := 35) ?hr ?_; (case hd => rfl); (case hg => rfl); (case hr => first | (go_simp; done) | (go_simp; rfl)); intro gb280 hg w102 hbox hb; have n0_ := Aside0.mk (blk_below (g := gb274) (o := .cells #[.int .u64 0, .int .i64 0] 47 (0, 0)) (by (with_reducible repeat (first | apply bN | apply bD | apply bA)); exact BK274.out) hb); have n1_ := Aside0.mk (below_step (by repeat (first | (with_reducible first | exact HB.out | apply lA | apply lN | apply lD | refine below_set ?_ GE274.out) | exact HB.out)) hb); have n2_ := Aside0.mk (hbox); have n3_ := Aside0.mk ((by rw [hg]; exact (below_size (by repeat (first | (with_reducible first | exact HB.out | apply lA | apply lN | apply lD | refine below_set ?_ GE274.out) | exact HB.out))) : w.heap.size ≤ gb280)); have n4_ := Aside0.mk ((by rw [hg]; exact (below_size (by repeat (first | (with_reducible first | exact HB.out | apply lA | apply lN | apply lD | refine below_set ?_ GE274.out) | exact HB.out))) : w.heap.size ≤ gb280)); have n5_ := Aside0.mk ((by rw [hg]; exact Nat.ne_of_lt (blk_lt (g := gb274) (o := .cells #[.int .u64 0, .int .i64 0] 47 (0, 0)) (by (with_reducible repeat (first | apply bN | apply bD | apply bA)); exact BK274.out)) : gb274 ≠ gb280)); have n6_ := Aside0.mk ((by rw [hg]; exact Nat.ne_of_gt (blk_lt (g := gb274) (o := .cells #[.int .u64 0, .int .i64 0] 47 (0, 0)) (by (with_reducible repeat (first | apply bN | apply bD | apply bA)); exact BK274.out)) : gb280 ≠ gb274)); clear BK274; clear HB; have BK274 := n0_; have HB := n1_; have BK280 := n2_; have GW280 := n3_; have GE280 := n4_; have NB274_280 := n5_; have NB280_274 := n6_; clear n0_ n1_ n2_ n3_ n4_ n5_ n6_; clear hb hbox hg; have hnb103 := NB280_274.out; have hnc103 := NB274_280.out; have hcz104_0 : w102.cell? ⟨gb280, 0, none⟩ = some (.int .i64 0) := (blk_cell BK280.out 0).trans rfl; have hcz104_1 : w102.cell? ⟨gb280, 1, none⟩ = some (.int .i64 0) := (blk_cell BK280.out 1).trans rfl; have hcz104_2 : w102.cell? ⟨gb280, 2, none⟩ = some (.int .u64 0) := (blk_cell BK280.out 2).trans rfl; have hcz104_3 : w102.cell? ⟨gb280, 3, none⟩ = some (.string (⟨#[]⟩ : ByteArray)) := (blk_cell BK280.out 3).trans rfl; have hfz104_0 := blk_frozen BK280.out 0; have hfz104_1 := blk_frozen BK280.out 1; have hfz104_2 := blk_frozen BK280.out 2; have hfz104_3 := blk_frozen BK280.out 3; have hcz105_0 : w102.cell? ⟨gb274, 0, none⟩ = some (.int .u64 0) := (blk_cell BK274.out 0).trans rfl; have hcz105_1 : w102.cell? ⟨gb274, 1, none⟩ = some (.int .i64 0) := (blk_cell BK274.out 1).trans rfl; have hfz105_0 := blk_frozen BK274.out 0; have hfz105_1 := blk_frozen BK274.out 1))
   refine bodyPost_ret (results_ct rfl _ _ gb274 47 #[.int .u64 0, .int .i64 0] (0, 0) _ rfl (by (with_reducible repeat (first | apply bN | apply bD | apply bA)); refine blk_put (cs := #[.int .u64 0, .int .i64 0]) ?_ 1 _ rfl; (with_reducible repeat (first | apply bN | apply bD | apply bA)); refine blk_put (cs := #[.int .u64 0, .int .i64 0]) ?_ 0 _ rfl; (with_reducible repeat (first | apply bN | apply bD | apply bA)); refine blk_far ?_ NB274_280.out _; (with_reducible repeat (first | apply bN | apply bD | apply bA)); refine blk_far ?_ NB274_280.out _; (with_reducible repeat (first | apply bN | apply bD | apply bA)); refine blk_far ?_ NB274_280.out _; (with_reducible repeat (first | apply bN | apply bD | apply bA)); refine blk_far ?_ NB274_280.out _; (with_reducible repeat (first | apply bN | apply bD | apply bA)); exact BK274.out) Try.underlying47 rfl (by kernel_rfl)) rfl ?_
   exact ⟨by first | rfl | (simp <;> rfl) | (simp [*] <;> rfl), by repeat (first | (with_reducible first | exact HB.out | apply lA | apply lN | apply lD | refine below_set ?_ GE274.out | refine below_set ?_ GE280.out) | exact HB.out)⟩
 ·rw [if_neg c4] at H
  have c4b0 : (t279 == 0) = false := beq_eq_false_iff_ne.mpr c4
  have c4b1 : (t279 != 0) = true := bne_iff_ne.mpr c4
  simp only [Option.some.injEq, Prod.mk.injEq] at H
  obtain ⟨rfl, rfl, rfl⟩ := H
  go_enter Try.func27, Try.ntmps27
  go_wp2_with (first | ((with_reducible refine gate_dst (N := 4) rfl ?_); refine box_event ?hg (N := 4) ?hd (cs := #[.int .u64 0, .int .i64 0]) (t := 47) ?hr ?_; (case hd => rfl); (case hg => rfl); (case hr => first | (go_simp; done) | (go_simp; rfl)); intro gb274 hg w106 hbox hb; have n0_ := Aside0.mk (below_step (by repeat (first | (with_reducible first | exact HB.out | apply lA | apply lN | apply lD) | exact HB.out)) hb); have n1_ := Aside0.mk (hbox); have n2_ := Aside0.mk ((by rw [hg]; exact (below_size (by repeat (first | (with_reducible first | exact HB.out | apply lA | apply lN | apply lD) | exact HB.out))) : w.heap.size ≤ gb274)); have n3_ := Aside0.mk ((by rw [hg]; exact (below_size (by repeat (first | (with_reducible first | exact HB.out | apply lA | apply lN | apply lD) | exact HB.out))) : w.heap.size ≤ gb274)); clear HB; have HB := n0_; have BK274 := n1_; have GW274 := n2_; have GE274 := n3_; clear n0_ n1_ n2_ n3_; clear hb hbox hg) | ((with_reducible refine gate_callee (f := 23) rfl ?_); refine goesL_ (some 12) rfl rfl Try.func23 (by kernel_rfl) rfl #[.string a0] rfl (by (try simp only [List.map_toArray, List.map_cons, List.map_nil]); first | done | rfl) ?_; (with_reducible refine (page_Get.calls k a0 t275 t276 t277 t278 t279 _ A3.out).mono ?_); rintro e w107 ⟨rfl, hb⟩; refine ⟨_, rfl, ?_⟩; have n0_ := Aside0.mk (blk_below (g := gb274) (o := .cells #[.int .u64 0, .int .i64 0] 47 (0, 0)) (by (with_reducible repeat (first | apply bN | apply bD | apply bA)); exact BK274.out) hb); have n1_ := Aside0.mk (below_step (by repeat (first | (with_reducible first | exact HB.out | apply lA | apply lN | apply lD | refine below_set ?_ GE274.out) | exact HB.out)) hb); clear BK274; clear HB; have BK274 := n0_; have HB := n1_; clear n0_ n1_; (try clear hb); (try clear hb2); (try clear hk); (try clear hi)) | ((with_reducible refine gate_dst (N := 6) rfl ?_); refine box_event ?hg (N := 6) ?hd (cs := #[.int .i64 0, .int .i64 0, .int .u64 0, .string (⟨#[]⟩ : ByteArray)]) (t := 35) ?hr ?_; (case hd => rfl); (case hg => rfl); (case hr => first | (go_simp; done) | (go_simp; rfl)); intro gb280 hg w108 hbox hb; have n0_ := Aside0.mk (blk_below (g := gb274) (o := .cells #[.int .u64 0, .int .i64 0] 47 (0, 0)) (by (with_reducible repeat (first | apply bN | apply bD | apply bA)); exact BK274.out) hb); have n1_ := Aside0.mk (below_step (by repeat (first | (with_reducible first | exact HB.out | apply lA | apply lN | apply lD | refine below_set ?_ GE274.out) | exact HB.out)) hb); have n2_ := Aside0.mk (hbox); have n3_ := Aside0.mk ((by rw [hg]; exact (below_size (by repeat (first | (with_reducible first | exact HB.out | apply lA | apply lN | apply lD | refine below_set ?_ GE274.out) | exact HB.out))) : w.heap.size ≤ gb280)); have n4_ := Aside0.mk ((by rw [hg]; exact (below_size (by repeat (first | (with_reducible first | exact HB.out | apply lA | apply lN | apply lD | refine below_set ?_ GE274.out) | exact HB.out))) : w.heap.size ≤ gb280)); have n5_ := Aside0.mk ((by rw [hg]; exact Nat.ne_of_lt (blk_lt (g := gb274) (o := .cells #[.int .u64 0, .int .i64 0] 47 (0, 0)) (by (with_reducible repeat (first | apply bN | apply bD | apply bA)); exact BK274.out)) : gb274 ≠ gb280)); have n6_ := Aside0.mk ((by rw [hg]; exact Nat.ne_of_gt (blk_lt (g := gb274) (o := .cells #[.int .u64 0, .int .i64 0] 47 (0, 0)) (by (with_reducible repeat (first | apply bN | apply bD | apply bA)); exact BK274.out)) : gb280 ≠ gb274)); clear BK274; clear HB; have BK274 := n0_; have HB := n1_; have BK280 := n2_; have GW280 := n3_; have GE280 := n4_; have NB274_280 := n5_; have NB280_274 := n6_; clear n0_ n1_ n2_ n3_ n4_ n5_ n6_; clear hb hbox hg; have hnb109 := NB280_274.out; have hnc109 := NB274_280.out; have hcz110_0 : w108.cell? ⟨gb280, 0, none⟩ = some (.int .i64 0) := (blk_cell BK280.out 0).trans rfl; have hcz110_1 : w108.cell? ⟨gb280, 1, none⟩ = some (.int .i64 0) := (blk_cell BK280.out 1).trans rfl; have hcz110_2 : w108.cell? ⟨gb280, 2, none⟩ = some (.int .u64 0) := (blk_cell BK280.out 2).trans rfl; have hcz110_3 : w108.cell? ⟨gb280, 3, none⟩ = some (.string (⟨#[]⟩ : ByteArray)) := (blk_cell BK280.out 3).trans rfl; have hfz110_0 := blk_frozen BK280.out 0; have hfz110_1 := blk_frozen BK280.out 1; have hfz110_2 := blk_frozen BK280.out 2; have hfz110_3 := blk_frozen BK280.out 3; have hcz111_0 : w108.cell? ⟨gb274, 0, none⟩ = some (.int .u64 0) := (blk_cell BK274.out 0).trans rfl; have hcz111_1 : w108.cell? ⟨gb274, 1, none⟩ = some (.int .i64 0) := (blk_cell BK274.out 1).trans rfl; have hfz111_0 := blk_frozen BK274.out 0; have hfz111_1 := blk_frozen BK274.out 1))
  refine bodyPost_ret (results_ct rfl _ _ gb274 47 #[.int .u64 0, .int .i64 0] (0, 0) _ rfl (by (with_reducible repeat (first | apply bN | apply bD | apply bA)); refine blk_put (cs := #[.int .u64 0, .int .i64 0]) ?_ 1 _ rfl; (with_reducible repeat (first | apply bN | apply bD | apply bA)); refine blk_put (cs := #[.int .u64 0, .int .i64 0]) ?_ 0 _ rfl; (with_reducible repeat (first | apply bN | apply bD | apply bA)); refine blk_far ?_ NB274_280.out _; (with_reducible repeat (first | apply bN | apply bD | apply bA)); refine blk_far ?_ NB274_280.out _; (with_reducible repeat (first | apply bN | apply bD | apply bA)); refine blk_far ?_ NB274_280.out _; (with_reducible repeat (first | apply bN | apply bD | apply bA)); refine blk_far ?_ NB274_280.out _; (with_reducible repeat (first | apply bN | apply bD | apply bA)); exact BK274.out) Try.underlying47 rfl (by kernel_rfl)) rfl ?_
  exact ⟨by first | rfl | (simp <;> rfl) | (simp [*] <;> rfl), by repeat (first | (with_reducible first | exact HB.out | apply lA | apply lN | apply lD | refine below_set ?_ GE274.out | refine below_set ?_ GE280.out) | exact HB.out)⟩

end Go.Proofs.Ytlimgnpkbelmcaa.F
