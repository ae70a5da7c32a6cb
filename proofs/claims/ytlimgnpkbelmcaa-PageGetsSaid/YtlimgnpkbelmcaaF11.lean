/- Contracts of the Go functions that the statements of this seat reach, each for every input at which its Lean function answers; written by a program. -/
import Derived.Test.YtlimgnpkbelmcaaF0
import Derived.Test.YtlimgnpkbelmcaaF7
namespace Go.Proofs.Ytlimgnpkbelmcaa.F
open Go.RowKit Go.Proofs.YtlimgnpkbelmcaaW.PrintWords Go.Proofs.YtlimgnpkbelmcaaW.PrintLast Go.Proofs.YtlimgnpkbelmcaaW.PrintMore
attribute [local go_sem] max2_int min2_int max_two min_two max_three min_three max_four min_four   -- for this text's walks alone
set_option linter.unusedVariables false
set_option linter.unusedSimpArgs false

/-! ### keywayref03_R_fail: function 52 -/
def keywayref03_R_fail.f (a0_0 : ByteArray) (a0_1 : Int) (a1 : Int) : Option (ByteArray × Int) := if a0_1 = 0 then (some (a0_0, a1)) else (some (a0_0, a0_1))
set_option maxHeartbeats 1000000 in
theorem keywayref03_R_fail.calls (a0_0 : ByteArray) (a0_1 a1 : Int) (r1 : ByteArray) (r2 : Int) (w : World) (h : keywayref03_R_fail.f a0_0 a0_1 a1 = some (r1, r2)) :
  Calls Try.prog 52 #[.agg #[.string a0_0, .int .i64 a0_1], .int .i64 a1] w fun e w' => e = .returned (.agg #[.string r1, .int .i64 r2]) ∧ Below w.heap.size w w' := by
 have H := Aside0.mk h
 clear h
 have hu := Try.underlying68
 go_enter Try.func52, Try.ntmps52
 go_wp2
 all_goals
  have h := H.out
  unfold keywayref03_R_fail.f at h
  simp only [beq_iff_eq, beq_eq_false_iff_ne] at *
  first | rw [if_pos ‹_›] at h | rw [if_neg ‹_›] at h
  obtain ⟨rfl, rfl⟩ := Prod.mk.inj (Option.some.inj h)
  exact bodyPost_ret (v := .agg #[.string _, .int .i64 _]) (by simp [results, Try.results52, go_sem]) rfl ⟨rfl, ((Below.refl _ _).alloc (Nat.le_refl _) _).alloc (by simp) _⟩


/-! ### keywayref03_R_Take: function 43 -/
def keywayref03_R_Take.f (a0_0 : ByteArray) (a0_1 : Int) (a1 : Int) : Option (ByteArray × Int × ByteArray) := if a0_1 = 0 then (if a1 < 0 then ((keywayref03_R_fail.f a0_0 a0_1 2).bind fun bt216 => (some (bt216.1, bt216.2, (⟨#[]⟩ : ByteArray)))) else (if a1 > (a0_0.size : Int) then ((keywayref03_R_fail.f a0_0 a0_1 2).bind fun bt218 => (some (bt218.1, bt218.2, (⟨#[]⟩ : ByteArray)))) else (if 0 ≤ a1 then (if a1 ≤ (a0_0.size : Int) then (some (a0_0.extract (a1 : Int).toNat a0_0.size, 0, a0_0.extract 0 (a1 : Int).toNat)) else (none)) else (none)))) else (some (a0_0, a0_1, (⟨#[]⟩ : ByteArray)))
set_option maxHeartbeats 1000000 in
theorem keywayref03_R_Take.calls (a0_0 : ByteArray) (a0_1 a1 : Int) (r1 : ByteArray) (r2 : Int) (r3 : ByteArray) (w : World) (h : keywayref03_R_Take.f a0_0 a0_1 a1 = some (r1, r2, r3)) :
  Calls Try.prog 43 #[.agg #[.string a0_0, .int .i64 a0_1], .int .i64 a1] w fun e w' => e = .returned (.tuple #[.agg #[.string r1, .int .i64 r2], .string r3]) ∧ Below w.heap.size w w' := by
 have hu := Try.underlying68
 unfold keywayref03_R_Take.f at h
 by_cases hz : a0_1 = 0
 ·rw [if_pos hz] at h
  by_cases hs : 0 ≤ a1 ∧ a1 ≤ (a0_0.size : Int)
  ·rw [if_neg (by omega), if_neg (by omega), if_pos (by omega), if_pos (by omega)] at h
   simp only [Option.some.injEq, Prod.mk.injEq] at h
   obtain ⟨rfl, rfl, rfl⟩ := h
   have hz0 := bne_eq_false_iff_eq.2 hz
   obtain ⟨p, q⟩ := hs
   clear hz
   go_enter Try.func43, Try.ntmps43
   go_wp2
   go_region
   all_goals
    go_wp2
    exact bodyPost_ret (v := .tuple #[.agg #[.string _, .int .i64 _], .string _]) (by simp [results, Try.results43, go_sem]) rfl ⟨rfl, by repeat (first | exact Below.refl _ _ | (refine Below.setCell ?_ (by simp) _) | apply below_alloc | apply below_drew1)⟩
  ·have hbad : (if a1 < 0 then ((keywayref03_R_fail.f a0_0 a0_1 2).bind fun bt216 => (some (bt216.1, bt216.2, (⟨#[]⟩ : ByteArray)))) else ((keywayref03_R_fail.f a0_0 a0_1 2).bind fun bt218 => (some (bt218.1, bt218.2, (⟨#[]⟩ : ByteArray))))) = some (r1, r2, r3) := by
    by_cases hn : a1 < 0
    ·rw [if_pos hn] at h ⊢; exact h
    ·rw [if_neg hn, if_pos (show a1 > (a0_0.size : Int) by omega)] at h; rw [if_neg hn]; exact h
   rw [ite_self] at hbad
   obtain ⟨⟨x, y⟩, hf0, h2⟩ := Option.bind_eq_some_iff.1 hbad
   simp only [Option.some.injEq, Prod.mk.injEq] at h2
   obtain ⟨rfl, rfl, rfl⟩ := h2
   have HF := Aside0.mk hf0
   have hz0 := bne_eq_false_iff_eq.2 hz
   have ht : (decide (a1 < 0) || decide ((a0_0.size : Int) < a1)) = true := by simp; omega
   clear hz hs h hbad hf0
   go_enter Try.func43, Try.ntmps43
   go_wp2_with (first | (go_at_call 52; refine (keywayref03_R_fail.calls _ _ _ _ _ _ HF.out).mono ?_; rintro e w1 ⟨rfl, hb⟩; obtain ⟨hc, hf⟩ := bcell hb))
   all_goals
    have hz : w.heap.size + 1 < w1.heap.size := by have := hb.size; simp at this; omega
    have hb2 : Below w.heap.size w w1 := (((Below.refl _ _).alloc (Nat.le_refl _) _).alloc (by simp) _).trans (hb.mono (by simp; omega))
    clear hb
    exact bodyPost_ret (v := .tuple #[.agg #[.string _, .int .i64 _], .string _]) (by simp [results, Try.results43, go_sem, hc]) rfl ⟨rfl, (hb2.setCell (by simp) _).setCell (by simp) _⟩
 ·rw [if_neg hz] at h
  simp only [Option.some.injEq, Prod.mk.injEq] at h
  obtain ⟨rfl, rfl, rfl⟩ := h
  have hz0 := bne_iff_ne.2 hz
  clear hz
  go_enter Try.func43, Try.ntmps43
  go_wp2
  exact bodyPost_ret (v := .tuple #[.agg #[.string _, .int .i64 _], .string _]) (by simp [results, Try.results43, go_sem]) rfl ⟨rfl, ((Below.refl _ _).alloc (Nat.le_refl _) _).alloc (by simp) _⟩


/-! ### keywayref03_R_Fixed: function 42 -/
mutual
def keywayref03_R_Fixed.j0 : Nat → Int → ByteArray → Int → Option (ByteArray × Int × Int)
 | 0, _, _, _ => none
 | k + 1, x6, x211000, x211001 => if x6 > 8 then (keywayref03_R_Fixed.j1 k 8 x211000 x211001) else (keywayref03_R_Fixed.j1 k x6 x211000 x211001)
def keywayref03_R_Fixed.j1 : Nat → Int → ByteArray → Int → Option (ByteArray × Int × Int)
 | 0, _, _, _ => none
 | k + 1, x6, x211000, x211001 => (keywayref03_R_Take.f x211000 x211001 x6).bind fun bt212 => (keywayref03_R_Fixed.l0 k bt212.2.2 0 (wrap64 ((bt212.2.2.size : Int) - 1)) bt212.1 bt212.2.1)
def keywayref03_R_Fixed.l0 : Nat → ByteArray → Int → Int → ByteArray → Int → Option (ByteArray × Int × Int)
 | 0, _, _, _, _, _ => none
 | k + 1, x7, x8, x9, x211000, x211001 => if x9 ≥ 0 then (if 0 ≤ x9 then (if x9 < (x7.size : Int) then (keywayref03_R_Fixed.l0 k x7 (IntKind.u64.wrap ((IntKind.u64.wrap (x8 * 256)) + (IntKind.u64.wrap (bt x7 x9)))) (wrap64 (x9 - 1)) x211000 x211001) else (none)) else (none)) else (some (x211000, x211001, x8))
end
def keywayref03_R_Fixed.f (k : Nat) (a0_0 : ByteArray) (a0_1 : Int) (a1 : Int) : Option (ByteArray × Int × Int) := if a1 < 0 then (keywayref03_R_Fixed.j0 k 0 a0_0 a0_1) else (keywayref03_R_Fixed.j0 k a1 a0_0 a0_1)
set_option maxRecDepth 100000 in
theorem keywayref03_R_Fixed.mono_l : ∀ k, (∀ y0 y1 y2, LeO (keywayref03_R_Fixed.j0 k y0 y1 y2) (keywayref03_R_Fixed.j0 (k + 1) y0 y1 y2)) ∧ (∀ y0 y1 y2, LeO (keywayref03_R_Fixed.j1 k y0 y1 y2) (keywayref03_R_Fixed.j1 (k + 1) y0 y1 y2)) ∧ (∀ y0 y1 y2 y3 y4, LeO (keywayref03_R_Fixed.l0 k y0 y1 y2 y3 y4) (keywayref03_R_Fixed.l0 (k + 1) y0 y1 y2 y3 y4))
 | 0 => ⟨fun _ _ _ r h => by first | (cases h; done) | simp [keywayref03_R_Fixed.j0] at h, fun _ _ _ r h => by first | (cases h; done) | simp [keywayref03_R_Fixed.j1] at h, fun _ _ _ _ _ r h => by first | (cases h; done) | simp [keywayref03_R_Fixed.l0] at h⟩
 | k + 1 => by
  obtain ⟨ih0, ih1, ih2⟩ := keywayref03_R_Fixed.mono_l k
  refine ⟨?_, ?_, ?_⟩
  ·intro y0 y1 y2
   unfold keywayref03_R_Fixed.j0
   repeat' first
   | (with_reducible exact ih0 _ _ _)
   | (with_reducible exact ih1 _ _ _)
   | (with_reducible exact ih2 _ _ _ _ _)
   | (with_reducible exact LeO.refl _)
   | (with_reducible exact LeO.none _)
   | (with_reducible refine LeO.ite ?_ ?_)
   | (with_reducible refine LeO.bind ?_ (fun _ => ?_))
   | exact ih0 _ _ _
   | exact ih1 _ _ _
   | exact ih2 _ _ _ _ _
   | exact LeO.none _
   | refine LeO.ite ?_ ?_
   | refine LeO.bind ?_ (fun _ => ?_)
  ·intro y0 y1 y2
   unfold keywayref03_R_Fixed.j1
   repeat' first
   | (with_reducible exact ih0 _ _ _)
   | (with_reducible exact ih1 _ _ _)
   | (with_reducible exact ih2 _ _ _ _ _)
   | (with_reducible exact LeO.refl _)
   | (with_reducible exact LeO.none _)
   | (with_reducible refine LeO.ite ?_ ?_)
   | (with_reducible refine LeO.bind ?_ (fun _ => ?_))
   | exact ih0 _ _ _
   | exact ih1 _ _ _
   | exact ih2 _ _ _ _ _
   | exact LeO.none _
   | refine LeO.ite ?_ ?_
   | refine LeO.bind ?_ (fun _ => ?_)
  ·intro y0 y1 y2 y3 y4
   unfold keywayref03_R_Fixed.l0
   repeat' first
   | (with_reducible exact ih0 _ _ _)
   | (with_reducible exact ih1 _ _ _)
   | (with_reducible exact ih2 _ _ _ _ _)
   | (with_reducible exact LeO.refl _)
   | (with_reducible exact LeO.none _)
   | (with_reducible refine LeO.ite ?_ ?_)
   | (with_reducible refine LeO.bind ?_ (fun _ => ?_))
   | exact ih0 _ _ _
   | exact ih1 _ _ _
   | exact ih2 _ _ _ _ _
   | exact LeO.none _
   | refine LeO.ite ?_ ?_
   | refine LeO.bind ?_ (fun _ => ?_)
set_option maxRecDepth 100000 in
theorem keywayref03_R_Fixed.mono : ∀ a0 a1 a2 k, LeO (keywayref03_R_Fixed.f k a0 a1 a2) (keywayref03_R_Fixed.f (k + 1) a0 a1 a2) := by
 intro a0 a1 a2 k
 obtain ⟨ih0, ih1, ih2⟩ := keywayref03_R_Fixed.mono_l k
 unfold keywayref03_R_Fixed.f
 repeat' first
   | (with_reducible exact ih0 _ _ _)
   | (with_reducible exact ih1 _ _ _)
   | (with_reducible exact ih2 _ _ _ _ _)
   | (with_reducible exact LeO.refl _)
   | (with_reducible exact LeO.none _)
   | (with_reducible refine LeO.ite ?_ ?_)
   | (with_reducible refine LeO.bind ?_ (fun _ => ?_))
   | exact ih0 _ _ _
   | exact ih1 _ _ _
   | exact ih2 _ _ _ _ _
   | exact LeO.none _
   | refine LeO.ite ?_ ?_
   | refine LeO.bind ?_ (fun _ => ?_)
set_option maxHeartbeats 8000000 in
set_option maxRecDepth 100000 in
theorem keywayref03_R_Fixed.calls (k : Nat) (a0_0 : ByteArray) (a0_1 : Int) (a1 : Int) (r1 : ByteArray) (r2 : Int) (r3 : Int) (w : World) (h : keywayref03_R_Fixed.f k a0_0 a0_1 a1 = some (r1, r2, r3)) :
  Calls Try.prog 42 #[.agg #[.string a0_0, .int .i64 a0_1], .int .i64 a1] w fun e w' => e = .returned (.tuple #[.agg #[.string r1, .int .i64 r2], .int .u64 r3]) ∧ Below w.heap.size w w' := by
 have hu68 := Try.underlying68
 have HB := Aside0.mk (Below.refl w.heap.size w)
 have H : (if a1 < 0 then (keywayref03_R_Fixed.j0 k 0 a0_0 a0_1) else (keywayref03_R_Fixed.j0 k a1 a0_0 a0_1)) = some (r1, r2, r3) := h
 clear h
 have HC3 := Aside0.mk H
 clear H
 go_enter Try.func42, Try.ntmps42
 go_upto_if 12 with (first | ((with_reducible refine gate_dst (N := 2) rfl ?_); refine box_event ?hg (N := 2) ?hd (cs := #[.string a0_0, .int .i64 a0_1]) (t := 68) ?hr ?_; (case hd => rfl); (case hg => rfl); (case hr => first | (go_simp; done) | (go_simp; rfl)); intro gb210 hg w4 hbox hb; have n0_ := Aside0.mk (below_step (by repeat (first | (with_reducible first | exact HB.out | apply lA | apply lN | apply lD) | exact HB.out)) hb); have n1_ := Aside0.mk (hbox); have n2_ := Aside0.mk ((by rw [hg]; exact (below_size (by repeat (first | (with_reducible first | exact HB.out | apply lA | apply lN | apply lD) | exact HB.out))) : w.heap.size ≤ gb210)); have n3_ := Aside0.mk ((by rw [hg]; exact (below_size (by repeat (first | (with_reducible first | exact HB.out | apply lA | apply lN | apply lD) | exact HB.out))) : w.heap.size ≤ gb210)); clear HB; have HB := n0_; have BK210 := n1_; have GW210 := n2_; have GE210 := n3_; clear n0_ n1_ n2_ n3_; clear hb hbox hg) | ((with_reducible refine gate_dst (N := 4) rfl ?_); refine box_event ?hg (N := 4) ?hd (cs := #[.string (⟨#[]⟩ : ByteArray), .int .i64 0]) (t := 68) ?hr ?_; (case hd => rfl); (case hg => rfl); (case hr => first | (go_simp; done) | (go_simp; rfl)); intro gb211 hg w5 hbox hb; have n0_ := Aside0.mk (blk_below (g := gb210) (o := .cells #[.string a0_0, .int .i64 a0_1] 68 (0, 0)) (by (with_reducible repeat (first | apply bN | apply bD | apply bA)); exact BK210.out) hb); have n1_ := Aside0.mk (below_step (by repeat (first | (with_reducible first | exact HB.out | apply lA | apply lN | apply lD | refine below_set ?_ GE210.out) | exact HB.out)) hb); have n2_ := Aside0.mk (hbox); have n3_ := Aside0.mk ((by rw [hg]; exact (below_size (by repeat (first | (with_reducible first | exact HB.out | apply lA | apply lN | apply lD | refine below_set ?_ GE210.out) | exact HB.out))) : w.heap.size ≤ gb211)); have n4_ := Aside0.mk ((by rw [hg]; exact (below_size (by repeat (first | (with_reducible first | exact HB.out | apply lA | apply lN | apply lD | refine below_set ?_ GE210.out) | exact HB.out))) : w.heap.size ≤ gb211)); have n5_ := Aside0.mk ((by rw [hg]; exact Nat.ne_of_lt (blk_lt (g := gb210) (o := .cells #[.string a0_0, .int .i64 a0_1] 68 (0, 0)) (by (with_reducible repeat (first | apply bN | apply bD | apply bA)); exact BK210.out)) : gb210 ≠ gb211)); have n6_ := Aside0.mk ((by rw [hg]; exact Nat.ne_of_gt (blk_lt (g := gb210) (o := .cells #[.string a0_0, .int .i64 a0_1] 68 (0, 0)) (by (with_reducible repeat (first | apply bN | apply bD | apply bA)); exact BK210.out)) : gb211 ≠ gb210)); clear BK210; clear HB; have BK210 := n0_; have HB := n1_; have BK211 := n2_; have GW211 := n3_; have GE211 := n4_; have NB210_211 := n5_; have NB211_210 := n6_; clear n0_ n1_ n2_ n3_ n4_ n5_ n6_; clear hb hbox hg))
 (try simp only [Act.put, List.setIfInBounds_toArray, List.set_cons_zero, List.set_cons_succ])
 go_cut [6] (fun v6 wc => ∃ (kq : Nat) (x6_2 : Int), v6 = .int .i64 x6_2 ∧ Aside0 (keywayref03_R_Fixed.j0 kq x6_2 a0_0 a0_1 = some (r1, r2, r3)) ∧ Aside0 (kq ≤ k) ∧ Aside0 (wc.heap[gb210]? = some (.cells #[.string a0_0, .int .i64 a0_1] 68 (0, 0))) ∧ Aside0 (wc.heap[gb211]? = some (.cells #[.string (⟨#[]⟩ : ByteArray), .int .i64 0] 68 (0, 0))) ∧ Aside0 (Below w.heap.size w wc))
 case first =>
  have H := HC3.out
  clear HC3
  by_cases c6 : a1 < 0
  ·rw [if_pos c6] at H
   have c6b0 : decide (a1 < 0) = true := decide_eq_true c6
   clear c6
   (first | rw [c6b0] | (simp only [i64_w, i32_w]; rw [c6b0]) | skip)
   have H' := Aside0.mk H
   clear H
   go_wp2
   go_meet
   case rel => exact ⟨_, (0), (by first | rfl | (simp; done) | (simp [*]; done)), H', ⟨by first | omega | exact Nat.le_refl _⟩, ⟨by (with_reducible repeat (first | apply bN | apply bD | apply bA)); exact BK210.out⟩, ⟨by (with_reducible repeat (first | apply bN | apply bD | apply bA)); exact BK211.out⟩, ⟨by repeat (first | (with_reducible first | exact HB.out | apply lA | apply lN | apply lD | refine below_set ?_ GE210.out | refine below_set ?_ GE211.out) | exact HB.out)⟩⟩
  ·rw [if_neg c6] at H
   have c6b0 : decide (a1 < 0) = false := decide_eq_false c6
   clear c6
   (first | rw [c6b0] | (simp only [i64_w, i32_w]; rw [c6b0]) | skip)
   have H' := Aside0.mk H
   clear H
   go_wp2
   go_meet
   case rel => exact ⟨_, (a1), (by first | rfl | (simp; done) | (simp [*]; done)), H', ⟨by first | omega | exact Nat.le_refl _⟩, ⟨by (with_reducible repeat (first | apply bN | apply bD | apply bA)); exact BK210.out⟩, ⟨by (with_reducible repeat (first | apply bN | apply bD | apply bA)); exact BK211.out⟩, ⟨by repeat (first | (with_reducible first | exact HB.out | apply lA | apply lN | apply lD | refine below_set ?_ GE210.out | refine below_set ?_ GE211.out) | exact HB.out)⟩⟩
 case rest =>
  clear HC3
  try clear p2
  try clear c4
  try clear c6
  try clear c6b0
  obtain ⟨kq, x6_2, rfl, HA, HJ2, BK210, BK211, HB⟩ := hcut
  cases kq with
  | zero => exact absurd HA.out (by simp [keywayref03_R_Fixed.j0])
  | succ kj2 =>
   have H := HA.out
   clear HA
   simp only [keywayref03_R_Fixed.j0] at H
   have HC7 := Aside0.mk H
   clear H
   go_upto_if 14 with (fail)
   go_cut [6] (fun v6 wc => ∃ (kq : Nat) (x6_6 : Int), v6 = .int .i64 x6_6 ∧ Aside0 (keywayref03_R_Fixed.j1 kq x6_6 a0_0 a0_1 = some (r1, r2, r3)) ∧ Aside0 (kq ≤ kj2) ∧ Aside0 (wc.heap[gb210]? = some (.cells #[.string a0_0, .int .i64 a0_1] 68 (0, 0))) ∧ Aside0 (wc.heap[gb211]? = some (.cells #[.string (⟨#[]⟩ : ByteArray), .int .i64 0] 68 (0, 0))) ∧ Aside0 (Below w.heap.size w wc))
   case first =>
    have H := HC7.out
    clear HC7
    by_cases c8 : x6_2 > 8
    ·rw [if_pos c8] at H
     have c8b0 : decide (8 < x6_2) = true := decide_eq_true c8
     clear c8
     (first | rw [c8b0] | (simp only [i64_w, i32_w]; rw [c8b0]) | skip)
     have H' := Aside0.mk H
     clear H
     go_wp2
     go_meet
     case rel => exact ⟨_, (8), (by first | rfl | (simp; done) | (simp [*]; done)), H', ⟨by have := HJ2.out; first | omega | exact Nat.le_refl _⟩, ⟨by (with_reducible repeat (first | apply bN | apply bD | apply bA)); exact BK210.out⟩, ⟨by (with_reducible repeat (first | apply bN | apply bD | apply bA)); exact BK211.out⟩, ⟨by repeat (first | (with_reducible first | exact HB.out | apply lA | apply lN | apply lD | refine below_set ?_ GE210.out | refine below_set ?_ GE211.out) | exact HB.out)⟩⟩
    ·rw [if_neg c8] at H
     have c8b0 : decide (8 < x6_2) = false := decide_eq_false c8
     clear c8
     (first | rw [c8b0] | (simp only [i64_w, i32_w]; rw [c8b0]) | skip)
     have H' := Aside0.mk H
     clear H
     go_wp2
     go_meet
     case rel => exact ⟨_, (x6_2), (by first | rfl | (simp; done) | (simp [*]; done)), H', ⟨by have := HJ2.out; first | omega | exact Nat.le_refl _⟩, ⟨by (with_reducible repeat (first | apply bN | apply bD | apply bA)); exact BK210.out⟩, ⟨by (with_reducible repeat (first | apply bN | apply bD | apply bA)); exact BK211.out⟩, ⟨by repeat (first | (with_reducible first | exact HB.out | apply lA | apply lN | apply lD | refine below_set ?_ GE210.out | refine below_set ?_ GE211.out) | exact HB.out)⟩⟩
   case rest =>
    clear HC7
    try clear p2
    try clear c4
    try clear c6
    try clear c6b0
    try clear c8
    try clear c8b0
    try clear p2
    obtain ⟨kq, x6_6, rfl, HA, HJ6, BK210, BK211, HB⟩ := hcut
    cases kq with
    | zero => exact absurd HA.out (by simp [keywayref03_R_Fixed.j1])
    | succ kj6 =>
     have H := HA.out
     clear HA
     simp only [keywayref03_R_Fixed.j1] at H
     replace H := Option.bind_eq_some_iff.mp H
     obtain ⟨⟨t212, t213, t214⟩, A90, H⟩ := H
     replace H : (keywayref03_R_Fixed.l0 kj6 t214 0 (wrap64 ((t214.size : Int) - 1)) t212 t213) = some (r1, r2, r3) := H
     have A9 := Aside0.mk A90
     clear A90
     have H' := Aside0.mk H
     clear H
     have hnb10 := NB210_211.out
     have hnc10 := NB211_210.out
     have hcz11_0 : wc.cell? ⟨gb210, 0, none⟩ = some (.string a0_0) := (blk_cell BK210.out 0).trans rfl
     have hcz11_1 : wc.cell? ⟨gb210, 1, none⟩ = some (.int .i64 a0_1) := (blk_cell BK210.out 1).trans rfl
     have hfz11_0 := blk_frozen BK210.out 0
     have hfz11_1 := blk_frozen BK210.out 1
     go_wp2_with (first | ((with_reducible refine gate_callee (f := 43) rfl ?_); refine goesL_ (some 18) rfl rfl Try.func43 (by kernel_rfl) rfl #[.agg #[.string a0_0, .int .i64 a0_1], .int .i64 x6_6] rfl (by (try simp only [List.map_toArray, List.map_cons, List.map_nil]); first | done | rfl) ?_; (with_reducible refine (keywayref03_R_Take.calls a0_0 a0_1 x6_6 t212 t213 t214 _ A9.out).mono ?_); rintro e w12 ⟨rfl, hb⟩; refine ⟨_, rfl, ?_⟩; have n0_ := Aside0.mk (blk_below (g := gb210) (o := .cells #[.string a0_0, .int .i64 a0_1] 68 (0, 0)) (by (with_reducible repeat (first | apply bN | apply bD | apply bA)); exact BK210.out) hb); have n1_ := Aside0.mk (blk_below (g := gb211) (o := .cells #[.string (⟨#[]⟩ : ByteArray), .int .i64 0] 68 (0, 0)) (by (with_reducible repeat (first | apply bN | apply bD | apply bA)); exact BK211.out) hb); have n2_ := Aside0.mk (below_step (by repeat (first | (with_reducible first | exact HB.out | apply lA | apply lN | apply lD | refine below_set ?_ GE210.out | refine below_set ?_ GE211.out) | exact HB.out)) hb); clear BK210; clear BK211; clear HB; have BK210 := n0_; have BK211 := n1_; have HB := n2_; clear n0_ n1_ n2_; (try clear hb); (try clear hb2); (try clear hk); (try clear hi); have hcz13_0 : w12.cell? ⟨gb210, 0, none⟩ = some (.string a0_0) := (blk_cell BK210.out 0).trans rfl; have hcz13_1 : w12.cell? ⟨gb210, 1, none⟩ = some (.int .i64 a0_1) := (blk_cell BK210.out 1).trans rfl; have hfz13_0 := blk_frozen BK210.out 0; have hfz13_1 := blk_frozen BK210.out 1))
     go_loopg [8, 9] kj6 (fun kq v8 v9 w' => ∃ (x8_3 : Int) (x9_3 : Int), v8 = .int .u64 x8_3 ∧ v9 = .int .i64 x9_3 ∧ Aside0 (keywayref03_R_Fixed.l0 kq t214 x8_3 x9_3 t212 t213 = some (r1, r2, r3)) ∧ Aside0 (kq ≤ kj6) ∧ Aside0 (w'.heap[gb210]? = some (.cells #[.string t212, .int .i64 t213] 68 (0, 0))) ∧ Aside0 (w'.heap[gb211]? = some (.cells #[.string (⟨#[]⟩ : ByteArray), .int .i64 0] 68 (0, 0))) ∧ Aside0 (Below w.heap.size w w'))
     case atStart => exact ⟨(0), (wrap64 ((t214.size : Int) - 1)), (by first | rfl | (simp; done) | (simp [*]; done)), (by first | rfl | (simp; done) | (simp [*]; done)), H', ⟨Nat.le_refl _⟩, ⟨by (with_reducible repeat (first | apply bN | apply bD | apply bA)); refine blk_put (cs := #[.string t212, .int .i64 a0_1]) ?_ 1 _ rfl; (with_reducible repeat (first | apply bN | apply bD | apply bA)); refine blk_put (cs := #[.string a0_0, .int .i64 a0_1]) ?_ 0 _ rfl; (with_reducible repeat (first | apply bN | apply bD | apply bA)); exact BK210.out⟩, ⟨by (with_reducible repeat (first | apply bN | apply bD | apply bA)); refine blk_far ?_ NB211_210.out _; (with_reducible repeat (first | apply bN | apply bD | apply bA)); refine blk_far ?_ NB211_210.out _; (with_reducible repeat (first | apply bN | apply bD | apply bA)); exact BK211.out⟩, ⟨by repeat (first | (with_reducible first | exact HB.out | apply lA | apply lN | apply lD | refine below_set ?_ GE210.out | refine below_set ?_ GE211.out) | exact HB.out)⟩⟩
     case round =>
      clear H'
      try clear c1
      try clear p2
      try clear c3
      try clear c4
      try clear c6
      try clear c6b0
      try clear p6
      try clear c8
      try clear c8b0
      try clear c10
      try clear c13
      try clear hcz11_0
      try clear hcz11_1
      try clear hcz13_0
      try clear hcz13_1
      try clear hfz11_0
      try clear hfz11_1
      try clear hfz13_0
      try clear hfz13_1
      try clear p2
      obtain ⟨x8_3, x9_3, rfl, rfl, HA, HK3, BK210, BK211, HB⟩ := hrel
      cases gk with
      | zero => exact absurd HA.out (by simp [keywayref03_R_Fixed.l0])
      | succ k3 =>
       have H := HA.out
       clear HA
       simp only [keywayref03_R_Fixed.l0] at H
       by_cases c14 : x9_3 ≥ 0
       ·rw [if_pos c14] at H
        have c14b0 : decide (0 ≤ x9_3) = true := decide_eq_true c14
        clear c14
        by_cases c15 : 0 ≤ x9_3
        ·rw [if_pos c15] at H
         have c15b0 : decide (0 ≤ x9_3) = true := decide_eq_true c15
         clear c15
         by_cases c16 : x9_3 < (t214.size : Int)
         ·rw [if_pos c16] at H
          have c16b0 : decide (x9_3 < (t214.size : Int)) = true := decide_eq_true c16
          clear c16
          have H' := Aside0.mk H
          clear H
          have p17 : 0 ≤ (x9_3 : Int) := of_decide_eq_true (by first | (with_reducible assumption) | assumption)
          have q17 : x9_3 < (t214.size : Int) := of_decide_eq_true (by first | (with_reducible assumption) | assumption)
          have hx17 := bt_at t214 x9_3
          replace p17 := eq_true p17
          replace q17 := eq_true q17
          go_wp2
          go_roundg k3
          case measure => have := HJ2.out; have := HJ6.out; have := HK3.out; omega
          case rel => exact ⟨(IntKind.u64.wrap ((IntKind.u64.wrap (x8_3 * 256)) + (IntKind.u64.wrap (bt t214 x9_3)))), (wrap64 (x9_3 - 1)), (by first | rfl | (simp; done) | (simp [*]; done)), (by first | rfl | (simp; done) | (simp [*]; done)), H', ⟨by have := HJ2.out; have := HJ6.out; have := HK3.out; omega⟩, ⟨by (with_reducible repeat (first | apply bN | apply bD | apply bA)); exact BK210.out⟩, ⟨by (with_reducible repeat (first | apply bN | apply bD | apply bA)); exact BK211.out⟩, ⟨by repeat (first | (with_reducible first | exact HB.out | apply lA | apply lN | apply lD | refine below_set ?_ GE210.out | refine below_set ?_ GE211.out) | exact HB.out)⟩⟩
         ·rw [if_neg c16] at H
          exact absurd H (by simp)
        ·rw [if_neg c15] at H
         exact absurd H (by simp)
       ·rw [if_neg c14] at H
        have c14b0 : decide (0 ≤ x9_3) = false := decide_eq_false c14
        clear c14
        simp only [Option.some.injEq, Prod.mk.injEq] at H
        obtain ⟨rfl, rfl, rfl⟩ := H
        have hnb18 := NB210_211.out
        have hnc18 := NB211_210.out
        have hcz19_0 : wr.cell? ⟨gb210, 0, none⟩ = some (.string t212) := (blk_cell BK210.out 0).trans rfl
        have hcz19_1 : wr.cell? ⟨gb210, 1, none⟩ = some (.int .i64 t213) := (blk_cell BK210.out 1).trans rfl
        have hfz19_0 := blk_frozen BK210.out 0
        have hfz19_1 := blk_frozen BK210.out 1
        have hcz20_0 : wr.cell? ⟨gb211, 0, none⟩ = some (.string (⟨#[]⟩ : ByteArray)) := (blk_cell BK211.out 0).trans rfl
        have hcz20_1 : wr.cell? ⟨gb211, 1, none⟩ = some (.int .i64 0) := (blk_cell BK211.out 1).trans rfl
        have hfz20_0 := blk_frozen BK211.out 0
        have hfz20_1 := blk_frozen BK211.out 1
        go_wp2
        refine bodyPost_ret (results_ct rfl _ _ gb211 68 #[.string t212, .int .i64 t213] (0, 0) _ rfl (by (with_reducible repeat (first | apply bN | apply bD | apply bA)); refine blk_put (cs := #[.string t212, .int .i64 0]) ?_ 1 _ rfl; (with_reducible repeat (first | apply bN | apply bD | apply bA)); refine blk_put (cs := #[.string (⟨#[]⟩ : ByteArray), .int .i64 0]) ?_ 0 _ rfl; (with_reducible repeat (first | apply bN | apply bD | apply bA)); exact BK211.out) Try.underlying68 rfl (by kernel_rfl)) rfl ?_
        exact ⟨by first | rfl | (simp <;> rfl) | (simp [*] <;> rfl), by repeat (first | (with_reducible first | exact HB.out | apply lA | apply lN | apply lD | refine below_set ?_ GE210.out | refine below_set ?_ GE211.out) | exact HB.out)⟩

/-! ### keywayref05_Get: function 24 -/
def keywayref05_Get.f (k : Nat) (a0 : ByteArray) : Option (Int × Int × Int × ByteArray × Bool) := if (a0.size : Int) = 256 then ((keywayref03_R_Fixed.f k a0 0 1).bind fun bt217 => ((keywayref03_R_Fixed.f k bt217.1 bt217.2.1 4).bind fun bt220 => ((keywayref03_R_Fixed.f k bt220.1 bt220.2.1 8).bind fun bt223 => ((keywayref03_R_Fixed.f k bt223.1 bt223.2.1 2).bind fun bt226 => (if bt226.2.2 > 237 then (some (0, 0, 0, (⟨#[]⟩ : ByteArray), false)) else ((keywayref03_R_Take.f bt226.1 bt226.2.1 (wrap64 (bt226.2.2))).bind fun bt229 => ((keywayref05_Put.f k (wrap64 (bt217.2.2)) (wrap64 (bt220.2.2)) bt223.2.2 bt229.2.2).bind fun t234 => (some (wrap64 (bt217.2.2), wrap64 (bt220.2.2), bt223.2.2, bt229.2.2, (t234.toList == a0.toList)))))))))) else (some (0, 0, 0, (⟨#[]⟩ : ByteArray), false))
set_option maxRecDepth 100000 in
theorem keywayref05_Get.mono : ∀ a0 k, LeO (keywayref05_Get.f k a0) (keywayref05_Get.f (k + 1) a0) := by
 intro a0 k
 unfold keywayref05_Get.f
 repeat' first
   | (with_reducible exact keywayref03_R_Fixed.mono _ _ _ _)
   | (with_reducible exact keywayref05_Put.mono _ _ _ _ _)
   | (with_reducible exact LeO.refl _)
   | (with_reducible exact LeO.none _)
   | (with_reducible refine LeO.ite ?_ ?_)
   | (with_reducible refine LeO.bind ?_ (fun _ => ?_))
   | exact keywayref03_R_Fixed.mono _ _ _ _
   | exact keywayref05_Put.mono _ _ _ _ _
   | exact LeO.none _
   | refine LeO.ite ?_ ?_
   | refine LeO.bind ?_ (fun _ => ?_)
set_option maxHeartbeats 8000000 in
set_option maxRecDepth 100000 in
theorem keywayref05_Get.calls (k : Nat) (a0 : ByteArray) (r1 : Int) (r2 : Int) (r3 : Int) (r4 : ByteArray) (r5 : Bool) (w : World) (h : keywayref05_Get.f k a0 = some (r1, r2, r3, r4, r5)) :
  Calls Try.prog 24 #[.string a0] w fun e w' => e = .returned (.tuple #[.agg #[.int .i64 r1, .int .i64 r2, .int .u64 r3, .string r4], .bool r5]) ∧ Below w.heap.size w w' := by
 have hu38 := Try.underlying38
 have hu68 := Try.underlying68
 have HB := Aside0.mk (Below.refl w.heap.size w)
 have H : (if (a0.size : Int) = 256 then ((keywayref03_R_Fixed.f k a0 0 1).bind fun bt217 => ((keywayref03_R_Fixed.f k bt217.1 bt217.2.1 4).bind fun bt220 => ((keywayref03_R_Fixed.f k bt220.1 bt220.2.1 8).bind fun bt223 => ((keywayref03_R_Fixed.f k bt223.1 bt223.2.1 2).bind fun bt226 => (if bt226.2.2 > 237 then (some (0, 0, 0, (⟨#[]⟩ : ByteArray), false)) else ((keywayref03_R_Take.f bt226.1 bt226.2.1 (wrap64 (bt226.2.2))).bind fun bt229 => ((keywayref05_Put.f k (wrap64 (bt217.2.2)) (wrap64 (bt220.2.2)) bt223.2.2 bt229.2.2).bind fun t234 => (some (wrap64 (bt217.2.2), wrap64 (bt220.2.2), bt223.2.2, bt229.2.2, (t234.toList == a0.toList)))))))))) else (some (0, 0, 0, (⟨#[]⟩ : ByteArray), false))) = some (r1, r2, r3, r4, r5) := h
 clear h
 by_cases c2 : (a0.size : Int) = 256
 ·rw [if_pos c2] at H
  have c2b0 : ((a0.size : Int) == 256) = true := beq_iff_eq.mpr c2
  have c2b1 : ((a0.size : Int) != 256) = false := bne_eq_false_iff_eq.mpr c2
  clear c2
  replace H := Option.bind_eq_some_iff.mp H
  obtain ⟨⟨t217, t218, t219⟩, A30, H⟩ := H
  replace H : ((keywayref03_R_Fixed.f k t217 t218 4).bind fun bt220 => ((keywayref03_R_Fixed.f k bt220.1 bt220.2.1 8).bind fun bt223 => ((keywayref03_R_Fixed.f k bt223.1 bt223.2.1 2).bind fun bt226 => (if bt226.2.2 > 237 then (some (0, 0, 0, (⟨#[]⟩ : ByteArray), false)) else ((keywayref03_R_Take.f bt226.1 bt226.2.1 (wrap64 (bt226.2.2))).bind fun bt229 => ((keywayref05_Put.f k (wrap64 (t219)) (wrap64 (bt220.2.2)) bt223.2.2 bt229.2.2).bind fun t234 => (some (wrap64 (t219), wrap64 (bt220.2.2), bt223.2.2, bt229.2.2, (t234.toList == a0.toList))))))))) = some (r1, r2, r3, r4, r5) := H
  have A3 := Aside0.mk A30
  clear A30
  replace H := Option.bind_eq_some_iff.mp H
  obtain ⟨⟨t220, t221, t222⟩, A40, H⟩ := H
  replace H : ((keywayref03_R_Fixed.f k t220 t221 8).bind fun bt223 => ((keywayref03_R_Fixed.f k bt223.1 bt223.2.1 2).bind fun bt226 => (if bt226.2.2 > 237 then (some (0, 0, 0, (⟨#[]⟩ : ByteArray), false)) else ((keywayref03_R_Take.f bt226.1 bt226.2.1 (wrap64 (bt226.2.2))).bind fun bt229 => ((keywayref05_Put.f k (wrap64 (t219)) (wrap64 (t222)) bt223.2.2 bt229.2.2).bind fun t234 => (some (wrap64 (t219), wrap64 (t222), bt223.2.2, bt229.2.2, (t234.toList == a0.toList)))))))) = some (r1, r2, r3, r4, r5) := H
  have A4 := Aside0.mk A40
  clear A40
  replace H := Option.bind_eq_some_iff.mp H
  obtain ⟨⟨t223, t224, t225⟩, A50, H⟩ := H
  replace H : ((keywayref03_R_Fixed.f k t223 t224 2).bind fun bt226 => (if bt226.2.2 > 237 then (some (0, 0, 0, (⟨#[]⟩ : ByteArray), false)) else ((keywayref03_R_Take.f bt226.1 bt226.2.1 (wrap64 (bt226.2.2))).bind fun bt229 => ((keywayref05_Put.f k (wrap64 (t219)) (wrap64 (t222)) t225 bt229.2.2).bind fun t234 => (some (wrap64 (t219), wrap64 (t222), t225, bt229.2.2, (t234.toList == a0.toList))))))) = some (r1, r2, r3, r4, r5) := H
  have A5 := Aside0.mk A50
  clear A50
  replace H := Option.bind_eq_some_iff.mp H
  obtain ⟨⟨t226, t227, t228⟩, A60, H⟩ := H
  replace H : (if t228 > 237 then (some (0, 0, 0, (⟨#[]⟩ : ByteArray), false)) else ((keywayref03_R_Take.f t226 t227 (wrap64 (t228))).bind fun bt229 => ((keywayref05_Put.f k (wrap64 (t219)) (wrap64 (t222)) t225 bt229.2.2).bind fun t234 => (some (wrap64 (t219), wrap64 (t222), t225, bt229.2.2, (t234.toList == a0.toList)))))) = some (r1, r2, r3, r4, r5) := H
  have A6 := Aside0.mk A60
  clear A60
  by_cases c7 : t228 > 237
  ·rw [if_pos c7] at H
   have c7b0 : decide (237 < t228) = true := decide_eq_true c7
   clear c7
   simp only [Option.some.injEq, Prod.mk.injEq] at H
   obtain ⟨rfl, rfl, rfl, rfl, rfl⟩ := H
   go_enter Try.func24, Try.ntmps24
   go_wp2_with (first | ((with_reducible refine gate_dst (N := 2) rfl ?_); refine box_event ?hg (N := 2) ?hd (cs := #[.int .i64 0, .int .i64 0, .int .u64 0, .string (⟨#[]⟩ : ByteArray)]) (t := 38) ?hr ?_; (case hd => rfl); (case hg => rfl); (case hr => first | (go_simp; done) | (go_simp; rfl)); intro gb215 hg w8 hbox hb; have n0_ := Aside0.mk (below_step (by repeat (first | (with_reducible first | exact HB.out | apply lA | apply lN | apply lD) | exact HB.out)) hb); have n1_ := Aside0.mk (hbox); have n2_ := Aside0.mk ((by rw [hg]; exact (below_size (by repeat (first | (with_reducible first | exact HB.out | apply lA | apply lN | apply lD) | exact HB.out))) : w.heap.size ≤ gb215)); have n3_ := Aside0.mk ((by rw [hg]; exact (below_size (by repeat (first | (with_reducible first | exact HB.out | apply lA | apply lN | apply lD) | exact HB.out))) : w.heap.size ≤ gb215)); clear HB; have HB := n0_; have BK215 := n1_; have GW215 := n2_; have GE215 := n3_; clear n0_ n1_ n2_ n3_; clear hb hbox hg) | ((with_reducible refine gate_dst (N := 4) rfl ?_); refine box_event ?hg (N := 4) ?hd (cs := #[.string (⟨#[]⟩ : ByteArray), .int .i64 0]) (t := 68) ?hr ?_; (case hd => rfl); (case hg => rfl); (case hr => first | (go_simp; done) | (go_simp; rfl)); intro gb216 hg w9 hbox hb; have n0_ := Aside0.mk (blk_below (g := gb215) (o := .cells #[.int .i64 0, .int .i64 0, .int .u64 0, .string (⟨#[]⟩ : ByteArray)] 38 (0, 0)) (by (with_reducible repeat (first | apply bN | apply bD | apply bA)); exact BK215.out) hb); have n1_ := Aside0.mk (below_step (by repeat (first | (with_reducible first | exact HB.out | apply lA | apply lN | apply lD | refine below_set ?_ GE215.out) | exact HB.out)) hb); have n2_ := Aside0.mk (hbox); have n3_ := Aside0.mk ((by rw [hg]; exact (below_size (by repeat (first | (with_reducible first | exact HB.out | apply lA | apply lN | apply lD | refine below_set ?_ GE215.out) | exact HB.out))) : w.heap.size ≤ gb216)); have n4_ := Aside0.mk ((by rw [hg]; exact (below_size (by repeat (first | (with_reducible first | exact HB.out | apply lA | apply lN | apply lD | refine below_set ?_ GE215.out) | exact HB.out))) : w.heap.size ≤ gb216)); have n5_ := Aside0.mk ((by rw [hg]; exact Nat.ne_of_lt (blk_lt (g := gb215) (o := .cells #[.int .i64 0, .int .i64 0, .int .u64 0, .string (⟨#[]⟩ : ByteArray)] 38 (0, 0)) (by (with_reducible repeat (first | apply bN | apply bD | apply bA)); exact BK215.out)) : gb215 ≠ gb216)); have n6_ := Aside0.mk ((by rw [hg]; exact Nat.ne_of_gt (blk_lt (g := gb215) (o := .cells #[.int .i64 0, .int .i64 0, .int .u64 0, .string (⟨#[]⟩ : ByteArray)] 38 (0, 0)) (by (with_reducible repeat (first | apply bN | apply bD | apply bA)); exact BK215.out)) : gb216 ≠ gb215)); clear BK215; clear HB; have BK215 := n0_; have HB := n1_; have BK216 := n2_; have GW216 := n3_; have GE216 := n4_; have NB215_216 := n5_; have NB216_215 := n6_; clear n0_ n1_ n2_ n3_ n4_ n5_ n6_; clear hb hbox hg; have hnb10 := NB216_215.out; have hnc10 := NB215_216.out; have hcz11_0 : w9.cell? ⟨gb216, 0, none⟩ = some (.string (⟨#[]⟩ : ByteArray)) := (blk_cell BK216.out 0).trans rfl; have hcz11_1 : w9.cell? ⟨gb216, 1, none⟩ = some (.int .i64 0) := (blk_cell BK216.out 1).trans rfl; have hfz11_0 := blk_frozen BK216.out 0; have hfz11_1 := blk_frozen BK216.out 1) | ((with_reducible refine gate_callee (f := 42) rfl ?_); refine goesL_ (some 20) rfl rfl Try.func42 (by kernel_rfl) rfl #[.agg #[.string a0, .int .i64 0], .int .i64 1] rfl (by (try simp only [List.map_toArray, List.map_cons, List.map_nil]); first | done | rfl) ?_; (with_reducible refine (keywayref03_R_Fixed.calls k a0 0 1 t217 t218 t219 _ A3.out).mono ?_); rintro e w12 ⟨rfl, hb⟩; refine ⟨_, rfl, ?_⟩; have n0_ := Aside0.mk (blk_below (g := gb215) (o := .cells #[.int .i64 0, .int .i64 0, .int .u64 0, .string (⟨#[]⟩ : ByteArray)] 38 (0, 0)) (by (with_reducible repeat (first | apply bN | apply bD | apply bA)); refine blk_far ?_ NB215_216.out _; (with_reducible repeat (first | apply bN | apply bD | apply bA)); refine blk_far ?_ NB215_216.out _; (with_reducible repeat (first | apply bN | apply bD | apply bA)); exact BK215.out) hb); have n1_ := Aside0.mk (blk_below (g := gb216) (o := .cells #[.string a0, .int .i64 0] 68 (0, 0)) (by (with_reducible repeat (first | apply bN | apply bD | apply bA)); refine blk_put (cs := #[.string a0, .int .i64 0]) ?_ 1 _ rfl; (with_reducible repeat (first | apply bN | apply bD | apply bA)); refine blk_put (cs := #[.string (⟨#[]⟩ : ByteArray), .int .i64 0]) ?_ 0 _ rfl; (with_reducible repeat (first | apply bN | apply bD | apply bA)); exact BK216.out) hb); have n2_ := Aside0.mk (below_step (by repeat (first | (with_reducible first | exact HB.out | apply lA | apply lN | apply lD | refine below_set ?_ GE215.out | refine below_set ?_ GE216.out) | exact HB.out)) hb); clear BK215; clear BK216; clear HB; have BK215 := n0_; have BK216 := n1_; have HB := n2_; clear n0_ n1_ n2_; (try clear hb); (try clear hb2); (try clear hk); (try clear hi); have hcz13_0 : w12.cell? ⟨gb216, 0, none⟩ = some (.string a0) := (blk_cell BK216.out 0).trans rfl; have hcz13_1 : w12.cell? ⟨gb216, 1, none⟩ = some (.int .i64 0) := (blk_cell BK216.out 1).trans rfl; have hfz13_0 := blk_frozen BK216.out 0; have hfz13_1 := blk_frozen BK216.out 1) | ((with_reducible refine gate_callee (f := 42) rfl ?_); refine goesL_ (some 25) rfl rfl Try.func42 (by kernel_rfl) rfl #[.agg #[.string t217, .int .i64 t218], .int .i64 4] rfl (by (try simp only [List.map_toArray, List.map_cons, List.map_nil]); first | done | rfl) ?_; (with_reducible refine (keywayref03_R_Fixed.calls k t217 t218 4 t220 t221 t222 _ A4.out).mono ?_); rintro e w14 ⟨rfl, hb⟩; refine ⟨_, rfl, ?_⟩; have n0_ := Aside0.mk (blk_below (g := gb215) (o := .cells #[.int .i64 0, .int .i64 0, .int .u64 0, .string (⟨#[]⟩ : ByteArray)] 38 (0, 0)) (by (with_reducible repeat (first | apply bN | apply bD | apply bA)); refine blk_far ?_ NB215_216.out _; (with_reducible repeat (first | apply bN | apply bD | apply bA)); refine blk_far ?_ NB215_216.out _; (with_reducible repeat (first | apply bN | apply bD | apply bA)); exact BK215.out) hb); have n1_ := Aside0.mk (blk_below (g := gb216) (o := .cells #[.string t217, .int .i64 t218] 68 (0, 0)) (by (with_reducible repeat (first | apply bN | apply bD | apply bA)); refine blk_put (cs := #[.string t217, .int .i64 0]) ?_ 1 _ rfl; (with_reducible repeat (first | apply bN | apply bD | apply bA)); refine blk_put (cs := #[.string a0, .int .i64 0]) ?_ 0 _ rfl; (with_reducible repeat (first | apply bN | apply bD | apply bA)); exact BK216.out) hb); have n2_ := Aside0.mk (below_step (by repeat (first | (with_reducible first | exact HB.out | apply lA | apply lN | apply lD | refine below_set ?_ GE215.out | refine below_set ?_ GE216.out) | exact HB.out)) hb); clear BK215; clear BK216; clear HB; have BK215 := n0_; have BK216 := n1_; have HB := n2_; clear n0_ n1_ n2_; (try clear hb); (try clear hb2); (try clear hk); (try clear hi); have hcz15_0 : w14.cell? ⟨gb216, 0, none⟩ = some (.string t217) := (blk_cell BK216.out 0).trans rfl; have hcz15_1 : w14.cell? ⟨gb216, 1, none⟩ = some (.int .i64 t218) := (blk_cell BK216.out 1).trans rfl; have hfz15_0 := blk_frozen BK216.out 0; have hfz15_1 := blk_frozen BK216.out 1) | ((with_reducible refine gate_callee (f := 42) rfl ?_); refine goesL_ (some 30) rfl rfl Try.func42 (by kernel_rfl) rfl #[.agg #[.string t220, .int .i64 t221], .int .i64 8] rfl (by (try simp only [List.map_toArray, List.map_cons, List.map_nil]); first | done | rfl) ?_; (with_reducible refine (keywayref03_R_Fixed.calls k t220 t221 8 t223 t224 t225 _ A5.out).mono ?_); rintro e w16 ⟨rfl, hb⟩; refine ⟨_, rfl, ?_⟩; have n0_ := Aside0.mk (blk_below (g := gb215) (o := .cells #[.int .i64 0, .int .i64 0, .int .u64 0, .string (⟨#[]⟩ : ByteArray)] 38 (0, 0)) (by (with_reducible repeat (first | apply bN | apply bD | apply bA)); refine blk_far ?_ NB215_216.out _; (with_reducible repeat (first | apply bN | apply bD | apply bA)); refine blk_far ?_ NB215_216.out _; (with_reducible repeat (first | apply bN | apply bD | apply bA)); exact BK215.out) hb); have n1_ := Aside0.mk (blk_below (g := gb216) (o := .cells #[.string t220, .int .i64 t221] 68 (0, 0)) (by (with_reducible repeat (first | apply bN | apply bD | apply bA)); refine blk_put (cs := #[.string t220, .int .i64 t218]) ?_ 1 _ rfl; (with_reducible repeat (first | apply bN | apply bD | apply bA)); refine blk_put (cs := #[.string t217, .int .i64 t218]) ?_ 0 _ rfl; (with_reducible repeat (first | apply bN | apply bD | apply bA)); exact BK216.out) hb); have n2_ := Aside0.mk (below_step (by repeat (first | (with_reducible first | exact HB.out | apply lA | apply lN | apply lD | refine below_set ?_ GE215.out | refine below_set ?_ GE216.out) | exact HB.out)) hb); clear BK215; clear BK216; clear HB; have BK215 := n0_; have BK216 := n1_; have HB := n2_; clear n0_ n1_ n2_; (try clear hb); (try clear hb2); (try clear hk); (try clear hi); have hcz17_0 : w16.cell? ⟨gb216, 0, none⟩ = some (.string t220) := (blk_cell BK216.out 0).trans rfl; have hcz17_1 : w16.cell? ⟨gb216, 1, none⟩ = some (.int .i64 t221) := (blk_cell BK216.out 1).trans rfl; have hfz17_0 := blk_frozen BK216.out 0; have hfz17_1 := blk_frozen BK216.out 1) | ((with_reducible refine gate_callee (f := 42) rfl ?_); refine goesL_ (some 35) rfl rfl Try.func42 (by kernel_rfl) rfl #[.agg #[.string t223, .int .i64 t224], .int .i64 2] rfl (by (try simp only [List.map_toArray, List.map_cons, List.map_nil]); first | done | rfl) ?_; (with_reducible refine (keywayref03_R_Fixed.calls k t223 t224 2 t226 t227 t228 _ A6.out).mono ?_); rintro e w18 ⟨rfl, hb⟩; refine ⟨_, rfl, ?_⟩; have n0_ := Aside0.mk (blk_below (g := gb215) (o := .cells #[.int .i64 0, .int .i64 0, .int .u64 0, .string (⟨#[]⟩ : ByteArray)] 38 (0, 0)) (by (with_reducible repeat (first | apply bN | apply bD | apply bA)); refine blk_far ?_ NB215_216.out _; (with_reducible repeat (first | apply bN | apply bD | apply bA)); refine blk_far ?_ NB215_216.out _; (with_reducible repeat (first | apply bN | apply bD | apply bA)); exact BK215.out) hb); have n1_ := Aside0.mk (blk_below (g := gb216) (o := .cells #[.string t223, .int .i64 t224] 68 (0, 0)) (by (with_reducible repeat (first | apply bN | apply bD | apply bA)); refine blk_put (cs := #[.string t223, .int .i64 t221]) ?_ 1 _ rfl; (with_reducible repeat (first | apply bN | apply bD | apply bA)); refine blk_put (cs := #[.string t220, .int .i64 t221]) ?_ 0 _ rfl; (with_reducible repeat (first | apply bN | apply bD | apply bA)); exact BK216.out) hb); have n2_ := Aside0.mk (below_step (by repeat (first | (with_reducible first | exact HB.out | apply lA | apply lN | apply lD | refine below_set ?_ GE215.out | refine below_set ?_ GE216.out) | exact HB.out)) hb); clear BK215; clear BK216; clear HB; have BK215 := n0_; have BK216 := n1_; have HB := n2_; clear n0_ n1_ n2_; (try clear hb); (try clear hb2); (try clear hk); (try clear hi); have hcz19_0 : w18.cell? ⟨gb216, 0, none⟩ = some (.string t223) := (blk_cell BK216.out 0).trans rfl; have hcz19_1 : w18.cell? ⟨gb216, 1, none⟩ = some (.int .i64 t224) := (blk_cell BK216.out 1).trans rfl; have hfz19_0 := blk_frozen BK216.out 0; have hfz19_1 := blk_frozen BK216.out 1; have hcz20_0 : w18.cell? ⟨gb215, 0, none⟩ = some (.int .i64 0) := (blk_cell BK215.out 0).trans rfl; have hcz20_1 : w18.cell? ⟨gb215, 1, none⟩ = some (.int .i64 0) := (blk_cell BK215.out 1).trans rfl; have hcz20_2 : w18.cell? ⟨gb215, 2, none⟩ = some (.int .u64 0) := (blk_cell BK215.out 2).trans rfl; have hcz20_3 : w18.cell? ⟨gb215, 3, none⟩ = some (.string (⟨#[]⟩ : ByteArray)) := (blk_cell BK215.out 3).trans rfl; have hfz20_0 := blk_frozen BK215.out 0; have hfz20_1 := blk_frozen BK215.out 1; have hfz20_2 := blk_frozen BK215.out 2; have hfz20_3 := blk_frozen BK215.out 3))
   refine bodyPost_ret (results_ct rfl _ _ gb215 38 #[.int .i64 0, .int .i64 0, .int .u64 0, .string (⟨#[]⟩ : ByteArray)] (0, 0) _ rfl (by (with_reducible repeat (first | apply bN | apply bD | apply bA)); refine blk_put (cs := #[.int .i64 0, .int .i64 0, .int .u64 0, .string (⟨#[]⟩ : ByteArray)]) ?_ 3 _ rfl; (with_reducible repeat (first | apply bN | apply bD | apply bA)); refine blk_put (cs := #[.int .i64 0, .int .i64 0, .int .u64 0, .string (⟨#[]⟩ : ByteArray)]) ?_ 2 _ rfl; (with_reducible repeat (first | apply bN | apply bD | apply bA)); refine blk_put (cs := #[.int .i64 0, .int .i64 0, .int .u64 0, .string (⟨#[]⟩ : ByteArray)]) ?_ 1 _ rfl; (with_reducible repeat (first | apply bN | apply bD | apply bA)); refine blk_put (cs := #[.int .i64 0, .int .i64 0, .int .u64 0, .string (⟨#[]⟩ : ByteArray)]) ?_ 0 _ rfl; (with_reducible repeat (first | apply bN | apply bD | apply bA)); refine blk_far ?_ NB215_216.out _; (with_reducible repeat (first | apply bN | apply bD | apply bA)); refine blk_far ?_ NB215_216.out _; (with_reducible repeat (first | apply bN | apply bD | apply bA)); exact BK215.out) Try.underlying38 rfl (by kernel_rfl)) rfl ?_
   exact ⟨by first | rfl | (simp <;> rfl) | (simp [*] <;> rfl), by repeat (first | (with_reducible first | exact HB.out | apply lA | apply lN | apply lD | refine below_set ?_ GE215.out | refine below_set ?_ GE216.out) | exact HB.out)⟩
  ·rw [if_neg c7] at H
   have c7b0 : decide (237 < t228) = false := decide_eq_false c7
   clear c7
   replace H := Option.bind_eq_some_iff.mp H
   obtain ⟨⟨t229, t230, t231⟩, A210, H⟩ := H
   replace H : ((keywayref05_Put.f k (wrap64 (t219)) (wrap64 (t222)) t225 t231).bind fun t234 => (some (wrap64 (t219), wrap64 (t222), t225, t231, (t234.toList == a0.toList)))) = some (r1, r2, r3, r4, r5) := H
   have A21 := Aside0.mk A210
   clear A210
   replace H := Option.bind_eq_some_iff.mp H
   obtain ⟨t234, A220, H⟩ := H
   replace H : (some (wrap64 (t219), wrap64 (t222), t225, t231, (t234.toList == a0.toList))) = some (r1, r2, r3, r4, r5) := H
   have A22 := Aside0.mk A220
   clear A220
   simp only [Option.some.injEq, Prod.mk.injEq] at H
   obtain ⟨rfl, rfl, rfl, rfl, rfl⟩ := H
   go_enter Try.func24, Try.ntmps24
   try go_wp2_with (first | ((with_reducible refine gate_dst (N := 2) rfl ?_); refine box_event ?hg (N := 2) ?hd (cs := #[.int .i64 0, .int .i64 0, .int .u64 0, .string (⟨#[]⟩ : ByteArray)]) (t := 38) ?hr ?_; (case hd => rfl); (case hg => rfl); (case hr => first | (go_simp; done) | (go_simp; rfl)); intro gb215 hg w23 hbox hb; have n0_ := Aside0.mk (below_step (by repeat (first | (with_reducible first | exact HB.out | apply lA | apply lN | apply lD) | exact HB.out)) hb); have n1_ := Aside0.mk (hbox); have n2_ := Aside0.mk ((by rw [hg]; exact (below_size (by repeat (first | (with_reducible first | exact HB.out | apply lA | apply lN | apply lD) | exact HB.out))) : w.heap.size ≤ gb215)); have n3_ := Aside0.mk ((by rw [hg]; exact (below_size (by repeat (first | (with_reducible first | exact HB.out | apply lA | apply lN | apply lD) | exact HB.out))) : w.heap.size ≤ gb215)); clear HB; have HB := n0_; have BK215 := n1_; have GW215 := n2_; have GE215 := n3_; clear n0_ n1_ n2_ n3_; clear hb hbox hg) | ((with_reducible refine gate_dst (N := 4) rfl ?_); refine box_event ?hg (N := 4) ?hd (cs := #[.string (⟨#[]⟩ : ByteArray), .int .i64 0]) (t := 68) ?hr ?_; (case hd => rfl); (case hg => rfl); (case hr => first | (go_simp; done) | (go_simp; rfl)); intro gb216 hg w24 hbox hb; have n0_ := Aside0.mk (blk_below (g := gb215) (o := .cells #[.int .i64 0, .int .i64 0, .int .u64 0, .string (⟨#[]⟩ : ByteArray)] 38 (0, 0)) (by (with_reducible repeat (first | apply bN | apply bD | apply bA)); exact BK215.out) hb); have n1_ := Aside0.mk (below_step (by repeat (first | (with_reducible first | exact HB.out | apply lA | apply lN | apply lD | refine below_set ?_ GE215.out) | exact HB.out)) hb); have n2_ := Aside0.mk (hbox); have n3_ := Aside0.mk ((by rw [hg]; exact (below_size (by repeat (first | (with_reducible first | exact HB.out | apply lA | apply lN | apply lD | refine below_set ?_ GE215.out) | exact HB.out))) : w.heap.size ≤ gb216)); have n4_ := Aside0.mk ((by rw [hg]; exact (below_size (by repeat (first | (with_reducible first | exact HB.out | apply lA | apply lN | apply lD | refine below_set ?_ GE215.out) | exact HB.out))) : w.heap.size ≤ gb216)); have n5_ := Aside0.mk ((by rw [hg]; exact Nat.ne_of_lt (blk_lt (g := gb215) (o := .cells #[.int .i64 0, .int .i64 0, .int .u64 0, .string (⟨#[]⟩ : ByteArray)] 38 (0, 0)) (by (with_reducible repeat (first | apply bN | apply bD | apply bA)); exact BK215.out)) : gb215 ≠ gb216)); have n6_ := Aside0.mk ((by rw [hg]; exact Nat.ne_of_gt (blk_lt (g := gb215) (o := .cells #[.int .i64 0, .int .i64 0, .int .u64 0, .string (⟨#[]⟩ : ByteArray)] 38 (0, 0)) (by (with_reducible repeat (first | apply bN | apply bD | apply bA)); exact BK215.out)) : gb216 ≠ gb215)); clear BK215; clear HB; have BK215 := n0_; have HB := n1_; have BK216 := n2_; have GW216 := n3_; have GE216 := n4_; have NB215_216 := n5_; have NB216_215 := n6_; clear n0_ n1_ n2_ n3_ n4_ n5_ n6_; clear hb hbox hg; have hnb25 := NB216_215.out; have hnc25 := NB215_216.out; have hcz26_0 : w24.cell? ⟨gb216, 0, none⟩ = some (.string (⟨#[]⟩ : ByteArray)) := (blk_cell BK216.out 0).trans rfl; have hcz26_1 : w24.cell? ⟨gb216, 1, none⟩ = some (.int .i64 0) := (blk_cell BK216.out 1).trans rfl; have hfz26_0 := blk_frozen BK216.out 0; have hfz26_1 := blk_frozen BK216.out 1) | ((with_reducible refine gate_callee (f := 42) rfl ?_); refine goesL_ (some 20) rfl rfl Try.func42 (by kernel_rfl) rfl #[.agg #[.string a0, .int .i64 0], .int .i64 1] rfl (by (try simp only [List.map_toArray, List.map_cons, List.map_nil]); first | done | rfl) ?_; (with_reducible refine (keywayref03_R_Fixed.calls k a0 0 1 t217 t218 t219 _ A3.out).mono ?_); rintro e w27 ⟨rfl, hb⟩; refine ⟨_, rfl, ?_⟩; have n0_ := Aside0.mk (blk_below (g := gb215) (o := .cells #[.int .i64 0, .int .i64 0, .int .u64 0, .string (⟨#[]⟩ : ByteArray)] 38 (0, 0)) (by (with_reducible repeat (first | apply bN | apply bD | apply bA)); refine blk_far ?_ NB215_216.out _; (with_reducible repeat (first | apply bN | apply bD | apply bA)); refine blk_far ?_ NB215_216.out _; (with_reducible repeat (first | apply bN | apply bD | apply bA)); exact BK215.out) hb); have n1_ := Aside0.mk (blk_below (g := gb216) (o := .cells #[.string a0, .int .i64 0] 68 (0, 0)) (by (with_reducible repeat (first | apply bN | apply bD | apply bA)); refine blk_put (cs := #[.string a0, .int .i64 0]) ?_ 1 _ rfl; (with_reducible repeat (first | apply bN | apply bD | apply bA)); refine blk_put (cs := #[.string (⟨#[]⟩ : ByteArray), .int .i64 0]) ?_ 0 _ rfl; (with_reducible repeat (first | apply bN | apply bD | apply bA)); exact BK216.out) hb); have n2_ := Aside0.mk (below_step (by repeat (first | (with_reducible first | exact HB.out | apply lA | apply lN | apply lD | refine below_set ?_ GE215.out | refine below_set ?_ GE216.out) | exact HB.out)) hb); clear BK215; clear BK216; clear HB; have BK215 := n0_; have BK216 := n1_; have HB := n2_; clear n0_ n1_ n2_; (try clear hb); (try clear hb2); (try clear hk); (try clear hi); have hcz28_0 : w27.cell? ⟨gb216, 0, none⟩ = some (.string a0) := (blk_cell BK216.out 0).trans rfl; have hcz28_1 : w27.cell? ⟨gb216, 1, none⟩ = some (.int .i64 0) := (blk_cell BK216.out 1).trans rfl; have hfz28_0 := blk_frozen BK216.out 0; have hfz28_1 := blk_frozen BK216.out 1) | ((with_reducible refine gate_callee (f := 42) rfl ?_); refine goesL_ (some 25) rfl rfl Try.func42 (by kernel_rfl) rfl #[.agg #[.string t217, .int .i64 t218], .int .i64 4] rfl (by (try simp only [List.map_toArray, List.map_cons, List.map_nil]); first | done | rfl) ?_; (with_reducible refine (keywayref03_R_Fixed.calls k t217 t218 4 t220 t221 t222 _ A4.out).mono ?_); rintro e w29 ⟨rfl, hb⟩; refine ⟨_, rfl, ?_⟩; have n0_ := Aside0.mk (blk_below (g := gb215) (o := .cells #[.int .i64 0, .int .i64 0, .int .u64 0, .string (⟨#[]⟩ : ByteArray)] 38 (0, 0)) (by (with_reducible repeat (first | apply bN | apply bD | apply bA)); refine blk_far ?_ NB215_216.out _; (with_reducible repeat (first | apply bN | apply bD | apply bA)); refine blk_far ?_ NB215_216.out _; (with_reducible repeat (first | apply bN | apply bD | apply bA)); exact BK215.out) hb); have n1_ := Aside0.mk (blk_below (g := gb216) (o := .cells #[.string t217, .int .i64 t218] 68 (0, 0)) (by (with_reducible repeat (first | apply bN | apply bD | apply bA)); refine blk_put (cs := #[.string t217, .int .i64 0]) ?_ 1 _ rfl; (with_reducible repeat (first | apply bN | apply bD | apply bA)); refine blk_put (cs := #[.string a0, .int .i64 0]) ?_ 0 _ rfl; (with_reducible repeat (first | apply bN | apply bD | apply bA)); exact BK216.out) hb); have n2_ := Aside0.mk (below_step (by repeat (first | (with_reducible first | exact HB.out | apply lA | apply lN | apply lD | refine below_set ?_ GE215.out | refine below_set ?_ GE216.out) | exact HB.out)) hb); clear BK215; clear BK216; clear HB; have BK215 := n0_; have BK216 := n1_; have HB := n2_; clear n0_ n1_ n2_; (try clear hb); (try clear hb2); (try clear hk); (try clear hi); have hcz30_0 : w29.cell? ⟨gb216, 0, none⟩ = some (.string t217) := (blk_cell BK216.out 0).trans rfl; have hcz30_1 : w29.cell? ⟨gb216, 1, none⟩ = some (.int .i64 t218) := (blk_cell BK216.out 1).trans rfl; have hfz30_0 := blk_frozen BK216.out 0; have hfz30_1 := blk_frozen BK216.out 1) | ((with_reducible refine gate_callee (f := 42) rfl ?_); refine goesL_ (some 30) rfl rfl Try.func42 (by kernel_rfl) rfl #[.agg #[.string t220, .int .i64 t221], .int .i64 8] rfl (by (try simp only [List.map_toArray, List.map_cons, List.map_nil]); first | done | rfl) ?_; (with_reducible refine (keywayref03_R_Fixed.calls k t220 t221 8 t223 t224 t225 _ A5.out).mono ?_); rintro e w31 ⟨rfl, hb⟩; refine ⟨_, rfl, ?_⟩; have n0_ := Aside0.mk (blk_below (g := gb215) (o := .cells #[.int .i64 0, .int .i64 0, .int .u64 0, .string (⟨#[]⟩ : ByteArray)] 38 (0, 0)) (by (with_reducible repeat (first | apply bN | apply bD | apply bA)); refine blk_far ?_ NB215_216.out _; (with_reducible repeat (first | apply bN | apply bD | apply bA)); refine blk_far ?_ NB215_216.out _; (with_reducible repeat (first | apply bN | apply bD | apply bA)); exact BK215.out) hb); have n1_ := Aside0.mk (blk_below (g := gb216) (o := .cells #[.string t220, .int .i64 t221] 68 (0, 0)) (by (with_reducible repeat (first | apply bN | apply bD | apply bA)); refine blk_put (cs := #[.string t220, .int .i64 t218]) ?_ 1 _ rfl; (with_reducible repeat (first | apply bN | apply bD | apply bA)); refine blk_put (cs := #[.string t217, .int .i64 t218]) ?_ 0 _ rfl; (with_reducible repeat (first | apply bN | apply bD | apply bA)); exact BK216.out) hb); have n2_ := Aside0.mk (below_step (by repeat (first | (with_reducible first | exact HB.out | apply lA | apply lN | apply lD | refine below_set ?_ GE215.out | refine below_set ?_ GE216.out) | exact HB.out)) hb); clear BK215; clear BK216; clear HB; have BK215 := n0_; have BK216 := n1_; have HB := n2_; clear n0_ n1_ n2_; (try clear hb); (try clear hb2); (try clear hk); (try clear hi); have hcz32_0 : w31.cell? ⟨gb216, 0, none⟩ = some (.string t220) := (blk_cell BK216.out 0).trans rfl; have hcz32_1 : w31.cell? ⟨gb216, 1, none⟩ = some (.int .i64 t221) := (blk_cell BK216.out 1).trans rfl; have hfz32_0 := blk_frozen BK216.out 0; have hfz32_1 := blk_frozen BK216.out 1) | ((with_reducible refine gate_callee (f := 42) rfl ?_); refine goesL_ (some 35) rfl rfl Try.func42 (by kernel_rfl) rfl #[.agg #[.string t223, .int .i64 t224], .int .i64 2] rfl (by (try simp only [List.map_toArray, List.map_cons, List.map_nil]); first | done | rfl) ?_; (with_reducible refine (keywayref03_R_Fixed.calls k t223 t224 2 t226 t227 t228 _ A6.out).mono ?_); rintro e w33 ⟨rfl, hb⟩; refine ⟨_, rfl, ?_⟩; have n0_ := Aside0.mk (blk_below (g := gb215) (o := .cells #[.int .i64 0, .int .i64 0, .int .u64 0, .string (⟨#[]⟩ : ByteArray)] 38 (0, 0)) (by (with_reducible repeat (first | apply bN | apply bD | apply bA)); refine blk_far ?_ NB215_216.out _; (with_reducible repeat (first | apply bN | apply bD | apply bA)); refine blk_far ?_ NB215_216.out _; (with_reducible repeat (first | apply bN | apply bD | apply bA)); exact BK215.out) hb); have n1_ := Aside0.mk (blk_below (g := gb216) (o := .cells #[.string t223, .int .i64 t224] 68 (0, 0)) (by (with_reducible repeat (first | apply bN | apply bD | apply bA)); refine blk_put (cs := #[.string t223, .int .i64 t221]) ?_ 1 _ rfl; (with_reducible repeat (first | apply bN | apply bD | apply bA)); refine blk_put (cs := #[.string t220, .int .i64 t221]) ?_ 0 _ rfl; (with_reducible repeat (first | apply bN | apply bD | apply bA)); exact BK216.out) hb); have n2_ := Aside0.mk (below_step (by repeat (first | (with_reducible first | exact HB.out | apply lA | apply lN | apply lD | refine below_set ?_ GE215.out | refine below_set ?_ GE216.out) | exact HB.out)) hb); clear BK215; clear BK216; clear HB; have BK215 := n0_; have BK216 := n1_; have HB := n2_; clear n0_ n1_ n2_; (try clear hb); (try clear hb2); (try clear hk); (try clear hi); have hcz34_0 : w33.cell? ⟨gb216, 0, none⟩ = some (.string t223) := (blk_cell BK216.out 0).trans rfl; have hcz34_1 : w33.cell? ⟨gb216, 1, none⟩ = some (.int .i64 t224) := (blk_cell BK216.out 1).trans rfl; have hfz34_0 := blk_frozen BK216.out 0; have hfz34_1 := blk_frozen BK216.out 1) | ((with_reducible refine gate_callee (f := 43) rfl ?_); refine goesL_ (some 45) rfl rfl Try.func43 (by kernel_rfl) rfl #[.agg #[.string t226, .int .i64 t227], .int .i64 (wrap64 (t228))] rfl (by (try simp only [List.map_toArray, List.map_cons, List.map_nil]); first | done | rfl) ?_; (with_reducible refine (keywayref03_R_Take.calls t226 t227 (wrap64 (t228)) t229 t230 t231 _ A21.out).mono ?_); rintro e w35 ⟨rfl, hb⟩; refine ⟨_, rfl, ?_⟩; have n0_ := Aside0.mk (blk_below (g := gb215) (o := .cells #[.int .i64 0, .int .i64 0, .int .u64 0, .string (⟨#[]⟩ : ByteArray)] 38 (0, 0)) (by (with_reducible repeat (first | apply bN | apply bD | apply bA)); refine blk_far ?_ NB215_216.out _; (with_reducible repeat (first | apply bN | apply bD | apply bA)); refine blk_far ?_ NB215_216.out _; (with_reducible repeat (first | apply bN | apply bD | apply bA)); exact BK215.out) hb); have n1_ := Aside0.mk (blk_below (g := gb216) (o := .cells #[.string t226, .int .i64 t227] 68 (0, 0)) (by (with_reducible repeat (first | apply bN | apply bD | apply bA)); refine blk_put (cs := #[.string t226, .int .i64 t224]) ?_ 1 _ rfl; (with_reducible repeat (first | apply bN | apply bD | apply bA)); refine blk_put (cs := #[.string t223, .int .i64 t224]) ?_ 0 _ rfl; (with_reducible repeat (first | apply bN | apply bD | apply bA)); exact BK216.out) hb); have n2_ := Aside0.mk (below_step (by repeat (first | (with_reducible first | exact HB.out | apply lA | apply lN | apply lD | refine below_set ?_ GE215.out | refine below_set ?_ GE216.out) | exact HB.out)) hb); clear BK215; clear BK216; clear HB; have BK215 := n0_; have BK216 := n1_; have HB := n2_; clear n0_ n1_ n2_; (try clear hb); (try clear hb2); (try clear hk); (try clear hi)) | ((with_reducible refine gate_dst (N := 9) rfl ?_); refine box_event ?hg (N := 9) ?hd (cs := #[.string (⟨#[]⟩ : ByteArray), .int .i64 0]) (t := 68) ?hr ?_; (case hd => rfl); (case hg => rfl); (case hr => first | (go_simp; done) | (go_simp; rfl)); intro gb232 hg w36 hbox hb; have n0_ := Aside0.mk (blk_below (g := gb215) (o := .cells #[.int .i64 0, .int .i64 0, .int .u64 0, .string (⟨#[]⟩ : ByteArray)] 38 (0, 0)) (by (with_reducible repeat (first | apply bN | apply bD | apply bA)); exact BK215.out) hb); have n1_ := Aside0.mk (blk_below (g := gb216) (o := .cells #[.string t226, .int .i64 t227] 68 (0, 0)) (by (with_reducible repeat (first | apply bN | apply bD | apply bA)); exact BK216.out) hb); have n2_ := Aside0.mk (below_step (by repeat (first | (with_reducible first | exact HB.out | apply lA | apply lN | apply lD | refine below_set ?_ GE215.out | refine below_set ?_ GE216.out) | exact HB.out)) hb); have n3_ := Aside0.mk (hbox); have n4_ := Aside0.mk ((by rw [hg]; exact (below_size (by repeat (first | (with_reducible first | exact HB.out | apply lA | apply lN | apply lD | refine below_set ?_ GE215.out | refine below_set ?_ GE216.out) | exact HB.out))) : w.heap.size ≤ gb232)); have n5_ := Aside0.mk ((by rw [hg]; exact (below_size (by repeat (first | (with_reducible first | exact HB.out | apply lA | apply lN | apply lD | refine below_set ?_ GE215.out | refine below_set ?_ GE216.out) | exact HB.out))) : w.heap.size ≤ gb232)); have n6_ := Aside0.mk ((by rw [hg]; exact Nat.ne_of_lt (blk_lt (g := gb215) (o := .cells #[.int .i64 0, .int .i64 0, .int .u64 0, .string (⟨#[]⟩ : ByteArray)] 38 (0, 0)) (by (with_reducible repeat (first | apply bN | apply bD | apply bA)); exact BK215.out)) : gb215 ≠ gb232)); have n7_ := Aside0.mk ((by rw [hg]; exact Nat.ne_of_gt (blk_lt (g := gb215) (o := .cells #[.int .i64 0, .int .i64 0, .int .u64 0, .string (⟨#[]⟩ : ByteArray)] 38 (0, 0)) (by (with_reducible repeat (first | apply bN | apply bD | apply bA)); exact BK215.out)) : gb232 ≠ gb215)); have n8_ := Aside0.mk ((by rw [hg]; exact Nat.ne_of_lt (blk_lt (g := gb216) (o := .cells #[.string t226, .int .i64 t227] 68 (0, 0)) (by (with_reducible repeat (first | apply bN | apply bD | apply bA)); exact BK216.out)) : gb216 ≠ gb232)); have n9_ := Aside0.mk ((by rw [hg]; exact Nat.ne_of_gt (blk_lt (g := gb216) (o := .cells #[.string t226, .int .i64 t227] 68 (0, 0)) (by (with_reducible repeat (first | apply bN | apply bD | apply bA)); exact BK216.out)) : gb232 ≠ gb216)); clear BK215; clear BK216; clear HB; have BK215 := n0_; have BK216 := n1_; have HB := n2_; have BK232 := n3_; have GW232 := n4_; have GE232 := n5_; have NB215_232 := n6_; have NB232_215 := n7_; have NB216_232 := n8_; have NB232_216 := n9_; clear n0_ n1_ n2_ n3_ n4_ n5_ n6_ n7_ n8_ n9_; clear hb hbox hg; have hnb37 := NB232_215.out; have hnc37 := NB215_232.out; have hnb38 := NB232_216.out; have hnc38 := NB216_232.out; have hcz39_0 : w36.cell? ⟨gb232, 0, none⟩ = some (.string (⟨#[]⟩ : ByteArray)) := (blk_cell BK232.out 0).trans rfl; have hcz39_1 : w36.cell? ⟨gb232, 1, none⟩ = some (.int .i64 0) := (blk_cell BK232.out 1).trans rfl; have hfz39_0 := blk_frozen BK232.out 0; have hfz39_1 := blk_frozen BK232.out 1) | ((with_reducible refine gate_dst (N := 11) rfl ?_); refine box_event ?hg (N := 11) ?hd (cs := #[.int .i64 0, .int .i64 0, .int .u64 0, .string (⟨#[]⟩ : ByteArray)]) (t := 38) ?hr ?_; (case hd => rfl); (case hg => rfl); (case hr => first | (go_simp; done) | (go_simp; rfl)); intro gb233 hg w40 hbox hb; have n0_ := Aside0.mk (blk_below (g := gb215) (o := .cells #[.int .i64 0, .int .i64 0, .int .u64 0, .string (⟨#[]⟩ : ByteArray)] 38 (0, 0)) (by (with_reducible repeat (first | apply bN | apply bD | apply bA)); refine blk_far ?_ NB215_232.out _; (with_reducible repeat (first | apply bN | apply bD | apply bA)); refine blk_far ?_ NB215_232.out _; (with_reducible repeat (first | apply bN | apply bD | apply bA)); exact BK215.out) hb); have n1_ := Aside0.mk (blk_below (g := gb216) (o := .cells #[.string t226, .int .i64 t227] 68 (0, 0)) (by (with_reducible repeat (first | apply bN | apply bD | apply bA)); refine blk_far ?_ NB216_232.out _; (with_reducible repeat (first | apply bN | apply bD | apply bA)); refine blk_far ?_ NB216_232.out _; (with_reducible repeat (first | apply bN | apply bD | apply bA)); exact BK216.out) hb); have n2_ := Aside0.mk (blk_below (g := gb232) (o := .cells #[.string t229, .int .i64 t230] 68 (0, 0)) (by (with_reducible repeat (first | apply bN | apply bD | apply bA)); refine blk_put (cs := #[.string t229, .int .i64 0]) ?_ 1 _ rfl; (with_reducible repeat (first | apply bN | apply bD | apply bA)); refine blk_put (cs := #[.string (⟨#[]⟩ : ByteArray), .int .i64 0]) ?_ 0 _ rfl; (with_reducible repeat (first | apply bN | apply bD | apply bA)); exact BK232.out) hb); have n3_ := Aside0.mk (below_step (by repeat (first | (with_reducible first | exact HB.out | apply lA | apply lN | apply lD | refine below_set ?_ GE215.out | refine below_set ?_ GE216.out | refine below_set ?_ GE232.out) | exact HB.out)) hb); have n4_ := Aside0.mk (hbox); have n5_ := Aside0.mk ((by rw [hg]; exact (below_size (by repeat (first | (with_reducible first | exact HB.out | apply lA | apply lN | apply lD | refine below_set ?_ GE215.out | refine below_set ?_ GE216.out | refine below_set ?_ GE232.out) | exact HB.out))) : w.heap.size ≤ gb233)); have n6_ := Aside0.mk ((by rw [hg]; exact (below_size (by repeat (first | (with_reducible first | exact HB.out | apply lA | apply lN | apply lD | refine below_set ?_ GE215.out | refine below_set ?_ GE216.out | refine below_set ?_ GE232.out) | exact HB.out))) : w.heap.size ≤ gb233)); have n7_ := Aside0.mk ((by rw [hg]; exact Nat.ne_of_lt (blk_lt (g := gb215) (o := .cells #[.int .i64 0, .int .i64 0, .int .u64 0, .string (⟨#[]⟩ : ByteArray)] 38 (0, 0)) (by (with_reducible repeat (first | apply bN | apply bD | apply bA)); refine blk_far ?_ NB215_232.out _; (with_reducible repeat (first | apply bN | apply bD | apply bA)); refine blk_far ?_ NB215_232.out _; (with_reducible repeat (first | apply bN | apply bD | apply bA)); exact BK215.out)) : gb215 ≠ gb233)); have n8_ := Aside0.mk ((by rw [hg]; exact Nat.ne_of_gt (blk_lt (g := gb215) (o := .cells #[.int .i64 0, .int .i64 0, .int .u64 0, .string (⟨#[]⟩ : ByteArray)] 38 (0, 0)) (by (with_reducible repeat (first | apply bN | apply bD | apply bA)); refine blk_far ?_ NB215_232.out _; (with_reducible repeat (first | apply bN | apply bD | apply bA)); refine blk_far ?_ NB215_232.out _; (with_reducible repeat (first | apply bN | apply bD | apply bA)); exact BK215.out)) : gb233 ≠ gb215)); have n9_ := Aside0.mk ((by rw [hg]; exact Nat.ne_of_lt (blk_lt (g := gb216) (o := .cells #[.string t226, .int .i64 t227] 68 (0, 0)) (by (with_reducible repeat (first | apply bN | apply bD | apply bA)); refine blk_far ?_ NB216_232.out _; (with_reducible repeat (first | apply bN | apply bD | apply bA)); refine blk_far ?_ NB216_232.out _; (with_reducible repeat (first | apply bN | apply bD | apply bA)); exact BK216.out)) : gb216 ≠ gb233)); have n10_ := Aside0.mk ((by rw [hg]; exact Nat.ne_of_gt (blk_lt (g := gb216) (o := .cells #[.string t226, .int .i64 t227] 68 (0, 0)) (by (with_reducible repeat (first | apply bN | apply bD | apply bA)); refine blk_far ?_ NB216_232.out _; (with_reducible repeat (first | apply bN | apply bD | apply bA)); refine blk_far ?_ NB216_232.out _; (with_reducible repeat (first | apply bN | apply bD | apply bA)); exact BK216.out)) : gb233 ≠ gb216)); have n11_ := Aside0.mk ((by rw [hg]; exact Nat.ne_of_lt (blk_lt (g := gb232) (o := .cells #[.string t229, .int .i64 t230] 68 (0, 0)) (by (with_reducible repeat (first | apply bN | apply bD | apply bA)); refine blk_put (cs := #[.string t229, .int .i64 0]) ?_ 1 _ rfl; (with_reducible repeat (first | apply bN | apply bD | apply bA)); refine blk_put (cs := #[.string (⟨#[]⟩ : ByteArray), .int .i64 0]) ?_ 0 _ rfl; (with_reducible repeat (first | apply bN | apply bD | apply bA)); exact BK232.out)) : gb232 ≠ gb233)); have n12_ := Aside0.mk ((by rw [hg]; exact Nat.ne_of_gt (blk_lt (g := gb232) (o := .cells #[.string t229, .int .i64 t230] 68 (0, 0)) (by (with_reducible repeat (first | apply bN | apply bD | apply bA)); refine blk_put (cs := #[.string t229, .int .i64 0]) ?_ 1 _ rfl; (with_reducible repeat (first | apply bN | apply bD | apply bA)); refine blk_put (cs := #[.string (⟨#[]⟩ : ByteArray), .int .i64 0]) ?_ 0 _ rfl; (with_reducible repeat (first | apply bN | apply bD | apply bA)); exact BK232.out)) : gb233 ≠ gb232)); clear BK215; clear BK216; clear BK232; clear HB; have BK215 := n0_; have BK216 := n1_; have BK232 := n2_; have HB := n3_; have BK233 := n4_; have GW233 := n5_; have GE233 := n6_; have NB215_233 := n7_; have NB233_215 := n8_; have NB216_233 := n9_; have NB233_216 := n10_; have NB232_233 := n11_; have NB233_232 := n12_; clear n0_ n1_ n2_ n3_ n4_ n5_ n6_ n7_ n8_ n9_ n10_ n11_ n12_; clear hb hbox hg; have hnb41 := NB233_215.out; have hnc41 := NB215_233.out; have hnb42 := NB233_216.out; have hnc42 := NB216_233.out; have hnb43 := NB233_232.out; have hnc43 := NB232_233.out; have hcz44_0 : w40.cell? ⟨gb233, 0, none⟩ = some (.int .i64 0) := (blk_cell BK233.out 0).trans rfl; have hcz44_1 : w40.cell? ⟨gb233, 1, none⟩ = some (.int .i64 0) := (blk_cell BK233.out 1).trans rfl; have hcz44_2 : w40.cell? ⟨gb233, 2, none⟩ = some (.int .u64 0) := (blk_cell BK233.out 2).trans rfl; have hcz44_3 : w40.cell? ⟨gb233, 3, none⟩ = some (.string (⟨#[]⟩ : ByteArray)) := (blk_cell BK233.out 3).trans rfl; have hfz44_0 := blk_frozen BK233.out 0; have hfz44_1 := blk_frozen BK233.out 1; have hfz44_2 := blk_frozen BK233.out 2; have hfz44_3 := blk_frozen BK233.out 3))
   have n0_ : Aside0 (((((w40.setCell ⟨gb233, 0, none⟩ (.int .i64 (wrap64 (t219)))).setCell ⟨gb233, 1, none⟩ (.int .i64 (wrap64 (t222)))).setCell ⟨gb233, 2, none⟩ (.int .u64 t225)).setCell ⟨gb233, 3, none⟩ (.string t231)).heap[gb215]? = some (.cells #[.int .i64 0, .int .i64 0, .int .u64 0, .string (⟨#[]⟩ : ByteArray)] 38 (0, 0))) := ⟨by (with_reducible repeat (first | apply bN | apply bD | apply bA)); refine blk_far ?_ NB215_233.out _; (with_reducible repeat (first | apply bN | apply bD | apply bA)); refine blk_far ?_ NB215_233.out _; (with_reducible repeat (first | apply bN | apply bD | apply bA)); refine blk_far ?_ NB215_233.out _; (with_reducible repeat (first | apply bN | apply bD | apply bA)); refine blk_far ?_ NB215_233.out _; (with_reducible repeat (first | apply bN | apply bD | apply bA)); exact BK215.out⟩
   have n1_ : Aside0 (((((w40.setCell ⟨gb233, 0, none⟩ (.int .i64 (wrap64 (t219)))).setCell ⟨gb233, 1, none⟩ (.int .i64 (wrap64 (t222)))).setCell ⟨gb233, 2, none⟩ (.int .u64 t225)).setCell ⟨gb233, 3, none⟩ (.string t231)).heap[gb216]? = some (.cells #[.string t226, .int .i64 t227] 68 (0, 0))) := ⟨by (with_reducible repeat (first | apply bN | apply bD | apply bA)); refine blk_far ?_ NB216_233.out _; (with_reducible repeat (first | apply bN | apply bD | apply bA)); refine blk_far ?_ NB216_233.out _; (with_reducible repeat (first | apply bN | apply bD | apply bA)); refine blk_far ?_ NB216_233.out _; (with_reducible repeat (first | apply bN | apply bD | apply bA)); refine blk_far ?_ NB216_233.out _; (with_reducible repeat (first | apply bN | apply bD | apply bA)); exact BK216.out⟩
   have n2_ : Aside0 (((((w40.setCell ⟨gb233, 0, none⟩ (.int .i64 (wrap64 (t219)))).setCell ⟨gb233, 1, none⟩ (.int .i64 (wrap64 (t222)))).setCell ⟨gb233, 2, none⟩ (.int .u64 t225)).setCell ⟨gb233, 3, none⟩ (.string t231)).heap[gb232]? = some (.cells #[.string t229, .int .i64 t230] 68 (0, 0))) := ⟨by (with_reducible repeat (first | apply bN | apply bD | apply bA)); refine blk_far ?_ NB232_233.out _; (with_reducible repeat (first | apply bN | apply bD | apply bA)); refine blk_far ?_ NB232_233.out _; (with_reducible repeat (first | apply bN | apply bD | apply bA)); refine blk_far ?_ NB232_233.out _; (with_reducible repeat (first | apply bN | apply bD | apply bA)); refine blk_far ?_ NB232_233.out _; (with_reducible repeat (first | apply bN | apply bD | apply bA)); exact BK232.out⟩
   have n3_ : Aside0 (((((w40.setCell ⟨gb233, 0, none⟩ (.int .i64 (wrap64 (t219)))).setCell ⟨gb233, 1, none⟩ (.int .i64 (wrap64 (t222)))).setCell ⟨gb233, 2, none⟩ (.int .u64 t225)).setCell ⟨gb233, 3, none⟩ (.string t231)).heap[gb233]? = some (.cells #[.int .i64 (wrap64 (t219)), .int .i64 (wrap64 (t222)), .int .u64 t225, .string t231] 38 (0, 0))) := ⟨by (with_reducible repeat (first | apply bN | apply bD | apply bA)); refine blk_put (cs := #[.int .i64 (wrap64 (t219)), .int .i64 (wrap64 (t222)), .int .u64 t225, .string (⟨#[]⟩ : ByteArray)]) ?_ 3 _ rfl; (with_reducible repeat (first | apply bN | apply bD | apply bA)); refine blk_put (cs := #[.int .i64 (wrap64 (t219)), .int .i64 (wrap64 (t222)), .int .u64 0, .string (⟨#[]⟩ : ByteArray)]) ?_ 2 _ rfl; (with_reducible repeat (first | apply bN | apply bD | apply bA)); refine blk_put (cs := #[.int .i64 (wrap64 (t219)), .int .i64 0, .int .u64 0, .string (⟨#[]⟩ : ByteArray)]) ?_ 1 _ rfl; (with_reducible repeat (first | apply bN | apply bD | apply bA)); refine blk_put (cs := #[.int .i64 0, .int .i64 0, .int .u64 0, .string (⟨#[]⟩ : ByteArray)]) ?_ 0 _ rfl; (with_reducible repeat (first | apply bN | apply bD | apply bA)); exact BK233.out⟩
   have n4_ : Aside0 (Below w.heap.size w ((((w40.setCell ⟨gb233, 0, none⟩ (.int .i64 (wrap64 (t219)))).setCell ⟨gb233, 1, none⟩ (.int .i64 (wrap64 (t222)))).setCell ⟨gb233, 2, none⟩ (.int .u64 t225)).setCell ⟨gb233, 3, none⟩ (.string t231))) := ⟨by repeat (first | (with_reducible first | exact HB.out | apply lA | apply lN | apply lD | refine below_set ?_ GE215.out | refine below_set ?_ GE216.out | refine below_set ?_ GE232.out | refine below_set ?_ GE233.out) | exact HB.out)⟩
   (try clear BK215)
   (try clear BK216)
   (try clear BK232)
   (try clear BK233)
   (try clear HB)
   generalize ((((w40.setCell ⟨gb233, 0, none⟩ (.int .i64 (wrap64 (t219)))).setCell ⟨gb233, 1, none⟩ (.int .i64 (wrap64 (t222)))).setCell ⟨gb233, 2, none⟩ (.int .u64 t225)).setCell ⟨gb233, 3, none⟩ (.string t231)) = w45 at n0_ n1_ n2_ n3_ n4_ ⊢
   have BK215 := n0_
   have BK216 := n1_
   have BK232 := n2_
   have BK233 := n3_
   have HB := n4_
   clear n0_ n1_ n2_ n3_ n4_
   have n0_ := Aside0.mk (blk_drew BK215.out)
   have n1_ := Aside0.mk (blk_drew BK216.out)
   have n2_ := Aside0.mk (blk_drew BK232.out)
   have n3_ := Aside0.mk (blk_drew BK233.out)
   have n4_ := Aside0.mk (below_drew1 HB.out)
   clear BK215
   clear BK216
   clear BK232
   clear BK233
   clear HB
   have BK215 := n0_
   have BK216 := n1_
   have BK232 := n2_
   have BK233 := n3_
   have HB := n4_
   clear n0_ n1_ n2_ n3_ n4_
   refine start_ (n := 7) (S := fun w' => w'.cell? ⟨gb233, 0, none⟩ = some (.int .i64 (wrap64 (t219))) ∧ w'.cell? ⟨gb233, 1, none⟩ = some (.int .i64 (wrap64 (t222))) ∧ w'.cell? ⟨gb233, 2, none⟩ = some (.int .u64 t225) ∧ w'.cell? ⟨gb233, 3, none⟩ = some (.string t231)) (ds := []) #[false, false, false, false, false, false, false] (by kernel_rfl) rfl rfl ⟨(blk_cell BK233.out 0).trans rfl, (blk_cell BK233.out 1).trans rfl, (blk_cell BK233.out 2).trans rfl, (blk_cell BK233.out 3).trans rfl⟩ (fun hHeld => ?_)
   generalize w45.drew = w46 at BK215 BK216 BK232 BK233 HB hHeld ⊢
   refine pure_ (i := 3) (N := some 58) (v := ?_) (a' := ?_) #[false, false, false, true, false, false, false] rfl rfl (by kernel_rfl) (fun _ _ _ h => h) (Or.inl ⟨by rfl, ?_⟩) ?_ ?_
   rotate_left
   ·intro w'
    go_simp
    with_reducible rfl
   rotate_left
   ·simp only [Act.put, List.setIfInBounds_toArray, List.set_cons_zero, List.set_cons_succ, i64_w, i32_w]
    rfl
   refine take_ (i := 0) (N := some 55) (v := ?_) (a' := ?_) #[true, false, false, true, false, false, false] rfl rfl (by kernel_rfl) (fun _ _ _ h => h) (Or.inl ⟨by rfl, ?_⟩) hHeld ?_ ?_
   rotate_left
   ·rintro w' ⟨s0, s1, s2, s3⟩
    go_simp
    with_reducible rfl
   rotate_left
   ·simp only [Act.put, List.setIfInBounds_toArray, List.set_cons_zero, List.set_cons_succ, i64_w, i32_w]
    rfl
   refine take_ (i := 1) (N := some 56) (v := ?_) (a' := ?_) #[true, true, false, true, false, false, false] rfl rfl (by kernel_rfl) (fun _ _ _ h => h) (Or.inl ⟨by rfl, ?_⟩) hHeld ?_ ?_
   rotate_left
   ·rintro w' ⟨s0, s1, s2, s3⟩
    go_simp
    with_reducible rfl
   rotate_left
   ·simp only [Act.put, List.setIfInBounds_toArray, List.set_cons_zero, List.set_cons_succ, i64_w, i32_w]
    rfl
   refine one_ (i := 2) (N := some 57) #[true, true, true, true, false, false, false] rfl rfl (by kernel_rfl) (by decide) (fun K hK => ?_)
   refine goes_ Try.func20 (by kernel_rfl) rfl #[.agg #[.int .i64 (wrap64 (t219)), .int .i64 (wrap64 (t222)), .int .u64 t225, .string t231]] (by rfl) rfl rfl (by (try simp only [List.map_toArray, List.map_cons, List.map_nil]); first | done | rfl) ?_
   with_reducible refine (keywayref05_Put.calls k (wrap64 (t219)) (wrap64 (t222)) t225 t231 t234 _ A22.out).mono ?_
   
   rintro e w47 ⟨rfl, hb⟩
   refine ⟨_, rfl, ?_⟩
   have n0_ := Aside0.mk (blk_below (g := gb215) (o := .cells #[.int .i64 0, .int .i64 0, .int .u64 0, .string (⟨#[]⟩ : ByteArray)] 38 (0, 0)) (by (with_reducible repeat (first | apply bN | apply bD | apply bA)); exact BK215.out) hb)
   have n1_ := Aside0.mk (blk_below (g := gb216) (o := .cells #[.string t226, .int .i64 t227] 68 (0, 0)) (by (with_reducible repeat (first | apply bN | apply bD | apply bA)); exact BK216.out) hb)
   have n2_ := Aside0.mk (blk_below (g := gb232) (o := .cells #[.string t229, .int .i64 t230] 68 (0, 0)) (by (with_reducible repeat (first | apply bN | apply bD | apply bA)); exact BK232.out) hb)
   have n3_ := Aside0.mk (blk_below (g := gb233) (o := .cells #[.int .i64 (wrap64 (t219)), .int .i64 (wrap64 (t222)), .int .u64 t225, .string t231] 38 (0, 0)) (by (with_reducible repeat (first | apply bN | apply bD | apply bA)); exact BK233.out) hb)
   have n4_ := Aside0.mk (below_step (by repeat (first | (with_reducible first | exact HB.out | apply lA | apply lN | apply lD | refine below_set ?_ GE215.out | refine below_set ?_ GE216.out | refine below_set ?_ GE232.out | refine below_set ?_ GE233.out) | exact HB.out)) hb)
   clear BK215
   clear BK216
   clear BK232
   clear BK233
   clear HB
   have BK215 := n0_
   have BK216 := n1_
   have BK232 := n2_
   have BK233 := n3_
   have HB := n4_
   clear n0_ n1_ n2_ n3_ n4_
   (try clear hb)
   (try clear hb2)
   (try clear hk)
   (try clear hi)
   refine hK.out _ _ ⟨(blk_cell BK233.out 0).trans rfl, (blk_cell BK233.out 1).trans rfl, (blk_cell BK233.out 2).trans rfl, (blk_cell BK233.out 3).trans rfl⟩ (fun hHeld => ?_)
   clear hK K
   refine norm_ (a' := ?_) ?_ ?_
   rotate_left
   ·show Act.put _ (some 57) _ = _
    simp only [Act.put, List.setIfInBounds_toArray, List.set_cons_zero, List.set_cons_succ, i64_w, i32_w]
    rfl
   refine pure_ (i := 4) (N := some 59) (v := ?_) (a' := ?_) #[true, true, true, true, true, false, false] rfl rfl (by kernel_rfl) (fun _ _ _ h => h) (Or.inl ⟨by rfl, ?_⟩) ?_ ?_
   rotate_left
   ·intro w'
    go_simp
    with_reducible rfl
   rotate_left
   ·simp only [Act.put, List.setIfInBounds_toArray, List.set_cons_zero, List.set_cons_succ, i64_w, i32_w]
    rfl
   refine one_ (i := 5) (N := none) #[true, true, true, true, true, true, false] rfl rfl (by kernel_rfl) (by decide) (fun K hK => ?_)
   have hs48 : w47.cell? ⟨gb215, 0, none⟩ = some (.int .i64 0) := (blk_cell BK215.out 0).trans rfl
   have hfs48 := blk_frozen BK215.out 0
   have hns48_1 := NB216_215.out
   have hns48_2 := NB232_215.out
   have hns48_3 := NB233_215.out
   have hms48_1 := NB215_216.out
   have hms48_2 := NB215_232.out
   have hms48_3 := NB215_233.out
   have hs49 : w47.cell? ⟨gb215, 1, none⟩ = some (.int .i64 0) := (blk_cell BK215.out 1).trans rfl
   have hfs49 := blk_frozen BK215.out 1
   have hns49_1 := NB216_215.out
   have hns49_2 := NB232_215.out
   have hns49_3 := NB233_215.out
   have hms49_1 := NB215_216.out
   have hms49_2 := NB215_232.out
   have hms49_3 := NB215_233.out
   have hs50 : w47.cell? ⟨gb215, 2, none⟩ = some (.int .u64 0) := (blk_cell BK215.out 2).trans rfl
   have hfs50 := blk_frozen BK215.out 2
   have hns50_1 := NB216_215.out
   have hns50_2 := NB232_215.out
   have hns50_3 := NB233_215.out
   have hms50_1 := NB215_216.out
   have hms50_2 := NB215_232.out
   have hms50_3 := NB215_233.out
   have hs51 : w47.cell? ⟨gb215, 3, none⟩ = some (.string (⟨#[]⟩ : ByteArray)) := (blk_cell BK215.out 3).trans rfl
   have hfs51 := blk_frozen BK215.out 3
   have hns51_1 := NB216_215.out
   have hns51_2 := NB232_215.out
   have hns51_3 := NB233_215.out
   have hms51_1 := NB215_216.out
   have hms51_2 := NB215_232.out
   have hms51_3 := NB215_233.out
   refine skip_ (w1 := ?_) (by rfl) rfl ?_ ?_
   rotate_left
   ·go_simp
    rfl
   refine hK.out _ _ ⟨((cell_far (p := ⟨gb215, _, none⟩) NB233_215.out _).trans (((cell_far (p := ⟨gb215, _, none⟩) NB233_215.out _).trans (((cell_far (p := ⟨gb215, _, none⟩) NB233_215.out _).trans (((cell_far (p := ⟨gb215, _, none⟩) NB233_215.out _).trans (hHeld.1)))))))), ((cell_far (p := ⟨gb215, _, none⟩) NB233_215.out _).trans (((cell_far (p := ⟨gb215, _, none⟩) NB233_215.out _).trans (((cell_far (p := ⟨gb215, _, none⟩) NB233_215.out _).trans (((cell_far (p := ⟨gb215, _, none⟩) NB233_215.out _).trans (hHeld.2.1)))))))), ((cell_far (p := ⟨gb215, _, none⟩) NB233_215.out _).trans (((cell_far (p := ⟨gb215, _, none⟩) NB233_215.out _).trans (((cell_far (p := ⟨gb215, _, none⟩) NB233_215.out _).trans (((cell_far (p := ⟨gb215, _, none⟩) NB233_215.out _).trans (hHeld.2.2.1)))))))), ((cell_far (p := ⟨gb215, _, none⟩) NB233_215.out _).trans (((cell_far (p := ⟨gb215, _, none⟩) NB233_215.out _).trans (((cell_far (p := ⟨gb215, _, none⟩) NB233_215.out _).trans (((cell_far (p := ⟨gb215, _, none⟩) NB233_215.out _).trans (hHeld.2.2.2))))))))⟩ (fun hHeld => ?_)
   clear hK K
   refine pure_ (i := 6) (N := some 3) (v := ?_) (a' := ?_) #[true, true, true, true, true, true, true] rfl rfl (by kernel_rfl) (fun _ _ _ h => h) (Or.inl ⟨by rfl, ?_⟩) ?_ ?_
   rotate_left
   ·intro w'
    go_simp
    with_reducible rfl
   rotate_left
   ·simp only [Act.put, List.setIfInBounds_toArray, List.set_cons_zero, List.set_cons_succ, i64_w, i32_w]
    rfl
   refine done_ (by kernel_rfl) ?_
   try go_wp2
   refine bodyPost_ret (results_ct rfl _ _ gb215 38 #[.int .i64 (wrap64 (t219)), .int .i64 (wrap64 (t222)), .int .u64 t225, .string t231] (0, 0) _ rfl (by (with_reducible repeat (first | apply bN | apply bD | apply bA)); refine blk_put (cs := #[.int .i64 (wrap64 (t219)), .int .i64 (wrap64 (t222)), .int .u64 t225, .string (⟨#[]⟩ : ByteArray)]) ?_ 3 _ rfl; (with_reducible repeat (first | apply bN | apply bD | apply bA)); refine blk_put (cs := #[.int .i64 (wrap64 (t219)), .int .i64 (wrap64 (t222)), .int .u64 0, .string (⟨#[]⟩ : ByteArray)]) ?_ 2 _ rfl; (with_reducible repeat (first | apply bN | apply bD | apply bA)); refine blk_put (cs := #[.int .i64 (wrap64 (t219)), .int .i64 0, .int .u64 0, .string (⟨#[]⟩ : ByteArray)]) ?_ 1 _ rfl; (with_reducible repeat (first | apply bN | apply bD | apply bA)); refine blk_put (cs := #[.int .i64 0, .int .i64 0, .int .u64 0, .string (⟨#[]⟩ : ByteArray)]) ?_ 0 _ rfl; (with_reducible repeat (first | apply bN | apply bD | apply bA)); exact BK215.out) Try.underlying38 rfl (by kernel_rfl)) rfl ?_
   exact ⟨by first | rfl | (simp <;> rfl) | (simp [*] <;> rfl), by repeat (first | (with_reducible first | exact HB.out | apply lA | apply lN | apply lD | refine below_set ?_ GE215.out | refine below_set ?_ GE216.out | refine below_set ?_ GE232.out | refine below_set ?_ GE233.out) | exact HB.out)⟩
 ·rw [if_neg c2] at H
  have c2b0 : ((a0.size : Int) == 256) = false := beq_eq_false_iff_ne.mpr c2
  have c2b1 : ((a0.size : Int) != 256) = true := bne_iff_ne.mpr c2
  simp only [Option.some.injEq, Prod.mk.injEq] at H
  obtain ⟨rfl, rfl, rfl, rfl, rfl⟩ := H
  go_enter Try.func24, Try.ntmps24
  go_wp2_with (first | ((with_reducible refine gate_dst (N := 2) rfl ?_); refine box_event ?hg (N := 2) ?hd (cs := #[.int .i64 0, .int .i64 0, .int .u64 0, .string (⟨#[]⟩ : ByteArray)]) (t := 38) ?hr ?_; (case hd => rfl); (case hg => rfl); (case hr => first | (go_simp; done) | (go_simp; rfl)); intro gb215 hg w52 hbox hb; have n0_ := Aside0.mk (below_step (by repeat (first | (with_reducible first | exact HB.out | apply lA | apply lN | apply lD) | exact HB.out)) hb); have n1_ := Aside0.mk (hbox); have n2_ := Aside0.mk ((by rw [hg]; exact (below_size (by repeat (first | (with_reducible first | exact HB.out | apply lA | apply lN | apply lD) | exact HB.out))) : w.heap.size ≤ gb215)); have n3_ := Aside0.mk ((by rw [hg]; exact (below_size (by repeat (first | (with_reducible first | exact HB.out | apply lA | apply lN | apply lD) | exact HB.out))) : w.heap.size ≤ gb215)); clear HB; have HB := n0_; have BK215 := n1_; have GW215 := n2_; have GE215 := n3_; clear n0_ n1_ n2_ n3_; clear hb hbox hg; have hcz53_0 : w52.cell? ⟨gb215, 0, none⟩ = some (.int .i64 0) := (blk_cell BK215.out 0).trans rfl; have hcz53_1 : w52.cell? ⟨gb215, 1, none⟩ = some (.int .i64 0) := (blk_cell BK215.out 1).trans rfl; have hcz53_2 : w52.cell? ⟨gb215, 2, none⟩ = some (.int .u64 0) := (blk_cell BK215.out 2).trans rfl; have hcz53_3 : w52.cell? ⟨gb215, 3, none⟩ = some (.string (⟨#[]⟩ : ByteArray)) := (blk_cell BK215.out 3).trans rfl; have hfz53_0 := blk_frozen BK215.out 0; have hfz53_1 := blk_frozen BK215.out 1; have hfz53_2 := blk_frozen BK215.out 2; have hfz53_3 := blk_frozen BK215.out 3))
  refine bodyPost_ret (results_ct rfl _ _ gb215 38 #[.int .i64 0, .int .i64 0, .int .u64 0, .string (⟨#[]⟩ : ByteArray)] (0, 0) _ rfl (by (with_reducible repeat (first | apply bN | apply bD | apply bA)); refine blk_put (cs := #[.int .i64 0, .int .i64 0, .int .u64 0, .string (⟨#[]⟩ : ByteArray)]) ?_ 3 _ rfl; (with_reducible repeat (first | apply bN | apply bD | apply bA)); refine blk_put (cs := #[.int .i64 0, .int .i64 0, .int .u64 0, .string (⟨#[]⟩ : ByteArray)]) ?_ 2 _ rfl; (with_reducible repeat (first | apply bN | apply bD | apply bA)); refine blk_put (cs := #[.int .i64 0, .int .i64 0, .int .u64 0, .string (⟨#[]⟩ : ByteArray)]) ?_ 1 _ rfl; (with_reducible repeat (first | apply bN | apply bD | apply bA)); refine blk_put (cs := #[.int .i64 0, .int .i64 0, .int .u64 0, .string (⟨#[]⟩ : ByteArray)]) ?_ 0 _ rfl; (with_reducible repeat (first | apply bN | apply bD | apply bA)); exact BK215.out) Try.underlying38 rfl (by kernel_rfl)) rfl ?_
  exact ⟨by first | rfl | (simp <;> rfl) | (simp [*] <;> rfl), by repeat (first | (with_reducible first | exact HB.out | apply lA | apply lN | apply lD | refine below_set ?_ GE215.out) | exact HB.out)⟩

end Go.Proofs.Ytlimgnpkbelmcaa.F
