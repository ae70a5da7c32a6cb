/-
SuperChooses: of two sectors the later state is told, and the Go call of the law answers true; conditions: the numbers are of their kinds.
-/
import Derived.BigRegion
import Derived.Test.YtlimgnpkbelmcaaSuper
import Derived.Test.YtlimgnpkbelmcaaF17
import Derived.Deep.RegionHeld3
namespace Go.Proofs.Ytlimgnpkbelmcaa.Pure
open Go.RowKit Go.Proofs.Ytlimgnpkbelmcaa.F Go.Proofs.YtlimgnpkbelmcaaW.PrintWords Go.Proofs.YtlimgnpkbelmcaaW.PrintLast Go.Proofs.YtlimgnpkbelmcaaW.PrintMore Go.Proofs.Ytlimgnpkbelmcaa.Math
attribute [local go_sem] max2_int min2_int max_two min_two max_three min_three max_four min_four
attribute [local go_sem high] eqA47
theorem empty_list : (⟨#[]⟩ : ByteArray).toList = ([] : List UInt8) := by
  rw [toList_data]
theorem and_range_u (x : Int) (m : Nat) (hm : m < 4294967296) : 0 ≤ Go.bits .and .u64 x m ∧ Go.bits .and .u64 x m ≤ m := by
  have hlt : ((BitVec.ofInt 64 x) &&& (BitVec.ofInt 64 (m : Int))).toNat ≤ m := by
    rw [BitVec.toNat_and, BitVec.ofInt_natCast, BitVec.toNat_ofNat, Nat.mod_eq_of_lt (by omega)]
    exact Nat.and_le_right
  have e : Go.bits .and .u64 x m = (((BitVec.ofInt 64 x) &&& (BitVec.ofInt 64 (m : Int))).toNat : Int) % 18446744073709551616 := by
    unfold Go.bits
    rw [IntKind.wrap_u64]
    rfl
  rw [e]
  generalize ((BitVec.ofInt 64 x) &&& (BitVec.ofInt 64 (m : Int))).toNat = c at *
  omega
/-- A sector that may be none. -/
def May (s : ByteArray) (gen root : Int) : Prop := s = ⟨#[]⟩ ∨ (smay gen root ∧ s = sputB gen root)
theorem get_may {s : ByteArray} {gen root : Int} (h : May s gen root) : Ev (fun k => super_Get.f k s (gen % 2)) (if s = ⟨#[]⟩ then (0, 0, false) else (gen, root, true)) := by
  rcases h with rfl | ⟨h, rfl⟩
  · rw [if_pos rfl]
    refine super_get_no ?_
    rintro ⟨g, q, hm, he, _⟩
    exact sput_ne hm (by rw [← he]; exact empty_list)
  · rw [if_neg (fun he => sput_ne h (by rw [he]; exact empty_list))]
    exact super_get_yes ⟨h, rfl, rfl⟩
theorem may_list {s : ByteArray} {gen root : Int} (h : May s gen root) : (s = ⟨#[]⟩ ∧ (s.toList == ([] : List UInt8)) = true) ∨ (s ≠ ⟨#[]⟩ ∧ (s.toList == ([] : List UInt8)) = false) := by
  rcases h with rfl | ⟨h, rfl⟩
  · exact .inl ⟨rfl, beq_iff_eq.2 empty_list⟩
  · exact .inr ⟨fun he => sput_ne h (by rw [he]; exact empty_list), beq_eq_false_iff_ne.2 (sput_ne h)⟩
theorem choose_law {s t : ByteArray} {gx qx gy qy : Int} (hs : May s gx qx) (ht : May t gy qy) (h0 : gx % 2 = 0) (h1 : gy % 2 = 1) :
    ∃ k r1 r2 ok, super_Choose.f k s t = some (r1, r2, ok) ∧
      (((s.toList == ([] : List UInt8)) = true ∧ (t.toList == ([] : List UInt8)) = true ∧ r1 = 0 ∧ r2 = 0 ∧ ok = false) ∨
       ((s.toList == ([] : List UInt8)) = true ∧ (t.toList == ([] : List UInt8)) = false ∧ r1 = gy ∧ r2 = qy ∧ ok = true) ∨
       ((s.toList == ([] : List UInt8)) = false ∧ (t.toList == ([] : List UInt8)) = true ∧ r1 = gx ∧ r2 = qx ∧ ok = true) ∨
       ((s.toList == ([] : List UInt8)) = false ∧ (t.toList == ([] : List UInt8)) = false ∧ decide (gy < gx) = true ∧ r1 = gx ∧ r2 = qx ∧ ok = true) ∨
       ((s.toList == ([] : List UInt8)) = false ∧ (t.toList == ([] : List UInt8)) = false ∧ decide (gy < gx) = false ∧ r1 = gy ∧ r2 = qy ∧ ok = true)) := by
  have e1 := get_may hs
  have e2 := get_may ht
  rw [h0] at e1
  rw [h1] at e2
  obtain ⟨k, hk⟩ := (choose_tells e1 e2).rounds
  rcases may_list hs with ⟨a1, a2⟩ | ⟨a1, a2⟩ <;> rcases may_list ht with ⟨b1, b2⟩ | ⟨b1, b2⟩
  · simp only [a1, b1, if_true] at hk
    refine ⟨k, _, _, _, by rw [a1, b1]; exact hk, .inl ⟨a2, b2, by simp, by simp, by simp⟩⟩
  · simp only [if_pos a1, if_neg b1] at hk
    refine ⟨k, _, _, _, hk, .inr (.inl ⟨a2, b2, by simp, by simp, by simp⟩)⟩
  · simp only [if_neg a1, if_pos b1] at hk
    refine ⟨k, _, _, _, hk, .inr (.inr (.inl ⟨a2, b2, by simp, by simp, by simp⟩))⟩
  · simp only [if_neg a1, if_neg b1] at hk
    by_cases hlt : gx < gy
    · rw [if_pos ⟨trivial, fun _ => hlt⟩] at hk
      exact ⟨k, _, _, _, hk, .inr (.inr (.inr (.inr ⟨a2, b2, decide_eq_false (by omega), rfl, rfl, rfl⟩)))⟩
    · rw [if_neg (fun h => hlt (h.2 trivial)), if_pos trivial] at hk
      exact ⟨k, _, _, _, hk, .inr (.inr (.inr (.inl ⟨a2, b2, decide_eq_true (by omega), rfl, rfl, rfl⟩)))⟩
/-- Two states lie in memory, and what was there before is as it was. -/
structure SB (w : World) (X Y : Nat) (gx qx gy qy : Int) (W : World) : Prop where
  x : W.heap[X]? = some (.cells #[.int .u64 gx, .int .i64 qx] 47 (0, 0))
  y : W.heap[Y]? = some (.cells #[.int .u64 gy, .int .i64 qy] 47 (0, 0))
  below : Below w.heap.size w W
theorem SB.drew {w W : World} {X Y : Nat} {gx qx gy qy : Int} (h : SB w X Y gx qx gy qy W) : SB w X Y gx qx gy qy W.drew := ⟨h.x, h.y, h.below.drew⟩
theorem SB.alloc {w W : World} {X Y : Nat} {gx qx gy qy : Int} (h : SB w X Y gx qx gy qy W) (o : Obj) : SB w X Y gx qx gy qy (W.alloc o) := ⟨blk_alloc h.x o, blk_alloc h.y o, below_alloc h.below o⟩
theorem SB.call {w W W' : World} {X Y : Nat} {gx qx gy qy : Int} (h : SB w X Y gx qx gy qy W) (hb : Below W.heap.size W W') : SB w X Y gx qx gy qy W' := ⟨blk_below h.x hb, blk_below h.y hb, below_step h.below hb⟩
theorem SB.all {w W : World} {X Y : Nat} {gx qx gy qy : Int} (h : SB w X Y gx qx gy qy W) : SB w X Y gx qx gy qy W ∧ W.cell? ⟨X, 0, none⟩ = some (.int .u64 gx) ∧ W.cell? ⟨X, 1, none⟩ = some (.int .i64 qx) ∧ W.cell? ⟨Y, 0, none⟩ = some (.int .u64 gy) ∧ W.cell? ⟨Y, 1, none⟩ = some (.int .i64 qy) :=
  ⟨h, (blk_cell h.x 0).trans rfl, (blk_cell h.x 1).trans rfl, (blk_cell h.y 0).trans rfl, (blk_cell h.y 1).trans rfl⟩
theorem blk_at_size (W : World) (o : Obj) {n : Nat} (h : W.heap.size = n) : (W.alloc o).heap[n]? = some o := h ▸ blk_new W o
set_option maxHeartbeats 4000000 in
set_option maxRecDepth 100000 in
theorem superChooses_walk (a0_0 a0_1 a1_0 a1_1 a2 : Int) (w : World) (_ : (Lit.int .u64 a0_0).wf = true) (_ : (Lit.int .i64 a0_1).wf = true) (_ : (Lit.int .u64 a1_0).wf = true) (_ : (Lit.int .i64 a1_1).wf = true) (_ : (Lit.int .i64 a2).wf = true) :
    Calls Try.prog 12 #[.agg #[.int .u64 a0_0, .int .i64 a0_1], .agg #[.int .u64 a1_0, .int .i64 a1_1], .int .i64 a2] w fun e w' => e = .returned (.bool true) ∧ Below w.heap.size w w' := by
  obtain ⟨gx, hgx, x0, x1, x2⟩ : ∃ gx, IntKind.u64.wrap (Go.bits .and .u64 a0_0 1023 * 2) = gx ∧ 0 ≤ gx ∧ gx < 18446744073709551616 ∧ gx % 2 = 0 := by
    have := and_range_u a0_0 1023 (by decide)
    refine ⟨_, rfl, ?_⟩
    rw [IntKind.wrap_u64]
    omega
  obtain ⟨gy, hgy, y0, y1, y2⟩ : ∃ gy, IntKind.u64.wrap (IntKind.u64.wrap (Go.bits .and .u64 a1_0 1023 * 2) + 1) = gy ∧ 0 ≤ gy ∧ gy < 18446744073709551616 ∧ gy % 2 = 1 := by
    have := and_range_u a1_0 1023 (by decide)
    refine ⟨_, rfl, ?_⟩
    rw [IntKind.wrap_u64, IntKind.wrap_u64]
    omega
  obtain ⟨kx, hx⟩ := (law_put_tells gx a0_1 x0 x1).rounds
  obtain ⟨ky, hy⟩ := (law_put_tells gy a1_1 y0 y1).rounds
  have mx : May (if smay gx a0_1 then sputB gx a0_1 else ⟨#[]⟩) gx a0_1 := by
    split
    · exact .inr ⟨by assumption, rfl⟩
    · exact .inl rfl
  have my : May (if smay gy a1_1 then sputB gy a1_1 else ⟨#[]⟩) gy a1_1 := by
    split
    · exact .inr ⟨by assumption, rfl⟩
    · exact .inl rfl
  generalize (if smay gx a0_1 then sputB gx a0_1 else ⟨#[]⟩) = S at hx mx
  generalize (if smay gy a1_1 then sputB gy a1_1 else ⟨#[]⟩) = T at hy my
  have m0 : ∀ g q, May ⟨#[]⟩ g q := fun g q => .inl rfl
  have C00 := Aside0.mk (choose_law mx my x2 y2)
  have C10 := Aside0.mk (choose_law (m0 gx a0_1) my x2 y2)
  have C01 := Aside0.mk (choose_law mx (m0 gy a1_1) x2 y2)
  have C11 := Aside0.mk (choose_law (m0 gx a0_1) (m0 gy a1_1) x2 y2)
  obtain ⟨ka, hka⟩ := super_awake.rounds
  have HA := Aside0.mk hka
  have HX := Aside0.mk hx
  have HY := Aside0.mk hy
  have hu := Try.underlying47
  have he : ((⟨#[]⟩ : ByteArray).toList == ([] : List UInt8)) = true := beq_iff_eq.2 empty_list
  clear hx hy mx my m0 hka x0 x1 x2 y0 y1 y2
  go_enter Try.func12, Try.ntmps12
  go_wp2
  all_goals go_region
  all_goals go_wp2
  all_goals go_region
  all_goals go_wp2
  · have hB : SB w (w.heap.size + 1 + 1) (w.heap.size + 1 + 1 + 1) gx a0_1 gy a1_1 ((((w.alloc (.cells #[.int .u64 a0_0, .int .i64 a0_1] 47)).alloc (.cells #[.int .u64 a1_0, .int .i64 a1_1] 47)).alloc (.cells #[.int .u64 gx, .int .i64 a0_1] 47)).alloc (.cells #[.int .u64 gy, .int .i64 a1_1] 47)).drew.drew := by
      refine ⟨?_, ?_, ?_⟩
      · exact blk_drew (blk_drew (blk_alloc (blk_at_size _ _ (by simp)) _))
      · exact blk_drew (blk_drew (blk_at_size _ _ (by simp)))
      · repeat (first | exact Below.refl _ _ | apply below_drew | apply below_alloc)
    go_region_held3 (fun w' => SB w (w.heap.size + 1 + 1) (w.heap.size + 1 + 1 + 1) gx a0_1 gy a1_1 w' ∧ w'.cell? ⟨w.heap.size + 1 + 1, 0, none⟩ = some (.int .u64 gx) ∧ w'.cell? ⟨w.heap.size + 1 + 1, 1, none⟩ = some (.int .i64 a0_1) ∧ w'.cell? ⟨w.heap.size + 1 + 1 + 1, 0, none⟩ = some (.int .u64 gy) ∧ w'.cell? ⟨w.heap.size + 1 + 1 + 1, 1, none⟩ = some (.int .i64 a1_1))
      (exact SB.all (by first | assumption | exact SB.drew (by assumption)))
      (first | (go_at_call 29; with_reducible refine (keywaylaw07_put.calls kx gx _ S _ HX.out).mono ?_; rintro e w1 ⟨rfl, hb1⟩; have hB1 := SB.call (SB.drew hB) hb1) | (go_at_call 29; with_reducible refine (keywaylaw07_put.calls ky gy _ T _ HY.out).mono ?_; rintro e w2 ⟨rfl, hb2⟩; have hB2 := SB.call hB1 hb2))
    cases hq1 : (Go.bits .and .i64 a2 1 == 1) <;> cases hq2 : (Go.bits .and .i64 a2 2 == 2)
    case false.false =>
      obtain ⟨kc, r1, r2, ok, hch, hcase⟩ := C00.out
      have HCo := Aside0.mk hch
      clear hch C00 C01 C10 C11 HX HY
      rcases hcase with ⟨e1, e2, rfl, rfl, rfl⟩ | ⟨e1, e2, rfl, rfl, rfl⟩ | ⟨e1, e2, rfl, rfl, rfl⟩ | ⟨e1, e2, e3, rfl, rfl, rfl⟩ | ⟨e1, e2, e3, rfl, rfl, rfl⟩
      all_goals first
        | exact Bool.noConfusion (e1.symm.trans he)
        | exact Bool.noConfusion (e2.symm.trans he)
        | go_wp2_with (first | (go_at_call 32; with_reducible refine (super_Choose.calls kc _ _ _ _ _ _ HCo.out).mono ?_; rintro e w3 ⟨rfl, hb3⟩; have hB3 := SB.call hB2 hb3; have dx0 := fun o o' => (SB.all (SB.alloc (SB.alloc hB3 o) o')).2.1; have dx1 := fun o o' => (SB.all (SB.alloc (SB.alloc hB3 o) o')).2.2.1; have dy0 := fun o o' => (SB.all (SB.alloc (SB.alloc hB3 o) o')).2.2.2.1; have dy1 := fun o o' => (SB.all (SB.alloc (SB.alloc hB3 o) o')).2.2.2.2) | (go_at_call 28; with_reducible refine (keywaylaw07_awake.calls ka true _ HA.out).mono ?_; rintro e w4 ⟨rfl, hb4⟩; obtain ⟨hc4, hf4⟩ := bcell hb4))
          go_ret
          exact ⟨rfl, below_step (below_alloc (below_alloc hB3.below _) _) hb4⟩
    case false.true =>
      obtain ⟨kc, r1, r2, ok, hch, hcase⟩ := C01.out
      have HCo := Aside0.mk hch
      clear hch C00 C01 C10 C11 HX HY
      rcases hcase with ⟨e1, e2, rfl, rfl, rfl⟩ | ⟨e1, e2, rfl, rfl, rfl⟩ | ⟨e1, e2, rfl, rfl, rfl⟩ | ⟨e1, e2, e3, rfl, rfl, rfl⟩ | ⟨e1, e2, e3, rfl, rfl, rfl⟩
      all_goals first
        | exact Bool.noConfusion (e1.symm.trans he)
        | exact Bool.noConfusion (e2.symm.trans he)
        | go_wp2_with (first | (go_at_call 32; with_reducible refine (super_Choose.calls kc _ _ _ _ _ _ HCo.out).mono ?_; rintro e w3 ⟨rfl, hb3⟩; have hB3 := SB.call hB2 hb3; have dx0 := fun o o' => (SB.all (SB.alloc (SB.alloc hB3 o) o')).2.1; have dx1 := fun o o' => (SB.all (SB.alloc (SB.alloc hB3 o) o')).2.2.1; have dy0 := fun o o' => (SB.all (SB.alloc (SB.alloc hB3 o) o')).2.2.2.1; have dy1 := fun o o' => (SB.all (SB.alloc (SB.alloc hB3 o) o')).2.2.2.2) | (go_at_call 28; with_reducible refine (keywaylaw07_awake.calls ka true _ HA.out).mono ?_; rintro e w4 ⟨rfl, hb4⟩; obtain ⟨hc4, hf4⟩ := bcell hb4))
          go_ret
          exact ⟨rfl, below_step (below_alloc (below_alloc hB3.below _) _) hb4⟩
    case true.false =>
      obtain ⟨kc, r1, r2, ok, hch, hcase⟩ := C10.out
      have HCo := Aside0.mk hch
      clear hch C00 C01 C10 C11 HX HY
      rcases hcase with ⟨e1, e2, rfl, rfl, rfl⟩ | ⟨e1, e2, rfl, rfl, rfl⟩ | ⟨e1, e2, rfl, rfl, rfl⟩ | ⟨e1, e2, e3, rfl, rfl, rfl⟩ | ⟨e1, e2, e3, rfl, rfl, rfl⟩
      all_goals first
        | exact Bool.noConfusion (e1.symm.trans he)
        | exact Bool.noConfusion (e2.symm.trans he)
        | go_wp2_with (first | (go_at_call 32; with_reducible refine (super_Choose.calls kc _ _ _ _ _ _ HCo.out).mono ?_; rintro e w3 ⟨rfl, hb3⟩; have hB3 := SB.call hB2 hb3; have dx0 := fun o o' => (SB.all (SB.alloc (SB.alloc hB3 o) o')).2.1; have dx1 := fun o o' => (SB.all (SB.alloc (SB.alloc hB3 o) o')).2.2.1; have dy0 := fun o o' => (SB.all (SB.alloc (SB.alloc hB3 o) o')).2.2.2.1; have dy1 := fun o o' => (SB.all (SB.alloc (SB.alloc hB3 o) o')).2.2.2.2) | (go_at_call 28; with_reducible refine (keywaylaw07_awake.calls ka true _ HA.out).mono ?_; rintro e w4 ⟨rfl, hb4⟩; obtain ⟨hc4, hf4⟩ := bcell hb4))
          go_ret
          exact ⟨rfl, below_step (below_alloc (below_alloc hB3.below _) _) hb4⟩
    case true.true =>
      obtain ⟨kc, r1, r2, ok, hch, hcase⟩ := C11.out
      have HCo := Aside0.mk hch
      clear hch C00 C01 C10 C11 HX HY
      rcases hcase with ⟨e1, e2, rfl, rfl, rfl⟩ | ⟨e1, e2, rfl, rfl, rfl⟩ | ⟨e1, e2, rfl, rfl, rfl⟩ | ⟨e1, e2, e3, rfl, rfl, rfl⟩ | ⟨e1, e2, e3, rfl, rfl, rfl⟩
      all_goals first
        | exact Bool.noConfusion (e1.symm.trans he)
        | exact Bool.noConfusion (e2.symm.trans he)
        | go_wp2_with (first | (go_at_call 32; with_reducible refine (super_Choose.calls kc _ _ _ _ _ _ HCo.out).mono ?_; rintro e w3 ⟨rfl, hb3⟩; have hB3 := SB.call hB2 hb3; have dx0 := fun o o' => (SB.all (SB.alloc (SB.alloc hB3 o) o')).2.1; have dx1 := fun o o' => (SB.all (SB.alloc (SB.alloc hB3 o) o')).2.2.1; have dy0 := fun o o' => (SB.all (SB.alloc (SB.alloc hB3 o) o')).2.2.2.1; have dy1 := fun o o' => (SB.all (SB.alloc (SB.alloc hB3 o) o')).2.2.2.2) | (go_at_call 28; with_reducible refine (keywaylaw07_awake.calls ka true _ HA.out).mono ?_; rintro e w4 ⟨rfl, hb4⟩; obtain ⟨hc4, hf4⟩ := bcell hb4))
          go_ret
          exact ⟨rfl, below_step (below_alloc (below_alloc hB3.below _) _) hb4⟩
  · have hB : SB w (w.heap.size + 1 + 1 + 1) (w.heap.size + 1 + 1) gx a0_1 gy a1_1 ((((w.alloc (.cells #[.int .u64 a0_0, .int .i64 a0_1] 47)).alloc (.cells #[.int .u64 a1_0, .int .i64 a1_1] 47)).alloc (.cells #[.int .u64 gy, .int .i64 a1_1] 47)).alloc (.cells #[.int .u64 gx, .int .i64 a0_1] 47)).drew.drew := by
      refine ⟨?_, ?_, ?_⟩
      · exact blk_drew (blk_drew (blk_at_size _ _ (by simp)))
      · exact blk_drew (blk_drew (blk_alloc (blk_at_size _ _ (by simp)) _))
      · repeat (first | exact Below.refl _ _ | apply below_drew | apply below_alloc)
    go_region_held3 (fun w' => SB w (w.heap.size + 1 + 1 + 1) (w.heap.size + 1 + 1) gx a0_1 gy a1_1 w' ∧ w'.cell? ⟨w.heap.size + 1 + 1 + 1, 0, none⟩ = some (.int .u64 gx) ∧ w'.cell? ⟨w.heap.size + 1 + 1 + 1, 1, none⟩ = some (.int .i64 a0_1) ∧ w'.cell? ⟨w.heap.size + 1 + 1, 0, none⟩ = some (.int .u64 gy) ∧ w'.cell? ⟨w.heap.size + 1 + 1, 1, none⟩ = some (.int .i64 a1_1))
      (exact SB.all (by first | assumption | exact SB.drew (by assumption)))
      (first | (go_at_call 29; with_reducible refine (keywaylaw07_put.calls kx gx _ S _ HX.out).mono ?_; rintro e w1 ⟨rfl, hb1⟩; have hB1 := SB.call (SB.drew hB) hb1) | (go_at_call 29; with_reducible refine (keywaylaw07_put.calls ky gy _ T _ HY.out).mono ?_; rintro e w2 ⟨rfl, hb2⟩; have hB2 := SB.call hB1 hb2))
    cases hq1 : (Go.bits .and .i64 a2 1 == 1) <;> cases hq2 : (Go.bits .and .i64 a2 2 == 2)
    case false.false =>
      obtain ⟨kc, r1, r2, ok, hch, hcase⟩ := C00.out
      have HCo := Aside0.mk hch
      clear hch C00 C01 C10 C11 HX HY
      rcases hcase with ⟨e1, e2, rfl, rfl, rfl⟩ | ⟨e1, e2, rfl, rfl, rfl⟩ | ⟨e1, e2, rfl, rfl, rfl⟩ | ⟨e1, e2, e3, rfl, rfl, rfl⟩ | ⟨e1, e2, e3, rfl, rfl, rfl⟩
      all_goals first
        | exact Bool.noConfusion (e1.symm.trans he)
        | exact Bool.noConfusion (e2.symm.trans he)
        | go_wp2_with (first | (go_at_call 32; with_reducible refine (super_Choose.calls kc _ _ _ _ _ _ HCo.out).mono ?_; rintro e w3 ⟨rfl, hb3⟩; have hB3 := SB.call hB2 hb3; have dx0 := fun o o' => (SB.all (SB.alloc (SB.alloc hB3 o) o')).2.1; have dx1 := fun o o' => (SB.all (SB.alloc (SB.alloc hB3 o) o')).2.2.1; have dy0 := fun o o' => (SB.all (SB.alloc (SB.alloc hB3 o) o')).2.2.2.1; have dy1 := fun o o' => (SB.all (SB.alloc (SB.alloc hB3 o) o')).2.2.2.2) | (go_at_call 28; with_reducible refine (keywaylaw07_awake.calls ka true _ HA.out).mono ?_; rintro e w4 ⟨rfl, hb4⟩; obtain ⟨hc4, hf4⟩ := bcell hb4))
          go_ret
          exact ⟨rfl, below_step (below_alloc (below_alloc hB3.below _) _) hb4⟩
    case false.true =>
      obtain ⟨kc, r1, r2, ok, hch, hcase⟩ := C01.out
      have HCo := Aside0.mk hch
      clear hch C00 C01 C10 C11 HX HY
      rcases hcase with ⟨e1, e2, rfl, rfl, rfl⟩ | ⟨e1, e2, rfl, rfl, rfl⟩ | ⟨e1, e2, rfl, rfl, rfl⟩ | ⟨e1, e2, e3, rfl, rfl, rfl⟩ | ⟨e1, e2, e3, rfl, rfl, rfl⟩
      all_goals first
        | exact Bool.noConfusion (e1.symm.trans he)
        | exact Bool.noConfusion (e2.symm.trans he)
        | go_wp2_with (first | (go_at_call 32; with_reducible refine (super_Choose.calls kc _ _ _ _ _ _ HCo.out).mono ?_; rintro e w3 ⟨rfl, hb3⟩; have hB3 := SB.call hB2 hb3; have dx0 := fun o o' => (SB.all (SB.alloc (SB.alloc hB3 o) o')).2.1; have dx1 := fun o o' => (SB.all (SB.alloc (SB.alloc hB3 o) o')).2.2.1; have dy0 := fun o o' => (SB.all (SB.alloc (SB.alloc hB3 o) o')).2.2.2.1; have dy1 := fun o o' => (SB.all (SB.alloc (SB.alloc hB3 o) o')).2.2.2.2) | (go_at_call 28; with_reducible refine (keywaylaw07_awake.calls ka true _ HA.out).mono ?_; rintro e w4 ⟨rfl, hb4⟩; obtain ⟨hc4, hf4⟩ := bcell hb4))
          go_ret
          exact ⟨rfl, below_step (below_alloc (below_alloc hB3.below _) _) hb4⟩
    case true.false =>
      obtain ⟨kc, r1, r2, ok, hch, hcase⟩ := C10.out
      have HCo := Aside0.mk hch
      clear hch C00 C01 C10 C11 HX HY
      rcases hcase with ⟨e1, e2, rfl, rfl, rfl⟩ | ⟨e1, e2, rfl, rfl, rfl⟩ | ⟨e1, e2, rfl, rfl, rfl⟩ | ⟨e1, e2, e3, rfl, rfl, rfl⟩ | ⟨e1, e2, e3, rfl, rfl, rfl⟩
      all_goals first
        | exact Bool.noConfusion (e1.symm.trans he)
        | exact Bool.noConfusion (e2.symm.trans he)
        | go_wp2_with (first | (go_at_call 32; with_reducible refine (super_Choose.calls kc _ _ _ _ _ _ HCo.out).mono ?_; rintro e w3 ⟨rfl, hb3⟩; have hB3 := SB.call hB2 hb3; have dx0 := fun o o' => (SB.all (SB.alloc (SB.alloc hB3 o) o')).2.1; have dx1 := fun o o' => (SB.all (SB.alloc (SB.alloc hB3 o) o')).2.2.1; have dy0 := fun o o' => (SB.all (SB.alloc (SB.alloc hB3 o) o')).2.2.2.1; have dy1 := fun o o' => (SB.all (SB.alloc (SB.alloc hB3 o) o')).2.2.2.2) | (go_at_call 28; with_reducible refine (keywaylaw07_awake.calls ka true _ HA.out).mono ?_; rintro e w4 ⟨rfl, hb4⟩; obtain ⟨hc4, hf4⟩ := bcell hb4))
          go_ret
          exact ⟨rfl, below_step (below_alloc (below_alloc hB3.below _) _) hb4⟩
    case true.true =>
      obtain ⟨kc, r1, r2, ok, hch, hcase⟩ := C11.out
      have HCo := Aside0.mk hch
      clear hch C00 C01 C10 C11 HX HY
      rcases hcase with ⟨e1, e2, rfl, rfl, rfl⟩ | ⟨e1, e2, rfl, rfl, rfl⟩ | ⟨e1, e2, rfl, rfl, rfl⟩ | ⟨e1, e2, e3, rfl, rfl, rfl⟩ | ⟨e1, e2, e3, rfl, rfl, rfl⟩
      all_goals first
        | exact Bool.noConfusion (e1.symm.trans he)
        | exact Bool.noConfusion (e2.symm.trans he)
        | go_wp2_with (first | (go_at_call 32; with_reducible refine (super_Choose.calls kc _ _ _ _ _ _ HCo.out).mono ?_; rintro e w3 ⟨rfl, hb3⟩; have hB3 := SB.call hB2 hb3; have dx0 := fun o o' => (SB.all (SB.alloc (SB.alloc hB3 o) o')).2.1; have dx1 := fun o o' => (SB.all (SB.alloc (SB.alloc hB3 o) o')).2.2.1; have dy0 := fun o o' => (SB.all (SB.alloc (SB.alloc hB3 o) o')).2.2.2.1; have dy1 := fun o o' => (SB.all (SB.alloc (SB.alloc hB3 o) o')).2.2.2.2) | (go_at_call 28; with_reducible refine (keywaylaw07_awake.calls ka true _ HA.out).mono ?_; rintro e w4 ⟨rfl, hb4⟩; obtain ⟨hc4, hf4⟩ := bcell hb4))
          go_ret
          exact ⟨rfl, below_step (below_alloc (below_alloc hB3.below _) _) hb4⟩
end Go.Proofs.Ytlimgnpkbelmcaa.Pure
