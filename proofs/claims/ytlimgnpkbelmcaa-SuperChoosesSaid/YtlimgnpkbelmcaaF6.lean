/- Contracts of the Go functions that the statements of this seat reach, each for every input at which its Lean function answers; written by a program. -/
import Derived.Test.YtlimgnpkbelmcaaF0
import Derived.Test.YtlimgnpkbelmcaaF3
namespace Go.Proofs.Ytlimgnpkbelmcaa.F
open Go.RowKit Go.Proofs.YtlimgnpkbelmcaaW.PrintWords Go.Proofs.YtlimgnpkbelmcaaW.PrintLast Go.Proofs.YtlimgnpkbelmcaaW.PrintMore
attribute [local go_sem] max2_int min2_int max_two min_two max_three min_three max_four min_four   -- for this text's walks alone
set_option linter.unusedVariables false
set_option linter.unusedSimpArgs false

/-! ### page_May: function 22 -/
def page_May.f (a0_0 : Int) (a0_1 : Int) (_ : Int) (a0_3 : ByteArray) : Option (Bool) := if a0_0 ≥ 1 then (if a0_0 ≤ 4 then (if a0_1 ≥ 0 then (if a0_1 < 16384 then (some (decide ((a0_3.size : Int) ≤ 237))) else (some false)) else (some false)) else (some false)) else (some false)
set_option maxHeartbeats 1000000 in
theorem page_May.calls (a0_0 a0_1 a0_2 : Int) (a0_3 : ByteArray) (r : Bool) (w : World) (h : page_May.f a0_0 a0_1 a0_2 a0_3 = some r) :
  Calls Try.prog 22 #[.agg #[.int .i64 a0_0, .int .i64 a0_1, .int .u64 a0_2, .string a0_3]] w fun e w' => e = .returned (.bool r) ∧ Below w.heap.size w w' := by
 have H := Aside0.mk h
 clear h
 have hu := Try.underlying35
 go_enter Try.func22, Try.ntmps22
 go_wp2
 all_goals
  go_ret
  have h := H.out
  unfold page_May.f at h
  repeat (first | rw [if_pos (by omega)] at h | rw [if_neg (by omega)] at h)
  obtain rfl := Option.some.inj h
  exact ⟨rfl, (Below.refl _ _).alloc (Nat.le_refl _) _⟩


/-! ### wire_Fixed: function 36 -/
def wire_Fixed.l0 : Nat → Int → List Int → Int → Int → Option (ByteArray)
 | 0, _, _, _, _ => none
 | k + 1, x0, x5, x8, x9 => if x9 < x8 then (if x5.length < 140737488355328 then (wire_Fixed.l0 k (x0 / 256) (x5 ++ [(x0) % 256]) x8 (wrap64 (x9 + 1))) else (none)) else (some (strOfNums x5))
def wire_Fixed.f (k : Nat) (a0 : Int) (a1 : Int) : Option (ByteArray) := wire_Fixed.l0 k a0 ([] : List Int) (mn (mx a1 0) 8) 0
set_option maxRecDepth 100000 in
theorem wire_Fixed.mono_l : ∀ k, (∀ y0 y1 y2 y3, LeO (wire_Fixed.l0 k y0 y1 y2 y3) (wire_Fixed.l0 (k + 1) y0 y1 y2 y3))
 | 0 => fun _ _ _ _ r h => by first | (cases h; done) | simp [wire_Fixed.l0] at h
 | k + 1 => by
  have ih0 := wire_Fixed.mono_l k
  ·intro y0 y1 y2 y3
   unfold wire_Fixed.l0
   repeat' first
   | (with_reducible exact ih0 _ _ _ _)
   | (with_reducible exact LeO.refl _)
   | (with_reducible exact LeO.none _)
   | (with_reducible refine LeO.ite ?_ ?_)
   | (with_reducible refine LeO.bind ?_ (fun _ => ?_))
   | exact ih0 _ _ _ _
   | exact LeO.none _
   | refine LeO.ite ?_ ?_
   | refine LeO.bind ?_ (fun _ => ?_)
set_option maxRecDepth 100000 in
theorem wire_Fixed.mono : ∀ a0 a1 k, LeO (wire_Fixed.f k a0 a1) (wire_Fixed.f (k + 1) a0 a1) := by
 intro a0 a1 k
 have ih0 := wire_Fixed.mono_l k
 unfold wire_Fixed.f
 repeat' first
   | (with_reducible exact ih0 _ _ _ _)
   | (with_reducible exact LeO.refl _)
   | (with_reducible exact LeO.none _)
   | (with_reducible refine LeO.ite ?_ ?_)
   | (with_reducible refine LeO.bind ?_ (fun _ => ?_))
   | exact ih0 _ _ _ _
   | exact LeO.none _
   | refine LeO.ite ?_ ?_
   | refine LeO.bind ?_ (fun _ => ?_)
set_option maxHeartbeats 8000000 in
set_option maxRecDepth 100000 in
theorem wire_Fixed.calls (k : Nat) (a0 : Int) (a1 : Int) (r : ByteArray) (w : World) (h : wire_Fixed.f k a0 a1 = some r) :
  Calls Try.prog 36 #[.int .u64 a0, .int .i64 a1] w fun e w' => e = .returned (.string r) ∧ Below w.heap.size w w' := by
 have HB := Aside0.mk (Below.refl w.heap.size w)
 have H : (wire_Fixed.l0 k a0 ([] : List Int) (mn (mx a1 0) 8) 0) = some r := h
 clear h
 obtain ⟨ji3, hji3⟩ : ∃ j_ : Int, (mx a1 0) = j_ := ⟨_, rfl⟩
 replace H : (wire_Fixed.l0 k a0 ([] : List Int) (mn (ji3) 8) 0) = some r := by first | (rw [hji3] at H; exact H) | (simp only [hji3] at H ⊢; exact H)
 (try (have hji3l : 0 ≤ ji3 := by (rw [← hji3]; unfold mx; (repeat' split) <;> omega)))
 (try (have hji3m : 0 ≤ ji3 := by omega))
 have hji3_ : (if a1 < 0 then 0 else a1) = ji3 := hji3
 obtain ⟨ji4, hji4⟩ : ∃ j_ : Int, (mn (ji3) 8) = j_ := ⟨_, rfl⟩
 replace H : (wire_Fixed.l0 k a0 ([] : List Int) ji4 0) = some r := by first | (rw [hji4] at H; exact H) | (simp only [hji4] at H ⊢; exact H)
 have hji4_ : (if 8 < (ji3) then 8 else (ji3)) = ji4 := hji4
 have H' := Aside0.mk H
 clear H
 go_enter Try.func36, Try.ntmps36
 go_wp2
 go_loopg [0, 5, 9] k (fun kq v0 v5 v9 w' => ∃ (x0_1 : Int) (x5_1 : List Int) (x9_1 : Int), v0 = .int .u64 x0_1 ∧ v9 = .int .i64 x9_1 ∧ Aside0 (wire_Fixed.l0 kq x0_1 x5_1 ji4 x9_1 = some r) ∧ Aside0 (kq ≤ k) ∧ Aside0 (Kd.R (Kd.int .u8) 5 w' w.heap.size (fun _ => True) v5 x5_1) ∧ Aside0 (Below w.heap.size w w'))
 case atStart => exact ⟨(a0), (([] : List Int)), (0), (by first | rfl | (simp; done) | (simp [*]; done)), (by first | rfl | (simp; done) | (simp [*]; done)), H', ⟨Nat.le_refl _⟩, ⟨by first | exact Kd.R_nil _ _ _ _ _ | exact Kd.N_nil _ _ _ _ _ | exact Kd.V_nil _ _ _ _ _ | exact Kd.Q_nil _ _ _ _ _ | exact Kd.S_nil _ _ _ _ _⟩, ⟨by repeat (first | (with_reducible first | exact HB.out | apply lA | apply lN | apply lD) | exact HB.out)⟩⟩
 case round =>
  clear H'
  try clear p2
  try clear c3
  obtain ⟨x0_1, x5_1, x9_1, rfl, rfl, HA, HK1, HO_5, HB⟩ := hrel
  cases gk with
  | zero => exact absurd HA.out (by simp [wire_Fixed.l0])
  | succ k1 =>
   have H := HA.out
   clear HA
   simp only [wire_Fixed.l0] at H
   by_cases c5 : x9_1 < ji4
   ·rw [if_pos c5] at H
    have c5b0 : decide (x9_1 < ji4) = true := decide_eq_true c5
    clear c5
    by_cases c6 : x5_1.length < 140737488355328
    ·rw [if_pos c6] at H
     have LMc6 := Aside0.mk c6
     clear c6
     obtain ⟨y132, hy132⟩ : ∃ y_ : List Int, y_ = (x5_1 ++ [(x0_1) % 256]) := ⟨_, rfl⟩
     replace H : (wire_Fixed.l0 k1 (x0_1 / 256) y132 ji4 (wrap64 (x9_1 + 1))) = some r := by first | (rw [hy132]; with_reducible exact H) | (have H2_ := (Option.bind_some _ _).symm.trans H; rw [hy132]; with_reducible exact H2_) | (have H2_ := (Option.bind_some _ _).symm.trans H; with_reducible exact H2_) | with_reducible exact H | (rw [hy132]; exact H) | exact H
     have Ny132 := Aside0.mk hy132
     clear hy132
     have H' := Aside0.mk H
     clear H
     go_wp2_with (first | ((with_reducible refine gate_builtin (b := .append) (xs := #[.tmp 11, .tmp 14]) rfl ?_); at_builtin; refine Kd.R_append (Kd.int .u8) (w0 := w) w.heap.size rfl (.tmp 11) (.tmp 14) 30 5 (.int .u8 0) 1 rfl Try.underlying30 info5 rfl (by decide) (by omega) u5 x5_1 ((x0_1) % 256) [.int .u8 ((x0_1) % 256)] (fun _ => True) (fun _ => False) rfl rfl ?aP (fun _ hk => hk.elim) ?aF ?aO ?aB ?aS ?aL ?_; (case aP => exact rfl); (case aB => exact (by repeat (first | (with_reducible first | exact HB.out | apply lA | apply lN | apply lD) | exact HB.out))); (case aF => exact (fun _ _ => trivial)); (case aO => exact (by (with_reducible repeat (first | apply Kd.R_alloc | apply Kd.R_drewN | apply Kd.R_drew)); exact HO_5.out)); (case aS => exact (below_size (by repeat (first | (with_reducible first | exact HB.out | apply lA | apply lN | apply lD) | exact HB.out)))); (case aL => have := LMc6.out; omega); intro v133 w7 ho hb hg hat; rw [← Ny132.out] at ho; have n0_ := Aside0.mk (hb); have n1_ := Aside0.mk (ho); clear HB; clear HO_5; have HB := n0_; have HO134 := n1_; clear n0_ n1_; clear ho hb hg hat))
     go_roundg k1
     case measure => have := HK1.out; omega
     case rel => exact ⟨(x0_1 / 256), (y132), (wrap64 (x9_1 + 1)), (by first | rfl | (simp; done) | (simp [*]; done)), (by first | rfl | (simp; done) | (simp [*]; done)), H', ⟨by have := HK1.out; omega⟩, ⟨by (with_reducible repeat (first | apply Kd.R_alloc | apply Kd.R_drewN | apply Kd.R_drew)); exact HO134.out⟩, ⟨by repeat (first | (with_reducible first | exact HB.out | apply lA | apply lN | apply lD) | exact HB.out)⟩⟩
    ·rw [if_neg c6] at H
     exact absurd H (by simp)
   ·rw [if_neg c5] at H
    have c5b0 : decide (x9_1 < ji4) = false := decide_eq_false c5
    clear c5
    obtain rfl := Option.some.inj H
    have hcv8 := own_string (P := Try.prog) Try.underlying30 Try.underlying5 Try.underlying9 (Kd.own_of_R HO_5.out)
    go_wp2
    go_ret
    exact ⟨by first | rfl | (simp [errW_none, errW_some] <;> rfl) | (simp only [← hji3, ← hji4]; first | rfl | (simp [errW_none, errW_some] <;> rfl)) | (simp [*, errW_none, errW_some] <;> rfl), by repeat (first | (with_reducible first | exact HB.out | apply lA | apply lN | apply lD) | exact HB.out)⟩

/-! ### page_Put: function 19 -/
def page_Put.f (k : Nat) (a0_0 : Int) (a0_1 : Int) (a0_2 : Int) (a0_3 : ByteArray) : Option (ByteArray) := (page_May.f a0_0 a0_1 a0_2 a0_3).bind fun t136 => (if t136 = true then ((wire_Fixed.f k (IntKind.u64.wrap (a0_0)) 1).bind fun t137 => ((wire_Fixed.f k (IntKind.u64.wrap (a0_1)) 4).bind fun t138 => (if t137.size + t138.size ≤ 9223372036854775807 then ((wire_Fixed.f k a0_2 8).bind fun t139 => (if t137.size + t138.size + t139.size ≤ 9223372036854775807 then ((wire_Fixed.f k (IntKind.u64.wrap ((a0_3.size : Int))) 2).bind fun t140 => (if t137.size + t138.size + t139.size + t140.size ≤ 9223372036854775807 then (if t137.size + t138.size + t139.size + t140.size + a0_3.size ≤ 9223372036854775807 then (if 0 ≤ (wrap64 (252 - ((t137.size : Int) + (t138.size : Int) + (t139.size : Int) + (t140.size : Int) + (a0_3.size : Int)))) then (if (wrap64 (252 - ((t137.size : Int) + (t138.size : Int) + (t139.size : Int) + (t140.size : Int) + (a0_3.size : Int))) : Int).toNat ≤ 281474976710656 then ((some (List.replicate (wrap64 (252 - ((t137.size : Int) + (t138.size : Int) + (t139.size : Int) + (t140.size : Int) + (a0_3.size : Int))) : Int).toNat 0 : List Int)).bind fun y141 => (if t137.size + t138.size + t139.size + t140.size + a0_3.size + (strOfNums y141).size ≤ 9223372036854775807 then ((crc_Of.f (((((t137 ++ t138) ++ t139) ++ t140) ++ a0_3) ++ (strOfNums y141))).bind fun t144 => ((wire_Fixed.f k (IntKind.u64.wrap (t144)) 4).bind fun t145 => (if t137.size + t138.size + t139.size + t140.size + a0_3.size + (strOfNums y141).size + t145.size ≤ 9223372036854775807 then (some ((((((t137 ++ t138) ++ t139) ++ t140) ++ a0_3) ++ (strOfNums y141)) ++ t145)) else (none)))) else (none))) else (none)) else (none)) else (none)) else (none))) else (none))) else (none)))) else (some (⟨#[]⟩ : ByteArray)))
set_option maxRecDepth 100000 in
theorem page_Put.mono : ∀ a0 a1 a2 a3 k, LeO (page_Put.f k a0 a1 a2 a3) (page_Put.f (k + 1) a0 a1 a2 a3) := by
 intro a0 a1 a2 a3 k
 unfold page_Put.f
 repeat' first
   | (with_reducible exact wire_Fixed.mono _ _ _)
   | (with_reducible exact LeO.refl _)
   | (with_reducible exact LeO.none _)
   | (with_reducible refine LeO.ite ?_ ?_)
   | (with_reducible refine LeO.bind ?_ (fun _ => ?_))
   | exact wire_Fixed.mono _ _ _
   | exact LeO.none _
   | refine LeO.ite ?_ ?_
   | refine LeO.bind ?_ (fun _ => ?_)
def page_Put.T3 : Bool × List (List Nat × List Nat) := (true, [([], []), ([0], [0]), ([1], [1]), ([2], [2]), ([], []), ([4], [4]), ([5], [5]), ([6, 3], [6]), ([3, 7], [3, 7]), ([], []), ([9], [9]), ([10, 7], [10]), ([8, 11], [8, 11]), ([], []), ([13], [13]), ([14], [14]), ([15], [15]), ([16, 11], [16]), ([12, 17], [12, 17]), ([], []), ([19], [19]), ([18, 20], [18, 20]), ([21, 17, 0, 1, 2, 3, 4, 5, 6, 7, 8, 9, 10, 11, 12, 13, 14, 15, 16, 17, 18, 19, 20, 21], [21])])
def page_Put.B3 : List Nat := [0, 1, 3, 7, 0, 16, 48, 127, 255, 0, 512, 1791, 4095, 0, 8192, 24576, 57344, 126719, 262143, 0, 524288, 2097151, 4194303]
theorem page_Put.tab3 : rtab .any (opsOf Try.f19 3) = page_Put.T3 := by kernel_rfl
theorem page_Put.bits3 : waitsOk page_Put.T3.2 page_Put.B3 = true := by kernel_rfl
set_option maxHeartbeats 8000000 in
set_option maxRecDepth 100000 in
theorem page_Put.calls (k : Nat) (a0_0 : Int) (a0_1 : Int) (a0_2 : Int) (a0_3 : ByteArray) (r : ByteArray) (w : World) (h : page_Put.f k a0_0 a0_1 a0_2 a0_3 = some r) :
  Calls Try.prog 19 #[.agg #[.int .i64 a0_0, .int .i64 a0_1, .int .u64 a0_2, .string a0_3]] w fun e w' => e = .returned (.string r) ∧ Below w.heap.size w w' := by
 have hu35 := Try.underlying35
 have HB := Aside0.mk (Below.refl w.heap.size w)
 have H : ((page_May.f a0_0 a0_1 a0_2 a0_3).bind fun t136 => (if t136 = true then ((wire_Fixed.f k (IntKind.u64.wrap (a0_0)) 1).bind fun t137 => ((wire_Fixed.f k (IntKind.u64.wrap (a0_1)) 4).bind fun t138 => (if t137.size + t138.size ≤ 9223372036854775807 then ((wire_Fixed.f k a0_2 8).bind fun t139 => (if t137.size + t138.size + t139.size ≤ 9223372036854775807 then ((wire_Fixed.f k (IntKind.u64.wrap ((a0_3.size : Int))) 2).bind fun t140 => (if t137.size + t138.size + t139.size + t140.size ≤ 9223372036854775807 then (if t137.size + t138.size + t139.size + t140.size + a0_3.size ≤ 9223372036854775807 then (if 0 ≤ (wrap64 (252 - ((t137.size : Int) + (t138.size : Int) + (t139.size : Int) + (t140.size : Int) + (a0_3.size : Int)))) then (if (wrap64 (252 - ((t137.size : Int) + (t138.size : Int) + (t139.size : Int) + (t140.size : Int) + (a0_3.size : Int))) : Int).toNat ≤ 281474976710656 then ((some (List.replicate (wrap64 (252 - ((t137.size : Int) + (t138.size : Int) + (t139.size : Int) + (t140.size : Int) + (a0_3.size : Int))) : Int).toNat 0 : List Int)).bind fun y141 => (if t137.size + t138.size + t139.size + t140.size + a0_3.size + (strOfNums y141).size ≤ 9223372036854775807 then ((crc_Of.f (((((t137 ++ t138) ++ t139) ++ t140) ++ a0_3) ++ (strOfNums y141))).bind fun t144 => ((wire_Fixed.f k (IntKind.u64.wrap (t144)) 4).bind fun t145 => (if t137.size + t138.size + t139.size + t140.size + a0_3.size + (strOfNums y141).size + t145.size ≤ 9223372036854775807 then (some ((((((t137 ++ t138) ++ t139) ++ t140) ++ a0_3) ++ (strOfNums y141)) ++ t145)) else (none)))) else (none))) else (none)) else (none)) else (none)) else (none))) else (none))) else (none)))) else (some (⟨#[]⟩ : ByteArray)))) = some r := h
 clear h
 replace H := Option.bind_eq_some_iff.mp H
 obtain ⟨t136, A20, H⟩ := H
 replace H : (if t136 = true then ((wire_Fixed.f k (IntKind.u64.wrap (a0_0)) 1).bind fun t137 => ((wire_Fixed.f k (IntKind.u64.wrap (a0_1)) 4).bind fun t138 => (if t137.size + t138.size ≤ 9223372036854775807 then ((wire_Fixed.f k a0_2 8).bind fun t139 => (if t137.size + t138.size + t139.size ≤ 9223372036854775807 then ((wire_Fixed.f k (IntKind.u64.wrap ((a0_3.size : Int))) 2).bind fun t140 => (if t137.size + t138.size + t139.size + t140.size ≤ 9223372036854775807 then (if t137.size + t138.size + t139.size + t140.size + a0_3.size ≤ 9223372036854775807 then (if 0 ≤ (wrap64 (252 - ((t137.size : Int) + (t138.size : Int) + (t139.size : Int) + (t140.size : Int) + (a0_3.size : Int)))) then (if (wrap64 (252 - ((t137.size : Int) + (t138.size : Int) + (t139.size : Int) + (t140.size : Int) + (a0_3.size : Int))) : Int).toNat ≤ 281474976710656 then ((some (List.replicate (wrap64 (252 - ((t137.size : Int) + (t138.size : Int) + (t139.size : Int) + (t140.size : Int) + (a0_3.size : Int))) : Int).toNat 0 : List Int)).bind fun y141 => (if t137.size + t138.size + t139.size + t140.size + a0_3.size + (strOfNums y141).size ≤ 9223372036854775807 then ((crc_Of.f (((((t137 ++ t138) ++ t139) ++ t140) ++ a0_3) ++ (strOfNums y141))).bind fun t144 => ((wire_Fixed.f k (IntKind.u64.wrap (t144)) 4).bind fun t145 => (if t137.size + t138.size + t139.size + t140.size + a0_3.size + (strOfNums y141).size + t145.size ≤ 9223372036854775807 then (some ((((((t137 ++ t138) ++ t139) ++ t140) ++ a0_3) ++ (strOfNums y141)) ++ t145)) else (none)))) else (none))) else (none)) else (none)) else (none)) else (none))) else (none))) else (none)))) else (some (⟨#[]⟩ : ByteArray))) = some r := H
 have A2 := Aside0.mk A20
 clear A20
 by_cases c3 : t136 = true
 ·subst c3
  have H1 : ((wire_Fixed.f k (IntKind.u64.wrap (a0_0)) 1).bind fun t137 => ((wire_Fixed.f k (IntKind.u64.wrap (a0_1)) 4).bind fun t138 => (if t137.size + t138.size ≤ 9223372036854775807 then ((wire_Fixed.f k a0_2 8).bind fun t139 => (if t137.size + t138.size + t139.size ≤ 9223372036854775807 then ((wire_Fixed.f k (IntKind.u64.wrap ((a0_3.size : Int))) 2).bind fun t140 => (if t137.size + t138.size + t139.size + t140.size ≤ 9223372036854775807 then (if t137.size + t138.size + t139.size + t140.size + a0_3.size ≤ 9223372036854775807 then (if 0 ≤ (wrap64 (252 - ((t137.size : Int) + (t138.size : Int) + (t139.size : Int) + (t140.size : Int) + (a0_3.size : Int)))) then (if (wrap64 (252 - ((t137.size : Int) + (t138.size : Int) + (t139.size : Int) + (t140.size : Int) + (a0_3.size : Int))) : Int).toNat ≤ 281474976710656 then ((some (List.replicate (wrap64 (252 - ((t137.size : Int) + (t138.size : Int) + (t139.size : Int) + (t140.size : Int) + (a0_3.size : Int))) : Int).toNat 0 : List Int)).bind fun y141 => (if t137.size + t138.size + t139.size + t140.size + a0_3.size + (strOfNums y141).size ≤ 9223372036854775807 then ((crc_Of.f (((((t137 ++ t138) ++ t139) ++ t140) ++ a0_3) ++ (strOfNums y141))).bind fun t144 => ((wire_Fixed.f k (IntKind.u64.wrap (t144)) 4).bind fun t145 => (if t137.size + t138.size + t139.size + t140.size + a0_3.size + (strOfNums y141).size + t145.size ≤ 9223372036854775807 then (some ((((((t137 ++ t138) ++ t139) ++ t140) ++ a0_3) ++ (strOfNums y141)) ++ t145)) else (none)))) else (none))) else (none)) else (none)) else (none)) else (none))) else (none))) else (none)))) = some r := by rw [if_pos rfl] at H; exact H
  clear H
  have H := H1
  clear H1
  replace H := Option.bind_eq_some_iff.mp H
  obtain ⟨t137, A40, H⟩ := H
  replace H : ((wire_Fixed.f k (IntKind.u64.wrap (a0_1)) 4).bind fun t138 => (if t137.size + t138.size ≤ 9223372036854775807 then ((wire_Fixed.f k a0_2 8).bind fun t139 => (if t137.size + t138.size + t139.size ≤ 9223372036854775807 then ((wire_Fixed.f k (IntKind.u64.wrap ((a0_3.size : Int))) 2).bind fun t140 => (if t137.size + t138.size + t139.size + t140.size ≤ 9223372036854775807 then (if t137.size + t138.size + t139.size + t140.size + a0_3.size ≤ 9223372036854775807 then (if 0 ≤ (wrap64 (252 - ((t137.size : Int) + (t138.size : Int) + (t139.size : Int) + (t140.size : Int) + (a0_3.size : Int)))) then (if (wrap64 (252 - ((t137.size : Int) + (t138.size : Int) + (t139.size : Int) + (t140.size : Int) + (a0_3.size : Int))) : Int).toNat ≤ 281474976710656 then ((some (List.replicate (wrap64 (252 - ((t137.size : Int) + (t138.size : Int) + (t139.size : Int) + (t140.size : Int) + (a0_3.size : Int))) : Int).toNat 0 : List Int)).bind fun y141 => (if t137.size + t138.size + t139.size + t140.size + a0_3.size + (strOfNums y141).size ≤ 9223372036854775807 then ((crc_Of.f (((((t137 ++ t138) ++ t139) ++ t140) ++ a0_3) ++ (strOfNums y141))).bind fun t144 => ((wire_Fixed.f k (IntKind.u64.wrap (t144)) 4).bind fun t145 => (if t137.size + t138.size + t139.size + t140.size + a0_3.size + (strOfNums y141).size + t145.size ≤ 9223372036854775807 then (some ((((((t137 ++ t138) ++ t139) ++ t140) ++ a0_3) ++ (strOfNums y141)) ++ t145)) else (none)))) else (none))) else (none)) else (none)) else (none)) else (none))) else (none))) else (none))) = some r := H
  have A4 := Aside0.mk A40
  clear A40
  replace H := Option.bind_eq_some_iff.mp H
  obtain ⟨t138, A50, H⟩ := H
  replace H : (if t137.size + t138.size ≤ 9223372036854775807 then ((wire_Fixed.f k a0_2 8).bind fun t139 => (if t137.size + t138.size + t139.size ≤ 9223372036854775807 then ((wire_Fixed.f k (IntKind.u64.wrap ((a0_3.size : Int))) 2).bind fun t140 => (if t137.size + t138.size + t139.size + t140.size ≤ 9223372036854775807 then (if t137.size + t138.size + t139.size + t140.size + a0_3.size ≤ 9223372036854775807 then (if 0 ≤ (wrap64 (252 - ((t137.size : Int) + (t138.size : Int) + (t139.size : Int) + (t140.size : Int) + (a0_3.size : Int)))) then (if (wrap64 (252 - ((t137.size : Int) + (t138.size : Int) + (t139.size : Int) + (t140.size : Int) + (a0_3.size : Int))) : Int).toNat ≤ 281474976710656 then ((some (List.replicate (wrap64 (252 - ((t137.size : Int) + (t138.size : Int) + (t139.size : Int) + (t140.size : Int) + (a0_3.size : Int))) : Int).toNat 0 : List Int)).bind fun y141 => (if t137.size + t138.size + t139.size + t140.size + a0_3.size + (strOfNums y141).size ≤ 9223372036854775807 then ((crc_Of.f (((((t137 ++ t138) ++ t139) ++ t140) ++ a0_3) ++ (strOfNums y141))).bind fun t144 => ((wire_Fixed.f k (IntKind.u64.wrap (t144)) 4).bind fun t145 => (if t137.size + t138.size + t139.size + t140.size + a0_3.size + (strOfNums y141).size + t145.size ≤ 9223372036854775807 then (some ((((((t137 ++ t138) ++ t139) ++ t140) ++ a0_3) ++ (strOfNums y141)) ++ t145)) else (none)))) else (none))) else (none)) else (none)) else (none)) else (none))) else (none))) else (none)) = some r := H
  have A5 := Aside0.mk A50
  clear A50
  by_cases c6 : t137.size + t138.size ≤ 9223372036854775807
  ·rw [if_pos c6] at H
   have c6b0 := eq_true c6
   have c6b1 : decide (t137.size + t138.size ≤ 9223372036854775807) = true := decide_eq_true c6
   try have c6b2 : (9223372036854775807 < t137.size + t138.size) = False := eq_false (Nat.not_lt.2 c6)
   replace H := Option.bind_eq_some_iff.mp H
   obtain ⟨t139, A70, H⟩ := H
   replace H : (if t137.size + t138.size + t139.size ≤ 9223372036854775807 then ((wire_Fixed.f k (IntKind.u64.wrap ((a0_3.size : Int))) 2).bind fun t140 => (if t137.size + t138.size + t139.size + t140.size ≤ 9223372036854775807 then (if t137.size + t138.size + t139.size + t140.size + a0_3.size ≤ 9223372036854775807 then (if 0 ≤ (wrap64 (252 - ((t137.size : Int) + (t138.size : Int) + (t139.size : Int) + (t140.size : Int) + (a0_3.size : Int)))) then (if (wrap64 (252 - ((t137.size : Int) + (t138.size : Int) + (t139.size : Int) + (t140.size : Int) + (a0_3.size : Int))) : Int).toNat ≤ 281474976710656 then ((some (List.replicate (wrap64 (252 - ((t137.size : Int) + (t138.size : Int) + (t139.size : Int) + (t140.size : Int) + (a0_3.size : Int))) : Int).toNat 0 : List Int)).bind fun y141 => (if t137.size + t138.size + t139.size + t140.size + a0_3.size + (strOfNums y141).size ≤ 9223372036854775807 then ((crc_Of.f (((((t137 ++ t138) ++ t139) ++ t140) ++ a0_3) ++ (strOfNums y141))).bind fun t144 => ((wire_Fixed.f k (IntKind.u64.wrap (t144)) 4).bind fun t145 => (if t137.size + t138.size + t139.size + t140.size + a0_3.size + (strOfNums y141).size + t145.size ≤ 9223372036854775807 then (some ((((((t137 ++ t138) ++ t139) ++ t140) ++ a0_3) ++ (strOfNums y141)) ++ t145)) else (none)))) else (none))) else (none)) else (none)) else (none)) else (none))) else (none)) = some r := H
   have A7 := Aside0.mk A70
   clear A70
   by_cases c8 : t137.size + t138.size + t139.size ≤ 9223372036854775807
   ·rw [if_pos c8] at H
    have c8b0 := eq_true c8
    have c8b1 : decide (t137.size + t138.size + t139.size ≤ 9223372036854775807) = true := decide_eq_true c8
    try have c8b2 : (9223372036854775807 < t137.size + t138.size + t139.size) = False := eq_false (Nat.not_lt.2 c8)
    replace H := Option.bind_eq_some_iff.mp H
    obtain ⟨t140, A90, H⟩ := H
    replace H : (if t137.size + t138.size + t139.size + t140.size ≤ 9223372036854775807 then (if t137.size + t138.size + t139.size + t140.size + a0_3.size ≤ 9223372036854775807 then (if 0 ≤ (wrap64 (252 - ((t137.size : Int) + (t138.size : Int) + (t139.size : Int) + (t140.size : Int) + (a0_3.size : Int)))) then (if (wrap64 (252 - ((t137.size : Int) + (t138.size : Int) + (t139.size : Int) + (t140.size : Int) + (a0_3.size : Int))) : Int).toNat ≤ 281474976710656 then ((some (List.replicate (wrap64 (252 - ((t137.size : Int) + (t138.size : Int) + (t139.size : Int) + (t140.size : Int) + (a0_3.size : Int))) : Int).toNat 0 : List Int)).bind fun y141 => (if t137.size + t138.size + t139.size + t140.size + a0_3.size + (strOfNums y141).size ≤ 9223372036854775807 then ((crc_Of.f (((((t137 ++ t138) ++ t139) ++ t140) ++ a0_3) ++ (strOfNums y141))).bind fun t144 => ((wire_Fixed.f k (IntKind.u64.wrap (t144)) 4).bind fun t145 => (if t137.size + t138.size + t139.size + t140.size + a0_3.size + (strOfNums y141).size + t145.size ≤ 9223372036854775807 then (some ((((((t137 ++ t138) ++ t139) ++ t140) ++ a0_3) ++ (strOfNums y141)) ++ t145)) else (none)))) else (none))) else (none)) else (none)) else (none)) else (none)) = some r := H
    have A9 := Aside0.mk A90
    clear A90
    by_cases c10 : t137.size + t138.size + t139.size + t140.size ≤ 9223372036854775807
    ·rw [if_pos c10] at H
     have c10b0 := eq_true c10
     have c10b1 : decide (t137.size + t138.size + t139.size + t140.size ≤ 9223372036854775807) = true := decide_eq_true c10
     try have c10b2 : (9223372036854775807 < t137.size + t138.size + t139.size + t140.size) = False := eq_false (Nat.not_lt.2 c10)
     by_cases c11 : t137.size + t138.size + t139.size + t140.size + a0_3.size ≤ 9223372036854775807
     ·rw [if_pos c11] at H
      have c11b0 := eq_true c11
      have c11b1 : decide (t137.size + t138.size + t139.size + t140.size + a0_3.size ≤ 9223372036854775807) = true := decide_eq_true c11
      try have c11b2 : (9223372036854775807 < t137.size + t138.size + t139.size + t140.size + a0_3.size) = False := eq_false (Nat.not_lt.2 c11)
      obtain ⟨ji12, hji12⟩ : ∃ j_ : Int, (wrap64 (252 - ((t137.size : Int) + (t138.size : Int) + (t139.size : Int) + (t140.size : Int) + (a0_3.size : Int)))) = j_ := ⟨_, rfl⟩
      replace H : (if 0 ≤ (ji12) then (if (ji12 : Int).toNat ≤ 281474976710656 then ((some (List.replicate (ji12 : Int).toNat 0 : List Int)).bind fun y141 => (if t137.size + t138.size + t139.size + t140.size + a0_3.size + (strOfNums y141).size ≤ 9223372036854775807 then ((crc_Of.f (((((t137 ++ t138) ++ t139) ++ t140) ++ a0_3) ++ (strOfNums y141))).bind fun t144 => ((wire_Fixed.f k (IntKind.u64.wrap (t144)) 4).bind fun t145 => (if t137.size + t138.size + t139.size + t140.size + a0_3.size + (strOfNums y141).size + t145.size ≤ 9223372036854775807 then (some ((((((t137 ++ t138) ++ t139) ++ t140) ++ a0_3) ++ (strOfNums y141)) ++ t145)) else (none)))) else (none))) else (none)) else (none)) = some r := by first | (rw [hji12] at H; exact H) | (simp only [hji12] at H ⊢; exact H)
      (try rw [hji12] at A2)
      (try rw [hji12] at A4)
      (try rw [hji12] at A5)
      (try rw [hji12] at A7)
      (try rw [hji12] at A9)
      have hji12w : (IntKind.i64.wrap (252 - ((t137.size : Int) + (t138.size : Int) + (t139.size : Int) + (t140.size : Int) + (a0_3.size : Int)))) = ji12 := (i64_w _).trans hji12
      by_cases c13 : 0 ≤ (ji12)
      ·rw [if_pos c13] at H
       have c13b0 := eq_true c13
       have c13b1 : decide (0 ≤ (ji12)) = true := decide_eq_true c13
       clear c13
       by_cases c14 : (ji12 : Int).toNat ≤ 281474976710656
       ·rw [if_pos c14] at H
        have c14b0 := eq_true c14
        have c14b1 : decide ((ji12 : Int).toNat ≤ 281474976710656) = true := decide_eq_true c14
        clear c14
        obtain ⟨y141, hy141⟩ : ∃ y_ : List Int, y_ = (List.replicate (ji12 : Int).toNat 0) := ⟨_, rfl⟩
        replace H : (if t137.size + t138.size + t139.size + t140.size + a0_3.size + (strOfNums y141).size ≤ 9223372036854775807 then ((crc_Of.f (((((t137 ++ t138) ++ t139) ++ t140) ++ a0_3) ++ (strOfNums y141))).bind fun t144 => ((wire_Fixed.f k (IntKind.u64.wrap (t144)) 4).bind fun t145 => (if t137.size + t138.size + t139.size + t140.size + a0_3.size + (strOfNums y141).size + t145.size ≤ 9223372036854775807 then (some ((((((t137 ++ t138) ++ t139) ++ t140) ++ a0_3) ++ (strOfNums y141)) ++ t145)) else (none)))) else (none)) = some r := by first | (rw [hy141]; with_reducible exact H) | (have H2_ := (Option.bind_some _ _).symm.trans H; rw [hy141]; with_reducible exact H2_) | (have H2_ := (Option.bind_some _ _).symm.trans H; with_reducible exact H2_) | with_reducible exact H | (rw [hy141]; exact H) | exact H
        have Ny141 := Aside0.mk hy141
        clear hy141
        by_cases c15 : t137.size + t138.size + t139.size + t140.size + a0_3.size + (strOfNums y141).size ≤ 9223372036854775807
        ·rw [if_pos c15] at H
         have c15b0 := eq_true c15
         have c15b1 : decide (t137.size + t138.size + t139.size + t140.size + a0_3.size + (strOfNums y141).size ≤ 9223372036854775807) = true := decide_eq_true c15
         try have c15b2 : (9223372036854775807 < t137.size + t138.size + t139.size + t140.size + a0_3.size + (strOfNums y141).size) = False := eq_false (Nat.not_lt.2 c15)
         replace H := Option.bind_eq_some_iff.mp H
         obtain ⟨t144, A160, H⟩ := H
         replace H : ((wire_Fixed.f k (IntKind.u64.wrap (t144)) 4).bind fun t145 => (if t137.size + t138.size + t139.size + t140.size + a0_3.size + (strOfNums y141).size + t145.size ≤ 9223372036854775807 then (some ((((((t137 ++ t138) ++ t139) ++ t140) ++ a0_3) ++ (strOfNums y141)) ++ t145)) else (none))) = some r := H
         have A16 := Aside0.mk A160
         clear A160
         replace H := Option.bind_eq_some_iff.mp H
         obtain ⟨t145, A170, H⟩ := H
         replace H : (if t137.size + t138.size + t139.size + t140.size + a0_3.size + (strOfNums y141).size + t145.size ≤ 9223372036854775807 then (some ((((((t137 ++ t138) ++ t139) ++ t140) ++ a0_3) ++ (strOfNums y141)) ++ t145)) else (none)) = some r := H
         have A17 := Aside0.mk A170
         clear A170
         by_cases c18 : t137.size + t138.size + t139.size + t140.size + a0_3.size + (strOfNums y141).size + t145.size ≤ 9223372036854775807
         ·rw [if_pos c18] at H
          have c18b0 := eq_true c18
          have c18b1 : decide (t137.size + t138.size + t139.size + t140.size + a0_3.size + (strOfNums y141).size + t145.size ≤ 9223372036854775807) = true := decide_eq_true c18
          try have c18b2 : (9223372036854775807 < t137.size + t138.size + t139.size + t140.size + a0_3.size + (strOfNums y141).size + t145.size) = False := eq_false (Nat.not_lt.2 c18)
          obtain rfl := Option.some.inj H
          go_enter Try.func19, Try.ntmps19
          try go_wp2_with (first | ((with_reducible refine gate_dst (N := 1) rfl ?_); refine box_event ?hg (N := 1) ?hd (cs := #[.int .i64 a0_0, .int .i64 a0_1, .int .u64 a0_2, .string a0_3]) (t := 35) ?hr ?_; (case hd => rfl); (case hg => rfl); (case hr => first | (go_simp; done) | (go_simp; rfl)); intro gb135 hg w19 hbox hb; have n0_ := Aside0.mk (below_step (by repeat (first | (with_reducible first | exact HB.out | apply lA | apply lN | apply lD) | exact HB.out)) hb); have n1_ := Aside0.mk (hbox); have n2_ := Aside0.mk ((by rw [hg]; exact (below_size (by repeat (first | (with_reducible first | exact HB.out | apply lA | apply lN | apply lD) | exact HB.out))) : w.heap.size ≤ gb135)); have n3_ := Aside0.mk ((by rw [hg]; exact (below_size (by repeat (first | (with_reducible first | exact HB.out | apply lA | apply lN | apply lD) | exact HB.out))) : w.heap.size ≤ gb135)); clear HB; have HB := n0_; have BK135 := n1_; have GW135 := n2_; have GE135 := n3_; clear n0_ n1_ n2_ n3_; clear hb hbox hg; have hcz20_0 : w19.cell? ⟨gb135, 0, none⟩ = some (.int .i64 a0_0) := (blk_cell BK135.out 0).trans rfl; have hcz20_1 : w19.cell? ⟨gb135, 1, none⟩ = some (.int .i64 a0_1) := (blk_cell BK135.out 1).trans rfl; have hcz20_2 : w19.cell? ⟨gb135, 2, none⟩ = some (.int .u64 a0_2) := (blk_cell BK135.out 2).trans rfl; have hcz20_3 : w19.cell? ⟨gb135, 3, none⟩ = some (.string a0_3) := (blk_cell BK135.out 3).trans rfl; have hfz20_0 := blk_frozen BK135.out 0; have hfz20_1 := blk_frozen BK135.out 1; have hfz20_2 := blk_frozen BK135.out 2; have hfz20_3 := blk_frozen BK135.out 3) | ((with_reducible refine gate_callee (f := 22) rfl ?_); refine goesL_ (some 5) rfl rfl Try.func22 (by kernel_rfl) rfl #[.agg #[.int .i64 a0_0, .int .i64 a0_1, .int .u64 a0_2, .string a0_3]] rfl (by (try simp only [List.map_toArray, List.map_cons, List.map_nil]); first | done | rfl) ?_; (with_reducible refine (page_May.calls a0_0 a0_1 a0_2 a0_3 true _ A2.out).mono ?_); rintro e w21 ⟨rfl, hb⟩; refine ⟨_, rfl, ?_⟩; have n0_ := Aside0.mk (blk_below (g := gb135) (o := .cells #[.int .i64 a0_0, .int .i64 a0_1, .int .u64 a0_2, .string a0_3] 35 (0, 0)) (by (with_reducible repeat (first | apply bN | apply bD | apply bA)); exact BK135.out) hb); have n1_ := Aside0.mk (below_step (by repeat (first | (with_reducible first | exact HB.out | apply lA | apply lN | apply lD | refine below_set ?_ GE135.out) | exact HB.out)) hb); clear BK135; clear HB; have BK135 := n0_; have HB := n1_; clear n0_ n1_; (try clear hb); (try clear hb2); (try clear hk); (try clear hi)))
          have n0_ := Aside0.mk (blk_drew BK135.out)
          have n1_ := Aside0.mk (below_drew1 HB.out)
          clear BK135
          clear HB
          have BK135 := n0_
          have HB := n1_
          clear n0_ n1_
          refine start_ (n := 23) (S := fun w' => w'.cell? ⟨gb135, 0, none⟩ = some (.int .i64 a0_0) ∧ w'.cell? ⟨gb135, 1, none⟩ = some (.int .i64 a0_1) ∧ w'.cell? ⟨gb135, 2, none⟩ = some (.int .u64 a0_2) ∧ w'.cell? ⟨gb135, 3, none⟩ = some (.string a0_3)) (ds := []) #[false, false, false, false, false, false, false, false, false, false, false, false, false, false, false, false, false, false, false, false, false, false, false] (by kernel_rfl) rfl rfl ⟨(blk_cell BK135.out 0).trans rfl, (blk_cell BK135.out 1).trans rfl, (blk_cell BK135.out 2).trans rfl, (blk_cell BK135.out 3).trans rfl⟩ (fun hHeld => ?_); refine with_tabW page_Put.tab3 page_Put.bits3 (fun HT_ HW_ => ?_)
          generalize w21.drew = w22 at BK135 HB hHeld ⊢
          refine pure_ (i := 0) (N := some 7) (v := ?_) (a' := ?_) #[true, false, false, false, false, false, false, false, false, false, false, false, false, false, false, false, false, false, false, false, false, false, false] rfl rfl (any_of HT_.out (by kernel_rfl)) (fun _ _ _ h => h) (Or.inl ⟨by rfl, ?_⟩) ?_ ?_
          rotate_left
          ·intro w'
           go_simp
           with_reducible rfl
          rotate_left
          ·simp only [Act.put, List.setIfInBounds_toArray, List.set_cons_zero, List.set_cons_succ, i64_w, i32_w]
           rfl
          refine pure_ (i := 4) (N := some 11) (v := ?_) (a' := ?_) #[true, false, false, false, true, false, false, false, false, false, false, false, false, false, false, false, false, false, false, false, false, false, false] rfl rfl (any_of HT_.out (by kernel_rfl)) (fun _ _ _ h => h) (Or.inl ⟨by rfl, ?_⟩) ?_ ?_
          rotate_left
          ·intro w'
           go_simp
           with_reducible rfl
          rotate_left
          ·simp only [Act.put, List.setIfInBounds_toArray, List.set_cons_zero, List.set_cons_succ, i64_w, i32_w]
           rfl
          refine pure_ (i := 9) (N := some 16) (v := ?_) (a' := ?_) #[true, false, false, false, true, false, false, false, false, true, false, false, false, false, false, false, false, false, false, false, false, false, false] rfl rfl (any_of HT_.out (by kernel_rfl)) (fun _ _ _ h => h) (Or.inl ⟨by rfl, ?_⟩) ?_ ?_
          rotate_left
          ·intro w'
           go_simp
           with_reducible rfl
          rotate_left
          ·simp only [Act.put, List.setIfInBounds_toArray, List.set_cons_zero, List.set_cons_succ, i64_w, i32_w]
           rfl
          refine pure_ (i := 13) (N := some 20) (v := ?_) (a' := ?_) #[true, false, false, false, true, false, false, false, false, true, false, false, false, true, false, false, false, false, false, false, false, false, false] rfl rfl (any_of HT_.out (by kernel_rfl)) (fun _ _ _ h => h) (Or.inl ⟨by rfl, ?_⟩) ?_ ?_
          rotate_left
          ·intro w'
           go_simp
           with_reducible rfl
          rotate_left
          ·simp only [Act.put, List.setIfInBounds_toArray, List.set_cons_zero, List.set_cons_succ, i64_w, i32_w]
           rfl
          refine pure_ (i := 19) (N := some 26) (v := ?_) (a' := ?_) #[true, false, false, false, true, false, false, false, false, true, false, false, false, true, false, false, false, false, false, true, false, false, false] rfl rfl (any_of HT_.out (by kernel_rfl)) (fun _ _ _ h => h) (Or.inl ⟨by rfl, ?_⟩) ?_ ?_
          rotate_left
          ·intro w'
           go_simp
           with_reducible rfl
          rotate_left
          ·simp only [Act.put, List.setIfInBounds_toArray, List.set_cons_zero, List.set_cons_succ, i64_w, i32_w]
           rfl
          refine take_ (i := 1) (N := some 8) (v := ?_) (a' := ?_) #[true, true, false, false, true, false, false, false, false, true, false, false, false, true, false, false, false, false, false, true, false, false, false] rfl rfl (take_ofW HT_.out HW_.out (by kernel_rfl)) (fun _ _ _ h => h) (Or.inl ⟨by rfl, ?_⟩) hHeld ?_ ?_
          rotate_left
          ·rintro w' ⟨s0, s1, s2, s3⟩
           go_simp
           with_reducible rfl
          rotate_left
          ·simp only [Act.put, List.setIfInBounds_toArray, List.set_cons_zero, List.set_cons_succ, i64_w, i32_w]
           rfl
          refine pure_ (i := 2) (N := some 9) (v := ?_) (a' := ?_) #[true, true, true, false, true, false, false, false, false, true, false, false, false, true, false, false, false, false, false, true, false, false, false] rfl rfl (any_of HT_.out (by kernel_rfl)) (fun _ _ _ h => h) (Or.inl ⟨by rfl, ?_⟩) ?_ ?_
          rotate_left
          ·intro w'
           go_simp
           with_reducible rfl
          rotate_left
          ·simp only [Act.put, List.setIfInBounds_toArray, List.set_cons_zero, List.set_cons_succ, i64_w, i32_w]
           rfl
          refine take_ (i := 5) (N := some 12) (v := ?_) (a' := ?_) #[true, true, true, false, true, true, false, false, false, true, false, false, false, true, false, false, false, false, false, true, false, false, false] rfl rfl (take_ofW HT_.out HW_.out (by kernel_rfl)) (fun _ _ _ h => h) (Or.inl ⟨by rfl, ?_⟩) hHeld ?_ ?_
          rotate_left
          ·rintro w' ⟨s0, s1, s2, s3⟩
           go_simp
           with_reducible rfl
          rotate_left
          ·simp only [Act.put, List.setIfInBounds_toArray, List.set_cons_zero, List.set_cons_succ, i64_w, i32_w]
           rfl
          refine pure_ (i := 6) (N := some 13) (v := ?_) (a' := ?_) #[true, true, true, false, true, true, true, false, false, true, false, false, false, true, false, false, false, false, false, true, false, false, false] rfl rfl (any_of HT_.out (by kernel_rfl)) (fun _ _ _ h => h) (Or.inl ⟨by rfl, ?_⟩) ?_ ?_
          rotate_left
          ·intro w'
           go_simp
           with_reducible rfl
          rotate_left
          ·simp only [Act.put, List.setIfInBounds_toArray, List.set_cons_zero, List.set_cons_succ, i64_w, i32_w]
           rfl
          refine take_ (i := 10) (N := some 17) (v := ?_) (a' := ?_) #[true, true, true, false, true, true, true, false, false, true, true, false, false, true, false, false, false, false, false, true, false, false, false] rfl rfl (take_ofW HT_.out HW_.out (by kernel_rfl)) (fun _ _ _ h => h) (Or.inl ⟨by rfl, ?_⟩) hHeld ?_ ?_
          rotate_left
          ·rintro w' ⟨s0, s1, s2, s3⟩
           go_simp
           with_reducible rfl
          rotate_left
          ·simp only [Act.put, List.setIfInBounds_toArray, List.set_cons_zero, List.set_cons_succ, i64_w, i32_w]
           rfl
          refine take_ (i := 14) (N := some 21) (v := ?_) (a' := ?_) #[true, true, true, false, true, true, true, false, false, true, true, false, false, true, true, false, false, false, false, true, false, false, false] rfl rfl (take_ofW HT_.out HW_.out (by kernel_rfl)) (fun _ _ _ h => h) (Or.inl ⟨by rfl, ?_⟩) hHeld ?_ ?_
          rotate_left
          ·rintro w' ⟨s0, s1, s2, s3⟩
           go_simp
           with_reducible rfl
          rotate_left
          ·simp only [Act.put, List.setIfInBounds_toArray, List.set_cons_zero, List.set_cons_succ, i64_w, i32_w]
           rfl
          refine pure_ (i := 15) (N := some 22) (v := ?_) (a' := ?_) #[true, true, true, false, true, true, true, false, false, true, true, false, false, true, true, true, false, false, false, true, false, false, false] rfl rfl (any_of HT_.out (by kernel_rfl)) (fun _ _ _ h => h) (Or.inl ⟨by rfl, ?_⟩) ?_ ?_
          rotate_left
          ·intro w'
           go_simp
           with_reducible rfl
          rotate_left
          ·simp only [Act.put, List.setIfInBounds_toArray, List.set_cons_zero, List.set_cons_succ, i64_w, i32_w]
           rfl
          refine pure_ (i := 16) (N := some 23) (v := ?_) (a' := ?_) #[true, true, true, false, true, true, true, false, false, true, true, false, false, true, true, true, true, false, false, true, false, false, false] rfl rfl (any_of HT_.out (by kernel_rfl)) (fun _ _ _ h => h) (Or.inl ⟨by rfl, ?_⟩) ?_ ?_
          rotate_left
          ·intro w'
           go_simp
           with_reducible rfl
          rotate_left
          ·simp only [Act.put, List.setIfInBounds_toArray, List.set_cons_zero, List.set_cons_succ, i64_w, i32_w]
           rfl
          refine take_ (i := 20) (N := some 27) (v := ?_) (a' := ?_) #[true, true, true, false, true, true, true, false, false, true, true, false, false, true, true, true, true, false, false, true, true, false, false] rfl rfl (take_ofW HT_.out HW_.out (by kernel_rfl)) (fun _ _ _ h => h) (Or.inl ⟨by rfl, ?_⟩) hHeld ?_ ?_
          rotate_left
          ·rintro w' ⟨s0, s1, s2, s3⟩
           go_simp
           with_reducible rfl
          rotate_left
          ·simp only [Act.put, List.setIfInBounds_toArray, List.set_cons_zero, List.set_cons_succ, i64_w, i32_w]
           rfl
          refine one_ (i := 3) (N := some 10) #[true, true, true, true, true, true, true, false, false, true, true, false, false, true, true, true, true, false, false, true, true, false, false] rfl rfl (one_of HT_.out (by kernel_rfl)) (by decide) (fun K hK => ?_)
          refine goes_ Try.func36 (by kernel_rfl) rfl #[.int .u64 (IntKind.u64.wrap (a0_0)), .int .i64 1] (by rfl) rfl rfl (by (try simp only [List.map_toArray, List.map_cons, List.map_nil]); first | done | rfl) ?_
          with_reducible refine (wire_Fixed.calls k (IntKind.u64.wrap (a0_0)) 1 t137 _ A4.out).mono ?_
          
          rintro e w23 ⟨rfl, hb⟩
          refine ⟨_, rfl, ?_⟩
          have n0_ := Aside0.mk (blk_below (g := gb135) (o := .cells #[.int .i64 a0_0, .int .i64 a0_1, .int .u64 a0_2, .string a0_3] 35 (0, 0)) (by (with_reducible repeat (first | apply bN | apply bD | apply bA)); exact BK135.out) hb)
          have n1_ := Aside0.mk (below_step (by repeat (first | (with_reducible first | exact HB.out | apply lA | apply lN | apply lD | refine below_set ?_ GE135.out) | exact HB.out)) hb)
          clear BK135
          clear HB
          have BK135 := n0_
          have HB := n1_
          clear n0_ n1_
          (try clear hb)
          (try clear hb2)
          (try clear hk)
          (try clear hi)
          refine hK.out _ _ ⟨(blk_cell BK135.out 0).trans rfl, (blk_cell BK135.out 1).trans rfl, (blk_cell BK135.out 2).trans rfl, (blk_cell BK135.out 3).trans rfl⟩ (fun hHeld => ?_)
          clear hK K
          refine norm_ (a' := ?_) ?_ ?_
          rotate_left
          ·show Act.put _ (some 10) _ = _
           simp only [Act.put, List.setIfInBounds_toArray, List.set_cons_zero, List.set_cons_succ, i64_w, i32_w]
           rfl
          refine one_ (i := 7) (N := some 14) #[true, true, true, true, true, true, true, true, false, true, true, false, false, true, true, true, true, false, false, true, true, false, false] rfl rfl (one_of HT_.out (by kernel_rfl)) (by decide) (fun K hK => ?_)
          refine goes_ Try.func36 (by kernel_rfl) rfl #[.int .u64 (IntKind.u64.wrap (a0_1)), .int .i64 4] (by rfl) rfl rfl (by (try simp only [List.map_toArray, List.map_cons, List.map_nil]); first | done | rfl) ?_
          with_reducible refine (wire_Fixed.calls k (IntKind.u64.wrap (a0_1)) 4 t138 _ A5.out).mono ?_
          
          rintro e w24 ⟨rfl, hb⟩
          refine ⟨_, rfl, ?_⟩
          have n0_ := Aside0.mk (blk_below (g := gb135) (o := .cells #[.int .i64 a0_0, .int .i64 a0_1, .int .u64 a0_2, .string a0_3] 35 (0, 0)) (by (with_reducible repeat (first | apply bN | apply bD | apply bA)); exact BK135.out) hb)
          have n1_ := Aside0.mk (below_step (by repeat (first | (with_reducible first | exact HB.out | apply lA | apply lN | apply lD | refine below_set ?_ GE135.out) | exact HB.out)) hb)
          clear BK135
          clear HB
          have BK135 := n0_
          have HB := n1_
          clear n0_ n1_
          (try clear hb)
          (try clear hb2)
          (try clear hk)
          (try clear hi)
          refine hK.out _ _ ⟨(blk_cell BK135.out 0).trans rfl, (blk_cell BK135.out 1).trans rfl, (blk_cell BK135.out 2).trans rfl, (blk_cell BK135.out 3).trans rfl⟩ (fun hHeld => ?_)
          clear hK K
          refine norm_ (a' := ?_) ?_ ?_
          rotate_left
          ·show Act.put _ (some 14) _ = _
           simp only [Act.put, List.setIfInBounds_toArray, List.set_cons_zero, List.set_cons_succ, i64_w, i32_w]
           rfl
          refine pure_ (i := 8) (N := some 15) (v := ?_) (a' := ?_) #[true, true, true, true, true, true, true, true, true, true, true, false, false, true, true, true, true, false, false, true, true, false, false] rfl rfl (any_of HT_.out (by kernel_rfl)) (fun _ _ _ h => h) (Or.inl ⟨by rfl, ?_⟩) ?_ ?_
          rotate_left
          ·intro w'
           go_simp
           with_reducible rfl
          rotate_left
          ·simp only [Act.put, List.setIfInBounds_toArray, List.set_cons_zero, List.set_cons_succ, i64_w, i32_w]
           rfl
          refine one_ (i := 11) (N := some 18) #[true, true, true, true, true, true, true, true, true, true, true, true, false, true, true, true, true, false, false, true, true, false, false] rfl rfl (one_of HT_.out (by kernel_rfl)) (by decide) (fun K hK => ?_)
          refine goes_ Try.func36 (by kernel_rfl) rfl #[.int .u64 a0_2, .int .i64 8] (by rfl) rfl rfl (by (try simp only [List.map_toArray, List.map_cons, List.map_nil]); first | done | rfl) ?_
          with_reducible refine (wire_Fixed.calls k a0_2 8 t139 _ A7.out).mono ?_
          
          rintro e w25 ⟨rfl, hb⟩
          refine ⟨_, rfl, ?_⟩
          have n0_ := Aside0.mk (blk_below (g := gb135) (o := .cells #[.int .i64 a0_0, .int .i64 a0_1, .int .u64 a0_2, .string a0_3] 35 (0, 0)) (by (with_reducible repeat (first | apply bN | apply bD | apply bA)); exact BK135.out) hb)
          have n1_ := Aside0.mk (below_step (by repeat (first | (with_reducible first | exact HB.out | apply lA | apply lN | apply lD | refine below_set ?_ GE135.out) | exact HB.out)) hb)
          clear BK135
          clear HB
          have BK135 := n0_
          have HB := n1_
          clear n0_ n1_
          (try clear hb)
          (try clear hb2)
          (try clear hk)
          (try clear hi)
          refine hK.out _ _ ⟨(blk_cell BK135.out 0).trans rfl, (blk_cell BK135.out 1).trans rfl, (blk_cell BK135.out 2).trans rfl, (blk_cell BK135.out 3).trans rfl⟩ (fun hHeld => ?_)
          clear hK K
          refine norm_ (a' := ?_) ?_ ?_
          rotate_left
          ·show Act.put _ (some 18) _ = _
           simp only [Act.put, List.setIfInBounds_toArray, List.set_cons_zero, List.set_cons_succ, i64_w, i32_w]
           rfl
          refine pure_ (i := 12) (N := some 19) (v := ?_) (a' := ?_) #[true, true, true, true, true, true, true, true, true, true, true, true, true, true, true, true, true, false, false, true, true, false, false] rfl rfl (any_of HT_.out (by kernel_rfl)) (fun _ _ _ h => h) (Or.inl ⟨by rfl, ?_⟩) ?_ ?_
          rotate_left
          ·intro w'
           go_simp
           with_reducible rfl
          rotate_left
          ·simp only [Act.put, List.setIfInBounds_toArray, List.set_cons_zero, List.set_cons_succ, i64_w, i32_w]
           rfl
          refine one_ (i := 17) (N := some 24) #[true, true, true, true, true, true, true, true, true, true, true, true, true, true, true, true, true, true, false, true, true, false, false] rfl rfl (one_of HT_.out (by kernel_rfl)) (by decide) (fun K hK => ?_)
          refine goes_ Try.func36 (by kernel_rfl) rfl #[.int .u64 (IntKind.u64.wrap ((a0_3.size : Int))), .int .i64 2] (by rfl) rfl rfl (by (try simp only [List.map_toArray, List.map_cons, List.map_nil]); first | done | rfl) ?_
          with_reducible refine (wire_Fixed.calls k (IntKind.u64.wrap ((a0_3.size : Int))) 2 t140 _ A9.out).mono ?_
          
          rintro e w26 ⟨rfl, hb⟩
          refine ⟨_, rfl, ?_⟩
          have n0_ := Aside0.mk (blk_below (g := gb135) (o := .cells #[.int .i64 a0_0, .int .i64 a0_1, .int .u64 a0_2, .string a0_3] 35 (0, 0)) (by (with_reducible repeat (first | apply bN | apply bD | apply bA)); exact BK135.out) hb)
          have n1_ := Aside0.mk (below_step (by repeat (first | (with_reducible first | exact HB.out | apply lA | apply lN | apply lD | refine below_set ?_ GE135.out) | exact HB.out)) hb)
          clear BK135
          clear HB
          have BK135 := n0_
          have HB := n1_
          clear n0_ n1_
          (try clear hb)
          (try clear hb2)
          (try clear hk)
          (try clear hi)
          refine hK.out _ _ ⟨(blk_cell BK135.out 0).trans rfl, (blk_cell BK135.out 1).trans rfl, (blk_cell BK135.out 2).trans rfl, (blk_cell BK135.out 3).trans rfl⟩ (fun hHeld => ?_)
          clear hK K
          refine norm_ (a' := ?_) ?_ ?_
          rotate_left
          ·show Act.put _ (some 24) _ = _
           simp only [Act.put, List.setIfInBounds_toArray, List.set_cons_zero, List.set_cons_succ, i64_w, i32_w]
           rfl
          refine pure_ (i := 18) (N := some 25) (v := ?_) (a' := ?_) #[true, true, true, true, true, true, true, true, true, true, true, true, true, true, true, true, true, true, true, true, true, false, false] rfl rfl (any_of HT_.out (by kernel_rfl)) (fun _ _ _ h => h) (Or.inl ⟨by rfl, ?_⟩) ?_ ?_
          rotate_left
          ·intro w'
           go_simp
           with_reducible rfl
          rotate_left
          ·simp only [Act.put, List.setIfInBounds_toArray, List.set_cons_zero, List.set_cons_succ, i64_w, i32_w]
           rfl
          refine pure_ (i := 21) (N := some 28) (v := ?_) (a' := ?_) #[true, true, true, true, true, true, true, true, true, true, true, true, true, true, true, true, true, true, true, true, true, true, false] rfl rfl (any_of HT_.out (by kernel_rfl)) (fun _ _ _ h => h) (Or.inl ⟨by rfl, ?_⟩) ?_ ?_
          rotate_left
          ·intro w'
           go_simp
           with_reducible rfl
          rotate_left
          ·simp only [Act.put, List.setIfInBounds_toArray, List.set_cons_zero, List.set_cons_succ, i64_w, i32_w]
           rfl
          refine pure_ (i := 22) (N := some 3) (v := ?_) (a' := ?_) #[true, true, true, true, true, true, true, true, true, true, true, true, true, true, true, true, true, true, true, true, true, true, true] rfl rfl (any_of HT_.out (by kernel_rfl)) (fun _ _ _ h => h) (Or.inl ⟨by rfl, ?_⟩) ?_ ?_
          rotate_left
          ·intro w'
           go_simp
           with_reducible rfl
          rotate_left
          ·simp only [Act.put, List.setIfInBounds_toArray, List.set_cons_zero, List.set_cons_succ, i64_w, i32_w]
           rfl
          refine done_ (done_of HT_.out (by kernel_rfl)) ?_
          try go_wp2_with (first | ((with_reducible refine gate_dst (N := 33) rfl ?_); refine Kd.R_make (Kd.int .u8) _ 5 rfl (N := 33) rfl 30 _ _ rfl ji12 rfl rfl Try.underlying30 (.int .u8 0) 1 info5 rfl (by decide) (by omega) 0 (ok := fun _ => True) (okp := fun _ => True) rfl (fun _ hk => hk) trivial (of_decide_eq_true (by first | (with_reducible assumption) | assumption)) (Nat.le_trans (Nat.mul_le_mul_right _ (of_decide_eq_true (by first | (with_reducible assumption) | assumption) : ji12.toNat ≤ 281474976710656)) (by omega)) (Below.refl _ _) (Nat.le_refl _) ?_; intro v142 w27 ho28 hb hg_ hnew_; clear hg_ hnew_; (first | rw [← Ny141.out] at ho28 | (simp only [Int.reduceToNat] at ho28; rw [← Ny141.out] at ho28)); have n0_ := Aside0.mk (Kd.R_lower ho28 (below_size (by repeat (first | (with_reducible first | exact HB.out | apply lA | apply lN | apply lD | refine below_set ?_ GE135.out) | exact HB.out)))); have n1_ := Aside0.mk (blk_below (g := gb135) (o := .cells #[.int .i64 a0_0, .int .i64 a0_1, .int .u64 a0_2, .string a0_3] 35 (0, 0)) (by (with_reducible repeat (first | apply bN | apply bD | apply bA)); exact BK135.out) hb); have n2_ := Aside0.mk (below_step (by repeat (first | (with_reducible first | exact HB.out | apply lA | apply lN | apply lD | refine below_set ?_ GE135.out) | exact HB.out)) hb); clear BK135; clear HB; have HO143 := n0_; have BK135 := n1_; have HB := n2_; clear n0_ n1_ n2_; clear hb ho28; have hcv29 := own_string (P := Try.prog) Try.underlying30 Try.underlying5 Try.underlying9 (Kd.own_of_R HO143.out)) | ((with_reducible refine gate_callee (f := 14) rfl ?_); refine goesL_ (some 38) rfl rfl Try.func14 (by kernel_rfl) rfl #[.string (((((t137 ++ t138) ++ t139) ++ t140) ++ a0_3) ++ (strOfNums y141))] rfl (by (try simp only [List.map_toArray, List.map_cons, List.map_nil]); first | done | rfl) ?_; (with_reducible refine (crc_Of.calls (((((t137 ++ t138) ++ t139) ++ t140) ++ a0_3) ++ (strOfNums y141)) t144 _ A16.out).mono ?_); rintro e w30 ⟨rfl, hb⟩; refine ⟨_, rfl, ?_⟩; have n0_ := Aside0.mk (Kd.R_below (by (with_reducible repeat (first | apply Kd.R_alloc | apply Kd.R_drewN | apply Kd.R_drew)); exact HO143.out) hb); have n1_ := Aside0.mk (blk_below (g := gb135) (o := .cells #[.int .i64 a0_0, .int .i64 a0_1, .int .u64 a0_2, .string a0_3] 35 (0, 0)) (by (with_reducible repeat (first | apply bN | apply bD | apply bA)); exact BK135.out) hb); have n2_ := Aside0.mk (below_step (by repeat (first | (with_reducible first | exact HB.out | apply lA | apply lN | apply lD | refine below_set ?_ GE135.out) | exact HB.out)) hb); clear HO143; clear BK135; clear HB; have HO143 := n0_; have BK135 := n1_; have HB := n2_; clear n0_ n1_ n2_; (try clear hb); (try clear hb2); (try clear hk); (try clear hi)) | ((with_reducible refine gate_callee (f := 36) rfl ?_); refine goesL_ (some 40) rfl rfl Try.func36 (by kernel_rfl) rfl #[.int .u64 (IntKind.u64.wrap (t144)), .int .i64 4] rfl (by (try simp only [List.map_toArray, List.map_cons, List.map_nil]); first | done | rfl) ?_; (with_reducible refine (wire_Fixed.calls k (IntKind.u64.wrap (t144)) 4 t145 _ A17.out).mono ?_); rintro e w31 ⟨rfl, hb⟩; refine ⟨_, rfl, ?_⟩; have n0_ := Aside0.mk (Kd.R_below (by (with_reducible repeat (first | apply Kd.R_alloc | apply Kd.R_drewN | apply Kd.R_drew)); exact HO143.out) hb); have n1_ := Aside0.mk (blk_below (g := gb135) (o := .cells #[.int .i64 a0_0, .int .i64 a0_1, .int .u64 a0_2, .string a0_3] 35 (0, 0)) (by (with_reducible repeat (first | apply bN | apply bD | apply bA)); exact BK135.out) hb); have n2_ := Aside0.mk (below_step (by repeat (first | (with_reducible first | exact HB.out | apply lA | apply lN | apply lD | refine below_set ?_ GE135.out) | exact HB.out)) hb); clear HO143; clear BK135; clear HB; have HO143 := n0_; have BK135 := n1_; have HB := n2_; clear n0_ n1_ n2_; (try clear hb); (try clear hb2); (try clear hk); (try clear hi)))
          go_ret
          exact ⟨by first | rfl | (simp [errW_none, errW_some] <;> rfl) | (simp only [← hji12]; first | rfl | (simp [errW_none, errW_some] <;> rfl)) | (simp [*, errW_none, errW_some] <;> rfl), by repeat (first | (with_reducible first | exact HB.out | apply lA | apply lN | apply lD | refine below_set ?_ GE135.out) | exact HB.out)⟩
         ·rw [if_neg c18] at H
          exact absurd H (by simp)
        ·rw [if_neg c15] at H
         exact absurd H (by simp)
       ·rw [if_neg c14] at H
        exact absurd H (by simp)
      ·rw [if_neg c13] at H
       exact absurd H (by simp)
     ·rw [if_neg c11] at H
      exact absurd H (by simp)
    ·rw [if_neg c10] at H
     exact absurd H (by simp)
   ·rw [if_neg c8] at H
    exact absurd H (by simp)
  ·rw [if_neg c6] at H
   exact absurd H (by simp)
 ·replace c3 := Bool.eq_false_iff.mpr c3
  subst c3
  have H1 : (some (⟨#[]⟩ : ByteArray)) = some r := by rw [if_neg (show ¬ (false = true) by decide)] at H; exact H
  clear H
  have H := H1
  clear H1
  obtain rfl := Option.some.inj H
  go_enter Try.func19, Try.ntmps19
  go_wp2_with (first | ((with_reducible refine gate_dst (N := 1) rfl ?_); refine box_event ?hg (N := 1) ?hd (cs := #[.int .i64 a0_0, .int .i64 a0_1, .int .u64 a0_2, .string a0_3]) (t := 35) ?hr ?_; (case hd => rfl); (case hg => rfl); (case hr => first | (go_simp; done) | (go_simp; rfl)); intro gb135 hg w32 hbox hb; have n0_ := Aside0.mk (below_step (by repeat (first | (with_reducible first | exact HB.out | apply lA | apply lN | apply lD) | exact HB.out)) hb); have n1_ := Aside0.mk (hbox); have n2_ := Aside0.mk ((by rw [hg]; exact (below_size (by repeat (first | (with_reducible first | exact HB.out | apply lA | apply lN | apply lD) | exact HB.out))) : w.heap.size ≤ gb135)); have n3_ := Aside0.mk ((by rw [hg]; exact (below_size (by repeat (first | (with_reducible first | exact HB.out | apply lA | apply lN | apply lD) | exact HB.out))) : w.heap.size ≤ gb135)); clear HB; have HB := n0_; have BK135 := n1_; have GW135 := n2_; have GE135 := n3_; clear n0_ n1_ n2_ n3_; clear hb hbox hg; have hcz33_0 : w32.cell? ⟨gb135, 0, none⟩ = some (.int .i64 a0_0) := (blk_cell BK135.out 0).trans rfl; have hcz33_1 : w32.cell? ⟨gb135, 1, none⟩ = some (.int .i64 a0_1) := (blk_cell BK135.out 1).trans rfl; have hcz33_2 : w32.cell? ⟨gb135, 2, none⟩ = some (.int .u64 a0_2) := (blk_cell BK135.out 2).trans rfl; have hcz33_3 : w32.cell? ⟨gb135, 3, none⟩ = some (.string a0_3) := (blk_cell BK135.out 3).trans rfl; have hfz33_0 := blk_frozen BK135.out 0; have hfz33_1 := blk_frozen BK135.out 1; have hfz33_2 := blk_frozen BK135.out 2; have hfz33_3 := blk_frozen BK135.out 3) | ((with_reducible refine gate_callee (f := 22) rfl ?_); refine goesL_ (some 5) rfl rfl Try.func22 (by kernel_rfl) rfl #[.agg #[.int .i64 a0_0, .int .i64 a0_1, .int .u64 a0_2, .string a0_3]] rfl (by (try simp only [List.map_toArray, List.map_cons, List.map_nil]); first | done | rfl) ?_; (with_reducible refine (page_May.calls a0_0 a0_1 a0_2 a0_3 false _ A2.out).mono ?_); rintro e w34 ⟨rfl, hb⟩; refine ⟨_, rfl, ?_⟩; have n0_ := Aside0.mk (blk_below (g := gb135) (o := .cells #[.int .i64 a0_0, .int .i64 a0_1, .int .u64 a0_2, .string a0_3] 35 (0, 0)) (by (with_reducible repeat (first | apply bN | apply bD | apply bA)); exact BK135.out) hb); have n1_ := Aside0.mk (below_step (by repeat (first | (with_reducible first | exact HB.out | apply lA | apply lN | apply lD | refine below_set ?_ GE135.out) | exact HB.out)) hb); clear BK135; clear HB; have BK135 := n0_; have HB := n1_; clear n0_ n1_; (try clear hb); (try clear hb2); (try clear hk); (try clear hi)))
  go_ret
  exact ⟨by first | rfl | (simp <;> rfl) | (simp [*] <;> rfl), by repeat (first | (with_reducible first | exact HB.out | apply lA | apply lN | apply lD | refine below_set ?_ GE135.out) | exact HB.out)⟩

end Go.Proofs.Ytlimgnpkbelmcaa.F
