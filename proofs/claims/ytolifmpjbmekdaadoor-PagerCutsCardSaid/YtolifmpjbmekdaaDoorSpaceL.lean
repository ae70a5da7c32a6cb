/-
How many places are free; conditions: the space lies in memory as told.
-/
import Derived.Test.YtolifmpjbmekdaaDoorSpace
namespace Go.Proofs.YtolifmpjbmekdaaDoor
open Go.RowKit Go.Lib
theorem shr_nat (x k : Nat) : (x : Int) / 2 ^ k = ((x >>> k : Nat) : Int) := by
  rw [Nat.shiftRight_eq_div_pow, Int.natCast_ediv]
  simp
/-- The library's sums, as the machine reckons them. -/
def gA (x : Int) : Int := IntKind.u64.wrap (Go.bits .and .u64 (x / 2) 6148914691236517205 + Go.bits .and .u64 x 6148914691236517205)
def gB (a : Int) : Int := IntKind.u64.wrap (Go.bits .and .u64 (a / 4) 3689348814741910323 + Go.bits .and .u64 a 3689348814741910323)
def gC (b : Int) : Int := Go.bits .and .u64 (IntKind.u64.wrap (b / 16 + b)) 1085102592571150095
def gD (c : Int) : Int := IntKind.u64.wrap (c + c / 256)
def gE (d : Int) : Int := IntKind.u64.wrap (d + d / 65536)
def gF (e : Int) : Int := IntKind.u64.wrap (e + e / 4294967296)
def goPop (x : Int) : Int := Go.bits .and .i64 (wrap64 (gF (gE (gD (gC (gB (gA x))))))) 127
def nA (x : Nat) : Nat := ((x >>> 1) &&& 6148914691236517205) + (x &&& 6148914691236517205)
def nB (a : Nat) : Nat := ((a >>> 2) &&& 3689348814741910323) + (a &&& 3689348814741910323)
def nC (b : Nat) : Nat := ((b >>> 4) + b) &&& 1085102592571150095
theorem popSums_n (x : Nat) : popSums x = ((fun e => e + e >>> 32) ((fun d => d + d >>> 16) ((fun c => c + c >>> 8) (nC (nB (nA x)))))) &&& 127 := rfl
theorem gA_eq {x : Nat} (hx : x < 18446744073709551616) : gA x = (nA x : Int) ∧ nA x < 18446744073709551616 := by
  have b1 : x >>> 1 ≤ x := Nat.shiftRight_le _ _
  have h1 : (x : Int) / (2 : Int) = ((x >>> 1 : Nat) : Int) := by
    rw [Nat.shiftRight_eq_div_pow]
    omega
  have e1 := and_u64 (a := x >>> 1) (b := 6148914691236517205) (by omega) (by decide)
  have e2 := and_u64 (a := x) (b := 6148914691236517205) hx (by decide)
  have l1 : (x >>> 1) &&& 6148914691236517205 ≤ 6148914691236517205 := Nat.and_le_right
  have l2 : x &&& 6148914691236517205 ≤ 6148914691236517205 := Nat.and_le_right
  unfold gA nA
  rw [h1]
  refine ⟨(congrArg IntKind.u64.wrap (congr (congrArg HAdd.hAdd e1) e2)).trans ?_, by omega⟩
  rw [IntKind.wrap_u64]
  omega
theorem gB_eq {x : Nat} (hx : x < 18446744073709551616) : gB x = (nB x : Int) ∧ nB x ≤ 7378697629483820646 := by
  have b1 : x >>> 2 ≤ x := Nat.shiftRight_le _ _
  have h1 : (x : Int) / (4 : Int) = ((x >>> 2 : Nat) : Int) := by
    rw [Nat.shiftRight_eq_div_pow]
    omega
  have e1 := and_u64 (a := x >>> 2) (b := 3689348814741910323) (by omega) (by decide)
  have e2 := and_u64 (a := x) (b := 3689348814741910323) hx (by decide)
  have l1 : (x >>> 2) &&& 3689348814741910323 ≤ 3689348814741910323 := Nat.and_le_right
  have l2 : x &&& 3689348814741910323 ≤ 3689348814741910323 := Nat.and_le_right
  unfold gB nB
  rw [h1]
  refine ⟨(congrArg IntKind.u64.wrap (congr (congrArg HAdd.hAdd e1) e2)).trans ?_, by omega⟩
  rw [IntKind.wrap_u64]
  omega
theorem gC_eq {x : Nat} (hx : x ≤ 7378697629483820646) : gC x = (nC x : Int) ∧ nC x ≤ 1085102592571150095 := by
  have b1 : x >>> 4 ≤ x := Nat.shiftRight_le _ _
  have h1 : (x : Int) / (16 : Int) = ((x >>> 4 : Nat) : Int) := by
    rw [Nat.shiftRight_eq_div_pow]
    omega
  have e0 : IntKind.u64.wrap (((x >>> 4 : Nat) : Int) + (x : Int)) = ((x >>> 4 + x : Nat) : Int) := by
    rw [IntKind.wrap_u64]
    omega
  have e1 := and_u64 (a := x >>> 4 + x) (b := 1085102592571150095) (by omega) (by decide)
  unfold gC nC
  rw [h1, e0]
  exact ⟨e1, Nat.and_le_right⟩
theorem gD_eq {x : Nat} (hx : x ≤ 1085102592571150095) : gD x = ((x + x >>> 8 : Nat) : Int) ∧ x + x >>> 8 ≤ 2170205185142300190 := by
  have b1 : x >>> 8 ≤ x := Nat.shiftRight_le _ _
  have h1 : (x : Int) / (256 : Int) = ((x >>> 8 : Nat) : Int) := by
    rw [Nat.shiftRight_eq_div_pow]
    omega
  unfold gD
  rw [h1, IntKind.wrap_u64]
  omega
theorem gE_eq {x : Nat} (hx : x ≤ 2170205185142300190) : gE x = ((x + x >>> 16 : Nat) : Int) ∧ x + x >>> 16 ≤ 4340410370284600380 := by
  have b1 : x >>> 16 ≤ x := Nat.shiftRight_le _ _
  have h1 : (x : Int) / (65536 : Int) = ((x >>> 16 : Nat) : Int) := by
    rw [Nat.shiftRight_eq_div_pow]
    omega
  unfold gE
  rw [h1, IntKind.wrap_u64]
  omega
theorem gF_eq {x : Nat} (hx : x ≤ 4340410370284600380) : gF x = ((x + x >>> 32 : Nat) : Int) ∧ x + x >>> 32 ≤ 8680820740569200760 := by
  have b1 : x >>> 32 ≤ x := Nat.shiftRight_le _ _
  have h1 : (x : Int) / (4294967296 : Int) = ((x >>> 32 : Nat) : Int) := by
    rw [Nat.shiftRight_eq_div_pow]
    omega
  unfold gF
  rw [h1, IntKind.wrap_u64]
  omega
theorem gG_eq {x : Nat} (hx : x ≤ 8680820740569200760) : Go.bits .and .i64 (wrap64 x) 127 = ((x &&& 127 : Nat) : Int) := by
  have e : wrap64 (x : Int) = (x : Int) := by unfold wrap64; omega
  rw [e]
  exact (bits_nat .i64 63 (by decide) (fun n h0 h1 => by rw [IntKind.wrap_i64]; omega) x 127 (by omega) (by decide)).1
theorem goPop_eq {x : Nat} (hx : x < 18446744073709551616) : goPop (x : Int) = (pop x : Int) := by
  obtain ⟨a1, a2⟩ := gA_eq hx
  obtain ⟨b1, b2⟩ := gB_eq a2
  obtain ⟨c1, c2⟩ := gC_eq b2
  obtain ⟨d1, d2⟩ := gD_eq c2
  obtain ⟨e1, e2⟩ := gE_eq d2
  obtain ⟨f1, f2⟩ := gF_eq e2
  rw [← (popSums_eq (x := x) hx).2, popSums_n]
  unfold goPop
  rw [a1, b1, c1, d1, e1, f1]
  exact gG_eq f2
theorem ones_calls {x : Nat} (hx : x < 18446744073709551616) (w : World) : Calls Tryd.prog 60 #[.int .u64 x] w fun e w' => e = .returned (.int .i64 (pop x)) ∧ w = w' := by
  have hp := (popSums_eq (x := x) hx).2
  have HP := hid hp
  clear hp
  go_enter Tryd.func60, Tryd.ntmps60
  go_wp2
  go_ret
  exact ⟨congrArg (fun z => Ending.returned (.int .i64 z)) (goPop_eq hx), rfl⟩
/-- How many of the first places are used. -/
def countU (U : Nat → Bool) : Nat → Nat
  | 0 => 0
  | n + 1 => countU U n + (U n).toNat
theorem countU_add (U : Nat → Bool) : ∀ (n m : Nat), countU U (m + n) = countU U m + cnt n (fun j => (U (m + j)).toNat)
  | 0, m => rfl
  | n + 1, m => by
    have ih := countU_add U n (m + 1)
    rw [show m + (n + 1) = (m + 1) + n by omega, ih]
    have e : (fun j => (U (m + 1 + j)).toNat) = fun j => (U (m + (j + 1))).toNat := funext fun j => by rw [show m + 1 + j = m + (j + 1) by omega]
    rw [e]
    show countU U m + (U m).toNat + _ = countU U m + ((U (m + 0)).toNat + _)
    rw [Nat.add_assoc]
    rfl
theorem countU_le (U : Nat → Bool) : ∀ n, countU U n ≤ n
  | 0 => Nat.le_refl _
  | n + 1 => by
    have := countU_le U n
    have : (U n).toNat ≤ 1 := Bool.toNat_le _
    simp only [countU]
    omega
theorem countU_top (U : Nat → Bool) {m : Nat} (h : ∀ n, m ≤ n → U n = false) : ∀ k, countU U (m + k) = countU U m
  | 0 => rfl
  | k + 1 => by
    show countU U (m + k) + (U (m + k)).toNat = _
    rw [countU_top U h k, h _ (by omega)]
    rfl
theorem cnt_congr : ∀ (n : Nat) (d e : Nat → Nat), (∀ i, i < n → d i = e i) → cnt n d = cnt n e
  | 0, _, _, _ => rfl
  | n + 1, d, e, h => by
    simp only [cnt]
    rw [h 0 (by omega), cnt_congr n (fun i => d (i + 1)) (fun i => e (i + 1)) fun i hi => h (i + 1) (by omega)]
theorem pop_word {x i : Nat} {U : Nat → Bool} (h : ∀ j, j < 64 → x.testBit j = U (64 * i + j)) : countU U (64 * (i + 1)) = countU U (64 * i) + pop x := by
  rw [show 64 * (i + 1) = 64 * i + 64 by omega, countU_add]
  have e : cnt 64 (fun j => (U (64 * i + j)).toNat) = pop x := by
    refine cnt_congr _ _ _ fun j hj => ?_
    rw [← h j hj]
    unfold bitN
    cases x.testBit j <;> simp [hj]
  rw [e]
variable {p bw many : Nat} {U : Nat → Bool} {w : World}
theorem left_calls (h : Spc p bw many U w) : Calls Tryd.prog 45 #[.pointer (some ⟨p, 0, none⟩)] w fun e w' => e = .returned (.int .i64 ((many - countU U many : Nat) : Int)) ∧ w = w' := by
  have c0 := h.c0
  have c1 := h.c1
  have hf := h.few
  have hle := countU_le U many
  have hfin : countU U (64 * ((many + 63) / 64)) = countU U many := by
    have := countU_top U h.top (64 * ((many + 63) / 64) - many)
    rw [show many + (64 * ((many + 63) / 64) - many) = 64 * ((many + 63) / 64) by omega] at this
    exact this
  have HF := hid hfin
  have H := hid h
  have hm : ((many - countU U many : Nat) : Int) = (many : Int) - (countU U many : Int) := by omega
  rw [hm]
  clear h hfin hm
  go_enter Tryd.func45, Tryd.ntmps45
  go_wp2
  go_loop [3, 17] (fun v3 v17 => ∃ i : Nat, v17 = .int .i64 i ∧ v3 = .int .i64 ((many : Int) - (countU U (64 * i) : Int)) ∧ i ≤ (many + 63) / 64) (fun _ v => (many + 63) / 64 - (intOf v).toNat)
  case atStart => exact ⟨0, rfl, by simp [countU], by omega⟩
  case round =>
    obtain ⟨i, rfl, rfl, hi⟩ := hrel
    have hb := countU_le U (64 * i)
    by_cases hlt : i < (many + 63) / 64
    · obtain ⟨x, x1, _, hx, hbits⟩ := H.out.word hlt
      have hp := pop_word hbits
      have hb2 := countU_le U (64 * (i + 1))
      have HO := hid (fun w => ones_calls hx w)
      have HP := hid hp
      have hpl : pop x ≤ 64 * (i + 1) := by omega
      generalize countU U (64 * i) = k at *
      clear hbits hp hb2
      generalize hpx : pop x = px at *
      clear hpx
      go_wp2_with (first | (go_at_call 60; (with_reducible refine (HO.out _).mono ?_); rintro e w1 ⟨rfl, rfl⟩))
      go_round
      case rel =>
        refine ⟨i + 1, by go_num, ?_, by omega⟩
        rw [HP.out]
        go_num
      case measure => simp [intOf]; omega
    · obtain rfl : i = (many + 63) / 64 := by omega
      rw [HF.out]
      go_wp2
      go_ret
      exact ⟨rfl, rfl⟩
theorem mk_words (w : World) {n : Nat} (hn : n ≤ 1000000) : (Instr.makeSlice 99 (.int .i64 n) (.int .i64 n)).run Tryd.prog w = .ok (.slice (some ⟨w.heap.size, 0, none⟩) n n) (w.alloc (.cells (Array.replicate n (.int .u64 0)) 35)) := by
  have info : (Tryd.prog.info? 35).map (fun i => (i.zero, i.size, i.bytes)) = some (some (.int .u64 0), 1, 8) := by kernel_rfl
  obtain ⟨i, hi, hz, hs, hb⟩ := info_parts info
  have h := run_make (P := Tryd.prog) w 99 35 i (.int .u64 0) Tryd.underlying99 hi hz .i64 .i64 n n (by omega) (by omega) (by rw [hb]; omega) (by omega)
  rw [hs, Int.toNat_natCast, made_one _ rfl] at h
  exact h
set_option maxRecDepth 10000 in
theorem space_new {many : Nat} (hm : many ≤ 16384) (w : World) : Calls Tryd.prog 32 #[.int .i64 many] w fun e w' => e = .returned (.pointer (some ⟨w.heap.size + 1, 0, none⟩)) ∧ Spc (w.heap.size + 1) w.heap.size many (fun _ => false) w' ∧ New w w' ∧ w'.heap.size = w.heap.size + 2 := by
  have hmk : ∀ w : World, (Instr.makeSlice 99 (.int .i64 (((many : Int) + 64 - 1) / 64)) (.int .i64 (((many : Int) + 64 - 1) / 64))).run Tryd.prog w = .ok (.slice (some ⟨w.heap.size, 0, none⟩) ((many + 63) / 64) ((many + 63) / 64)) (w.alloc (.cells (Array.replicate ((many + 63) / 64) (.int .u64 0)) 35)) := fun w => by
    have h := mk_words w (n := (many + 63) / 64) (by omega)
    rw [show (((many + 63) / 64 : Nat) : Int) = ((many : Int) + 64 - 1) / 64 by omega] at h
    exact h
  have b1 : (many : Int) ≤ 16384 := by omega
  go_enter Tryd.func32, Tryd.ntmps32
  go_wp2

  go_ret
  refine ⟨rfl, ⟨blk_at _ _ (by simp), ⟨_, blk_alloc (blk_new _ _) _, by simp, fun i hi => ⟨0, by simp [hi], by decide, fun j _ => Nat.zero_testBit j⟩⟩, fun _ _ => rfl, hm, by omega⟩, ((Kept.refl _ _).alloc _).alloc _, by simp⟩
end Go.Proofs.YtolifmpjbmekdaaDoor
