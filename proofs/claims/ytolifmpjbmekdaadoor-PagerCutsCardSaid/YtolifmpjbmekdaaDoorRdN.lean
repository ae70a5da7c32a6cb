/-
A reader's Num, at bytes that wire.Num made; End; conditions: the number is not above its limit.
-/
import Derived.Test.YtolifmpjbmekdaaDoorRd
namespace Go.Proofs.YtolifmpjbmekdaaDoor
open Go.RowKit Go.Lib
variable {q : Nat} {s : ByteArray} {err : Int} {w : World}
theorem rd_end (h : Rd q ⟨#[]⟩ 0 w) : Calls Tryd.prog 64 #[.pointer (some ⟨q, 0, none⟩)] w fun e w' => e = .returned (.int .i64 0) ∧ w = w' := by
  have c0 : w.cell? ⟨q, 0, none⟩ = some (.string ⟨#[]⟩) := (cell_at h 0).trans rfl
  have HE := hid (rd_err h)
  clear h
  go_enter Tryd.func64, Tryd.ntmps64
  go_wp2_with (first | (go_at_call 79; (with_reducible refine HE.out.mono ?_); rintro e w1 ⟨rfl, rfl⟩))
  go_ret
  exact ⟨rfl, rfl⟩
theorem and127 (c : UInt8) : Go.bits .and .u8 (c.toNat : Int) 127 = ((c.toNat % 128 : Nat) : Int) := by
  have h := (bits_nat .u8 8 (by decide) wraps_u8 c.toNat 127 c.toNat_lt (by decide)).1
  refine h.trans ?_
  rw [show (127 : Nat) = 2 ^ 7 - 1 from rfl, Nat.and_two_pow_sub_one_eq_mod]
theorem and128 (c : UInt8) : (Go.bits .and .u8 (c.toNat : Int) 128 != 0) = decide (127 < c.toNat) := by
  have h := (bits_nat .u8 8 (by decide) wraps_u8 c.toNat 128 c.toNat_lt (by decide)).1
  have e : Go.bits .and .u8 (c.toNat : Int) 128 = ((c.toNat &&& 128 : Nat) : Int) := h
  rw [e]
  have h2 : ∀ y : Fin 256, (((y.val &&& 128 : Nat) : Int) != 0) = decide (127 < y.val) := by decide +kernel
  exact h2 ⟨c.toNat, c.toNat_lt⟩
theorem or_shift {a b i : Nat} (ha : a < 128 ^ i) (hab : a + b * 128 ^ i < 18446744073709551616) : Go.bits .or .u64 (a : Int) ((b * 128 ^ i : Nat) : Int) = ((a + b * 128 ^ i : Nat) : Int) := by
  have hw : ∀ n : Int, 0 ≤ n → n < 2 ^ 64 → IntKind.u64.wrap n = n := fun n h0 h1 => by rw [IntKind.wrap_u64]; omega
  rw [(bits_nat .u64 64 (by decide) hw a (b * 128 ^ i) (by omega) (by omega)).2]
  have e : (128 : Nat) ^ i = 2 ^ (7 * i) := by rw [Nat.pow_mul]
  have h := Nat.two_pow_add_eq_or_of_lt (i := 7 * i) (b := a) (by rw [← e]; exact ha) b
  rw [e, Nat.mul_comm b, Nat.or_comm, ← h]
  omega
theorem shift_eq {b i : Nat} (h : b * 128 ^ i < 18446744073709551616) : IntKind.u64.wrap ((b : Int) * 2 ^ (7 * i)) = ((b * 128 ^ i : Nat) : Int) := by
  have e : (b : Int) * 2 ^ (7 * i) = ((b * 128 ^ i : Nat) : Int) := by
    rw [Int.natCast_mul, show (128 : Nat) ^ i = 2 ^ (7 * i) by rw [Nat.pow_mul]]
    simp
  rw [e, IntKind.wrap_u64]
  omega
/-- A piece of a number's bytes. -/
theorem varint_step {f x : Nat} (h : 127 < x) : varint (f + 1) x = UInt8.ofNat (128 + x % 128) :: varint f (x / 128) := by
  simp only [varint, if_pos h]
theorem varint_last {f x : Nat} (h : ¬ 127 < x) : varint (f + 1) x = [UInt8.ofNat x] := by
  simp only [varint, if_neg h]
set_option maxHeartbeats 3200000 in
set_option maxRecDepth 10000 in
theorem rd_num {n most : Nat} {rest : List UInt8} (h : Rd q (str (numB n ++ rest)) 0 w) (hn : n ≤ most) (hm : most < 18446744073709551616) (hr : rest.length ≤ 1000000) : Calls Tryd.prog 63 #[.pointer (some ⟨q, 0, none⟩), .int .u64 most] w fun e w' => e = .returned (.int .u64 n) ∧ Rd q (str rest) 0 w' ∧ Kept (fun b => b = q) w w' := by
  have HE := hid (rd_err h)
  have c0 : w.cell? ⟨q, 0, none⟩ = some (.string (str (numB n ++ rest))) := (cell_at h 0).trans rfl
  have f0 := frozen_at h 0
  have H := hid h
  have hnl : (numB n).length ≤ 10 := varint_length 10 n
  have hsz : (str (numB n ++ rest)).size = (numB n).length + rest.length := by rw [str_size, List.length_append]
  have hget : ∀ (i : Nat) (c : UInt8), (numB n)[i]? = some c → ∃ hi : i < (str (numB n ++ rest)).size, (str (numB n ++ rest))[i] = c := fun i c hc => by
    have hi : i < (numB n).length := (List.getElem?_eq_some_iff.1 hc).1
    refine ⟨by omega, ?_⟩
    have : (numB n ++ rest)[i]? = some c := by rw [List.getElem?_append_left hi]; exact hc
    obtain ⟨h1, h2⟩ := List.getElem?_eq_some_iff.1 this
    exact h2
  have hrest : (str (numB n ++ rest)).extract (numB n).length ((str (numB n ++ rest)).size) = str rest := by
    apply ByteArray.ext
    simp [str, ByteArray.size]
  have HG := hid hget
  have HRS := hid hrest
  clear h hget hrest
  generalize str (numB n ++ rest) = t at *
  generalize str rest = rs at *
  go_enter Tryd.func63, Tryd.ntmps63
  go_wp2_with (first | (go_at_call 79; (with_reducible refine HE.out.mono ?_); rintro e w1 ⟨rfl, rfl⟩))
  go_loop [5, 11] (fun v5 v11 => ∃ (i a f x : Nat) (pre : List UInt8), v11 = .int .i64 i ∧ v5 = .int .u64 a ∧ i ≤ 9 ∧ Hid (i = pre.length ∧ i + f = 9 ∧ numB n = pre ++ varint (f + 1) x ∧ a + x * 128 ^ i = n ∧ a < 128 ^ i ∧ (i = 0 ∨ 0 < x))) (fun _ v => 10 - (intOf v).toNat)
  case atStart => exact ⟨0, 0, 9, n, [], rfl, rfl, by omega, hid ⟨rfl, rfl, rfl, by simp, by simp, .inl rfl⟩⟩
  case round =>
    obtain ⟨i, a, f, x, pre, rfl, rfl, hi, HX⟩ := hrel
    obtain ⟨e1, e2, e3, e4, e5, e6⟩ := HX.out
    have hp9 : 128 ^ i * 128 ≤ 128 ^ 10 := by rw [← Nat.pow_succ]; exact Nat.pow_le_pow_right (by decide) (by omega)
    by_cases hx : 127 < x
    · as_aux_lemma =>
      obtain ⟨g, rfl⟩ : ∃ g, f = g + 1 := by
        cases f with
        | zero =>
          exfalso
          have h9 : i = 9 := by omega
          subst h9
          have : (128 : Nat) ^ 9 = 9223372036854775808 := by decide
          omega
        | succ g => exact ⟨g, rfl⟩
      have hc := varint_step (f := g + 1) hx
      have hci : (numB n)[i]? = some (UInt8.ofNat (128 + x % 128)) := by rw [e3, hc, e1]; simp
      obtain ⟨hil, hg⟩ := HG.out i _ hci
      have hcn : (UInt8.ofNat (128 + x % 128)).toNat = 128 + x % 128 := by simp; omega
      have a7 := and127 (UInt8.ofNat (128 + x % 128))
      have a8 := and128 (UInt8.ofNat (128 + x % 128))
      rw [hcn] at a7 a8
      have hx128 : (128 + x % 128) % 128 = x % 128 := by omega
      rw [hx128] at a7
      have hd : decide (127 < 128 + x % 128) = true := decide_eq_true (by omega)
      rw [hd] at a8
      have hdm : x % 128 + 128 * (x / 128) = x := Nat.mod_add_div _ _
      have hm2 : x * 128 ^ i = (x % 128) * 128 ^ i + (x / 128) * 128 ^ (i + 1) := by
        have : x * 128 ^ i = (x % 128 + 128 * (x / 128)) * 128 ^ i := by rw [hdm]
        rw [this, Nat.add_mul, Nat.pow_succ, Nat.mul_comm 128 (x / 128), Nat.mul_assoc, Nat.mul_comm 128]
      have hlt2 : (x % 128) * 128 ^ i + 128 ^ i ≤ 128 * 128 ^ i := by
        have := Nat.mul_le_mul_right (128 ^ i) (show x % 128 + 1 ≤ 128 by omega)
        rw [Nat.add_mul, Nat.one_mul] at this
        exact this
      have ho := or_shift (a := a) (b := x % 128) (i := i) e5 (by omega)
      have hsh : IntKind.u64.wrap (((x % 128 : Nat) : Int) * 2 ^ (7 * i)) = (((x % 128) * 128 ^ i : Nat) : Int) := shift_eq (by omega)
      have HX2 : Hid (i + 1 = (pre ++ [UInt8.ofNat (128 + x % 128)]).length ∧ i + 1 + g = 9 ∧ numB n = (pre ++ [UInt8.ofNat (128 + x % 128)]) ++ varint (g + 1) (x / 128) ∧ (a + (x % 128) * 128 ^ i) + x / 128 * 128 ^ (i + 1) = n ∧ a + (x % 128) * 128 ^ i < 128 ^ (i + 1) ∧ (i + 1 = 0 ∨ 0 < x / 128)) := hid ⟨by simp [e1], by omega, by rw [e3, hc, List.append_assoc]; rfl, by omega, by rw [Nat.pow_succ]; omega, .inr (by omega)⟩
      have hgx : (t[i].toNat : Int) = ((128 + x % 128 : Nat) : Int) := by rw [hg, hcn]
      have hne : ((i : Int) == (t.size : Int)) = false := beq_eq_false_iff_ne.2 (by omega)
      have hi9 : ((i : Int) == 9) = false := beq_eq_false_iff_ne.2 (by omega)
      have hts : t.size ≤ 2000000 := by omega
      have hi8 : i ≤ 8 := by omega
      generalize (x % 128) * 128 ^ i = y at *
      obtain ⟨cN, hcN⟩ : ∃ cN, 128 + x % 128 = cN := ⟨_, rfl⟩
      have hz0 : ((cN : Int) == 0) = false := beq_eq_false_iff_ne.2 (by omega)
      have hcb : cN ≤ 255 := by omega
      rw [hcN] at a7 a8 hgx
      have hzl : x % 128 < 128 := by omega
      clear hcN
      generalize x % 128 = z at a7 a8 hsh ho hzl
      clear HG HX hc hci hg hcn hp9 e1 e2 e3 e4 e5 e6 hd hx hx128 hdm hm2 hlt2 HRS hsz hnl HE
      go_wp2
      all_goals exact ⟨⟨i + 1, a + y, g, _, _, by go_num, by go_num, by omega, HX2⟩, by simp [intOf]; omega⟩
    · as_aux_lemma =>
      have hc := varint_last (f := f) hx
      have hci : (numB n)[i]? = some (UInt8.ofNat x) := by rw [e3, hc, e1]; simp
      obtain ⟨hil, hg⟩ := HG.out i _ hci
      have hcn : (UInt8.ofNat x).toNat = x := by simp; omega
      have hlen : (numB n).length = i + 1 := by rw [e3, hc, e1]; simp
      have a7 := and127 (UInt8.ofNat x)
      have a8 := and128 (UInt8.ofNat x)
      rw [hcn] at a7 a8
      have hx128 : x % 128 = x := by omega
      rw [hx128] at a7
      have hd : decide (127 < x) = false := decide_eq_false hx
      rw [hd] at a8
      have ho := or_shift (a := a) (b := x) (i := i) e5 (by omega)
      rw [e4] at ho
      rw [hlen] at HRS
      have hxs : x * 128 ^ i < 18446744073709551616 := by omega
      have hgx : (t[i].toNat : Int) = (x : Int) := by rw [hg, hcn]
      have hne : ((i : Int) == (t.size : Int)) = false := beq_eq_false_iff_ne.2 (by omega)
      have hx9 : i = 9 → x ≤ 1 := fun e => by
        subst e
        have : (128 : Nat) ^ 9 = 9223372036854775808 := by decide
        omega
      have hxb : x ≤ 127 := by omega
      have him : i ≤ 9 := by omega
      clear HG HX hc hci hg hcn hlen hp9 e1 e2 e3 e4 e5 hd hx hx128
      have t9 : ((i : Int) == 9) = true → decide (1 < (x : Int)) = false := fun e => decide_eq_false (by
        have := hx9 (by have := eq_of_beq e; omega)
        omega)
      have hrs : t.extract (i + 1) t.size = rs := HRS.out
      have hmn : ¬ most < n := by omega
      have hts : t.size ≤ 2000000 := by omega
      have hsh : IntKind.u64.wrap ((x : Int) * 2 ^ (7 * i)) = ((x * 128 ^ i : Nat) : Int) := shift_eq hxs
      clear HRS hsz hnl
      by_cases h0 : i = 0
      · subst h0
        simp only [Nat.pow_zero, Nat.mul_one, Nat.zero_add] at ho hrs
        go_wp2
        go_ret
        exact ⟨rfl, (heap_setCell_same H.out).trans (by simp), (Kept.refl (fun b => b = q) w).setCell (p := ⟨q, 0, none⟩) (.inl rfl) _⟩
      · have hx0 : ((x : Int) == 0) = false := beq_eq_false_iff_ne.2 (by omega)
        have hi0 : decide ((0 : Int) < (i : Int)) = true := decide_eq_true (by omega)
        generalize x * 128 ^ i = y at *
        by_cases h9 : i = 9
        · have hb9 : ((i : Int) == 9) = true := beq_iff_eq.2 (by omega)
          have hd9 := t9 hb9
          clear t9 hx9 h0 h9 e6
          go_wp2
          all_goals go_ret
          all_goals exact ⟨rfl, (heap_setCell_same H.out).trans (by simp), (Kept.refl (fun b => b = q) w).setCell (p := ⟨q, 0, none⟩) (.inl rfl) _⟩
        · have hb9 : ((i : Int) == 9) = false := beq_eq_false_iff_ne.2 (by omega)
          clear t9 hx9 h0 h9 e6
          go_wp2
          all_goals go_ret
          all_goals exact ⟨rfl, (heap_setCell_same H.out).trans (by simp), (Kept.refl (fun b => b = q) w).setCell (p := ⟨q, 0, none⟩) (.inl rfl) _⟩
end Go.Proofs.YtolifmpjbmekdaaDoor
