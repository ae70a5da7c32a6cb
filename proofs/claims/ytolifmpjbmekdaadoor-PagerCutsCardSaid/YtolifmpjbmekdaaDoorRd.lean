/-
A reader of bytes: New, Err, Take, Fixed, where bytes enough are left; conditions: the reader lies in memory as told.
-/
import Derived.Test.YtolifmpjbmekdaaDoorWire
namespace Go.Proofs.YtolifmpjbmekdaaDoor
open Go.RowKit Go.Lib
/-- A reader lies in block q. -/
def Rd (q : Nat) (s : ByteArray) (err : Int) (w : World) : Prop := w.heap[q]? = some (.cells #[.string s, .int .i64 err] 128 (0, 0))
theorem Rd.kept {G : Nat → Prop} {q : Nat} {s : ByteArray} {err : Int} {w w' : World} (h : Rd q s err w) (hk : Kept G w w') (hG : ¬ G q) : Rd q s err w' := hk.at h hG
theorem rd_new (s : ByteArray) (w : World) : Calls Tryd.prog 62 #[.string s] w fun e w' => e = .returned (.pointer (some ⟨w.heap.size, 0, none⟩)) ∧ Rd w.heap.size s 0 w' ∧ New w w' ∧ w'.heap.size = w.heap.size + 1 := by
  go_enter Tryd.func62, Tryd.ntmps62
  go_wp2
  go_ret
  exact ⟨rfl, blk_new _ _, (Kept.refl _ _).alloc _, by simp⟩
variable {q : Nat} {s : ByteArray} {err : Int} {w : World}
theorem rd_err (h : Rd q s err w) : Calls Tryd.prog 79 #[.pointer (some ⟨q, 0, none⟩)] w fun e w' => e = .returned (.int .i64 err) ∧ w = w' := by
  have c1 : w.cell? ⟨q, 1, none⟩ = some (.int .i64 err) := (cell_at h 1).trans rfl
  clear h
  go_enter Tryd.func79, Tryd.ntmps79
  go_wp2
  go_ret
  exact ⟨rfl, rfl⟩
theorem rd_take (h : Rd q s 0 w) {n : Nat} (hn : n ≤ s.size) : Calls Tryd.prog 78 #[.pointer (some ⟨q, 0, none⟩), .int .i64 n] w fun e w' => e = .returned (.string (s.extract 0 n)) ∧ Rd q (s.extract n s.size) 0 w' ∧ Kept (fun b => b = q) w w' := by
  have c0 : w.cell? ⟨q, 0, none⟩ = some (.string s) := (cell_at h 0).trans rfl
  have f0 := frozen_at h 0
  have HE := hid (rd_err h)
  have H := hid h
  have g1 : ¬ (n : Int) < 0 := by omega
  have g2 : ¬ s.size < n := by omega
  have g3 : decide (s.size < n) = false := decide_eq_false g2
  clear h
  go_enter Tryd.func78, Tryd.ntmps78
  go_wp2_with (first | (go_at_call 79; (with_reducible refine HE.out.mono ?_); rintro e w1 ⟨rfl, rfl⟩))
  go_ret
  exact ⟨rfl, (heap_setCell_same H.out).trans (by simp), (Kept.refl (fun b => b = q) w).setCell (p := ⟨q, 0, none⟩) (.inl rfl) _⟩
theorem unle_drop {l : List UInt8} {i : Nat} (h : i < l.length) : unle (l.drop i) = l[i].toNat + 256 * unle (l.drop (i + 1)) := by
  rw [List.drop_eq_getElem_cons h]
  rfl
theorem shl_or {a b : Nat} (ha : a < 72057594037927936) (hb : b < 256) : Go.bits .or .u64 ((a : Int) * 256) (b : Int) = ((b + 256 * a : Nat) : Int) := by
  have e : (a : Int) * 256 = ((a * 256 : Nat) : Int) := by omega
  have hw : ∀ n : Int, 0 ≤ n → n < 2 ^ 64 → IntKind.u64.wrap n = n := fun n h0 h1 => by rw [IntKind.wrap_u64]; omega
  rw [e, (bits_nat .u64 64 (by decide) hw (a * 256) b (by omega) (by omega)).2]
  have h := Nat.two_pow_add_eq_or_of_lt (i := 8) (b := b) (by omega) a
  rw [show 2 ^ 8 * a = a * 256 by omega] at h
  rw [← h]
  omega
set_option maxHeartbeats 1600000 in
set_option maxRecDepth 10000 in
theorem rd_fixed (h : Rd q s 0 w) {b : Nat} (hb : b ≤ 8) (hn : b ≤ s.size) : Calls Tryd.prog 77 #[.pointer (some ⟨q, 0, none⟩), .int .i64 b] w fun e w' => e = .returned (.int .u64 (unle (s.extract 0 b).data.toList)) ∧ Rd q (s.extract b s.size) 0 w' ∧ Kept (fun b => b = q) w w' := by
  have HT := hid (rd_take h hn)
  have hsz : (s.extract 0 b).size = b := by rw [ByteArray.size_extract]; omega
  have b1 : (b : Int) ≤ 8 := by omega
  have b2 : ¬ (8 : Int) < b := by omega
  clear h
  generalize s.extract b s.size = rest at *
  generalize s.extract 0 b = t at *
  have hl : t.data.toList.length = b := by simpa using hsz
  have hlt := unle_lt t.data.toList
  go_enter Tryd.func77, Tryd.ntmps77
  go_wp2_with (first | (go_at_call 78; (with_reducible refine HT.out.mono ?_); rintro e w1 ⟨rfl, hr, hk⟩; have HR := hid hr; have HK := hid hk; clear hr hk))
  clear HT
  go_loop [6, 7] (fun v6 v7 => ∃ (i x : Nat), v7 = .int .i64 ((i : Int) - 1) ∧ v6 = .int .u64 x ∧ i ≤ b ∧ Hid (x = unle (t.data.toList.drop i))) (fun _ v => (intOf v + 1).toNat)
  case atStart => exact ⟨b, 0, by go_num, rfl, Nat.le_refl _, hid (by rw [List.drop_eq_nil_of_le (by omega)]; rfl)⟩
  case round =>
    obtain ⟨i, x, rfl, rfl, hi, HX⟩ := hrel
    by_cases h0 : 0 < i
    · as_aux_lemma =>
      obtain ⟨k, rfl⟩ : ∃ k, i = k + 1 := ⟨i - 1, by omega⟩
      have hk : k < t.size := by omega
      have e : (((k + 1 : Nat) : Int) - 1) = (k : Int) := by omega
      rw [e]
      have hx : x < 72057594037927936 := by
        have h1 := unle_lt (t.data.toList.drop (k + 1))
        rw [← HX.out, List.length_drop, hl] at h1
        exact Nat.lt_of_lt_of_le h1 (Nat.le_trans (Nat.pow_le_pow_right (by decide) (show b - (k + 1) ≤ 7 by omega)) (by decide))
      have hc := t[k].toNat_lt
      have HS : Hid (unle (t.data.toList.drop k) = t[k].toNat + 256 * x) := hid (by
        rw [unle_drop (by omega), HX.out]
        rfl)
      have hor := shl_or hx hc
      clear e hlt
      go_wp2
      go_round
      case rel =>
        exact ⟨k, t[k].toNat + 256 * x, rfl, by go_num, by omega, hid HS.out.symm⟩
      case measure => simp [intOf]
    · as_aux_lemma =>
      obtain rfl : i = 0 := by omega
      have HX2 : Hid (x = unle t.data.toList) := hid HX.out
      clear hlt
      go_wp2
      go_ret
      exact ⟨by rw [← HX2.out]; rfl, HR.out, HK.out⟩
end Go.Proofs.YtolifmpjbmekdaaDoor
