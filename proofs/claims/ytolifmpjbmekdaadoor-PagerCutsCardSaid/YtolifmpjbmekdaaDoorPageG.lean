/-
The page that a sector says: page.Get; conditions: none but the sector's size.
-/
import Derived.Test.YtolifmpjbmekdaaDoorPage
import Derived.Test.YtolifmpjbmekdaaDoorRd
namespace Go.Proofs.YtolifmpjbmekdaaDoor
open Go.RowKit
open Go.Lib (hid)
/-- What stands at places of a sector. -/
def part (s : ByteArray) (a b : Nat) : ByteArray := s.extract a b
def numAt (s : ByteArray) (a b : Nat) : Nat := unle (s.extract a b).data.toList
theorem extract_extract (s : ByteArray) (a n : Nat) (h : a + n ≤ s.size) : (s.extract a s.size).extract 0 n = s.extract a (a + n) ∧ (s.extract a s.size).extract n (s.extract a s.size).size = s.extract (a + n) s.size := by
  have hz : (s.extract a s.size).size = s.size - a := by rw [ByteArray.size_extract]; omega
  rw [hz]
  constructor
  · apply ByteArray.ext
    simp
    congr 1
    omega
  · apply ByteArray.ext
    simp
    congr 1
    omega
theorem numAt_lt (s : ByteArray) {a b k : Nat} (h : b - a ≤ k) (hk : k ≤ 8) : numAt s a b < 256 ^ k := by
  have h1 := unle_lt (s.extract a b).data.toList
  have h2 : (s.extract a b).data.toList.length ≤ k := by
    have : (s.extract a b).size ≤ b - a := by rw [ByteArray.size_extract]; omega
    simp only [Array.length_toList]
    exact Nat.le_trans this h
  exact Nat.lt_of_lt_of_le h1 (Nat.pow_le_pow_right (by decide) h2)
def pgK (s : ByteArray) : Nat := numAt s 0 1
def pgN (s : ByteArray) : Nat := numAt s 1 5
def pgG (s : ByteArray) : Nat := numAt s 5 13
def pgL (s : ByteArray) : Nat := numAt s 13 15
def pgD (s : ByteArray) : ByteArray := s.extract 15 (15 + pgL s)
/-- A sector says a page. -/
def Says (s : ByteArray) : Prop := s.size = 256 ∧ pgL s ≤ 237 ∧ putB (pgK s) (pgN s) (pgG s) (pgD s) = s
set_option maxRecDepth 100000 in
theorem get_short {s : ByteArray} (hs : s.size ≠ 256) (w : World) : Calls Tryd.prog 59 #[.string s] w fun e w' => e = .returned (.tuple #[pageV 0 0 0 ⟨#[]⟩, .int .i64 3]) ∧ New w w' := by
  have h1 : ((s.size : Int) != 256) = true := by
    have : ((s.size : Int) == 256) = false := beq_eq_false_iff_ne.2 (by omega)
    simp [bne, this]
  go_enter Tryd.func59, Tryd.ntmps59
  go_wp2
  exact bodyPost_ret (v := .tuple #[pageV 0 0 0 ⟨#[]⟩, .int .i64 3]) (by simp [results, Tryd.results59, go_sem]) rfl ⟨rfl, (Kept.refl _ _).alloc _⟩
theorem rd_fixed_at {q : Nat} {s : ByteArray} {a b : Nat} {w : World} (h : Rd q (s.extract a s.size) 0 w) (hb : b ≤ 8) (hl : a + b ≤ s.size) : Calls Tryd.prog 77 #[.pointer (some ⟨q, 0, none⟩), .int .i64 b] w fun e w' => e = .returned (.int .u64 (numAt s a (a + b))) ∧ Rd q (s.extract (a + b) s.size) 0 w' ∧ Kept (fun b => b = q) w w' := by
  obtain ⟨e1, e2⟩ := extract_extract s a b hl
  have := rd_fixed h hb (by rw [ByteArray.size_extract]; omega)
  rw [e1, e2] at this
  exact this
theorem rd_take_at {q : Nat} {s : ByteArray} {a n : Nat} {w : World} (h : Rd q (s.extract a s.size) 0 w) (hl : a + n ≤ s.size) : Calls Tryd.prog 78 #[.pointer (some ⟨q, 0, none⟩), .int .i64 n] w fun e w' => e = .returned (.string (s.extract a (a + n))) ∧ Rd q (s.extract (a + n) s.size) 0 w' ∧ Kept (fun b => b = q) w w' := by
  obtain ⟨e1, e2⟩ := extract_extract s a n hl
  have := rd_take h (n := n) (by rw [ByteArray.size_extract]; omega)
  rw [e1, e2] at this
  exact this
theorem Kept.atne {q k : Nat} {a b : World} {o : Obj} (h : Kept (fun b => b = q) a b) (hk : a.heap[k]? = some o) (hn : k ≠ q) : b.heap[k]? = some o := h.at hk hn
theorem New.one {q : Nat} {w a b : World} (h : New w a) (hk : Kept (fun b => b = q) a b) (hq : w.heap.size ≤ q) : New w b := h.trans' hk fun x hx e => by subst e; exact absurd hx (by omega)
theorem keptq' {q : Nat} (W : World) (_ : Unit) (i : Nat) (u : Value) : Kept (fun b => b = q) W (W.setCell ⟨q, i, none⟩ u) := (Kept.refl (fun b => b = q) W).setCell (p := ⟨q, i, none⟩) (.inl rfl) u
theorem extract_all (s : ByteArray) : s.extract 0 s.size = s := ByteArray.extract_zero_size
theorem rd_new_at (s : ByteArray) {q : Nat} {w : World} (hq : w.heap.size = q) : Calls Tryd.prog 62 #[.string s] w fun e w' => e = .returned (.pointer (some ⟨q, 0, none⟩)) ∧ Rd q s 0 w' ∧ New w w' := by
  subst hq
  exact (rd_new s w).mono fun e w' ⟨h1, h2, h3, _⟩ => ⟨h1, h2, h3⟩
set_option maxHeartbeats 3200000 in
set_option maxRecDepth 10000 in
theorem get_full {s : ByteArray} (hs : s.size = 256) (hl : pgL s ≤ 237) (w : World) : Calls Tryd.prog 59 #[.string s] w fun e w' => e = .returned (if putB (pgK s) (pgN s) (pgG s) (pgD s) = s then .tuple #[pageV (pgK s) (pgN s) (pgG s) (pgD s), .int .i64 0] else .tuple #[pageV 0 0 0 ⟨#[]⟩, .int .i64 3]) ∧ New w w' := by
  have F1 : ∀ q W, Rd q s 0 W → Calls Tryd.prog 77 #[.pointer (some ⟨q, 0, none⟩), .int .i64 1] W fun e w' => e = .returned (.int .u64 (pgK s)) ∧ Rd q (s.extract 1 s.size) 0 w' ∧ Kept (fun b => b = q) W w' := fun q W h => rd_fixed_at (a := 0) (b := 1) (by rw [extract_all]; exact h) (by decide) (by omega)
  have F4 : ∀ q W, Rd q (s.extract 1 s.size) 0 W → Calls Tryd.prog 77 #[.pointer (some ⟨q, 0, none⟩), .int .i64 4] W fun e w' => e = .returned (.int .u64 (pgN s)) ∧ Rd q (s.extract 5 s.size) 0 w' ∧ Kept (fun b => b = q) W w' := fun q W h => rd_fixed_at (a := 1) (b := 4) h (by decide) (by omega)
  have F8 : ∀ q W, Rd q (s.extract 5 s.size) 0 W → Calls Tryd.prog 77 #[.pointer (some ⟨q, 0, none⟩), .int .i64 8] W fun e w' => e = .returned (.int .u64 (pgG s)) ∧ Rd q (s.extract 13 s.size) 0 w' ∧ Kept (fun b => b = q) W w' := fun q W h => rd_fixed_at (a := 5) (b := 8) h (by decide) (by omega)
  have F2 : ∀ q W, Rd q (s.extract 13 s.size) 0 W → Calls Tryd.prog 77 #[.pointer (some ⟨q, 0, none⟩), .int .i64 2] W fun e w' => e = .returned (.int .u64 (pgL s)) ∧ Rd q (s.extract 15 s.size) 0 w' ∧ Kept (fun b => b = q) W w' := fun q W h => rd_fixed_at (a := 13) (b := 2) h (by decide) (by omega)
  have FT : ∀ q W, Rd q (s.extract 15 s.size) 0 W → Calls Tryd.prog 78 #[.pointer (some ⟨q, 0, none⟩), .int .i64 (pgL s)] W fun e w' => e = .returned (.string (pgD s)) ∧ Rd q (s.extract (15 + pgL s) s.size) 0 w' ∧ Kept (fun b => b = q) W w' := fun q W h => rd_take_at (a := 15) (n := pgL s) h (by omega)
  have bk : pgK s < 256 := numAt_lt s (k := 1) (by decide) (by decide)
  have bn : pgN s < 4294967296 := numAt_lt s (k := 4) (by decide) (by decide)
  have bg : pgG s < 18446744073709551616 := numAt_lt s (k := 8) (by decide) (by decide)
  have FP := hid (fun W => put_calls (pgK s) (pgN s) (data := pgD s) bg W)
  have F1 := hid F1
  have F4 := hid F4
  have F8 := hid F8
  have F2 := hid F2
  have FT := hid FT
  obtain ⟨r, hr⟩ : ∃ r : Value, (if putB (pgK s) (pgN s) (pgG s) (pgD s) = s then Value.tuple #[pageV (pgK s) (pgN s) (pgG s) (pgD s), .int .i64 0] else .tuple #[pageV 0 0 0 ⟨#[]⟩, .int .i64 3]) = r := ⟨_, rfl⟩
  rw [hr]
  have HR := hid hr
  clear hr
  have h1 : ((s.size : Int) != 256) = false := by rw [hs]; rfl
  generalize pgK s = kk at *
  generalize pgN s = nn at *
  generalize pgG s = gg at *
  generalize pgD s = dd at *
  generalize pgL s = ll at *
  have HNW := hid (fun (q : Nat) (W : World) (hq : W.heap.size = q) => rd_new_at s hq)
  clear hs
  generalize putB kk nn gg dd = pp at *
  by_cases hp : pp = s
  · subst hp
    rw [if_pos rfl] at HR
    have hq := str_eq (rfl : pp = pp)
    have hq' : (pp.toList != pp.toList) = false := by simp [bne]
    go_enter Tryd.func59, Tryd.ntmps59
    go_wp2_with (first
      | (go_at_call 62; (with_reducible refine (HNW.out (w.heap.size + 1) _ (by simp)).mono ?_); rintro e w1 ⟨rfl, hr1, hn1⟩; have HB1 := hid (hn1.at (blk_new w _) id); have HN1 := hid (((Kept.refl _ _).alloc _).trans hn1); have R1 := hid hr1; have hq1 := blk_lt hr1; clear hr1 hn1)
      | (go_at_call 77; (with_reducible refine (F1.out _ _ R1.out).mono ?_); rintro e w2 ⟨rfl, hr2, hk2⟩; have R2 := hid hr2; have HB2 := hid (hk2.atne HB1.out (by omega)); have HN2 := hid (New.one HN1.out hk2 (by omega)); clear hr2 hk2 R1 HB1 HN1)
      | (go_at_call 77; (with_reducible refine (F4.out _ _ R2.out).mono ?_); rintro e w3 ⟨rfl, hr3, hk3⟩; have R3 := hid hr3; have HB3 := hid (hk3.atne HB2.out (by omega)); have HN3 := hid (New.one HN2.out hk3 (by omega)); clear hr3 hk3 R2 HB2 HN2)
      | (go_at_call 77; (with_reducible refine (F8.out _ _ R3.out).mono ?_); rintro e w4 ⟨rfl, hr4, hk4⟩; have R4 := hid hr4; have HB4 := hid (hk4.atne HB3.out (by omega)); have HN4 := hid (New.one HN3.out hk4 (by omega)); have hq4 := blk_lt hr4; clear hr4 hk4 R3 HB3 HN3)
      | (go_at_call 77; (with_reducible refine (F2.out _ _ (Rd.kept R4.out ((Kept.refl (fun _ => False) w4).alloc _) id)).mono ?_); rintro e w5 ⟨rfl, hr5, hk5⟩; have R5 := hid hr5; have HB5 := hid (hk5.atne (blk_alloc HB4.out _) (by omega)); have HP5 := hid (hk5.atne (blk_new w4 _) (by omega)); have HN5 := hid (New.one (HN4.out.alloc _) hk5 (by omega)); clear hr5 hk5 R4 HB4 HN4)
      | (go_at_call 78; (with_reducible refine (FT.out _ _ R5.out).mono ?_); rintro e w6 ⟨rfl, hr6, hk6⟩; have HB6 := hid (hk6.atne HB5.out (by omega)); have hp6 := hk6.atne HP5.out (by omega); have HN6 := hid (New.one HN5.out hk6 (by omega)); have z3 := (cell_at hp6 3).trans rfl; have fz3 := frozen_at hp6 3; have hp7 := heap_setCell_same (i := 3) (u := .string dd) hp6; have y0 := (cell_at hp7 0).trans rfl; have y1 := (cell_at hp7 1).trans rfl; have y2 := (cell_at hp7 2).trans rfl; have y3 := (cell_at hp7 3).trans rfl; have HP7 := hid hp7; have HB7 := hid ((keptq' (q := w4.heap.size) w6 () 3 (.string dd)).atne HB6.out (by omega)); have hsz4 := HN6.out.size; have HN7 := hid (New.one HN6.out (keptq' (q := w4.heap.size) w6 () 3 (.string dd)) (by omega)); clear hr6 hk6 R5 HB5 HN5 HP5 hp6 hp7 HN6 HB6)
      | (go_at_call 39; (with_reducible refine (FP.out _).mono ?_); rintro e w7 ⟨rfl, hn7⟩; have hp8 := hn7.at HP7.out id; have hb8 := hn7.at HB7.out id; have y0' := (cell_at hp8 0).trans rfl; have y1' := (cell_at hp8 1).trans rfl; have y2' := (cell_at hp8 2).trans rfl; have y3' := (cell_at hp8 3).trans rfl; have x0 := (cell_at hb8 0).trans rfl; have x1 := (cell_at hb8 1).trans rfl; have x2 := (cell_at hb8 2).trans rfl; have x3 := (cell_at hb8 3).trans rfl; have xf := frozen_at hb8; have HN8 := hid (HN7.out.trans hn7); have HB8 := hid hb8; clear HP7 HB7 HN7 hn7 hp8 hb8))
    have hb9 := heap_setCell_same (i := 3) (u := .string dd) (heap_setCell_same (i := 2) (u := .int .u64 gg) (heap_setCell_same (i := 1) (u := .int .i64 nn) (heap_setCell_same (i := 0) (u := .int .i64 kk) HB8.out)))
    have g0 := (cell_at hb9 0).trans rfl
    have g1 := (cell_at hb9 1).trans rfl
    have g2 := (cell_at hb9 2).trans rfl
    have g3 := (cell_at hb9 3).trans rfl
    have hN9 := ((((HN8.out.setCell (p := ⟨w.heap.size, 0, none⟩) (.inr (Nat.le_refl _)) (.int .i64 kk)).setCell (p := ⟨w.heap.size, 1, none⟩) (.inr (Nat.le_refl _)) (.int .i64 nn)).setCell (p := ⟨w.heap.size, 2, none⟩) (.inr (Nat.le_refl _)) (.int .u64 gg)).setCell (p := ⟨w.heap.size, 3, none⟩) (.inr (Nat.le_refl _)) (.string dd))
    exact bodyPost_ret (v := .tuple #[pageV kk nn gg dd, .int .i64 0]) (by simp [results, Tryd.results59, go_sem, g0, g1, g2, g3]) rfl ⟨by rw [← HR.out], hN9⟩
  · have hq := str_ne hp
    have hq' : (pp.toList != s.toList) = true := by simp [bne, hq]
    rw [if_neg hp] at HR
    clear hp
    go_enter Tryd.func59, Tryd.ntmps59
    go_wp2_with (first
      | (go_at_call 62; (with_reducible refine (HNW.out (w.heap.size + 1) _ (by simp)).mono ?_); rintro e w1 ⟨rfl, hr1, hn1⟩; have HB1 := hid (hn1.at (blk_new w _) id); have HN1 := hid (((Kept.refl _ _).alloc _).trans hn1); have R1 := hid hr1; have hq1 := blk_lt hr1; clear hr1 hn1)
      | (go_at_call 77; (with_reducible refine (F1.out _ _ R1.out).mono ?_); rintro e w2 ⟨rfl, hr2, hk2⟩; have R2 := hid hr2; have HB2 := hid (hk2.atne HB1.out (by omega)); have HN2 := hid (New.one HN1.out hk2 (by omega)); clear hr2 hk2 R1 HB1 HN1)
      | (go_at_call 77; (with_reducible refine (F4.out _ _ R2.out).mono ?_); rintro e w3 ⟨rfl, hr3, hk3⟩; have R3 := hid hr3; have HB3 := hid (hk3.atne HB2.out (by omega)); have HN3 := hid (New.one HN2.out hk3 (by omega)); clear hr3 hk3 R2 HB2 HN2)
      | (go_at_call 77; (with_reducible refine (F8.out _ _ R3.out).mono ?_); rintro e w4 ⟨rfl, hr4, hk4⟩; have R4 := hid hr4; have HB4 := hid (hk4.atne HB3.out (by omega)); have HN4 := hid (New.one HN3.out hk4 (by omega)); have hq4 := blk_lt hr4; clear hr4 hk4 R3 HB3 HN3)
      | (go_at_call 77; (with_reducible refine (F2.out _ _ (Rd.kept R4.out ((Kept.refl (fun _ => False) w4).alloc _) id)).mono ?_); rintro e w5 ⟨rfl, hr5, hk5⟩; have R5 := hid hr5; have HB5 := hid (hk5.atne (blk_alloc HB4.out _) (by omega)); have HP5 := hid (hk5.atne (blk_new w4 _) (by omega)); have HN5 := hid (New.one (HN4.out.alloc _) hk5 (by omega)); clear hr5 hk5 R4 HB4 HN4)
      | (go_at_call 78; (with_reducible refine (FT.out _ _ R5.out).mono ?_); rintro e w6 ⟨rfl, hr6, hk6⟩; have HB6 := hid (hk6.atne HB5.out (by omega)); have hp6 := hk6.atne HP5.out (by omega); have HN6 := hid (New.one HN5.out hk6 (by omega)); have z3 := (cell_at hp6 3).trans rfl; have fz3 := frozen_at hp6 3; have hp7 := heap_setCell_same (i := 3) (u := .string dd) hp6; have y0 := (cell_at hp7 0).trans rfl; have y1 := (cell_at hp7 1).trans rfl; have y2 := (cell_at hp7 2).trans rfl; have y3 := (cell_at hp7 3).trans rfl; have HP7 := hid hp7; have HB7 := hid ((keptq' (q := w4.heap.size) w6 () 3 (.string dd)).atne HB6.out (by omega)); have hsz4 := HN6.out.size; have HN7 := hid (New.one HN6.out (keptq' (q := w4.heap.size) w6 () 3 (.string dd)) (by omega)); clear hr6 hk6 R5 HB5 HN5 HP5 hp6 hp7 HN6 HB6)
      | (go_at_call 39; (with_reducible refine (FP.out _).mono ?_); rintro e w7 ⟨rfl, hn7⟩; have hp8 := hn7.at HP7.out id; have hb8 := hn7.at HB7.out id; have y0' := (cell_at hp8 0).trans rfl; have y1' := (cell_at hp8 1).trans rfl; have y2' := (cell_at hp8 2).trans rfl; have y3' := (cell_at hp8 3).trans rfl; have x0 := (cell_at hb8 0).trans rfl; have x1 := (cell_at hb8 1).trans rfl; have x2 := (cell_at hb8 2).trans rfl; have x3 := (cell_at hb8 3).trans rfl; have xf := frozen_at hb8; have HN8 := hid (HN7.out.trans hn7); have HB8 := hid hb8; clear HP7 HB7 HN7 hn7 hp8 hb8))
    have hb9 := heap_setCell_same (i := 3) (u := .string ⟨#[]⟩) (heap_setCell_same (i := 2) (u := .int .u64 0) (heap_setCell_same (i := 1) (u := .int .i64 0) (heap_setCell_same (i := 0) (u := .int .i64 0) HB8.out)))
    have g0 := (cell_at hb9 0).trans rfl
    have g1 := (cell_at hb9 1).trans rfl
    have g2 := (cell_at hb9 2).trans rfl
    have g3 := (cell_at hb9 3).trans rfl
    have hN9 := ((((HN8.out.setCell (p := ⟨w.heap.size, 0, none⟩) (.inr (Nat.le_refl _)) (.int .i64 0)).setCell (p := ⟨w.heap.size, 1, none⟩) (.inr (Nat.le_refl _)) (.int .i64 0)).setCell (p := ⟨w.heap.size, 2, none⟩) (.inr (Nat.le_refl _)) (.int .u64 0)).setCell (p := ⟨w.heap.size, 3, none⟩) (.inr (Nat.le_refl _)) (.string ⟨#[]⟩))
    exact bodyPost_ret (v := .tuple #[pageV 0 0 0 ⟨#[]⟩, .int .i64 3]) (by simp [results, Tryd.results59, go_sem, g0, g1, g2, g3]) rfl ⟨by rw [← HR.out], hN9⟩
end Go.Proofs.YtolifmpjbmekdaaDoor
