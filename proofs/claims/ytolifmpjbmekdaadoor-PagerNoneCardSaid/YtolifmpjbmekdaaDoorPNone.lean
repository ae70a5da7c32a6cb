/-
PagerNone's walk; conditions: the library's table lies in memory.
-/
import Derived.Test.YtolifmpjbmekdaaDoorBegun
namespace Go.Proofs.YtolifmpjbmekdaaDoor
open Go.RowKit
open Go.Lib (hid)
variable {G : Nat → Prop} {p q : Nat} {D : DS} {W : World}
theorem none_sectors (h : Pgr G p q (PS.opened 1 (-1) 4) D W) : Calls Tryd.prog 25 #[ptr q] W fun e w' => e = .returned (.int .i64 4) ∧ W = w' := by
  have := sectors_calls h.disk
  rw [show D.n = 4 from h.same.1] at this
  exact this
theorem none_add0 (h : Pgr G p q (PS.opened 1 (-1) 4) D W) (ht : Tabs W) : Calls Tryd.prog 14 #[ptr p, .int .i64 0, .string ⟨#[]⟩] W fun e w' => e = .returned (.tuple #[.int .i64 0, .int .i64 1]) ∧ New W w' :=
  g_add_no h ht (n := 2) ⟨Nat.le_refl _, rfl, fun k h1 h2 => absurd h2 (by omega)⟩ (show 2 < 4 by decide) (kind := 0) (s := ⟨#[]⟩) (by decide)
theorem none_add1 (h : Pgr G p q (PS.opened 1 (-1) 4) D W) (ht : Tabs W) : Calls Tryd.prog 14 #[ptr p, .int .i64 2, .string (zeros 238)] W fun e w' => e = .returned (.tuple #[.int .i64 0, .int .i64 1]) ∧ New W w' :=
  g_add_no h ht (n := 2) ⟨Nat.le_refl _, rfl, fun k h1 h2 => absurd h2 (by omega)⟩ (show 2 < 4 by decide) (kind := 2) (s := zeros 238) (by
    have : ¬ mayB 2 ((2 : Nat) : Int) (zeros 238) = true := fun e => by
      have := (mayB_iff.1 e).2.2.2.2
      rw [zeros_size] at this
      omega
    simpa using this)
theorem none_commit (h : Pgr G p q (PS.opened 1 (-1) 4) D W) : Calls Tryd.prog 15 #[ptr p, .int .i64 16384] W fun e w' => e = .returned (.int .i64 1) ∧ New W w' :=
  g_commit_bad h (by decide)
theorem none_left (h : Pgr G p q (PS.opened 1 (-1) 4) D W) : Calls Tryd.prog 24 #[ptr p] W fun e w' => e = .returned (.int .i64 2) ∧ W = w' := g_left h
set_option maxHeartbeats 3200000 in
set_option maxRecDepth 100000 in
theorem pagerNone_calls (n : Int) (s : ByteArray) (w : World) (ht : Tabs w) : Calls Tryd.prog 6 #[.int .i64 n, .string s] w fun e w' => e = .returned (.bool true) ∧ New w w' := by
  have HD := hid (drop_none n)
  have HU := hid undo_none
  have HR := hid (pread_none n (.slice none 0 0))
  have HA := hid (padd_none n s)
  have HB : Hid (∀ W, Calls Tryd.prog 13 #[.int .i64 4, .slice none 0 0] W fun e w' => (∃ q p D, e = .returned (.tuple #[ptr q, ptr p, .int .i64 0]) ∧ Pgr (Over W) p q (PS.opened 1 (-1) 4) D w' ∧ Calm 4 fmtF D) ∧ New W w') := hid (begun_calm (n := 4) (by decide) (by decide))
  have HT := hid ht
  have HAw := hid awake_calls
  have HC := hid (commit_none n)
  have HL := hid left_none
  have HM := hid (mark_none n)
  have HS := hid state_none
  have hm : ∀ w : World, (Instr.makeSlice 63 (.int .i64 238) (.int .i64 238)).run Tryd.prog w = .ok (.slice (some ⟨w.heap.size, 0, none⟩) 238 238) (w.alloc (.cells (Array.replicate 238 (.int .u8 0)) 5)) := fun w => mk_bytes w (n := 238) (by omega)
  have hc := fun w : World => conv_zeros w 238
  clear ht
  go_enter Tryd.func6, Tryd.ntmps6
  go_wp2_with (first
    | (go_at_call 16; (with_reducible refine (HD.out _).mono ?_); rintro e w1 ⟨rfl, rfl⟩)
    | (go_at_call 22; (with_reducible refine (HU.out _).mono ?_); rintro e w1 ⟨rfl, rfl⟩)
    | (go_at_call 18; (with_reducible refine (HR.out _).mono ?_); rintro e w1 ⟨rfl, x1⟩; have X1 := hid (x1.alloc (.cells #[.int .i64 0, .int .i64 0, .int .u64 0, .string ⟨#[]⟩] 48)); clear x1)
    | (go_at_call 14; (with_reducible refine (HA.out _).mono ?_); rintro e w2 ⟨rfl, rfl⟩)
    | (go_at_call 13; (with_reducible refine (HB.out _).mono ?_); rintro e w3 ⟨⟨q, p, D, rfl, x1, x2⟩, x3⟩; have Y1 := hid x1; have Y2 := hid x2; have Y3 := hid (X1.out.trans x3); clear x1 x2 x3)
    | (go_at_call 8; (with_reducible refine (HAw.out _ (HT.out.new Y3.out)).mono ?_); rintro e w4 ⟨rfl, x1⟩; have Z1 := hid (Y1.out.new x1); have Z3 := hid (Y3.out.trans x1); clear x1)
    | (go_at_call 25; (with_reducible refine (none_sectors Z1.out).mono ?_); rintro e w5 ⟨rfl, rfl⟩)
    | (go_at_call 14; (with_reducible refine (none_add0 Z1.out (HT.out.new Z3.out)).mono ?_); rintro e w6 ⟨rfl, x1⟩; have U1 := hid (Z1.out.new (x1.alloc (.cells (Array.replicate 238 (.int .u8 0)) 5))); have U3 := hid (Z3.out.trans (x1.alloc (.cells (Array.replicate 238 (.int .u8 0)) 5))); clear x1)
    | (go_at_call 14; (with_reducible refine (none_add1 U1.out (HT.out.new U3.out)).mono ?_); rintro e w7 ⟨rfl, x1⟩; have V1 := hid (U1.out.new x1); have V3 := hid (U3.out.trans x1); clear x1)
    | (go_at_call 15; (with_reducible refine (HC.out _).mono ?_); rintro e w8 ⟨rfl, rfl⟩)
    | (go_at_call 24; (with_reducible refine (HL.out _).mono ?_); rintro e w8 ⟨rfl, rfl⟩)
    | (go_at_call 17; (with_reducible refine (HM.out _).mono ?_); rintro e w8 ⟨rfl, rfl⟩)
    | (go_at_call 12; (with_reducible refine (HS.out _).mono ?_); rintro e w8 ⟨rfl, x1⟩; have R1 := hid (V1.out.new x1); have R3 := hid (V3.out.trans x1); clear x1)
    | (go_at_call 15; (with_reducible refine (none_commit R1.out).mono ?_); rintro e w9 ⟨rfl, x1⟩; have T1 := hid (R1.out.new x1); have T3 := hid (R3.out.trans x1); clear x1)
    | (go_at_call 24; (with_reducible refine (none_left T1.out).mono ?_); rintro e w10 ⟨rfl, rfl⟩))
  go_ret
  exact ⟨rfl, T3.out⟩
end Go.Proofs.YtolifmpjbmekdaaDoor
