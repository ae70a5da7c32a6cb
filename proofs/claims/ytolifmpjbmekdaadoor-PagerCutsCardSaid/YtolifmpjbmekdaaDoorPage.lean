/-
A page's sector: page.May, page.Put; conditions: the generation has 64 bits.
-/
import Derived.Test.YtolifmpjbmekdaaDoorWire
import Derived.Test.YtolifmpjbmekdaaDoorCrc
import Derived.Deep.RegionHeld3
import Derived.BigRegion
namespace Go.Proofs.YtolifmpjbmekdaaDoor
open Go.RowKit
open Go.Lib (hid)
abbrev pageV (kind number gen : Int) (data : ByteArray) : Value := .agg #[.int .i64 kind, .int .i64 number, .int .u64 gen, .string data]
abbrev pageBlk (kind number gen : Int) (data : ByteArray) : Obj := .cells #[.int .i64 kind, .int .i64 number, .int .u64 gen, .string data] 48
def mayB (kind number : Int) (data : ByteArray) : Bool := decide (1 ≤ kind) && (decide (kind ≤ 4) && (decide (0 ≤ number) && (decide (number < 16384) && decide (data.size ≤ 237))))
theorem mayB_iff {kind number : Int} {data : ByteArray} : mayB kind number data = true ↔ 1 ≤ kind ∧ kind ≤ 4 ∧ 0 ≤ number ∧ number < 16384 ∧ data.size ≤ 237 := by
  unfold mayB
  simp only [Bool.and_eq_true, decide_eq_true_eq]
set_option maxHeartbeats 1600000 in
theorem may_calls (kind number gen : Int) (data : ByteArray) (w : World) : Calls Tryd.prog 36 #[pageV kind number gen data] w fun e w' => e = .returned (.bool (mayB kind number data)) ∧ New w w' := by
  have hm : ∀ b, mayB kind number data = b → mayB kind number data = b := fun _ => id
  obtain ⟨r, hr⟩ : ∃ r, mayB kind number data = r := ⟨_, rfl⟩
  rw [hr]
  unfold mayB at hr
  have HR := hid hr
  clear hr hm
  by_cases h1 : 1 ≤ kind
  · by_cases h2 : kind ≤ 4
    · by_cases h3 : 0 ≤ number
      · by_cases h4 : number < 16384
        · have HR2 : r = decide ((data.size : Int) ≤ 237) := by
            have := HR.out
            simp only [h1, h2, h3, h4, decide_true, Bool.true_and] at this
            rw [← this]
            exact decide_eq_decide.2 (by omega)
          rw [HR2]
          clear HR HR2
          go_enter Tryd.func36, Tryd.ntmps36
          go_wp2
          go_ret
          exact ⟨rfl, (Kept.refl _ _).alloc _⟩
        · have HR2 : r = false := by
            have := HR.out
            simp only [h4, decide_false, Bool.false_and, Bool.and_false] at this
            exact this.symm
          rw [HR2]
          clear HR HR2
          go_enter Tryd.func36, Tryd.ntmps36
          go_wp2
          go_ret
          exact ⟨rfl, (Kept.refl _ _).alloc _⟩
      · have HR2 : r = false := by
          have := HR.out
          simp only [h3, decide_false, Bool.false_and, Bool.and_false] at this
          exact this.symm
        rw [HR2]
        clear HR HR2
        go_enter Tryd.func36, Tryd.ntmps36
        go_wp2
        go_ret
        exact ⟨rfl, (Kept.refl _ _).alloc _⟩
    · have HR2 : r = false := by
        have := HR.out
        simp only [h2, decide_false, Bool.false_and, Bool.and_false] at this
        exact this.symm
      rw [HR2]
      clear HR HR2
      go_enter Tryd.func36, Tryd.ntmps36
      go_wp2
      go_ret
      exact ⟨rfl, (Kept.refl _ _).alloc _⟩
  · have HR2 : r = false := by
      have := HR.out
      simp only [h1, decide_false, Bool.false_and] at this
      exact this.symm
    rw [HR2]
    clear HR HR2
    go_enter Tryd.func36, Tryd.ntmps36
    go_wp2
    go_ret
    exact ⟨rfl, (Kept.refl _ _).alloc _⟩
theorem crcMore_range (c : Int) (s : ByteArray) : 0 ≤ crcMore c s ∧ crcMore c s < 4294967296 := u32_range _ _ _
/-- The check of bytes, as a number. -/
def crcN (s : ByteArray) : Nat := (crcMore 0 s).toNat
theorem of_calls (s : ByteArray) (hs : s.size ≤ 1000000) (w : World) : Calls Tryd.prog 56 #[.string s] w fun e w' => e = .returned (.int .u32 (crcN s)) ∧ New w w' := by
  have hr := crcMore_range 0 s
  have e : ((crcN s : Nat) : Int) = crcMore 0 s := by unfold crcN; omega
  rw [e]
  have HM := hid (more_calls 0 s w (by unfold maxLen; omega))
  clear hr e
  go_enter Tryd.func56, Tryd.ntmps56
  go_wp2_with (first | (go_at_call 76; (with_reducible refine HM.out.mono ?_); rintro e w1 ⟨rfl, hb⟩))
  go_ret
  exact ⟨rfl, Kept.of_below hb⟩
theorem crcN_lt (s : ByteArray) : crcN s < 4294967296 := by
  have := crcMore_range 0 s
  unfold crcN
  omega
/-- What stands in a sector ahead of its check. -/
def body (kind number gen : Nat) (data : ByteArray) : ByteArray := (((str (le 1 kind) ++ str (le 4 number)) ++ str (le 8 gen)) ++ str (le 2 data.size)) ++ data ++ zeros (237 - data.size)
def sector (kind number gen : Nat) (data : ByteArray) : ByteArray := body kind number gen data ++ str (le 4 (crcN (body kind number gen data)))
def putB (kind number : Int) (gen : Nat) (data : ByteArray) : ByteArray := if mayB kind number data = true then sector kind.toNat number.toNat gen data else ⟨#[]⟩
theorem body_size (kind number gen : Nat) {data : ByteArray} (h : data.size ≤ 237) : (body kind number gen data).size = 252 := by
  simp only [body, ByteArray.size_append, str_size, le_length, zeros_size]
  omega
theorem sector_size (kind number gen : Nat) {data : ByteArray} (h : data.size ≤ 237) : (sector kind number gen data).size = 256 := by
  rw [sector, ByteArray.size_append, body_size _ _ _ h, str_size, le_length]
theorem put_no {kind number gen : Int} {data : ByteArray} (h : mayB kind number data = false) (w : World) : Calls Tryd.prog 39 #[pageV kind number gen data] w fun e w' => e = .returned (.string ⟨#[]⟩) ∧ New w w' := by
  have HM : ∀ W, Calls Tryd.prog 36 #[pageV kind number gen data] W fun e w' => e = .returned (.bool false) ∧ New W w' := fun W => by
    have := may_calls kind number gen data W
    rw [h] at this
    exact this
  have HM := hid HM
  clear h
  go_enter Tryd.func39, Tryd.ntmps39
  go_wp2_with (first | (go_at_call 36; (with_reducible refine (HM.out _).mono ?_); rintro e w1 ⟨rfl, hb⟩))
  go_ret
  exact ⟨rfl, ((Kept.refl _ _).alloc _).trans hb⟩
set_option maxHeartbeats 3200000 in
set_option maxRecDepth 10000 in
theorem put_yes {K N gen : Nat} {data : ByteArray} (h : mayB K N data = true) (hg : gen < 18446744073709551616) (w : World) : Calls Tryd.prog 39 #[pageV K N gen data] w fun e w' => e = .returned (.string (sector K N gen data)) ∧ New w w' := by
  obtain ⟨m1, m2, m3, m4, m5⟩ := mayB_iff.1 h
  have HM : ∀ W, Calls Tryd.prog 36 #[pageV K N gen data] W fun e w' => e = .returned (.bool true) ∧ New W w' := fun W => by
    have := may_calls K N gen data W
    rw [h] at this
    exact this
  have HM := hid HM
  have F1 : ∀ W, Calls Tryd.prog 55 #[.int .u64 K, .int .i64 1] W fun e w' => e = .returned (.string (str (le 1 K))) ∧ New W w' := fun W => fixed_calls (n := K) (b := 1) (by omega) (by decide) W
  have F4 : ∀ W, Calls Tryd.prog 55 #[.int .u64 N, .int .i64 4] W fun e w' => e = .returned (.string (str (le 4 N))) ∧ New W w' := fun W => fixed_calls (n := N) (b := 4) (by omega) (by decide) W
  have F8 : ∀ W, Calls Tryd.prog 55 #[.int .u64 gen, .int .i64 8] W fun e w' => e = .returned (.string (str (le 8 gen))) ∧ New W w' := fun W => fixed_calls (n := gen) (b := 8) hg (by decide) W
  have F2 : ∀ W, Calls Tryd.prog 55 #[.int .u64 data.size, .int .i64 2] W fun e w' => e = .returned (.string (str (le 2 data.size))) ∧ New W w' := fun W => fixed_calls (n := data.size) (b := 2) (by omega) (by decide) W
  have FC : ∀ c W, c < 4294967296 → Calls Tryd.prog 55 #[.int .u64 (c : Nat), .int .i64 4] W fun e w' => e = .returned (.string (str (le 4 c))) ∧ New W w' := fun c W hc => fixed_calls (n := c) (b := 4) (by omega) (by decide) W
  have F1 := hid F1
  have F4 := hid F4
  have F8 := hid F8
  have F2 := hid F2
  have FC := hid FC
  have s1 : (str (le 1 K)).size = 1 := by rw [str_size, le_length]
  have s4 : (str (le 4 N)).size = 4 := by rw [str_size, le_length]
  have s8 : (str (le 8 gen)).size = 8 := by rw [str_size, le_length]
  have s2 : (str (le 2 data.size)).size = 2 := by rw [str_size, le_length]
  have HB : Hid (body K N gen data = (((str (le 1 K) ++ str (le 4 N)) ++ str (le 8 gen)) ++ str (le 2 data.size)) ++ data ++ zeros (237 - data.size)) := hid rfl
  have HS : Hid (sector K N gen data = body K N gen data ++ str (le 4 (crcN (body K N gen data)))) := hid rfl
  have hbs := body_size K N gen m5
  have HO := hid (fun W => of_calls (body K N gen data) (by omega) W)
  have hcl := crcN_lt (body K N gen data)
  clear h
  generalize sector K N gen data = sec at *
  generalize body K N gen data = bod at *
  generalize str (le 1 K) = t1 at *
  generalize str (le 4 N) = t4 at *
  generalize str (le 8 gen) = t8 at *
  generalize str (le 2 data.size) = t2 at *
  go_enter Tryd.func39, Tryd.ntmps39
  go_wp2_with (first | (go_at_call 36; (with_reducible refine (HM.out _).mono ?_); rintro e w1 ⟨rfl, hb⟩; have HN := hid (((Kept.refl _ _).alloc _).trans hb); have HBK := hid (hb.at (blk_new w _) id); clear hb))
  have hkeep : ∀ W, New w1 W → New w1 W ∧ W.cell? ⟨w.heap.size, 0, none⟩ = some (.int .i64 (K : Int)) ∧ W.cell? ⟨w.heap.size, 1, none⟩ = some (.int .i64 (N : Int)) ∧ W.cell? ⟨w.heap.size, 2, none⟩ = some (.int .u64 (gen : Int)) ∧ W.cell? ⟨w.heap.size, 3, none⟩ = some (.string data) := fun W hN =>
    ⟨hN, (cell_at (hN.at HBK.out id) 0).trans rfl, (cell_at (hN.at HBK.out id) 1).trans rfl, (cell_at (hN.at HBK.out id) 2).trans rfl, (cell_at (hN.at HBK.out id) 3).trans rfl⟩
  have HKP := hid hkeep
  clear hkeep
  have k1 : IntKind.u64.wrap (K : Int) = (K : Int) := by rw [IntKind.wrap_u64]; omega
  have k2 : IntKind.u64.wrap (N : Int) = (N : Int) := by rw [IntKind.wrap_u64]; omega
  have k3 : IntKind.u64.wrap (data.size : Int) = (data.size : Int) := by rw [IntKind.wrap_u64]; omega
  have q1 : ¬ 9223372036854775807 < 15 + data.size := by omega
  have q2 : 15 + data.size ≤ 9223372036854775807 := by omega
  have n0 : New w1 w1.drew := (Kept.refl _ _).drew
  go_region_held3 (fun W => New w1 W ∧ W.cell? ⟨w.heap.size, 0, none⟩ = some (.int .i64 (K : Int)) ∧ W.cell? ⟨w.heap.size, 1, none⟩ = some (.int .i64 (N : Int)) ∧ W.cell? ⟨w.heap.size, 2, none⟩ = some (.int .u64 (gen : Int)) ∧ W.cell? ⟨w.heap.size, 3, none⟩ = some (.string data)) (exact HKP.out _ (by assumption))
    (first
      | (go_at_call 55; (with_reducible refine (F1.out _).mono ?_); rintro e w2 ⟨rfl, hb2⟩; have n2 := n0.trans hb2; clear hb2)
      | (go_at_call 55; (with_reducible refine (F4.out _).mono ?_); rintro e w3 ⟨rfl, hb3⟩; have n3 := n2.trans hb3; clear hb3)
      | (go_at_call 55; (with_reducible refine (F8.out _).mono ?_); rintro e w4 ⟨rfl, hb4⟩; have n4 := n3.trans hb4; clear hb4)
      | (go_at_call 55; (with_reducible refine (F2.out _).mono ?_); rintro e w5 ⟨rfl, hb5⟩; have n5 := n4.trans hb5; clear hb5))
  have HN5 := hid (HN.out.trans n5)
  have hps : (t1 ++ t4 ++ t8 ++ t2 ++ data).size = 15 + data.size := by simp only [ByteArray.size_append]; omega
  have HBD := hid HB.out.symm
  clear HB HKP HBK n0 n2 n3 n4 n5 F1 F4 F8 F2 HM HN
  generalize t1 ++ t4 ++ t8 ++ t2 ++ data = pre at *
  obtain ⟨k, hk⟩ : ∃ k : Nat, 237 - data.size = k := ⟨_, rfl⟩
  rw [hk] at HBD
  have e1 : (252 : Int) - (pre.size : Int) = (k : Int) := by omega
  have e2 : IntKind.i64.wrap ((252 : Int) - (pre.size : Int)) = (k : Int) := by rw [IntKind.wrap_i64]; omega
  have hm := fun w : World => mk_bytes w (n := k) (by omega)
  have hc := fun w : World => conv_zeros w k
  have hz := zeros_size k
  have q5 : ¬ 9223372036854775807 < pre.size + (zeros k).size := by omega
  have q6 : ¬ 9223372036854775807 < pre.size + k := by omega
  have hpl : pre.size ≤ 252 := by omega
  have hbod := HBD.out
  have s5 : (str (le 4 (crcN bod))).size = 4 := by rw [str_size, le_length]
  have HFC := hid (fun W => FC.out (crcN bod) W hcl)
  generalize crcN bod = cc at *
  generalize str (le 4 cc) = t5 at *
  clear hps s1 s4 s8 s2 k1 k2 k3 q1 q2 hk
  go_wp2_with (first
    | (go_at_call 56; (with_reducible refine (HO.out _).mono ?_); rintro e w6 ⟨rfl, hb6⟩; have HN6 := hid ((HN5.out.alloc _).trans hb6); clear hb6)
    | (go_at_call 55; (with_reducible refine (HFC.out _).mono ?_); rintro e w7 ⟨rfl, hb7⟩; have HN7 := hid (HN6.out.trans hb7); clear hb7))
  go_ret
  rw [HS.out]
  exact ⟨rfl, HN7.out⟩
theorem put_calls (kind number : Int) {gen : Nat} {data : ByteArray} (hg : gen < 18446744073709551616) (w : World) : Calls Tryd.prog 39 #[pageV kind number gen data] w fun e w' => e = .returned (.string (putB kind number gen data)) ∧ New w w' := by
  unfold putB
  by_cases h : mayB kind number data = true
  · rw [if_pos h]
    obtain ⟨m1, m2, m3, m4, m5⟩ := mayB_iff.1 h
    obtain ⟨K, rfl⟩ := Int.eq_ofNat_of_zero_le (show 0 ≤ kind by omega)
    obtain ⟨N, rfl⟩ := Int.eq_ofNat_of_zero_le m3
    exact put_yes h hg w
  · rw [if_neg h]
    exact put_no (by simpa using h) w
end Go.Proofs.YtolifmpjbmekdaaDoor
