/-
Pop takes the number that came first; conditions: the queue lies in memory as told.
-/
import Derived.Test.YtmlnjheiogmlaaaPush
namespace Go.Proofs.Ytmlnjheiogmlaaa
open Go.RowKit Go.Lib Go.Proofs.Ytmlnjheiogmlaaa.F Go.Proofs.Ytmlnjheiogmlaaa.Pure Go.Proofs.YtmlnjheiogmlaaaW.PrintWords
theorem que_pop_none {q g : Nat} {nm : ByteArray} {F : Nat → Prop} {l : List (ByteArray × ByteArray)} {w : World} {a : Nat} {ia ib : Bool} (hq : Que q g nm w) (hn : nm.size ≤ 1000) (h : KVs g F l w) (hs : l.length < 1000000)
    (ha : Reads l (endK nm ⟨#[97]⟩) a ia) (hb : Reads l (endK nm ⟨#[98]⟩) a ib) :
    Calls Try.prog 11 #[.pointer (some ⟨q, 0, none⟩)] w fun e w' => e = .returned (.tuple #[.int .u64 0, .bool false, .int .i64 0]) ∧ Below w.heap.size w w' := by
  have HE := hid (que_ends hq hn h hs ha hb (Nat.le_refl _))
  clear h ha hb
  go_enter Try.func11, Try.ntmps11
  go_wp2_with (first | (go_at_call 38; (with_reducible refine (que_bad hq).mono ?_); rintro e w1 ⟨rfl, rfl⟩) | (go_at_call 32; (with_reducible refine HE.out.mono ?_); rintro e w2 ⟨rfl, hb2⟩))
  go_ret3
  exact ⟨rfl, hb2⟩
theorem kvDel_len (l : List (ByteArray × ByteArray)) (k : ByteArray) : (kvDel l k).length ≤ l.length := by
  induction l with
  | nil => simp [kvDel]
  | cons p l ih => simp only [kvDel]; split <;> simp; omega
/-- The keys, of which one, and another one, was taken away. -/
def popDel (l : List (ByteArray × ByteArray)) (kp km : ByteArray) : Nat → List (ByteArray × ByteArray)
  | 0 => l
  | 1 => kvDel l kp
  | _ => kvDel (kvDel l kp) km
theorem popDel_len (l : List (ByteArray × ByteArray)) (kp km : ByteArray) (j : Nat) : (popDel l kp km j).length ≤ l.length := by
  have h1 := kvDel_len l kp
  have h2 := kvDel_len (kvDel l kp) km
  match j with
  | 0 => exact Nat.le_refl _
  | 1 => exact h1
  | j + 2 => exact Nat.le_trans h2 h1
set_option maxHeartbeats 3200000 in
set_option maxRecDepth 100000 in
theorem que_pop_more {q g : Nat} {nm : ByteArray} {F : Nat → Prop} {l : List (ByteArray × ByteArray)} {w : World} {a b v : Nat} {ia ib : Bool} (hq : Que q g nm w) (hn : nm.size ≤ 1000) (h : KVs g F l w) (hs : l.length < 1000) (hqF : ¬ F q)
    (ha : Reads l (endK nm ⟨#[97]⟩) a ia) (hb : Reads l (endK nm ⟨#[98]⟩) b ib) (hab : a + 1 < b) (hbl : b < 1000000) (hv : Reads l (nm ++ ⟨#[112]⟩ ++ str (key a)) v true) (hvl : v ≤ 4611686018427387904) :
    Calls Try.prog 11 #[.pointer (some ⟨q, 0, none⟩)] w fun e w' => e = .returned (.tuple #[.int .u64 v, .bool true, .int .i64 0]) ∧
      KVs g F (kvPut (kvDel (kvDel l (nm ++ ⟨#[112]⟩ ++ str (key a))) (nm ++ ⟨#[109]⟩ ++ str (key v))) (nm ++ ⟨#[101]⟩ ++ ⟨#[97]⟩) (str (num (a + 1)))) w' ∧ Kept F w w' := by
  have HE := hid (que_ends hq hn h (by omega) ha hb (by omega))
  have HN := hid (fun w1 (hb1 : Below w.heap.size w w1) => que_number (hq.new (new_of_below hb1)) (h.new (new_of_below hb1)) (by omega) hv)
  obtain ⟨k2, h2⟩ := (wire_Num_tells (a + 1) (by omega)).rounds
  rw [show ((a + 1 : Nat) : Int) = (a : Int) + 1 by omega] at h2
  have H2 := hid h2
  have H := hid h
  have s1 : IntKind.u64.wrap ((a : Int) + 1) = (a : Int) + 1 := by rw [IntKind.wrap_u64]; omega
  have t1 : ((a : Int) == b) = false := beq_eq_false_iff_ne.2 (by omega)
  have t2 : ((a : Int) + 1 == b) = false := beq_eq_false_iff_ne.2 (by omega)
  have hb2 : a < 18446744073709551616 := by omega
  have hn2 : v < 18446744073709551616 := by omega
  have hi := is_put
  have hni := nil_put
  have hid' := is_del
  have hnid := nil_del
  clear h ha hb hab h2 hv
  obtain ⟨kp, hkp⟩ : ∃ kp, nm ++ ⟨#[112]⟩ ++ str (key a) = kp := ⟨_, rfl⟩
  obtain ⟨km, hkm⟩ : ∃ km, nm ++ ⟨#[109]⟩ ++ str (key v) = km := ⟨_, rfl⟩
  have C1 := hid (fun w1 (hb1 : Below w.heap.size w w1) => que_place a (hq.new (new_of_below hb1)) hn hb2)
  have C2 := hid (fun w1 (hb1 : Below w.heap.size w w1) => que_member v (hq.new (new_of_below hb1)) hn hn2)
  rw [hkp] at C1 HN ⊢
  rw [hkm] at C2 ⊢
  clear hkp hkm
  go_enter Try.func11, Try.ntmps11
  go_wp2_with (first | (go_at_call 38; (with_reducible refine (que_bad hq).mono ?_); rintro e w1 ⟨rfl, rfl⟩) | (go_at_call 32; (with_reducible refine HE.out.mono ?_); rintro e w2 ⟨rfl, hb2⟩) | (go_at_call 34; (with_reducible refine (C1.out _ hb2).mono ?_); rintro e w3 ⟨rfl, hb3⟩; have B3 := below_step hb2 hb3) | (go_at_call 39; (with_reducible refine (HN.out _ B3).mono ?_); rintro e w4 ⟨rfl, hb4⟩; have B4 := below_step B3 hb4) | (go_at_call 34; (with_reducible refine (C1.out _ B4).mono ?_); rintro e w5 ⟨rfl, hb5⟩; have B5 := below_step B4 hb5) | (go_at_call 36; (with_reducible refine (C2.out _ B5).mono ?_); rintro e w6 ⟨rfl, hb6⟩; have B6 := below_step B5 hb6))
  have N6 := hid (new_of_below (below_alloc B6 (.cells #[.string kp, .string km] 9)))
  have KP := hid ((H.out.new (new_of_below B6)).protect (.cells #[.string kp, .string km] 9))
  have R6 := hid (blk_new w6 (.cells #[.string kp, .string km] 9))
  have L0 := hid (fun j => popDel_len l kp km j)
  obtain ⟨F1, hF1⟩ : ∃ F1 : Nat → Prop, F1 = fun x => F x ∧ x ≠ w6.heap.size := ⟨_, rfl⟩
  rw [← hF1] at KP
  have nq : ¬ F1 q := by rw [hF1]; exact fun e => hqF e.1
  have nr : ¬ F1 w6.heap.size := by rw [hF1]; exact fun e => e.2 rfl
  have hFF : Hid (∀ x, F1 x → F x) := by rw [hF1]; exact fun x e => e.1
  have HQ := hid hq
  have HB := hid B6
  clear hF1 H C1 C2 HE HN hb2 hb3 hb4 hb5 hb6 B3 B4 B5 B6 hq
  generalize w6.alloc (.cells #[.string kp, .string km] 9) = W0 at *
  generalize w6.heap.size = r1 at *
  go_loopw [59] (fun v59 wr => ∃ j : Nat, v59 = .int .i64 (j : Int) ∧ j ≤ 2 ∧ Hid (KVs g F1 (popDel l kp km j) wr ∧ Kept F1 W0 wr)) (fun v59 _ => 2 - (intOf v59).toNat)
  case atStart => exact ⟨0, rfl, by omega, hid ⟨KP.out, Kept.refl _ _⟩⟩
  case round =>
    obtain ⟨j, rfl, hj, HK⟩ := hrel
    have hqr := hid ((HQ.out.new N6.out).kept HK.out.2 nq)
    have c0 := hqr.out.cells.1
    have hr1 := HK.out.2.at R6.out nr
    have r0 : wr.cell? ⟨r1, 0, none⟩ = some (.string kp) := (cell_at hr1 0).trans rfl
    have r1' : wr.cell? ⟨r1, 1, none⟩ = some (.string km) := (cell_at hr1 1).trans rfl
    have hl := L0.out j
    have hl2 : (popDel l kp km j).length < 1000000 := by omega
    have hKV := hid HK.out.1
    have hKp := hid HK.out.2
    clear HK hr1 hl
    rcases (by omega : j = 0 ∨ j = 1 ∨ j = 2) with rfl | rfl | rfl
    · go_wp2_with (go_at_call 91; (with_reducible refine (KVs.del kp hKV.out hl2).mono ?_); rintro e w7 ⟨rfl, hk7, hK7⟩)
      exact ⟨⟨1, rfl, by omega, hid ⟨hk7, hKp.out.trans hK7⟩⟩, by simp [intOf]⟩
    · go_wp2_with (go_at_call 91; (with_reducible refine (KVs.del km hKV.out hl2).mono ?_); rintro e w7 ⟨rfl, hk7, hK7⟩)
      exact ⟨⟨2, rfl, by omega, hid ⟨hk7, hKp.out.trans hK7⟩⟩, by simp [intOf]⟩
    · have hl3 := hl2
      go_wp2
      go_region_held3 (fun w' => w'.cell? ⟨q, 0, none⟩ = some (.iface 23 (.pointer (some ⟨g, 0, none⟩)))) (first | exact c0 | exact d9) (first | (go_at_call 37; (with_reducible refine (que_end (w := wr.drew) ⟨#[97]⟩ ⟨hqr.out.blk⟩ hn (by decide)).mono ?_); rintro e w8 ⟨rfl, rfl⟩) | (go_at_call 35; (with_reducible refine (wire_Num.calls k2 (a + 1) _ _ H2.out).mono ?_); rintro e w9 ⟨rfl, hb9⟩; have N9 := new_of_below (below_step (below_drew1 (Below.refl wr.heap.size wr)) hb9); have d9 := (hqr.out.new N9).cells.1) | (go_at_call 92; (with_reducible refine (KVs.put _ (str (num (a + 1))) (hKV.out.new N9) hl3).mono ?_); rintro e w10 ⟨rfl, hk10, hK10⟩; have d9 := ((hqr.out.new N9).kept hK10 nq).cells.1))
      all_goals
        go_wp2
        go_ret3
        refine ⟨rfl, ⟨hk10.wider hFF.out, ?_⟩⟩
        exact (N6.out.mono fun _ _ e => e.elim).trans ((hKp.out.trans ((N9.mono fun _ _ e => e.elim).trans hK10)).mono fun x _ e => hFF.out x e)
set_option maxHeartbeats 3200000 in
set_option maxRecDepth 100000 in
theorem que_pop_last {q g : Nat} {nm : ByteArray} {F : Nat → Prop} {l : List (ByteArray × ByteArray)} {w : World} {a v : Nat} {ia ib : Bool} (hq : Que q g nm w) (hn : nm.size ≤ 1000) (h : KVs g F l w) (hs : l.length < 1000) (hqF : ¬ F q)
    (ha : Reads l (endK nm ⟨#[97]⟩) a ia) (hb : Reads l (endK nm ⟨#[98]⟩) (a + 1) ib) (hbl : a + 1 < 1000000) (hv : Reads l (nm ++ ⟨#[112]⟩ ++ str (key a)) v true) (hvl : v ≤ 4611686018427387904) :
    Calls Try.prog 11 #[.pointer (some ⟨q, 0, none⟩)] w fun e w' => e = .returned (.tuple #[.int .u64 v, .bool true, .int .i64 0]) ∧
      KVs g F (popDel (popDel l (nm ++ ⟨#[112]⟩ ++ str (key a)) (nm ++ ⟨#[109]⟩ ++ str (key v)) 2) (nm ++ ⟨#[101]⟩ ++ ⟨#[97]⟩) (nm ++ ⟨#[101]⟩ ++ ⟨#[98]⟩) 2) w' ∧ Kept F w w' := by
  have HE := hid (que_ends hq hn h (by omega) ha hb (by omega))
  have HN := hid (fun w1 (hb1 : Below w.heap.size w w1) => que_number (hq.new (new_of_below hb1)) (h.new (new_of_below hb1)) (by omega) hv)
  have H := hid h
  have s1 : IntKind.u64.wrap ((a : Int) + 1) = (a : Int) + 1 := by rw [IntKind.wrap_u64]; omega
  have t1 : ((a : Int) == (a : Int) + 1) = false := beq_eq_false_iff_ne.2 (by omega)
  have hb2 : a < 18446744073709551616 := by omega
  have hn2 : v < 18446744073709551616 := by omega
  have hid' := is_del
  have hnid := nil_del
  rw [show ((a + 1 : Nat) : Int) = (a : Int) + 1 by omega] at HE
  clear h ha hb hv
  obtain ⟨kp, hkp⟩ : ∃ kp, nm ++ ⟨#[112]⟩ ++ str (key a) = kp := ⟨_, rfl⟩
  obtain ⟨km, hkm⟩ : ∃ km, nm ++ ⟨#[109]⟩ ++ str (key v) = km := ⟨_, rfl⟩
  have C1 := hid (fun w1 (hb1 : Below w.heap.size w w1) => que_place a (hq.new (new_of_below hb1)) hn hb2)
  have C2 := hid (fun w1 (hb1 : Below w.heap.size w w1) => que_member v (hq.new (new_of_below hb1)) hn hn2)
  rw [hkp] at C1 HN ⊢
  rw [hkm] at C2 ⊢
  clear hkp hkm
  go_enter Try.func11, Try.ntmps11
  go_wp2_with (first | (go_at_call 38; (with_reducible refine (que_bad hq).mono ?_); rintro e w1 ⟨rfl, rfl⟩) | (go_at_call 32; (with_reducible refine HE.out.mono ?_); rintro e w2 ⟨rfl, hb2⟩) | (go_at_call 34; (with_reducible refine (C1.out _ hb2).mono ?_); rintro e w3 ⟨rfl, hb3⟩; have B3 := below_step hb2 hb3) | (go_at_call 39; (with_reducible refine (HN.out _ B3).mono ?_); rintro e w4 ⟨rfl, hb4⟩; have B4 := below_step B3 hb4) | (go_at_call 34; (with_reducible refine (C1.out _ B4).mono ?_); rintro e w5 ⟨rfl, hb5⟩; have B5 := below_step B4 hb5) | (go_at_call 36; (with_reducible refine (C2.out _ B5).mono ?_); rintro e w6 ⟨rfl, hb6⟩; have B6 := below_step B5 hb6))
  have N6 := hid (new_of_below (below_alloc B6 (.cells #[.string kp, .string km] 9)))
  have KP := hid ((H.out.new (new_of_below B6)).protect (.cells #[.string kp, .string km] 9))
  have R6 := hid (blk_new w6 (.cells #[.string kp, .string km] 9))
  have L0 := hid (fun j => popDel_len l kp km j)
  obtain ⟨F1, hF1⟩ : ∃ F1 : Nat → Prop, F1 = fun x => F x ∧ x ≠ w6.heap.size := ⟨_, rfl⟩
  rw [← hF1] at KP
  have nq : ¬ F1 q := by rw [hF1]; exact fun e => hqF e.1
  have nr : ¬ F1 w6.heap.size := by rw [hF1]; exact fun e => e.2 rfl
  have hFF : Hid (∀ x, F1 x → F x) := by rw [hF1]; exact fun x e => e.1
  have HQ := hid hq
  have HB := hid B6
  clear hF1 H C1 C2 HE HN hb2 hb3 hb4 hb5 hb6 B3 B4 B5 B6 hq
  generalize w6.alloc (.cells #[.string kp, .string km] 9) = W0 at *
  generalize w6.heap.size = r1 at *
  go_loopw [59] (fun v59 wr => ∃ j : Nat, v59 = .int .i64 (j : Int) ∧ j ≤ 2 ∧ Hid (KVs g F1 (popDel l kp km j) wr ∧ Kept F1 W0 wr)) (fun v59 _ => 2 - (intOf v59).toNat)
  case atStart => exact ⟨0, rfl, by omega, hid ⟨KP.out, Kept.refl _ _⟩⟩
  case round =>
    obtain ⟨j, rfl, hj, HK⟩ := hrel
    have hqr := hid ((HQ.out.new N6.out).kept HK.out.2 nq)
    have c0 := hqr.out.cells.1
    have hr1 := HK.out.2.at R6.out nr
    have r0 : wr.cell? ⟨r1, 0, none⟩ = some (.string kp) := (cell_at hr1 0).trans rfl
    have r1' : wr.cell? ⟨r1, 1, none⟩ = some (.string km) := (cell_at hr1 1).trans rfl
    have hl := L0.out j
    have hl2 : (popDel l kp km j).length < 1000000 := by omega
    have hKV := hid HK.out.1
    have hKp := hid HK.out.2
    clear HK hr1 hl
    rcases (by omega : j = 0 ∨ j = 1 ∨ j = 2) with rfl | rfl | rfl
    · go_wp2_with (go_at_call 91; (with_reducible refine (KVs.del kp hKV.out hl2).mono ?_); rintro e w7 ⟨rfl, hk7, hK7⟩)
      exact ⟨⟨1, rfl, by omega, hid ⟨hk7, hKp.out.trans hK7⟩⟩, by simp [intOf]⟩
    · go_wp2_with (go_at_call 91; (with_reducible refine (KVs.del km hKV.out hl2).mono ?_); rintro e w7 ⟨rfl, hk7, hK7⟩)
      exact ⟨⟨2, rfl, by omega, hid ⟨hk7, hKp.out.trans hK7⟩⟩, by simp [intOf]⟩
    · have hN8 := hid (new_of_below (below_alloc (Below.refl wr.heap.size wr) (.cells #[.string ⟨#[97]⟩, .string ⟨#[98]⟩] 9)))
      have KP8 := hid (hKV.out.protect (.cells #[.string ⟨#[97]⟩, .string ⟨#[98]⟩] 9))
      have R8 := hid (blk_new wr (.cells #[.string ⟨#[97]⟩, .string ⟨#[98]⟩] 9))
      go_wp2
      have L8 := hid (fun j => popDel_len (popDel l kp km 2) (nm ++ ⟨#[101]⟩ ++ ⟨#[97]⟩) (nm ++ ⟨#[101]⟩ ++ ⟨#[98]⟩) j)
      obtain ⟨F2, hF2⟩ : ∃ F2 : Nat → Prop, F2 = fun x => F1 x ∧ x ≠ wr.heap.size := ⟨_, rfl⟩
      rw [← hF2] at KP8
      have nq2 : ¬ F2 q := by rw [hF2]; exact fun e => nq e.1
      have nr2 : ¬ F2 wr.heap.size := by rw [hF2]; exact fun e => e.2 rfl
      have hFF2 : Hid (∀ x, F2 x → F x) := by rw [hF2]; exact fun x e => hFF.out x e.1
      have hQ8 := hid (hqr.out.new hN8.out)
      have hK8 : Hid (Kept F w (wr.alloc (.cells #[.string ⟨#[97]⟩, .string ⟨#[98]⟩] 9))) := (N6.out.mono fun _ _ e => e.elim).trans ((hKp.out.mono fun x _ e => hFF.out x e).trans (hN8.out.mono fun _ _ e => e.elim))
      clear hF2 hKV hKp c0 r0 r1' hqr hN8 hl2
      generalize wr.alloc (.cells #[.string ⟨#[97]⟩, .string ⟨#[98]⟩] 9) = W2 at *
      generalize wr.heap.size = r2 at *
      go_loopw [82] (fun v82 ws => ∃ j : Nat, v82 = .int .i64 (j : Int) ∧ j ≤ 2 ∧ Hid (KVs g F2 (popDel (popDel l kp km 2) (nm ++ ⟨#[101]⟩ ++ ⟨#[97]⟩) (nm ++ ⟨#[101]⟩ ++ ⟨#[98]⟩) j) ws ∧ Kept F2 W2 ws)) (fun v82 _ => 2 - (intOf v82).toNat)
      case atStart => exact ⟨0, rfl, by omega, hid ⟨KP8.out, Kept.refl _ _⟩⟩
      case round =>
        obtain ⟨j, rfl, hj, HK⟩ := hrel
        have hqs := hid (hQ8.out.kept HK.out.2 nq2)
        have c0 := hqs.out.cells.1
        have hr1 := HK.out.2.at R8.out nr2
        have r0 : wr.cell? ⟨r2, 0, none⟩ = some (.string ⟨#[97]⟩) := (cell_at hr1 0).trans rfl
        have r1' : wr.cell? ⟨r2, 1, none⟩ = some (.string ⟨#[98]⟩) := (cell_at hr1 1).trans rfl
        have hl := L8.out j
        have hl0 := L0.out 2
        have hl2 : (popDel (popDel l kp km 2) (nm ++ ⟨#[101]⟩ ++ ⟨#[97]⟩) (nm ++ ⟨#[101]⟩ ++ ⟨#[98]⟩) j).length < 1000000 := by omega
        have hKV := hid HK.out.1
        have hKp := hid HK.out.2
        clear HK hr1 hl
        rcases (by omega : j = 0 ∨ j = 1 ∨ j = 2) with rfl | rfl | rfl
        · go_wp2
          go_region_held3 (fun w' => w'.cell? ⟨q, 0, none⟩ = some (.iface 23 (.pointer (some ⟨g, 0, none⟩)))) (first | exact c0 | exact d9) (first | (go_at_call 37; (with_reducible refine (que_end (w := wr.drew) ⟨#[97]⟩ ⟨hqs.out.blk⟩ hn (by decide)).mono ?_); rintro e w8 ⟨rfl, rfl⟩) | (go_at_call 91; (with_reducible refine (KVs.del _ (hKV.out.new (Kept.refl _ _).drew) hl2).mono ?_); rintro e w10 ⟨rfl, hk10, hK10⟩; have K10 := hKp.out.trans ((Kept.refl F2 wr).drew.trans hK10); have d9 := (hQ8.out.kept K10 nq2).cells.1))
          all_goals
            go_wp2
            go_roundw
            case rel =>
              (repeat apply Exists.intro)
              exact ⟨⟨1, rfl, by omega, hid ⟨hk10, K10⟩⟩, rfl⟩
            case measure => simp [intOf]
        · go_wp2
          go_region_held3 (fun w' => w'.cell? ⟨q, 0, none⟩ = some (.iface 23 (.pointer (some ⟨g, 0, none⟩)))) (first | exact c0 | exact d9) (first | (go_at_call 37; (with_reducible refine (que_end (w := wr.drew) ⟨#[98]⟩ ⟨hqs.out.blk⟩ hn (by decide)).mono ?_); rintro e w8 ⟨rfl, rfl⟩) | (go_at_call 91; (with_reducible refine (KVs.del _ (hKV.out.new (Kept.refl _ _).drew) hl2).mono ?_); rintro e w10 ⟨rfl, hk10, hK10⟩; have K10 := hKp.out.trans ((Kept.refl F2 wr).drew.trans hK10); have d9 := (hQ8.out.kept K10 nq2).cells.1))
          all_goals
            go_wp2
            go_roundw
            case rel =>
              (repeat apply Exists.intro)
              exact ⟨⟨2, rfl, by omega, hid ⟨hk10, K10⟩⟩, rfl⟩
            case measure => simp [intOf]
        · go_wp2
          go_ret3
          exact ⟨rfl, hKV.out.wider hFF2.out, hK8.out.trans (hKp.out.mono fun x _ e => hFF2.out x e)⟩
end Go.Proofs.Ytmlnjheiogmlaaa
