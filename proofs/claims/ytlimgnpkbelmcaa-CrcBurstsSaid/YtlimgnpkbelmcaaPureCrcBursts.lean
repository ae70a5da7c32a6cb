/-
CrcBursts: of two texts that differ just within four bytes that follow one another the checks are unlike, and the Go call of the law answers true; conditions: the text fits a string, the numbers are of their kinds.
-/
import Derived.Test.YtlimgnpkbelmcaaOf
import Derived.Test.YtlimgnpkbelmcaaMath3
import Derived.Test.YtlimgnpkbelmcaaKit
import Derived.Test.YtlimgnpkbelmcaaF3
import Derived.BigRegion
import Derived.StillTailTactics
import Derived.KernelRfl
import Derived.Deep.RegionHeld3
namespace Go.Proofs.Ytlimgnpkbelmcaa.Pure
open Go.RowKit Go.Proofs.Ytlimgnpkbelmcaa.F Go.Proofs.YtlimgnpkbelmcaaW.PrintWords Go.Proofs.YtlimgnpkbelmcaaW.PrintLast Go.Proofs.YtlimgnpkbelmcaaW.PrintMore Go.Proofs.Ytlimgnpkbelmcaa.Math
attribute [local go_sem] max2_int min2_int max_two min_two max_three min_three max_four min_four
/-- A text that differs from another one just within four bytes from the k-th one on. -/
def Near (l : List UInt8) (k : Nat) (m : List UInt8) : Prop := m.length = l.length ∧ ∀ j, j < k ∨ k + 4 ≤ j → m[j]? = l[j]?
theorem Near.refl (l : List UInt8) (k : Nat) : Near l k l := ⟨rfl, fun _ _ => rfl⟩
theorem Near.set {l m : List UInt8} {k j : Nat} (h : Near l k m) (h0 : k ≤ j) (h1 : j < k + 4) (b : UInt8) : Near l k (m.set j b) := by
  refine ⟨by rw [List.length_set]; exact h.1, fun i hi => ?_⟩
  rw [List.getElem?_set_ne (by omega)]
  exact h.2 i hi
theorem near_check {l m : List UInt8} {k : Nat} (h : Near l k m) (hc : check m = check l) : m = l := by
  have e : ∀ x : List UInt8, x = x.take k ++ ((x.drop k).take 4 ++ (x.drop k).drop 4) := fun x => by rw [List.take_append_drop, List.take_append_drop]
  have e1 : m.take k = l.take k := List.ext_getElem? fun i => by
    rw [List.getElem?_take, List.getElem?_take]
    split
    · exact h.2 i (.inl (by assumption))
    · rfl
  have e2 : (m.drop k).drop 4 = (l.drop k).drop 4 := List.ext_getElem? fun i => by
    rw [List.getElem?_drop, List.getElem?_drop, List.getElem?_drop, List.getElem?_drop]
    exact h.2 _ (.inr (by omega))
  have hm := e m
  have hl := e l
  rw [e1, e2] at hm
  have hc' : check (l.take k ++ ((m.drop k).take 4 ++ (l.drop k).drop 4)) = check (l.take k ++ ((l.drop k).take 4 ++ (l.drop k).drop 4)) := by rw [← hm, ← hl]; exact hc
  have := burst (l.take k) ((m.drop k).take 4) ((l.drop k).take 4) ((l.drop k).drop 4) (by simp [h.1]) (by simp; omega) hc'
  exact hm.trans (by rw [this]; exact hl.symm)
theorem near_told {s : ByteArray} {m : List UInt8} {k : Nat} (h : Near s.data.toList k m) : ((m == s.data.toList) == (((check m : Nat) : Int) == ((check s.data.toList : Nat) : Int))) = true := by
  by_cases he : m = s.data.toList
  · rw [he]; simp
  · have hc : ¬ check m = check s.data.toList := fun hc => he (near_check h hc)
    have h1 : (m == s.data.toList) = false := beq_eq_false_iff_ne.2 he
    have h2 : (((check m : Nat) : Int) == ((check s.data.toList : Nat) : Int)) = false := beq_eq_false_iff_ne.2 (by omega)
    rw [h1, h2]; rfl
/-- What the loop keeps: the bytes lie in their row, the four bytes in theirs, and what was there before is as it was. -/
structure Inv (w : World) (g : Nat) (s : ByteArray) (k : Nat) (b : Nat → Nat) (L : List UInt8) (W : World) : Prop where
  near : Near s.data.toList k L
  cell : ∀ j (hj : j < L.length), W.cell? ⟨g, j, none⟩ = some (.int .u8 (L[j].toNat : Int))
  frozen : ∀ j, j < L.length → W.frozen? ⟨g, j, none⟩ = false
  four : ∀ j, j < 4 → W.cell? ⟨w.heap.size, j, none⟩ = some (.int .u8 (b j : Int))
  apart : w.heap.size < g
  less : g < W.heap.size
  below : Below w.heap.size w W
theorem Inv.drew {w : World} {g : Nat} {s : ByteArray} {k : Nat} {b : Nat → Nat} {L : List UInt8} {W : World} (h : Inv w g s k b L W) : Inv w g s k b L W.drew := ⟨h.near, h.cell, h.frozen, h.four, h.apart, h.less, h.below.drew⟩
theorem Inv.call {w : World} {g : Nat} {s : ByteArray} {k : Nat} {b : Nat → Nat} {L : List UInt8} {W W' : World} (h : Inv w g s k b L W) (hb : Below W.heap.size W W') : Inv w g s k b L W' :=
  ⟨h.near, fun j hj => (hb.cell h.less).trans (h.cell j hj), fun j hj => (hb.frozen h.less).trans (h.frozen j hj), fun j hj => (hb.cell (Nat.lt_trans h.apart h.less)).trans (h.four j hj), h.apart, Nat.lt_of_lt_of_le h.less hb.size, below_step h.below hb⟩
theorem Inv.set {w : World} {g : Nat} {s : ByteArray} {k : Nat} {b : Nat → Nat} {L : List UInt8} {W : World} (h : Inv w g s k b L W) {j : Nat} (h0 : k ≤ j) (h1 : j < k + 4) (hj : j < L.length) {v : Nat} (hv : v < 256) :
    Inv w g s k b (L.set j (UInt8.ofNat v)) (W.setCell ⟨g, j, none⟩ (.int .u8 (v : Int))) := by
  refine ⟨h.near.set h0 h1 _, fun i hi => ?_, fun i hi => ?_, fun i hi => ?_, h.apart, ?_, below_set h.below (Nat.le_of_lt h.apart)⟩
  · rw [List.length_set] at hi
    rw [List.getElem_set]
    by_cases he : j = i
    · subst he
      rw [if_pos rfl, UInt8.toNat_ofNat_of_lt' hv]
      exact World.cell?_setCell_same _ _ _ (h.cell j hj)
    · rw [if_neg he]
      exact (World.cell?_setCell_other _ _ _ _ (fun h => he (by injection h))).trans (h.cell i hi)
  · rw [List.length_set] at hi
    simp [h.frozen i hi]
  · exact (World.cell?_setCell_other _ _ _ _ (fun e => Nat.ne_of_gt h.apart (by injection e))).trans (h.four i hi)
  · simpa using h.less
/-- The row of bytes, as a string. -/
theorem Inv.str {w : World} {g : Nat} {s : ByteArray} {k : Nat} {b : Nat → Nat} {L : List UInt8} {W : World} (h : Inv w g s k b L W) (cap : Nat) :
    (convert 30 9 (.slice (some ⟨g, 0, none⟩) s.size cap)).run Try.prog W = .ok (.string ⟨L.toArray⟩) W := by
  have hlen : L.length = s.size := by rw [h.near.1, Array.length_toList]; rfl
  have hc := run_convert_bytes_arg (P := Try.prog) W 30 5 Try.underlying30 Try.underlying5 g 0 s.size cap (L.map fun b => (b.toNat : Int)) (by simp [hlen]) (fun i hi => ?_) 9 Try.underlying9
  · rw [hc]
    congr 2
    apply ByteArray.ext
    simp only [strOfNums, List.map_map]
    congr 1
    conv => rhs; rw [← List.map_id L]
    exact List.map_congr_left (fun b _ => by simp)
  · rw [Nat.zero_add, h.cell i (by omega), List.getD_eq_getElem?_getD, List.getElem?_map, List.getElem?_eq_getElem (by omega)]
    rfl
theorem Inv.str_as {w : World} {g : Nat} {s : ByteArray} {k : Nat} {b : Nat → Nat} {L : List UInt8} {W : World} {S' : ByteArray} (he : (⟨L.toArray⟩ : ByteArray) = S') (h : Inv w g s k b L W) :
    ∀ cap : Nat, (convert 30 9 (.slice (some ⟨g, 0, none⟩) s.size cap)).run Try.prog W = .ok (.string S') W := fun cap => he ▸ h.str cap
theorem inv_start {w w1 : World} {s : ByteArray} {k : Nat} {b : Nat → Nat} (h0 : w.heap.size < w1.heap.size) (hb : Below w.heap.size w w1) (hf : ∀ j, j < 4 → w1.cell? ⟨w.heap.size, j, none⟩ = some (.int .u8 (b j : Int))) :
    Inv w w1.heap.size s k b s.data.toList (Lib.bytesWorld w1 5 s) := by
  have hlen : s.data.toList.length = s.size := by rw [Array.length_toList]; rfl
  have hb2 := bw_below w1 5 s
  refine ⟨Near.refl _ _, fun j hj => bw_cell w1 5 s j (by omega), fun j hj => bw_frozen w1 5 s j (by omega), fun j hj => (hb2.cell h0).trans (hf j hj), h0, ?_, below_step hb hb2⟩
  have := Lib.bytesWorld_size w1 5 s
  omega
theorem tmod_within (a : Int) (m : Nat) (h : 0 < m) : -(m : Int) < a.tmod m ∧ a.tmod m < m := by
  have hm : (m : Int) ≠ 0 := by omega
  rcases Int.le_total 0 a with h0 | h0
  · rw [Int.tmod_eq_emod_of_nonneg h0]
    have := Int.emod_nonneg a hm
    have := Int.emod_lt_of_pos a (show (0 : Int) < m by omega)
    omega
  · have e : a = -(-a) := by omega
    rw [e, Int.neg_tmod, Int.tmod_eq_emod_of_nonneg (by omega)]
    have := Int.emod_nonneg (-a) hm
    have := Int.emod_lt_of_pos (-a) (show (0 : Int) < m by omega)
    omega
theorem index_within (a : Int) (m : Nat) (h : 0 < m) (h1 : m ≤ 600) : ∃ kn : Nat, (wrap64 (a.tmod m + m)).tmod m = (kn : Int) ∧ kn < m := by
  obtain ⟨t1, t2⟩ := tmod_within a m h
  have e : wrap64 (a.tmod m + m) = a.tmod m + m := by unfold wrap64; omega
  have hm : (m : Int) ≠ 0 := by omega
  rw [e, Int.tmod_eq_emod_of_nonneg (by omega)]
  have := Int.emod_nonneg (a.tmod m + m) hm
  have := Int.emod_lt_of_pos (a.tmod m + m) (show (0 : Int) < m by omega)
  exact ⟨((a.tmod m + m) % m).toNat, by omega, by omega⟩
theorem u8_nat {a : Int} (h : (Lit.int .u8 a).wf = true) : ∃ n : Nat, a = (n : Int) ∧ n < 256 := by
  simp only [Lit.wf, Bool.and_eq_true, decide_eq_true_eq] at h
  have h1 : IntKind.u8.min = 0 := rfl
  have h2 : IntKind.u8.max = 255 := rfl
  exact ⟨a.toNat, by omega, by omega⟩
theorem ends {w : World} {g : Nat} {s : ByteArray} {k : Nat} {b : Nat → Nat} {L : List UInt8} {W : World} (h : Inv w g s k b L W) (ht : s.size ≤ 600) :
    ∃ S', Aside0 ((⟨L.toArray⟩ : ByteArray) = S') ∧ Aside0 (crc_Of.f S' = some ((check L : Nat) : Int)) ∧ Aside0 (crc_Of.f s = some ((check s.data.toList : Nat) : Int)) ∧
      Aside0 (((S'.toList == s.toList) == (((check L : Nat) : Int) == ((check s.data.toList : Nat) : Int))) = true) := by
  have hlen : L.length = s.size := by rw [h.near.1, Array.length_toList]; rfl
  have hsz : (⟨L.toArray⟩ : ByteArray).size ≤ 9223372036854775807 := by
    have : (⟨L.toArray⟩ : ByteArray).size = L.length := by simp [ByteArray.size]
    omega
  have h1 := crc_Of_tells hsz
  rw [show (⟨L.toArray⟩ : ByteArray).data.toList = L from rfl] at h1
  refine ⟨_, Aside0.mk rfl, Aside0.mk h1, Aside0.mk (crc_Of_tells (by omega)), Aside0.mk ?_⟩
  rw [ByteArray.toList_eq, ByteArray.toList_eq]
  exact near_told h.near
theorem sum_in {k i j : Nat} (hj : k + i = j) (h : j < 1000) : wrap64 ((k : Int) + (i : Int)) = (j : Int) ∧ IntKind.i64.wrap ((k : Int) + (i : Int)) = (j : Int) := by
  have : wrap64 ((k : Int) + (i : Int)) = (j : Int) := by unfold wrap64; omega
  exact ⟨this, (i64_w _).trans this⟩
theorem next_in {i : Nat} (h : i < 1000) : wrap64 ((i : Int) + 1) = ((i + 1 : Nat) : Int) ∧ IntKind.i64.wrap ((i : Int) + 1) = ((i + 1 : Nat) : Int) := by
  have : wrap64 ((i : Int) + 1) = ((i + 1 : Nat) : Int) := by unfold wrap64; omega
  exact ⟨this, (i64_w _).trans this⟩
set_option maxHeartbeats 16000000 in
set_option maxRecDepth 100000 in
theorem crcBursts_walk (a0 : ByteArray) (a1 : Int) (b0 b1 b2 b3 : Int) (w : World) (_ : a0.size ≤ maxLen) (_ : (Lit.int .i64 a1).wf = true) (h0 : (Lit.int .u8 b0).wf = true) (h1 : (Lit.int .u8 b1).wf = true) (h2 : (Lit.int .u8 b2).wf = true) (h3 : (Lit.int .u8 b3).wf = true) :
    Calls Try.prog 5 #[.string a0, .int .i64 a1, .agg #[.int .u8 b0, .int .u8 b1, .int .u8 b2, .int .u8 b3]] w fun e w' => e = .returned (.bool true) ∧ Below w.heap.size w w' := by
  obtain ⟨x0, rfl, g0⟩ := u8_nat h0
  obtain ⟨x1, rfl, g1⟩ := u8_nat h1
  obtain ⟨x2, rfl, g2⟩ := u8_nat h2
  obtain ⟨x3, rfl, g3⟩ := u8_nat h3
  have ht := few_size a0
  have HF := Aside0.mk (few_tells a0)
  generalize few a0 = s at ht HF
  have HA := Aside0.mk awake_tells
  have HO := Aside0.mk (fun (t : ByteArray) (ht : t.size ≤ 600) => crc_Of_tells (s := t) (by omega))
  have hcv : ∀ w, (convert 9 30 (.string s)).run Try.prog w = .ok (.slice (some ⟨w.heap.size, 0, none⟩) s.size (grownCap w s.size 0 5)) (Lib.bytesWorld w 5 s) := fun w => Lib.run_convert_string_bytes w 9 30 5 s Try.underlying9 Try.underlying30 Try.underlying5
  rcases Nat.eq_zero_or_pos s.size with hn | hn
  · go_enter Try.func5, Try.ntmps5
    go_wp2_with (first | (go_at_call 15; with_reducible refine (keywaylaw01_few.calls _ _ _ HF.out).mono ?_; rintro e w1 ⟨rfl, hb1⟩; obtain ⟨hc1, hf1⟩ := bcell hb1) | (go_at_call 13; with_reducible refine (keywaylaw01_awake.calls true _ HA.out).mono ?_; rintro e w2 ⟨rfl, hb2⟩))
    go_ret
    exact ⟨rfl, below_step (below_step (below_alloc (Below.refl _ _) _) hb1) hb2⟩
  · obtain ⟨k, hk, hkn⟩ := index_within a1 s.size hn ht
    have hz1 : ¬ s.size = 0 := by omega
    have hz2 : ((s.size : Int) == 0) = false := beq_eq_false_iff_ne.2 (by omega)
    have hz3 : ((s.size : Int) == -1) = false := beq_eq_false_iff_ne.2 (by omega)
    go_enter Try.func5, Try.ntmps5
    go_wp2_with (first | (go_at_call 15; with_reducible refine (keywaylaw01_few.calls _ _ _ HF.out).mono ?_; rintro e w1 ⟨rfl, hb1⟩; obtain ⟨hc1, hf1⟩ := bcell hb1) | (go_at_call 13; with_reducible refine (keywaylaw01_awake.calls true _ HA.out).mono ?_; rintro e w2 ⟨rfl, hb2⟩))
    have hlt : w.heap.size < w1.heap.size := Nat.lt_of_lt_of_le (by simp) hb1.size
    have hS := Aside0.mk (inv_start (s := s) (k := k) (b := fun j => [x0, x1, x2, x3].getD j 0) hlt (below_step (below_alloc (Below.refl _ _) _) hb1) (fun j hj => by
      rw [hc1 _ _ (by simp)]
      rcases j with _ | _ | _ | _ | j
      · simp
      · simp
      · simp
      · simp
      · omega))
    have hcv1 := hcv w1
    clear hc1 hf1 hcv
    have hb8 : ∀ j, (fun j => [x0, x1, x2, x3].getD j 0) j < 256 := fun j => by
      rcases j with _ | _ | _ | _ | j <;> simp <;> omega
    generalize (fun j => [x0, x1, x2, x3].getD j 0) = b at hS hb8
    go_loopw [10] (fun v10 w' => ∃ i : Nat, v10 = .int .i64 i ∧ i ≤ 4 ∧ Hid (∃ L, Inv w w1.heap.size s k b L w')) (fun v10 _ => 4 - (intOf v10).toNat)
    case atStart => exact ⟨0, rfl, by omega, hid ⟨_, hS.out⟩⟩
    case round =>
      obtain ⟨i, rfl, hi, HI⟩ := hrel
      clear hk hcv1 HF HO hS
      obtain ⟨j, hj⟩ : ∃ j, k + i = j := ⟨_, rfl⟩
      have hj1 : j < 1000 := by omega
      have hj2 : k ≤ j := by omega
      have hi1 : i < 1000 := by omega
      obtain ⟨L, hI⟩ := HI.out
      have hL : L.length = s.size := by rw [hI.near.1, Array.length_toList]; rfl
      by_cases hi4 : i < 4
      · by_cases hjn : j < s.size
        · have hjL : j < L.length := hL ▸ hjn
          have hj4 : j < k + 4 := by omega
          have hi5 : Aside0 (i + 1 ≤ 4) := Aside0.mk (by omega)
          have hme : Aside0 (4 - ((i : Int) + 1).toNat < 4 - (i : Int).toNat) := Aside0.mk (by omega)
          have hii : Aside0 (Value.int .i64 ((i : Int) + 1) = Value.int .i64 ((i + 1 : Nat) : Int)) := Aside0.mk (by rw [Int.natCast_add]; rfl)
          have q1 : (0 : Int) ≤ j := by omega
          have q2 : (j : Int) < s.size := by omega
          have q3 : (0 : Int) ≤ i := by omega
          have q4 : (i : Int) < 4 := by omega
          have hxl : L[j].toNat ^^^ b i < 256 := Nat.xor_lt_two_pow (n := 8) L[j].toNat_lt (hb8 i)
          have hx := xor8 L[j].toNat_lt (hb8 i)
          have hnext := Aside0.mk (hI.set hj2 hj4 hjL hxl)
          have hnextd := Aside0.mk (hI.drew.set hj2 hj4 hjL hxl)
          have hcell := hI.cell j hjL
          have hfroz := hI.frozen j hjL
          have hfour := hI.four i hi4
          obtain ⟨hs1, hs2⟩ := sum_in hj hj1
          obtain ⟨hn1, hn2⟩ := next_in hi1
          clear hI HI hb8 hj hj1 hj2 hj4 hxl
          go_wp2
          go_region
          go_wp2
          exact ⟨⟨i + 1, hii.out, hi5.out, hid ⟨_, hnext.out.drew⟩⟩, hme.out⟩
        · obtain ⟨hs1, hs2⟩ := sum_in hj hj1
          obtain ⟨S', hE, HO1, HO2, HT⟩ := ends hI ht
          have HI2 := Aside0.mk hI
          clear hI HI hb8 hj hj1 hj2
          go_wp2
          go_region_with (first | (go_at_call 13; with_reducible refine (keywaylaw01_awake.calls true _ HA.out).mono ?_; rintro e w2 ⟨rfl, hb2⟩; have hstr := Inv.str_as hE.out (Inv.call (Inv.drew HI2.out) hb2)) | (go_at_call 14; with_reducible refine (crc_Of.calls S' _ _ HO1.out).mono ?_; rintro e w3 ⟨rfl, hb3⟩; have hstr3 := Inv.str_as hE.out (Inv.call (Inv.call (Inv.drew HI2.out) hb2) hb3)) | (go_at_call 14; with_reducible refine (crc_Of.calls s _ _ HO2.out).mono ?_; rintro e w4 ⟨rfl, hb4⟩; have hstr4 := Inv.str_as hE.out (Inv.call (Inv.call (Inv.call (Inv.drew HI2.out) hb2) hb3) hb4)))
          all_goals
            go_wp2
            go_ret
            refine ⟨?_, below_step (below_step (below_step HI2.out.below.drew hb2) hb3) hb4⟩
            exact congrArg (fun b => Ending.returned (Value.bool b)) HT.out
      · obtain rfl : i = 4 := by omega
        obtain ⟨S', hE, HO1, HO2, HT⟩ := ends hI ht
        have HI2 := Aside0.mk hI
        clear hI HI hb8 hj hj1 hj2
        go_wp2
        go_region_with (first | (go_at_call 13; with_reducible refine (keywaylaw01_awake.calls true _ HA.out).mono ?_; rintro e w2 ⟨rfl, hb2⟩; have hstr := Inv.str_as hE.out (Inv.call (Inv.drew HI2.out) hb2)) | (go_at_call 14; with_reducible refine (crc_Of.calls S' _ _ HO1.out).mono ?_; rintro e w3 ⟨rfl, hb3⟩; have hstr3 := Inv.str_as hE.out (Inv.call (Inv.call (Inv.drew HI2.out) hb2) hb3)) | (go_at_call 14; with_reducible refine (crc_Of.calls s _ _ HO2.out).mono ?_; rintro e w4 ⟨rfl, hb4⟩; have hstr4 := Inv.str_as hE.out (Inv.call (Inv.call (Inv.call (Inv.drew HI2.out) hb2) hb3) hb4)))
        all_goals
          go_wp2
          go_ret
          refine ⟨?_, below_step (below_step (below_step HI2.out.below.drew hb2) hb3) hb4⟩
          exact congrArg (fun b => Ending.returned (Value.bool b)) HT.out
end Go.Proofs.Ytlimgnpkbelmcaa.Pure
