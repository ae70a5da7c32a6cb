/-
PageBursts: of a page's sector in which one byte is another one page.Get tells nothing, and the Go call of the law answers true; conditions: the page's numbers are of their kinds, its text fits a string.
-/
import Derived.Test.YtlimgnpkbelmcaaRound
import Derived.Test.YtlimgnpkbelmcaaMath3
import Derived.Test.YtlimgnpkbelmcaaKit
import Derived.BigRegion
namespace Go.Proofs.Ytlimgnpkbelmcaa.Pure
open Go.RowKit Go.Proofs.Ytlimgnpkbelmcaa.F Go.Proofs.YtlimgnpkbelmcaaW.PrintWords Go.Proofs.YtlimgnpkbelmcaaW.PrintLast Go.Proofs.YtlimgnpkbelmcaaW.PrintMore Go.Proofs.Ytlimgnpkbelmcaa.Math

/-- A sector with one other byte is none. -/
theorem not_isB_of_burst {kind number gen : Int} {data : ByteArray} (hm : mayB kind number data = true) (k : Nat) (hk : k < 256) (b : UInt8)
    (hb : (putB kind number gen data).data.toList[k]? ≠ some b) : isB (str ((putB kind number gen data).data.toList.set k b)) = false := by
  obtain ⟨h1, h2, h3, h4, h5⟩ := may_iff.1 hm
  have hl : data.data.toList.length = data.size := by simp
  cases hi : isB (str ((putB kind number gen data).data.toList.set k b)) with
  | false => rfl
  | true =>
    exfalso
    have e1 : (putB kind number gen data).data.toList = sector kind.toNat number.toNat gen.toNat data.data.toList := by unfold putB; rw [if_pos hm, str_toList]
    rw [e1] at hb hi
    have hs := sector_length kind.toNat number.toNat gen.toNat data.data.toList (by omega)
    -- the other one is a sector, too
    unfold isB at hi
    simp only [Bool.and_eq_true, decide_eq_true_eq] at hi
    obtain ⟨⟨_, hn⟩, hp⟩ := hi
    generalize kindOf _ = K at hp
    generalize numberOf _ = N at hp
    generalize genOf _ = G at hp
    have hd := hn
    generalize (dataOf (str ((sector kind.toNat number.toNat gen.toNat data.data.toList).set k b)).data.toList) = D at hp
    have e2 := congrArg (fun z : ByteArray => z.data.toList) hp
    simp only [str_toList] at e2
    have hm2 : mayB (K : Int) (N : Int) (str D) = true := by
      cases hq : mayB (K : Int) (N : Int) (str D) with
      | true => rfl
      | false =>
        have hz := putB_not (gen := (G : Int)) (by rw [hq]; decide)
        rw [hz] at e2
        have := congrArg List.length e2
        rw [List.length_set, hs] at this
        exact absurd this (by decide)
    obtain ⟨_, _, _, _, h5'⟩ := may_iff.1 hm2
    rw [str_size] at h5'
    have e3 : (putB (K : Int) (N : Int) (G : Int) (str D)).data.toList = sector K N G D := by unfold putB; rw [if_pos hm2, str_toList, str_toList]; simp
    rw [e3] at e2
    -- both are a body and its check
    unfold sector at e2 hb
    have b1 := body_length K N G D h5'
    have b2 := body_length kind.toNat number.toNat gen.toNat data.data.toList (by omega)
    generalize body kind.toNat number.toNat gen.toNat data.data.toList = B at *
    generalize body K N G D = B' at *
    by_cases hk2 : k < 252
    · rw [List.set_append_left _ _ (by omega)] at e2
      obtain ⟨x1, x2⟩ := List.append_inj e2 (by simp [b1, b2])
      have hc : check B' = check B := by
        have l1 := le_append_mod 4 (check B') (check_lt _)
        have l2 := le_append_mod 4 (check B) (check_lt _)
        rw [← l1, ← l2, x2]
      have hkB : k < B.length := by omega
      have p1 : B = B.take k ++ B[k] :: B.drop (k + 1) := by rw [← List.drop_eq_getElem_cons hkB, List.take_append_drop]
      have p2 : B' = B.take k ++ b :: B.drop (k + 1) := by rw [x1, List.set_eq_take_append_cons_drop, if_pos hkB]
      have := burst_one (B.take k) (B.drop (k + 1)) b B[k] (by rw [← p1, ← p2]; exact hc)
      apply hb
      rw [List.getElem?_append_left hkB, List.getElem?_eq_getElem hkB, this]
    · rw [List.set_append_right _ _ (by omega)] at e2
      obtain ⟨x1, x2⟩ := List.append_inj e2 (by omega)
      rw [x1] at x2
      have hkB : k - B.length < (le 4 (check B)).length := by rw [le_length]; omega
      have : (le 4 (check B))[k - B.length]? = some b := by
        conv => lhs; rw [x2]
        rw [List.getElem?_set_self hkB]
      apply hb
      rw [List.getElem?_append_right (by omega), this]
attribute [local go_sem] max2_int min2_int max_two min_two max_three min_three max_four min_four
theorem and_range (x : Int) (m : Nat) (hm : m < 4294967296) : 0 ≤ Go.bits .and .i64 x m ∧ Go.bits .and .i64 x m ≤ m := by
  have hlt : ((BitVec.ofInt 64 x) &&& (BitVec.ofInt 64 (m : Int))).toNat ≤ m := by
    rw [BitVec.toNat_and, BitVec.ofInt_natCast, BitVec.toNat_ofNat, Nat.mod_eq_of_lt (by omega)]
    exact Nat.and_le_right
  have e : Go.bits .and .i64 x m = wrap64 (((BitVec.ofInt 64 x) &&& (BitVec.ofInt 64 (m : Int))).toNat : Int) := by
    unfold Go.bits
    rw [i64_w]
    rfl
  rw [e]
  generalize ((BitVec.ofInt 64 x) &&& (BitVec.ofInt 64 (m : Int))).toNat = c at *
  have : wrap64 (c : Int) = (c : Int) := by unfold wrap64; omega
  omega
theorem tmod_range (a : Int) : -256 < a.tmod 256 ∧ a.tmod 256 < 256 := by
  rcases Int.le_total 0 a with h | h
  · rw [Int.tmod_eq_emod_of_nonneg h]; omega
  · have e : a = -(-a) := by omega
    rw [e, Int.neg_tmod, Int.tmod_eq_emod_of_nonneg (by omega)]; omega
set_option maxHeartbeats 2000000 in
set_option maxRecDepth 100000 in
theorem pageBursts_walk (a0_0 a0_1 a0_2 : Int) (a0_3 : ByteArray) (a1 a2 : Int) (w : World) (_ : (Lit.int .i64 a0_0).wf = true) (_ : (Lit.int .i64 a0_1).wf = true) (h2 : (Lit.int .u64 a0_2).wf = true) (_ : a0_3.size ≤ maxLen) (_ : (Lit.int .i64 a1).wf = true) (ha2 : (Lit.int .u8 a2).wf = true) :
    Calls Try.prog 9 #[.agg #[.int .i64 a0_0, .int .i64 a0_1, .int .u64 a0_2, .string a0_3], .int .i64 a1, .int .u8 a2] w fun e w' => e = .returned (.bool true) ∧ Below w.heap.size w w' := by
  have hm : 0 ≤ mn (a0_3.size : Int) 237 ∧ mn (a0_3.size : Int) 237 ≤ a0_3.size ∧ mn (a0_3.size : Int) 237 ≤ 237 := by unfold mn; split <;> omega
  obtain ⟨j, hj⟩ : ∃ j, (if 237 < (a0_3.size : Int) then 237 else (a0_3.size : Int)) = j := ⟨_, rfl⟩
  have hm1 : 0 ≤ j := by rw [← hj]; exact hm.1
  have hm2 : j ≤ (a0_3.size : Int) := by rw [← hj]; exact hm.2.1
  have hm3 : j ≤ 237 := by rw [← hj]; exact hm.2.2
  have r3 := and_range a0_0 3 (by decide)
  have r4 := and_range a0_1 16383 (by decide)
  obtain ⟨K, hK⟩ : ∃ K, Go.bits .and .i64 a0_0 3 = K := ⟨_, rfl⟩
  obtain ⟨N, hN⟩ : ∃ N, Go.bits .and .i64 a0_1 16383 = N := ⟨_, rfl⟩
  have r3' : 0 ≤ K ∧ K ≤ 3 := by rw [← hK]; exact r3
  have r4' : 0 ≤ N ∧ N ≤ 16383 := by rw [← hN]; exact r4
  obtain ⟨k1, k2⟩ := r3'
  have hw1 : wrap64 (K + 1) = K + 1 := by unfold wrap64; omega
  have hmay : mayB (K + 1) N (a0_3.extract 0 j.toNat) = true := may_iff.2 ⟨by omega, by omega, r4'.1, by omega, by rw [ByteArray.size_extract]; omega⟩
  obtain ⟨kp, hp⟩ := (put_tells (K + 1) N a0_2 (a0_3.extract 0 j.toNat) (u64_range h2).1 (u64_range h2).2).rounds
  have hS := put_size (gen := a0_2) hmay
  obtain ⟨S, hSe⟩ : ∃ S, putB (K + 1) N a0_2 (a0_3.extract 0 j.toNat) = S := ⟨_, rfl⟩
  rw [hSe] at hp hS
  have HP := Aside0.mk hp
  have HS := Aside0.mk hSe
  have HM := Aside0.mk hmay
  have HS2 := Aside0.mk hS
  have hcv : ∀ w, (convert 9 30 (.string S)).run Try.prog w = .ok (.slice (some ⟨w.heap.size, 0, none⟩) 256 (grownCap w 256 0 5)) (Lib.bytesWorld w 5 S) := by
    intro w
    have h := Lib.run_convert_string_bytes w 9 30 5 S Try.underlying9 Try.underlying30 Try.underlying5
    rw [hS] at h
    exact h
  clear hm r3 r4 r4' hmay hp hSe hS
  have hu := Try.underlying35
  obtain ⟨ka, hka⟩ := page_awake.rounds
  have HA := Aside0.mk hka
  clear hka
  by_cases hz : a2 = 0
  · have hz0 := beq_iff_eq.2 hz
    clear hz
    go_enter Try.func9, Try.ntmps9
    go_wp2
    go_region
    go_wp2_with (first | (go_at_call 19; refine (page_Put.calls kp _ _ _ _ S _ HP.out).mono ?_; rintro e w1 ⟨rfl, hb⟩; obtain ⟨hc, hf⟩ := bcell hb) | (go_at_call 21; refine (keywaylaw05_awake.calls ka true _ HA.out).mono ?_; rintro e w2 ⟨rfl, hb2⟩))
    go_ret
    have b1 := bw_below w1 5 S
    refine ⟨rfl, ?_⟩
    exact below_step (below_step (below_step (by repeat (first | exact Below.refl _ _ | apply below_drew | apply below_alloc)) hb) b1) hb2
  · have hz0 := beq_eq_false_iff_ne.2 hz
    have hr : 0 ≤ a2 ∧ a2 < 256 := by
      simp only [Lit.wf, Bool.and_eq_true, decide_eq_true_eq] at ha2
      have h1 : IntKind.u8.min = 0 := rfl
      have h2 : IntKind.u8.max = 255 := rfl
      omega
    obtain ⟨kn, hk, hk1⟩ : ∃ kn : Nat, (wrap64 (a1.tmod 256 + 256)).tmod 256 = (kn : Int) ∧ kn < 256 := by
      obtain ⟨t2, t1⟩ := tmod_range a1
      have e : wrap64 (a1.tmod 256 + 256) = a1.tmod 256 + 256 := by unfold wrap64; omega
      rw [e, Int.tmod_eq_emod_of_nonneg (by omega)]
      exact ⟨((a1.tmod 256 + 256) % 256).toNat, by omega, by omega⟩
    obtain ⟨bb, hbb⟩ : ∃ bb : Nat, a2 = (bb : Int) := ⟨a2.toNat, by omega⟩
    subst hbb
    have hkS : kn < S.size := by rw [HS2.out]; exact hk1
    have hx := xor8 S[kn].toNat_lt (show bb < 256 by omega)
    have hxl : S[kn].toNat ^^^ bb < 256 := Nat.xor_lt_two_pow (n := 8) S[kn].toNat_lt (by omega)
    obtain ⟨S', hS'⟩ : ∃ S', (⟨(S.data.toList.set kn (UInt8.ofNat (S[kn].toNat ^^^ bb))).toArray⟩ : ByteArray) = S' := ⟨_, rfl⟩
    have hld : ∀ W : World, (Lib.bytesWorld W 5 S).cell? ⟨W.heap.size, kn, none⟩ = some (.int .u8 (S[kn].toNat : Int)) := fun W => bw_cell W 5 S kn hkS
    have hfz : ∀ W : World, (Lib.bytesWorld W 5 S).frozen? ⟨W.heap.size, kn, none⟩ = false := fun W => bw_frozen W 5 S kn hkS
    have hback : ∀ (W : World) (c : Nat), (convert 30 9 (.slice (some ⟨W.heap.size, 0, none⟩) 256 c)).run Try.prog ((Lib.bytesWorld W 5 S).setCell ⟨W.heap.size, kn, none⟩ (.int .u8 ((S[kn].toNat ^^^ bb : Nat) : Int))) = .ok (.string S') ((Lib.bytesWorld W 5 S).setCell ⟨W.heap.size, kn, none⟩ (.int .u8 ((S[kn].toNat ^^^ bb : Nat) : Int))) := fun W c => by
      have h := bw_back W 30 9 5 Try.underlying30 Try.underlying5 Try.underlying9 S kn hkS (S[kn].toNat ^^^ bb) hxl c
      rw [HS2.out, hS'] at h
      exact h
    have hno : isB S' = false := by
      have h := not_isB_of_burst HM.out (gen := a0_2) kn hk1 (UInt8.ofNat (S[kn].toNat ^^^ bb)) (by
        rw [HS.out, List.getElem?_eq_getElem (by rw [Array.length_toList]; exact hkS)]
        intro he
        have he2 := congrArg UInt8.toNat (Option.some.inj he)
        have : S[kn].toNat = S[kn].toNat ^^^ bb := by
          have e3 : (UInt8.ofNat (S[kn].toNat ^^^ bb)).toNat = S[kn].toNat ^^^ bb := UInt8.toNat_ofNat_of_lt' hxl
          rw [e3] at he2
          exact he2
        have h0 := congrArg (S[kn].toNat ^^^ ·) this
        simp [← Nat.xor_assoc] at h0
        omega)
      rw [HS.out] at h
      rw [← hS']
      exact h
    obtain ⟨kg, hg⟩ := (get_tells S').rounds
    rw [if_neg (by rw [hno]; decide)] at hg
    have HG := Aside0.mk hg
    have HX := Aside0.mk hx
    clear hz hg hno hxl
    go_enter Try.func9, Try.ntmps9
    go_wp2
    go_region
    go_wp2_with (first | (go_at_call 19; refine (page_Put.calls kp _ _ _ _ S _ HP.out).mono ?_; rintro e w1 ⟨rfl, hb⟩; obtain ⟨hc, hf⟩ := bcell hb) | (go_at_call 23; refine (page_Get.calls kg S' _ _ _ _ _ _ HG.out).mono ?_; rintro e w3 ⟨rfl, hb3⟩) | (go_at_call 21; refine (keywaylaw05_awake.calls ka true _ HA.out).mono ?_; rintro e w2 ⟨rfl, hb2⟩))
    go_ret
    refine ⟨rfl, ?_⟩
    have c1 : Below w.heap.size w w1 := below_step (by repeat (first | exact Below.refl _ _ | apply below_drew | apply below_alloc)) hb
    have c2 : Below w.heap.size w (Lib.bytesWorld w1 5 S) := below_step c1 (bw_below w1 5 S)
    exact below_step (below_alloc (below_step (below_set c2 c1.size) hb3) _) hb2
end Go.Proofs.Ytlimgnpkbelmcaa.Pure
