/-
PageGets: of the string that a page becomes, one byte of it another one, page.Get and the document tell the same, and the Go call of the law answers true; conditions: the numbers are of their kinds, the text fits a string.
-/
import Derived.Test.YtlimgnpkbelmcaaPurePageBursts
import Derived.Test.YtlimgnpkbelmcaaGetRef
namespace Go.Proofs.Ytlimgnpkbelmcaa.Pure
open Go.RowKit Go.Proofs.Ytlimgnpkbelmcaa.F Go.Proofs.YtlimgnpkbelmcaaW.PrintWords Go.Proofs.YtlimgnpkbelmcaaW.PrintLast Go.Proofs.YtlimgnpkbelmcaaW.PrintMore Go.Proofs.Ytlimgnpkbelmcaa.Math
attribute [local go_sem] max2_int min2_int max_two min_two max_three min_three max_four min_four
/-- What the two readers tell of one string. -/
theorem two_tell (s : ByteArray) : ∃ kg kr p1 p2 p3 p4 e q1 q2 q3 q4 ok, page_Get.f kg s = some (p1, p2, p3, p4, e) ∧ keywayref05_Get.f kr s = some (q1, q2, q3, q4, ok) ∧ ((ok = true ∧ e = 0 ∧ q1 = p1 ∧ q2 = p2 ∧ q3 = p3 ∧ q4 = p4) ∨ (ok = false ∧ e = 3 ∧ p1 = 0 ∧ p2 = 0 ∧ p3 = 0 ∧ p4 = ⟨#[]⟩)) := by
  obtain ⟨kg, hg⟩ := (get_tells s).rounds
  obtain ⟨kr, hr⟩ := (ref_get_tells s).rounds
  by_cases hb : isB s = true
  · have hb' := hb
    unfold isB at hb'
    simp only [Bool.and_eq_true, decide_eq_true_eq] at hb'
    rw [if_pos hb] at hg
    rw [if_pos ⟨hb'.1.1, hb'.1.2⟩, hb] at hr
    exact ⟨kg, kr, _, _, _, _, _, _, _, _, _, _, hg, hr, .inl ⟨rfl, rfl, rfl, rfl, rfl, rfl⟩⟩
  · rw [if_neg hb] at hg
    rw [Bool.not_eq_true] at hb
    rw [hb] at hr
    split at hr
    · exact ⟨kg, kr, _, _, _, _, _, _, _, _, _, _, hg, hr, .inr ⟨rfl, rfl, rfl, rfl, rfl, rfl⟩⟩
    · exact ⟨kg, kr, _, _, _, _, _, _, _, _, _, _, hg, hr, .inr ⟨rfl, rfl, rfl, rfl, rfl, rfl⟩⟩
theorem eqA38 (d : Nat) (w : World) (x0 y0 : Int) (x1 y1 : Int) (x2 y2 : Int) (x3 y3 : ByteArray) :
  (Op.equalIn (d + 2) 38 (.agg #[.int .i64 x0, .int .i64 x1, .int .u64 x2, .string x3]) (.agg #[.int .i64 y0, .int .i64 y1, .int .u64 y2, .string y3])).run Try.prog w = .ok (x0 == y0 && (x1 == y1 && (x2 == y2 && (x3.toList == y3.toList)))) w := by
 refine eqA_of Try.underlying38 (by kernel_rfl) ?_
 refine eqf_cons (by rfl) (by go_simp; rfl) (by go_simp; rfl) (by go_simp) ?_
 refine eqf_cons (by rfl) (by go_simp; rfl) (by go_simp; rfl) (by go_simp) ?_
 refine eqf_cons (by rfl) (by go_simp; rfl) (by go_simp; rfl) (by go_simp) ?_
 exact eqf_last (by rfl) (by go_simp; rfl) (by go_simp; rfl) (by go_simp)
theorem empty_list : (⟨#[]⟩ : ByteArray).toList = ([] : List UInt8) := by
  rw [toList_data]
/-- The bytes, one of them stored anew, as a string, in a world that has kept them. -/
theorem bw_back_at {P : Program} (w X : World) (src dst e : TypeId) (hs : P.underlying src = some (.slice e)) (he : P.underlying e = some (.int .u8)) (hd : P.underlying dst = some .string) (s : ByteArray) (k : Nat) (hk : k < s.size) (v : Nat) (hv : v < 256)
    (hX : X.heap[w.heap.size]? = ((Lib.bytesWorld w e s).setCell ⟨w.heap.size, k, none⟩ (.int .u8 v)).heap[w.heap.size]?) (cap : Nat) :
    (convert src dst (.slice (some ⟨w.heap.size, 0, none⟩) s.size cap)).run P X = .ok (.string ⟨(s.data.toList.set k (UInt8.ofNat v)).toArray⟩) X := by
  have hlen : s.data.toList.length = s.size := by rw [Array.length_toList]; rfl
  have h := run_convert_bytes_arg (P := P) X src e hs he w.heap.size 0 s.size cap ((s.data.toList.set k (UInt8.ofNat v)).map fun b => (b.toNat : Int)) (by simp [hlen]) (fun i hi => ?_) dst hd
  · rw [h]
    congr 2
    apply ByteArray.ext
    simp only [strOfNums, List.map_map]
    congr 1
    conv => rhs; rw [← List.map_id (s.data.toList.set k (UInt8.ofNat v))]
    exact List.map_congr_left (fun b _ => by simp)
  · have hg : ((s.data.toList.set k (UInt8.ofNat v)).map fun b => (b.toNat : Int)).getD i 0 = if k = i then (v : Int) else (s[i].toNat : Int) := by
      rw [List.getD_eq_getElem?_getD, List.getElem?_map, List.getElem?_set]
      by_cases hki : k = i
      · subst hki
        rw [if_pos rfl, if_pos rfl, if_pos (by omega)]
        simp
        omega
      · rw [if_neg hki, if_neg hki, List.getElem?_eq_getElem (by omega)]
        rfl
    rw [hg, Nat.zero_add]
    refine (World.cell?_of_block (a := ⟨w.heap.size, i, none⟩) hX).trans ?_
    by_cases hki : k = i
    · subst hki
      rw [if_pos rfl]
      exact World.cell?_setCell_same _ _ _ (bw_cell w e s k hk)
    · rw [if_neg hki]
      exact (World.cell?_setCell_other _ _ _ _ (fun h => hki (by injection h))).trans (bw_cell w e s i hi)
theorem set_in (W : World) (T : ByteArray) (k : Nat) (v : Value) : W.heap.size < ((Lib.bytesWorld W 5 T).setCell ⟨W.heap.size, k, none⟩ v).heap.size := by
  have h := Lib.bytesWorld_size W 5 T
  simp
  omega
theorem set_lt {W w3 : World} {T : ByteArray} {k : Nat} {v : Value} (h : Below ((Lib.bytesWorld W 5 T).setCell ⟨W.heap.size, k, none⟩ v).heap.size ((Lib.bytesWorld W 5 T).setCell ⟨W.heap.size, k, none⟩ v) w3) : W.heap.size < w3.heap.size :=
  Nat.lt_of_lt_of_le (set_in W T k v) h.size
theorem tmod_within (a : Int) (m : Nat) (h : 0 < m) : -(m : Int) < a.tmod m ∧ a.tmod m < m := by
  have hm : (m : Int) ≠ 0 := by omega
  rcases Int.le_total 0 a with h0 | h0
  · rw [Int.tmod_eq_emod_of_nonneg h0]
    have := Int.emod_nonneg a hm
    have := Int.emod_lt_of_pos a (show (0 : Int) < m by omega)
    omega
  · have e : a = -(-a) := by omega
    rw [e, Int.neg_tmod, Int.tmod_eq_emod_of_nonneg (by omega)]
    have := Int.emod_nonneg (-a) hm
    have := Int.emod_lt_of_pos (-a) (show (0 : Int) < m by omega)
    omega
theorem index_within (a : Int) (m : Nat) (h : 0 < m) (h1 : m ≤ 256) : ∃ kn : Nat, (wrap64 (a.tmod m + m)).tmod m = (kn : Int) ∧ kn < m := by
  obtain ⟨t1, t2⟩ := tmod_within a m h
  have e : wrap64 (a.tmod m + m) = a.tmod m + m := by unfold wrap64; omega
  have hm : (m : Int) ≠ 0 := by omega
  rw [e, Int.tmod_eq_emod_of_nonneg (by omega)]
  have := Int.emod_nonneg (a.tmod m + m) hm
  have := Int.emod_lt_of_pos (a.tmod m + m) (show (0 : Int) < m by omega)
  exact ⟨((a.tmod m + m) % m).toNat, by omega, by omega⟩
attribute [local go_sem high] eqA38
set_option maxHeartbeats 2000000 in
set_option maxRecDepth 100000 in
theorem pageGets_walk (a0_0 a0_1 a0_2 : Int) (a0_3 : ByteArray) (a1 a2 : Int) (w : World) (_ : (Lit.int .i64 a0_0).wf = true) (_ : (Lit.int .i64 a0_1).wf = true) (h2 : (Lit.int .u64 a0_2).wf = true) (_ : a0_3.size ≤ maxLen) (_ : (Lit.int .i64 a1).wf = true) (ha2 : (Lit.int .u8 a2).wf = true) :
    Calls Try.prog 8 #[.agg #[.int .i64 a0_0, .int .i64 a0_1, .int .u64 a0_2, .string a0_3], .int .i64 a1, .int .u8 a2] w fun e w' => e = .returned (.bool true) ∧ Below w.heap.size w w' := by
  have hm : 0 ≤ mn (a0_3.size : Int) 237 ∧ mn (a0_3.size : Int) 237 ≤ a0_3.size ∧ mn (a0_3.size : Int) 237 ≤ 237 := by unfold mn; split <;> omega
  obtain ⟨j, hj⟩ : ∃ j, (if 237 < (a0_3.size : Int) then 237 else (a0_3.size : Int)) = j := ⟨_, rfl⟩
  have hm1 : 0 ≤ j := by rw [← hj]; exact hm.1
  have hm2 : j ≤ (a0_3.size : Int) := by rw [← hj]; exact hm.2.1
  have hm3 : j ≤ 237 := by rw [← hj]; exact hm.2.2
  obtain ⟨K, hK⟩ : ∃ K, Go.bits .and .i64 a0_0 7 = K := ⟨_, rfl⟩
  obtain ⟨N, hN⟩ : ∃ N, Go.bits .and .i64 a0_1 32767 = N := ⟨_, rfl⟩
  obtain ⟨kp, hp⟩ := (ref_Put_tells K N a0_2 (a0_3.extract 0 j.toNat) (u64_range h2).1 (u64_range h2).2).rounds
  obtain ⟨S, hS⟩ : ∃ S, putB K N a0_2 (a0_3.extract 0 j.toNat) = S := ⟨_, rfl⟩
  obtain ⟨D, hD⟩ : ∃ D, a0_3.extract 0 j.toNat = D := ⟨_, rfl⟩
  rw [hS, hD] at hp
  have HP := Aside0.mk hp
  have hu := Try.underlying35
  obtain ⟨ka, hka⟩ := page_awake.rounds
  have HA := Aside0.mk hka
  clear hka hm hp
  have hcv : ∀ (T : ByteArray) w, (convert 9 30 (.string T)).run Try.prog w = .ok (.slice (some ⟨w.heap.size, 0, none⟩) T.size (grownCap w T.size 0 5)) (Lib.bytesWorld w 5 T) := fun T w => Lib.run_convert_string_bytes w 9 30 5 T Try.underlying9 Try.underlying30 Try.underlying5
  obtain ⟨bb, hbb⟩ : ∃ bb : Nat, a2 = (bb : Int) ∧ bb < 256 := by
    simp only [Lit.wf, Bool.and_eq_true, decide_eq_true_eq] at ha2
    have h1 : IntKind.u8.min = 0 := rfl
    have h2 : IntKind.u8.max = 255 := rfl
    exact ⟨a2.toNat, by omega, by omega⟩
  obtain ⟨rfl, hbb⟩ := hbb
  have hSs : S.size ≤ 256 := by
    rw [← hS]
    by_cases hm : mayB K N (a0_3.extract 0 j.toNat) = true
    · rw [put_size hm]; exact Nat.le_refl _
    · rw [putB_not hm]; decide
  have hDs : D.size ≤ 256 := by rw [← hD, ByteArray.size_extract]; omega
  clear hS h2 ha2
  have HC := Aside0.mk hcv
  have cases : ∃ T : ByteArray, T.size ≤ 256 ∧ (((S.toList == ([] : List UInt8)) = false ∧ T = S ∧ 0 < T.size) ∨ ((S.toList == ([] : List UInt8)) = true ∧ T = D)) := by
    by_cases hS0 : S.toList = ([] : List UInt8)
    · exact ⟨D, hDs, .inr ⟨beq_iff_eq.2 hS0, rfl⟩⟩
    · refine ⟨S, hSs, .inl ⟨beq_eq_false_iff_ne.2 hS0, rfl, ?_⟩⟩
      rcases Nat.eq_zero_or_pos S.size with h | h
      · exfalso; apply hS0
        have : S = ⟨#[]⟩ := ByteArray.ext (Array.eq_empty_of_size_eq_zero h)
        rw [this]; exact empty_list
      · exact h
  clear hSs hDs
  obtain ⟨T, hT, cases⟩ := cases
  rcases Nat.eq_zero_or_pos T.size with hn | hn
  · obtain ⟨hne, rfl⟩ : (S.toList == ([] : List UInt8)) = true ∧ T = D := by
      rcases cases with ⟨_, _, h⟩ | h
      · omega
      · exact h
    have hTe : T = ⟨#[]⟩ := ByteArray.ext (Array.eq_empty_of_size_eq_zero hn)
    have hc0 : ∀ (W : World) (g c : Nat), (convert 30 9 (.slice (some ⟨g, 0, none⟩) 0 c)).run Try.prog W = .ok (.string ⟨#[]⟩) W := fun W g c =>
      run_convert_bytes_arg (P := Try.prog) W 30 5 Try.underlying30 Try.underlying5 g 0 0 c [] rfl (fun i hi => absurd hi (Nat.not_lt_zero i)) 9 Try.underlying9
    have hcT := hcv T
    rw [hn] at hcT
    clear hcv
    obtain ⟨kg, kr, p1, p2, p3, p4, e, q1, q2, q3, q4, ok, hg, hr, hT2⟩ := two_tell ⟨#[]⟩
    have HG := Aside0.mk hg
    have HR := Aside0.mk hr
    have HT2 := Aside0.mk hT2
    have HTe := Aside0.mk hTe
    clear hg hr hT2 hTe cases hn hT
    go_enter Try.func8, Try.ntmps8
    go_wp2
    go_region
    go_upto_region 11 with (first | (go_at_call 20; refine (keywayref05_Put.calls kp _ _ _ _ _ _ HP.out).mono ?_; rintro e w1 ⟨rfl, hb⟩; obtain ⟨hc, hf⟩ := bcell hb) | (go_at_call 23; refine (page_Get.calls kg _ _ _ _ _ _ _ HG.out).mono ?_; rintro e w3 ⟨rfl, hb3⟩) | (go_at_call 24; refine (keywayref05_Get.calls kr _ _ _ _ _ _ _ HR.out).mono ?_; rintro e w4 ⟨rfl, hb4⟩))
    obtain ⟨hok, he, hq1, hq2, hq3, hq4⟩ | ⟨hok, he, hq1, hq2, hq3, hq4⟩ := HT2.out
    all_goals
      subst hok he hq1 hq2 hq3 hq4
      go_wp2_with (go_at_call 21; refine (keywaylaw05_awake.calls ka true _ HA.out).mono ?_; rintro e w5 ⟨rfl, hb5⟩; have B3 := blk_below (blk_alloc (blk_below (blk_new w3 _) hb4) _) hb5; have B4 := blk_below (blk_new w4 _) hb5; have c0 : w5.cell? ⟨w3.heap.size, 0, none⟩ = some _ := (blk_cell B3 0).trans rfl; have c1 : w5.cell? ⟨w3.heap.size, 1, none⟩ = some _ := (blk_cell B3 1).trans rfl; have c2 : w5.cell? ⟨w3.heap.size, 2, none⟩ = some _ := (blk_cell B3 2).trans rfl; have c3 : w5.cell? ⟨w3.heap.size, 3, none⟩ = some _ := (blk_cell B3 3).trans rfl; have d0 : w5.cell? ⟨w4.heap.size, 0, none⟩ = some _ := (blk_cell B4 0).trans rfl; have d1 : w5.cell? ⟨w4.heap.size, 1, none⟩ = some _ := (blk_cell B4 1).trans rfl; have d2 : w5.cell? ⟨w4.heap.size, 2, none⟩ = some _ := (blk_cell B4 2).trans rfl; have d3 : w5.cell? ⟨w4.heap.size, 3, none⟩ = some _ := (blk_cell B4 3).trans rfl; have f0 := blk_frozen B3 0; have f1 := blk_frozen B3 1; have f2 := blk_frozen B3 2; have f3 := blk_frozen B3 3; have g0 := blk_frozen B4 0; have g1 := blk_frozen B4 1; have g2 := blk_frozen B4 2; have g3 := blk_frozen B4 3; clear B3 B4)
      go_ret
      refine ⟨rfl, ?_⟩
      have c1 : Below w.heap.size w w1 := below_step (by repeat (first | exact Below.refl _ _ | apply below_drew | apply below_alloc)) hb
      have c2 : Below w.heap.size w (Lib.bytesWorld w1 5 T) := below_step c1 (bw_below w1 5 T)
      exact below_step (below_alloc (below_step (below_alloc (below_step c2 hb3) _) hb4) _) hb5
  · obtain ⟨kn, hk, hk1⟩ := index_within a1 T.size hn hT
    have hx := xor8 T[kn].toNat_lt hbb
    have hxl : T[kn].toNat ^^^ bb < 256 := Nat.xor_lt_two_pow (n := 8) T[kn].toNat_lt hbb
    obtain ⟨S', hS'⟩ : ∃ S', (⟨(T.data.toList.set kn (UInt8.ofNat (T[kn].toNat ^^^ bb))).toArray⟩ : ByteArray) = S' := ⟨_, rfl⟩
    have hld : ∀ W : World, (Lib.bytesWorld W 5 T).cell? ⟨W.heap.size, kn, none⟩ = some (.int .u8 (T[kn].toNat : Int)) := fun W => bw_cell W 5 T kn hk1
    have hfz : ∀ W : World, (Lib.bytesWorld W 5 T).frozen? ⟨W.heap.size, kn, none⟩ = false := fun W => bw_frozen W 5 T kn hk1
    have hback : ∀ (W : World) (c : Nat), (convert 30 9 (.slice (some ⟨W.heap.size, 0, none⟩) T.size c)).run Try.prog ((Lib.bytesWorld W 5 T).setCell ⟨W.heap.size, kn, none⟩ (.int .u8 ((T[kn].toNat ^^^ bb : Nat) : Int))) = .ok (.string S') ((Lib.bytesWorld W 5 T).setCell ⟨W.heap.size, kn, none⟩ (.int .u8 ((T[kn].toNat ^^^ bb : Nat) : Int))) := fun W c => by
      have h := bw_back W 30 9 5 Try.underlying30 Try.underlying5 Try.underlying9 T kn hk1 (T[kn].toNat ^^^ bb) hxl c
      rw [hS'] at h
      exact h
    have hz1 : ¬ T.size = 0 := by omega
    have hz2 : ((T.size : Int) == 0) = false := beq_eq_false_iff_ne.2 (by omega)
    have hz3 : ((T.size : Int) == -1) = false := beq_eq_false_iff_ne.2 (by omega)
    have hz4 : decide (0 < T.size) = true := decide_eq_true hn
    have hcT := hcv T
    clear hcv
    rcases cases with ⟨hne, rfl, _⟩ | ⟨hne, rfl⟩
    all_goals
      go_enter Try.func8, Try.ntmps8
      go_wp2
      go_region
      go_upto_region 8 with (go_at_call 20; refine (keywayref05_Put.calls kp _ _ _ _ _ _ HP.out).mono ?_; rintro e w1 ⟨rfl, hb⟩; obtain ⟨hc, hf⟩ := bcell hb)
    all_goals
      obtain ⟨kg, kr, p1, p2, p3, p4, e, q1, q2, q3, q4, ok, hg, hr, hT2⟩ := two_tell S'
      have HG := Aside0.mk hg
      have HR := Aside0.mk hr
      have HT2 := Aside0.mk hT2
      have HS' := Aside0.mk hS'
      clear hg hr hT2 hS'
      go_upto_region 11 with (first | (go_at_call 23; refine (page_Get.calls kg S' _ _ _ _ _ _ HG.out).mono ?_; rintro e w3 ⟨rfl, hb3⟩; have hback2 : ∀ (o : Obj) (c : Nat), (convert 30 9 (.slice (some ⟨w1.heap.size, 0, none⟩) T.size c)).run Try.prog (w3.alloc o) = .ok (.string S') (w3.alloc o) := (fun o c => HS'.out ▸ bw_back_at w1 (w3.alloc o) 30 9 5 Try.underlying30 Try.underlying5 Try.underlying9 T kn hk1 (T[kn].toNat ^^^ bb) hxl ((Below.heap_alloc w3 o w1.heap.size (set_lt hb3)).trans (hb3.block _ (set_in w1 T kn _))) c)) | (go_at_call 24; refine (keywayref05_Get.calls kr S' _ _ _ _ _ _ HR.out).mono ?_; rintro e w4 ⟨rfl, hb4⟩))
    all_goals
      clear hback hback2
      obtain ⟨hok, he, hq1, hq2, hq3, hq4⟩ | ⟨hok, he, hq1, hq2, hq3, hq4⟩ := HT2.out
    all_goals
      subst hok he hq1 hq2 hq3 hq4
      go_wp2_with (go_at_call 21; refine (keywaylaw05_awake.calls ka true _ HA.out).mono ?_; rintro e w5 ⟨rfl, hb5⟩; have B3 := blk_below (blk_alloc (blk_below (blk_new w3 _) hb4) _) hb5; have B4 := blk_below (blk_new w4 _) hb5; have c0 : w5.cell? ⟨w3.heap.size, 0, none⟩ = some _ := (blk_cell B3 0).trans rfl; have c1 : w5.cell? ⟨w3.heap.size, 1, none⟩ = some _ := (blk_cell B3 1).trans rfl; have c2 : w5.cell? ⟨w3.heap.size, 2, none⟩ = some _ := (blk_cell B3 2).trans rfl; have c3 : w5.cell? ⟨w3.heap.size, 3, none⟩ = some _ := (blk_cell B3 3).trans rfl; have d0 : w5.cell? ⟨w4.heap.size, 0, none⟩ = some _ := (blk_cell B4 0).trans rfl; have d1 : w5.cell? ⟨w4.heap.size, 1, none⟩ = some _ := (blk_cell B4 1).trans rfl; have d2 : w5.cell? ⟨w4.heap.size, 2, none⟩ = some _ := (blk_cell B4 2).trans rfl; have d3 : w5.cell? ⟨w4.heap.size, 3, none⟩ = some _ := (blk_cell B4 3).trans rfl; have f0 := blk_frozen B3 0; have f1 := blk_frozen B3 1; have f2 := blk_frozen B3 2; have f3 := blk_frozen B3 3; have g0 := blk_frozen B4 0; have g1 := blk_frozen B4 1; have g2 := blk_frozen B4 2; have g3 := blk_frozen B4 3; clear B3 B4)
      go_ret
      refine ⟨rfl, ?_⟩
      have c1 : Below w.heap.size w w1 := below_step (by repeat (first | exact Below.refl _ _ | apply below_drew | apply below_alloc)) hb
      have c2 : Below w.heap.size w (Lib.bytesWorld w1 5 T) := below_step c1 (bw_below w1 5 T)
      exact below_step (below_alloc (below_step (below_alloc (below_step (below_set c2 c1.size) hb3) _) hb4) _) hb5
end Go.Proofs.Ytlimgnpkbelmcaa.Pure
