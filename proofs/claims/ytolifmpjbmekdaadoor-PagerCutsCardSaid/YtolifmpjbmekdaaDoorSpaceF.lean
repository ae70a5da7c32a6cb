/-
The first free place, and a space's own copy; conditions: the space lies in memory as told, and the library's table as the program's text lays it.
-/
import Derived.Test.YtolifmpjbmekdaaDoorTz
import Derived.Laws.CopyOwn
namespace Go.Proofs.YtolifmpjbmekdaaDoor
open Go.RowKit Go.Lib
variable {p bw many : Nat} {U : Nat → Bool} {w : World}
/-- n is the first free one from a on. -/
def FirstAt (U : Nat → Bool) (a n : Nat) : Prop := a ≤ n ∧ U n = false ∧ ∀ k, a ≤ k → k < n → U k = true
theorem xor_ones {x : Nat} (hx : x < 18446744073709551616) : Go.bits .xor .u64 (if IntKind.u64.signed = true then (-1 : Int) else IntKind.u64.max) (x : Int) = ((18446744073709551615 - x : Nat) : Int) := by
  have e : Go.bits .xor .u64 (if IntKind.u64.signed = true then (-1 : Int) else IntKind.u64.max) (x : Int) = IntKind.u64.wrap (((BitVec.allOnes 64 ^^^ BitVec.ofInt 64 (x : Int)).toNat : Nat) : Int) := rfl
  rw [e, BitVec.allOnes_xor, BitVec.ofInt_natCast, BitVec.toNat_not, BitVec.toNat_ofNat, Nat.mod_eq_of_lt hx]
  exact wraps_u64 _ (Int.natCast_nonneg _) (by omega)
theorem not_u64 {x : Nat} (hx : x < 18446744073709551616) : ∃ y : Nat, 18446744073709551615 - x = y ∧ y < 18446744073709551616 ∧ ∀ j, j < 64 → y.testBit j = !x.testBit j := by
  refine ⟨_, rfl, by omega, fun j hj => ?_⟩
  have := Nat.testBit_two_pow_sub_succ (x := x) (n := 64) hx j
  rw [show 18446744073709551615 - x = 2 ^ 64 - (x + 1) by omega, this]
  simp [hj]
/-- What the word's free places above one tell. -/
theorem free_word {x y n : Nat} (hx : ∀ j, j < 64 → x.testBit j = U (64 * (n / 64) + j)) (hy : ∀ j, j < 64 → y.testBit j = !x.testBit j) (hyl : y < 18446744073709551616) :
    (y / 2 ^ (n % 64) = 0 → ∀ k, n ≤ k → k < 64 * (n / 64 + 1) → U k = true) ∧ (y / 2 ^ (n % 64) ≠ 0 → FirstAt U n (n + tz (y / 2 ^ (n % 64))) ∧ tz (y / 2 ^ (n % 64)) < 64) := by
  have bit : ∀ k, n ≤ k → k < 64 * (n / 64 + 1) → (y / 2 ^ (n % 64)).testBit (k - n) = !U k := fun k h1 h2 => by
    rw [Nat.testBit_div_two_pow, hy _ (by omega), hx _ (by omega), show 64 * (n / 64) + (k - n + n % 64) = k by omega]
  refine ⟨fun h0 k h1 h2 => ?_, fun h0 => ?_⟩
  · have := bit k h1 h2
    rw [h0, Nat.zero_testBit] at this
    cases hu : U k with
    | true => rfl
    | false => rw [hu] at this; cases this
  · have hz : y / 2 ^ (n % 64) < 18446744073709551616 := Nat.lt_of_le_of_lt (Nat.div_le_self _ _) hyl
    obtain ⟨_, hl, hb, hlow⟩ := low_bit (Nat.pos_of_ne_zero h0) hz
    have e : tz (y / 2 ^ (n % 64)) = low 64 (y / 2 ^ (n % 64)) := if_neg h0
    rw [e]
    generalize low 64 (y / 2 ^ (n % 64)) = t at *
    have ht : n + t < 64 * (n / 64 + 1) := by
      have h1 : y / 2 ^ (n % 64) < 2 ^ (64 - n % 64) := by
        rw [Nat.div_lt_iff_lt_mul (Nat.two_pow_pos _), ← Nat.pow_add, show 64 - n % 64 + n % 64 = 64 by omega]
        exact hyl
      have h2 : t < 64 - n % 64 := by
        rcases Nat.lt_or_ge t (64 - n % 64) with h | h
        · exact h
        · have := Nat.testBit_lt_two_pow (Nat.lt_of_lt_of_le h1 (Nat.pow_le_pow_right (by decide) h))
          rw [hb] at this
          cases this
      omega
    refine ⟨⟨by omega, ?_, fun k h1 h2 => ?_⟩, hl⟩
    · have := bit (n + t) (by omega) ht
      rw [show n + t - n = t by omega, hb] at this
      cases hu : U (n + t) with
      | false => rfl
      | true => rw [hu] at this; cases this
    · have := bit k h1 (by omega)
      rw [hlow _ (by omega)] at this
      cases hu : U k with
      | true => rfl
      | false => rw [hu] at this; cases this
/-- What First answers. -/
def Firsts (U : Nat → Bool) (many a : Nat) (e : Ending) : Prop := (∃ n : Nat, e = .returned (.int .i64 n) ∧ n < many ∧ FirstAt U a n) ∨ (e = .returned (.int .i64 (-1)) ∧ ∀ k, a ≤ k → k < many → U k = true)
set_option maxHeartbeats 1600000 in
set_option maxRecDepth 10000 in
theorem first_calls (h : Spc p bw many U w) (ht : Tabs w) (a : Nat) (ha : a ≤ 1000000) : Calls Tryd.prog 35 #[.pointer (some ⟨p, 0, none⟩), .int .i64 a] w fun e w' => Firsts U many a e ∧ w = w' := by
  have c0 := h.c0
  have c1 := h.c1
  have hf := h.few
  have H := hid h
  have HT := hid (fun x hx => tz_calls (x := x) hx ht)
  clear h ht
  go_enter Tryd.func35, Tryd.ntmps35
  go_wp2
  go_loop [5] (fun v => ∃ n : Nat, v = .int .i64 n ∧ a ≤ n ∧ n ≤ 1000000 ∧ Hid (∀ k, a ≤ k → k < n → U k = true)) (fun v => 2000000 - (intOf v).toNat)
  case atStart => exact ⟨a, rfl, Nat.le_refl _, ha, hid fun k h1 h2 => absurd h2 (by omega)⟩
  case round =>
    obtain ⟨n, rfl, hn1, hn2, HN⟩ := hrel
    by_cases hlt : n < many
    · as_aux_lemma =>
      obtain ⟨x, x1, _, hx, hbits⟩ := H.out.word (i := n / 64) (by omega)
      obtain ⟨y, hy, hyl, hyb⟩ := not_u64 hx
      have hw := free_word hbits hyb hyl
      have HW := hid hw
      clear hw hbits hyb
      have n1 := xor_ones hx
      rw [hy] at n1
      have n3 : (y : Int) / (2 : Int) ^ (n % 64) = ((y / 2 ^ (n % 64) : Nat) : Int) := by
        rw [Int.natCast_ediv]
        simp
      have hzl : y / 2 ^ (n % 64) < 18446744073709551616 := Nat.lt_of_le_of_lt (Nat.div_le_self _ _) hyl
      clear hy
      generalize y / 2 ^ (n % 64) = z at *
      by_cases h0 : z = 0
      · have hz : ((z : Int) != 0) = false := by rw [h0]; rfl
        have HU := hid (HW.out.1 h0)
        clear h0 HW HT
        go_wp2
        go_round
        case rel =>
          refine ⟨64 * (n / 64 + 1), by go_num, by omega, by omega, hid fun k h1 h2 => ?_⟩
          rcases Nat.lt_or_ge k n with h | h
          · exact HN.out k h1 h
          · exact HU.out k h h2
        case measure => simp [intOf]; omega
      · have hz : ((z : Int) != 0) = true := by
          have : ((z : Int) == 0) = false := beq_eq_false_iff_ne.2 (by omega)
          simp [bne, this]
        obtain ⟨hfa, htl⟩ := HW.out.2 h0
        have HFA := hid hfa
        have HTZ := hid (HT.out z hzl)
        clear hfa HW HT h0
        generalize tz z = t at *
        go_wp2_with (first | (go_at_call 52; (with_reducible refine HTZ.out.mono ?_); rintro e w1 ⟨rfl, rfl⟩))
        · go_ret
          obtain ⟨f1, f2, f3⟩ := HFA.out
          refine ⟨.inl ⟨n + t, ?_, by omega, by omega, f2, fun k h1 h2 => ?_⟩, rfl⟩
          · show Ending.returned (Value.int IntKind.i64 ((n : Int) + (t : Int))) = _
            congr 2
          · rcases Nat.lt_or_ge k n with h | h
            · exact HN.out k h1 h
            · exact f3 k h h2
        · go_ret
          obtain ⟨f1, f2, f3⟩ := HFA.out
          refine ⟨.inr ⟨rfl, fun k h1 h2 => ?_⟩, rfl⟩
          rcases Nat.lt_or_ge k n with h | h
          · exact HN.out k h1 h
          · exact f3 k h (by omega)
    · as_aux_lemma =>
      go_wp2
      go_ret
      exact ⟨.inr ⟨rfl, fun k h1 h2 => HN.out k h1 (by omega)⟩, rfl⟩
/-- copy, at a step of a region that draws its order, the world written out. -/
theorem step_copy_row {P : Program} {ops : Array Oper} {o : Oper} {a : Act} {w : World} {K : Act → World → Prop} {Q : Exit → Act → World → Prop} {E : Prop} (hgd : o.guard = none) (d s : Operand) (dT sT : TypeId)
    (ho : o.op = .call { callee := .builtin .copy, args := #[d, s], argTypes := #[dT, sT] }) (elem : TypeId) (hu : P.underlying dT = some (.slice elem)) (hsz : (P.info? elem).map (·.size) = some 1)
    (g off dLen dCap : Nat) (ad : Addr) (sLen sCap : Nat) (hd : a.eval d = .slice (some ⟨g, off, none⟩) dLen dCap) (hs : a.eval s = .slice (some ad) sLen sCap)
    (cur : Array Value) (t : TypeId) (hg : w.heap[g]? = some (.cells cur t (0, 0))) (cs : List Value) (hn : cs.length = Nat.min sLen dLen)
    (hsrc : ∀ j v, cs[j]? = some v → w.cell? (ad.add j) = some v) (hfit : off + cs.length ≤ cur.size) (h1 : ∀ v ∈ cs, v.oneCell' = true)
    (h : K (a.put o.dst (goInt cs.length)) (w.setRow g (cur.toList.take off ++ (cs ++ cur.toList.drop (off + cs.length))).toArray)) :
    if Region.wanted o (yielded ops a.tmps) = true then Oper.wp P o a w K Q else E := by
  have hw : Region.wanted o (yielded ops a.tmps) = true := by simp [Region.wanted, hgd]
  rw [if_pos hw]
  have hrun := run_copy_row (P := P) w dT sT o.type elem g off dLen dCap ad sLen sCap cur t cs hu hsz hg hn hsrc hfit h1
  unfold Oper.wp
  simp [execOp, ho, resolve, invoke, builtin, hd, hs, hrun, Result.andThen]
  exact h
theorem kept_setRow (w : World) (g : Nat) (cs : Array Value) : Kept (fun b => b = g) w (w.setRow g cs) := ⟨rfl, rfl, rfl, by simp [World.setRow], fun k _ hne => setRow_other w g k cs hne⟩
theorem Spc.copied {W : World} {p2 b2 : Nat} (h : Spc p bw many U W) (h2 : Spc p2 b2 many (fun _ => false) W) {arr cur : Array Value} (ha : W.heap[bw]? = some (.cells arr 35 (0, 0))) (hc : W.heap[b2]? = some (.cells cur 35 (0, 0))) (hcs : cur.size = (many + 63) / 64) :
    Spc p2 b2 many U (W.setRow b2 (arr.toList ++ cur.toList.drop ((many + 63) / 64)).toArray) := by
  have e : (arr.toList ++ cur.toList.drop ((many + 63) / 64)).toArray = arr := by
    have : cur.toList.drop ((many + 63) / 64) = [] := List.drop_eq_nil_of_le (by simp; omega)
    rw [this]
    simp
  rw [e]
  obtain ⟨a, ha', r⟩ := h.words
  rw [ha] at ha'
  cases ha'
  exact ⟨(kept_setRow W b2 arr).at h2.blk h2.ne, ⟨arr, setRow_heap W b2 cur arr _ _ hc, r⟩, h.top, h.few, h2.ne⟩
set_option maxHeartbeats 1600000 in
set_option maxRecDepth 10000 in
theorem copy_calls (h : Spc p bw many U w) : Calls Tryd.prog 34 #[.pointer (some ⟨p, 0, none⟩)] w fun e w' => e = .returned (.pointer (some ⟨w.heap.size + 1, 0, none⟩)) ∧ Spc (w.heap.size + 1) w.heap.size many U w' ∧ New w w' ∧ w'.heap.size = w.heap.size + 2 := by
  have c0 := h.c0
  have hf := h.few
  have HN := hid ((space_new hf w).mono fun e w' ⟨h1, h2, h3, h4⟩ => (⟨h1, h2, h3, h4, h.new h3⟩ : e = Ending.returned (.pointer (some ⟨w.heap.size + 1, 0, none⟩)) ∧ Spc (w.heap.size + 1) w.heap.size many (fun _ => false) w' ∧ New w w' ∧ w'.heap.size = w.heap.size + 2 ∧ Spc p bw many U w'))
  have hpl := h.lt
  clear h
  go_enter Tryd.func34, Tryd.ntmps34
  go_wp2_with (first | (go_at_call 32; (with_reducible refine HN.out.mono ?_); rintro e w1 ⟨rfl, hs1, hn1, hz1, hs0⟩; have d1 := hs1.c1; have d2 := hs0.c1; have HS1 := hid hs1; have HN1 := hid hn1; have HS0 := hid hs0; clear hs1 hn1 hs0))
  obtain ⟨arr, ha, hs, hx⟩ := HS0.out.words
  obtain ⟨cur, hc, hcs, -⟩ := HS1.out.words
  have HA := hid ha
  have HCu := hid hc
  have hsrc : ∀ (j : Nat) v, arr.toList[j]? = some v → w1.cell? ((⟨bw, 0, none⟩ : Addr).add j) = some v := fun j v hv => by
    have hadd : (⟨bw, 0, none⟩ : Addr).add j = ⟨bw, j, none⟩ := by unfold Addr.add; split <;> simp_all
    rw [hadd, cell_at ha j]
    simpa using hv
  have hone : ∀ v ∈ arr.toList, v.oneCell' = true := fun v hv => by
    obtain ⟨j, hj, rfl⟩ := List.getElem_of_mem hv
    simp only [Array.length_toList] at hj
    obtain ⟨x, h1, _⟩ := hx j (by omega)
    rw [Array.getElem?_eq_getElem hj] at h1
    rw [Array.getElem_toList, Option.some.inj h1]
    rfl
  have HS := hid hsrc
  have H1 := hid hone
  have hnd : New w1 w1.drew := (Kept.refl _ _).drew
  have hfin := (HS0.out.new hnd).copied (HS1.out.new hnd) ha hc hcs
  have hk := kept_setRow w1.drew w.heap.size (arr.toList ++ cur.toList.drop ((many + 63) / 64)).toArray
  have HF := hid hfin
  have HK := hid ((HN1.out.trans hnd).trans' hk fun x hx e => by omega)
  have HZ : Hid ((w1.drew.setRow w.heap.size (arr.toList ++ cur.toList.drop ((many + 63) / 64)).toArray).heap.size = w.heap.size + 2) := hid (by simp [World.setRow]; exact hz1)
  clear ha hc hx hsrc hone hnd hfin hk
  go_region_law (first
    | (refine step_copy_row rfl (.tmp 14) (.tmp 18) 99 99 rfl 35 Tryd.underlying99 (by kernel_rfl) w.heap.size 0 _ _ ⟨bw, 0, none⟩ _ _ rfl rfl cur 35 HCu.out arr.toList (by simp [hs]) HS.out (by simp [hs, hcs]) H1.out ?_))
  all_goals
    go_wp2
    go_ret
    exact ⟨rfl, HF.out, HK.out, HZ.out⟩
end Go.Proofs.YtolifmpjbmekdaaDoor
