/-
Numbers as bytes: wire.Fixed, wire.Num; conditions: the numbers have 64 bits.
-/
import Derived.Test.YtolifmpjbmekdaaDoorBytes
import Derived.Laws.BitsLemmas
import Derived.Outline
namespace Go.Proofs.YtolifmpjbmekdaaDoor
open Go.RowKit Go.Lib
/-- A number's lowest k bytes, the lowest first. -/
def le : Nat → Nat → List UInt8
  | 0, _ => []
  | k + 1, n => UInt8.ofNat (n % 256) :: le k (n / 256)
def unle : List UInt8 → Nat
  | [] => 0
  | b :: l => b.toNat + 256 * unle l
theorem le_length : ∀ k n, (le k n).length = k
  | 0, _ => rfl
  | k + 1, n => by simp [le, le_length k]
theorem unle_le : ∀ k n, unle (le k n) = n % 256 ^ k
  | 0, n => by simp [le, unle, Nat.mod_one]
  | k + 1, n => by
    have hb : (UInt8.ofNat (n % 256)).toNat = n % 256 := by simp
    simp only [le, unle, hb, unle_le k]
    rw [Nat.pow_succ, Nat.mul_comm (256 ^ k), Nat.mod_mul]
theorem unle_small {k n : Nat} (h : n < 256 ^ k) : unle (le k n) = n := by rw [unle_le, Nat.mod_eq_of_lt h]
theorem unle_lt : ∀ l : List UInt8, unle l < 256 ^ l.length
  | [] => by simp [unle]
  | b :: l => by
    have := unle_lt l
    have hb := b.toNat_lt
    simp only [unle, List.length_cons, Nat.pow_succ]
    omega
theorem le_snoc : ∀ k n, le (k + 1) n = le k n ++ [UInt8.ofNat (n / 256 ^ k % 256)]
  | 0, n => by simp [le]
  | k + 1, n => by
    have ih := le_snoc k (n / 256)
    show UInt8.ofNat (n % 256) :: le (k + 1) (n / 256) = UInt8.ofNat (n % 256) :: le k (n / 256) ++ _
    rw [ih, Nat.div_div_eq_div_mul, Nat.pow_succ, Nat.mul_comm 256]
    rfl
/-- Bytes as a string. -/
def str (l : List UInt8) : ByteArray := ⟨l.toArray⟩
theorem str_size (l : List UInt8) : (str l).size = l.length := by simp [str, ByteArray.size]
theorem str_append (l m : List UInt8) : str l ++ str m = str (l ++ m) := by
  apply ByteArray.ext
  simp [str]
theorem str_of (s : ByteArray) : str s.data.toList = s := by
  apply ByteArray.ext
  simp [str]
theorem str_toList (l : List UInt8) : (str l).data.toList = l := by simp [str]
theorem zeros_str (n : Nat) : zeros n = str (List.replicate n 0) := rfl
/-- Bytes as the cells of a row. -/
def bcells (l : List UInt8) : List Value := l.map fun b => .int .u8 (b.toNat : Int)
theorem bcells_append (l m : List UInt8) : bcells (l ++ m) = bcells l ++ bcells m := by simp [bcells]
theorem bcells_length (l : List UInt8) : (bcells l).length = l.length := by simp [bcells]
theorem conv_row {w : World} {base n : Nat} {v : Value} {l : List UInt8} (h : w.ownsRow base 5 1 v n (bcells l)) : (convert 63 9 v).run Tryd.prog w = .ok (.string (str l)) w := by
  have hl : l.length = n := by have := h.1; rw [bcells_length] at this; omega
  rcases h.2 with ⟨rfl, e⟩ | ⟨g, cap, cur, rfl, _⟩
  · have : l = [] := List.length_eq_zero_iff.1 (by omega)
    subst this
    exact run_convert_bytes_nil w 63 5 Tryd.underlying63 Tryd.underlying5 0 0 9 Tryd.underlying9
  · refine (run_convert_bytes_arg w 63 5 Tryd.underlying63 Tryd.underlying5 g 0 n cap (l.map fun b => (b.toNat : Int)) (by simpa using hl) (fun i hi => ?_) 9 Tryd.underlying9).trans ?_
    · have hi' : i < l.length := by omega
      have hc := h.cells (g := g) rfl i (.int .u8 ((l.map fun b => (b.toNat : Int)).getD i 0)) (by simp [bcells, hi', List.getD_eq_getElem?_getD])
      have ha : (⟨g, 0, none⟩ : Addr).add i = ⟨g, 0 + i, none⟩ := by unfold Addr.add; split <;> simp_all
      rwa [ha] at hc
    · congr 2
      have e : (l.map fun b => (b.toNat : Int)).map (fun n => UInt8.ofNat n.toNat) = l := by
        rw [List.map_map]
        refine (List.map_congr_left fun b _ => ?_).trans (List.map_id l)
        simp
      apply ByteArray.ext
      simp only [strOfNums, str]
      rw [e]
theorem own_base {w : World} {base : Nat} {e : TypeId} {size n : Nat} {v : Value} {xs : List Value} (h : w.ownsRow base e size v n xs) {k : Nat} (hk : v.ownBlock = some k) : base ≤ k := by
  rcases h.2 with ⟨rfl, _⟩ | ⟨g, cap, cur, rfl, hb, _⟩
  · cases hk
  · have : g = k := by simpa [Value.ownBlock] using hk
    exact this ▸ hb
theorem byte_one (x : Int) : ∀ u ∈ [Value.int .u8 x], u.oneCell' = true := by
  intro u hu
  simp at hu
  subst hu
  rfl
set_option maxHeartbeats 1600000 in
set_option maxRecDepth 10000 in
theorem fixed_calls {n b : Nat} (hn : n < 18446744073709551616) (hb : b ≤ 8) (w : World) : Calls Tryd.prog 55 #[.int .u64 n, .int .i64 b] w fun e w' => e = .returned (.string (str (le b n))) ∧ New w w' := by
  obtain ⟨i0, hi0, hz0, hz1, hz2⟩ := info_parts info_u8
  have b1 : (b : Int) ≤ 8 := by omega
  have b2 : ¬ (8 : Int) < b := by omega
  go_enter Tryd.func55, Tryd.ntmps55
  go_wp2
  go_loopw [0, 5, 9] (fun v0 v5 v9 wr => ∃ (i x : Nat), v9 = .int .i64 i ∧ v0 = .int .u64 x ∧ i ≤ b ∧ x < 18446744073709551616 ∧ Hid (x = n / 256 ^ i) ∧ Hid (wr.ownsRow w.heap.size 5 1 v5 i (bcells (le i n))) ∧ Hid (New w wr)) (fun _ _ v _ => b - (intOf v).toNat)
  case atStart => exact ⟨0, n, rfl, rfl, Nat.zero_le _, hn, hid (by simp), hid ⟨rfl, .inl ⟨rfl, rfl⟩⟩, hid (Kept.refl _ _)⟩
  case round =>
    obtain ⟨i, x, rfl, rfl, hi, hx, HX, HO, HN⟩ := hrel
    have hw := HN.out.size
    by_cases hlt : i < b
    · as_aux_lemma =>
      have HS := hid (le_snoc i n)
      have e8 : ((x % 256 : Nat) : Int) = (x : Int) % 256 := by omega
      go_wp2_with (first
        | (at_builtin; refine wpList_append_own _ rfl (.tmp 11) (.tmp 14) 63 rfl w.heap.size 5 i0 (.int .u8 0) 1 1 Tryd.underlying63 hi0 hz0 hz1 hz2 rfl (by decide) _ i (bcells (le i n)) rfl (World.ownsRow.alloc HO.out _) ⟨wr.heap.size, 0, none⟩ 1 1 [.int .u8 ((x : Int) % 256)] rfl rfl (World.news_of_block (blk_new _ _)) (byte_one _) (by unfold maxLen; omega) (by omega) (by simp; omega) ?_; intro v5 w5 hown hgrow _; have HO5 := hid hown; have HG := hid hgrow; clear hown hgrow))
      go_roundw
      case rel =>
        refine ⟨i + 1, x / 256, by go_num, by go_num, by omega, by omega, hid ?_, hid ?_, hid ?_⟩
        · rw [HX.out, Nat.div_div_eq_div_mul, Nat.pow_succ]
        · rw [HS.out, bcells_append, ← HX.out]
          have e : bcells [UInt8.ofNat (x % 256)] = [.int .u8 ((x : Int) % 256)] := by
            rw [← e8]
            simp [bcells]
          rw [e]
          exact HO5.out
        · exact (HN.out.alloc _).grown HG.out fun k hk => .inr (own_base HO.out hk)
      case measure => simp [intOf]; omega
    · as_aux_lemma =>
      obtain rfl : i = b := by omega
      have hc := conv_row HO.out
      go_wp2
      go_ret
      exact ⟨rfl, HN.out⟩
/-- A number as bytes: seven bits each, the lowest first. -/
def varint : Nat → Nat → List UInt8
  | 0, _ => []
  | f + 1, n => if 127 < n then UInt8.ofNat (128 + n % 128) :: varint f (n / 128) else [UInt8.ofNat n]
def numB (n : Nat) : List UInt8 := varint 10 n
theorem varint_length : ∀ f n, (varint f n).length ≤ f
  | 0, _ => Nat.le_refl _
  | f + 1, n => by
    have := varint_length f (n / 128)
    unfold varint
    split <;> simp <;> omega
theorem or128 (x : Nat) : Go.bits .or .u8 ((x : Int) % 256) 128 = ((128 + x % 128 : Nat) : Int) := by
  have h := (bits_nat .u8 8 (by decide) wraps_u8 (x % 256) 128 (by omega) (by decide)).2
  have e : ((x % 256 : Nat) : Int) = (x : Int) % 256 := by omega
  rw [← e]
  refine h.trans ?_
  have h2 : ∀ y : Fin 256, y.val ||| 128 = 128 + y.val % 128 := by decide +kernel
  have h3 := h2 ⟨x % 256, Nat.mod_lt _ (by decide)⟩
  simp only at h3
  rw [h3]
  omega
set_option maxHeartbeats 1600000 in
set_option maxRecDepth 10000 in
theorem num_calls {n : Nat} (hn : n < 18446744073709551616) (w : World) : Calls Tryd.prog 49 #[.int .u64 n] w fun e w' => e = .returned (.string (str (numB n))) ∧ New w w' := by
  obtain ⟨i0, hi0, hz0, hz1, hz2⟩ := info_parts info_u8
  go_enter Tryd.func49, Tryd.ntmps49
  go_wp2
  go_loopw [0, 3] (fun v0 v3 wr => ∃ (f x i : Nat) (pre : List UInt8), v0 = .int .u64 x ∧ x < 18446744073709551616 ∧ i ≤ 10 ∧ Hid (x < 128 ^ (f + 1)) ∧ Hid (numB n = pre ++ varint (f + 1) x) ∧ Hid (wr.ownsRow w.heap.size 5 1 v3 i (bcells pre)) ∧ Hid (New w wr) ∧ Hid (i + f ≤ 10)) (fun v _ _ => (intOf v).toNat)
  case atStart => exact ⟨9, n, 0, [], rfl, hn, by omega, hid (by omega), hid rfl, hid ⟨rfl, .inl ⟨rfl, rfl⟩⟩, hid (Kept.refl _ _), hid (by omega)⟩
  case round =>
    obtain ⟨f, x, i, pre, rfl, hx, hi, HX, HE, HO, HN, HF⟩ := hrel
    have hw := HN.out.size
    have h0 := or128 x
    by_cases hlt : 127 < x
    · as_aux_lemma =>
      obtain ⟨g, rfl⟩ : ∃ g, f = g + 1 := by
        cases f with
        | zero => exact absurd HX.out (by simp; omega)
        | succ g => exact ⟨g, rfl⟩
      have HE2 : Hid (numB n = (pre ++ [UInt8.ofNat (128 + x % 128)]) ++ varint (g + 1) (x / 128)) := hid (by
        rw [HE.out, List.append_assoc]
        congr 1
        show (if 127 < x then _ else _) = _
        rw [if_pos hlt]
        rfl)
      have hi2 := HF.out
      generalize hy : 128 + x % 128 = y at *
      have hyl : y < 256 := by omega
      clear hy
      go_wp2_with (first
        | (at_builtin; refine wpList_append_own _ rfl (.tmp 6) (.tmp 10) 63 rfl w.heap.size 5 i0 (.int .u8 0) 1 1 Tryd.underlying63 hi0 hz0 hz1 hz2 rfl (by decide) _ i (bcells pre) rfl (World.ownsRow.alloc HO.out _) ⟨wr.heap.size, 0, none⟩ 1 1 [.int .u8 (y : Int)] rfl rfl (World.news_of_block (blk_new _ _)) (byte_one _) (by unfold maxLen; omega) (by omega) (by simp; omega) ?_; intro v5 w5 hown hgrow _; have HO5 := hid hown; have HG := hid hgrow; clear hown hgrow))
      go_roundw
      case rel =>
        refine ⟨g, x / 128, i + 1, _, by go_num, by omega, by omega, hid ?_, HE2, hid ?_, hid ?_, hid (by omega)⟩
        · have := HX.out
          rw [Nat.pow_succ] at this
          omega
        · rw [bcells_append]
          have e : bcells [UInt8.ofNat y] = [.int .u8 (y : Int)] := by
            simp [bcells]
            omega
          rw [e]
          exact HO5.out
        · exact (HN.out.alloc _).grown HG.out fun k hk => .inr (own_base HO.out hk)
      case measure => simp [intOf]; omega
    · as_aux_lemma =>
      have HE2 : Hid (numB n = pre ++ [UInt8.ofNat x]) := hid (by
        rw [HE.out]
        congr 1
        show (if 127 < x then _ else _) = _
        rw [if_neg hlt])
      have e8 : (x : Int) % 256 = (x : Int) := by omega
      have hi2 := HF.out
      go_wp2_with (first
        | (at_builtin; refine wpList_append_own _ rfl (.tmp 14) (.tmp 17) 63 rfl w.heap.size 5 i0 (.int .u8 0) 1 1 Tryd.underlying63 hi0 hz0 hz1 hz2 rfl (by decide) _ i (bcells pre) rfl (World.ownsRow.alloc HO.out _) ⟨wr.heap.size, 0, none⟩ 1 1 [.int .u8 (x : Int)] rfl rfl (World.news_of_block (blk_new _ _)) (byte_one _) (by unfold maxLen; omega) (by omega) (by simp; omega) ?_; intro v5 w5 hown hgrow _; have hcv : (convert 63 9 v5).run Tryd.prog w5 = .ok (.string (str (pre ++ [UInt8.ofNat x]))) w5 := conv_row (n := i + 1) (base := w.heap.size) (by rw [bcells_append]; have e : bcells [UInt8.ofNat x] = [.int .u8 (x : Int)] := (by simp [bcells]; omega); rw [e]; exact hown); have HG := hid hgrow; clear hown hgrow))
      go_ret
      rw [HE2.out]
      exact ⟨rfl, (HN.out.alloc _).grown HG.out fun k hk => .inr (own_base HO.out hk)⟩
end Go.Proofs.YtolifmpjbmekdaaDoor
