/-
All that is not written yet is written below; conditions: the cache lies in memory as told.
-/
import Derived.Test.YtmlnjheiogmlaaaCGet
import Derived.Test.YtmlnjheiogmlaaaSort
import Derived.Test.YtmlnjheiogmlaaaCBelow
import Derived.Shelf.SortM.SortNone
namespace Go.Proofs.Ytmlnjheiogmlaaa
open Go.RowKit Go.Lib Go.Maps
theorem sort_none {w : World} : Calls Try.prog 46 #[.slice none 0 0] w fun e w' => e = .returned (.tuple #[]) ∧ w' = w := by
  have hc := AnyM.slices_Sort_string_none Try.lsort none 0 w
  change Calls Try.prog 46 _ _ _ at hc
  exact hc
/-- What a key is given to be written. -/
theorem wr_at {f : ByteArray → Option Ent} {k : ByteArray} {x : Ent} (h : f k = some x) (k' : ByteArray) : wrF f k k' = if k' = k then some ⟨x.text, x.is, false, x.at_⟩ else f k' := by
  have e : wrF f k = if x.dirty then updF f k (some ⟨x.text, x.is, false, x.at_⟩) else f := by unfold wrF; rw [h]
  rw [e]
  by_cases hd : x.dirty = true
  · rw [if_pos hd]; rfl
  · rw [if_neg hd]
    split
    · rename_i e1
      subst e1
      obtain ⟨a, b, c, d⟩ := x
      simp at hd
      subst hd
      exact h
    · rfl
theorem wr_eff {f : ByteArray → Option Ent} {l : PL2} {now : Nat} {k : ByteArray} {x : Ent} (h : Fits f l now) (hx : f k = some x) (k' : ByteArray) : eff (wrF f k) (wrL f l k) k' = eff f l k' := by
  unfold eff
  rw [wr_at hx]
  by_cases e : k' = k
  · subst e; simp [hx]
  · simp only [e, if_false]
    cases f k' with
    | some z => rfl
    | none => exact wr_get_other h.once e
/-- The keys that are collected. -/
structure Coll (w : World) (m r : Nat) (f : ByteArray → Option Ent) (c : Nat) (v : Value) (xs : List ByteArray) (left : ByteArray → Bool) (cnt : Nat) (W : World) : Prop where
  rng : RangeF CK W m r f c left cnt
  new : New w W
  own : W.ownsRow 0 9 1 v xs.length (strRow xs)
  shape : (v = .slice none 0 0 ∧ xs = []) ∨ ∃ g cap, v = .slice (some ⟨g, 0, none⟩) xs.length cap ∧ r < g
  all : ∀ k, (f k).isSome = true → k ∈ xs ∨ left k = true
  dom : ∀ k ∈ xs, (f k).isSome = true
  few : xs.length + cnt ≤ c
theorem Coll.turn {w : World} {m r : Nat} {f : ByteArray → Option Ent} {c : Nat} {v : Value} {xs : List ByteArray} {left : ByteArray → Bool} {cnt : Nat} {W W1 : World} {x : ByteArray} {cnt' : Nat} (h : Coll w m r f c v xs left cnt W) (hr : w.heap.size ≤ r) (hrg : RangeF CK W1 m r f c (fun x' => left x' && !decide (x' = x)) cnt') (hk : Kept (fun i => i = r) W W1) (hlt : cnt' < cnt) :
    RangeF CK W1 m r f c (fun x' => left x' && !decide (x' = x)) cnt' ∧ New w W1 ∧ W1.ownsRow 0 9 1 v xs.length (strRow xs) ∧ xs.length + 1 + cnt' ≤ c := by
  refine ⟨hrg, h.new.turn hk hr, owns_kept hk h.own fun k e e1 => ?_, by have := h.few; omega⟩
  rcases h.shape with ⟨rfl, _⟩ | ⟨g, cap, rfl, hg⟩
  · cases e
  · have : g = k := by simpa [Value.ownBlock] using e
    omega
theorem Coll.app {w : World} {m r : Nat} {f : ByteArray → Option Ent} {c : Nat} {v : Value} {xs : List ByteArray} {left : ByteArray → Bool} {W1 W2 : World} {x : ByteArray} {cnt' g1 cap1 : Nat} {o : Obj} (hr : w.heap.size ≤ r) (hm : m < w.heap.size)
    (hall : ∀ k, (f k).isSome = true → k ∈ xs ∨ left k = true) (hsome : ∀ k ∈ xs, (f k).isSome = true) (hx : (f x).isSome = true) (hshape : (v = .slice none 0 0 ∧ xs = []) ∨ ∃ g cap, v = .slice (some ⟨g, 0, none⟩) xs.length cap ∧ r < g)
    (h : RangeF CK W1 m r f c (fun x' => left x' && !decide (x' = x)) cnt' ∧ New w W1 ∧ W1.ownsRow 0 9 1 v xs.length (strRow xs) ∧ xs.length + 1 + cnt' ≤ c)
    (hown : W2.ownsRow 0 9 1 (.slice (some ⟨g1, 0, none⟩) (xs.length + 1) cap1) (xs.length + 1) (strRow xs ++ [.string x])) (hgrow : (W1.alloc o).grownBy W2 v.ownBlock) (hat : v.ownBlock = some g1 ∨ g1 = (W1.alloc o).heap.size) :
    Coll w m r f c (.slice (some ⟨g1, 0, none⟩) (xs.length + 1) cap1) (xs ++ [x]) (fun x' => left x' && !decide (x' = x)) cnt' W2 := by
  obtain ⟨h1, h2, h3, h4⟩ := h
  have hrl := h1.lt
  have hob : ∀ k, v.ownBlock = some k → r < k := fun k e => by
    rcases hshape with ⟨rfl, _⟩ | ⟨g, cap, rfl, hg⟩
    · cases e
    · have : g = k := by simpa [Value.ownBlock] using e
      omega
  have hk : Kept (fun i => v.ownBlock = some i) W1 W2 := ((Kept.refl (fun i => v.ownBlock = some i) _).alloc o).grown hgrow fun k e => .inl e
  refine ⟨h1.kept hk (fun e => ?_) (fun e => ?_), h2.trans' hk (fun b hb e => ?_), ?_, .inr ⟨g1, cap1, by rw [List.length_append]; rfl, ?_⟩, fun k hk' => ?_, fun k hk' => ?_, by rw [List.length_append]; simpa using h4⟩
  · have := hob m e; omega
  · have := hob r e; omega
  · have := hob b e; omega
  · rw [List.length_append]
    simpa [strRow] using hown
  · rcases hat with e | e
    · exact hob _ e
    · have e2 : (W1.alloc o).heap.size = W1.heap.size + 1 := by simp
      omega
  · by_cases e : k = x
    · exact .inl (by simp [e])
    · rcases hall k hk' with h | h
      · exact .inl (by simp [h])
      · exact .inr (by simp [h, e])
  · rcases List.mem_append.1 hk' with h | h
    · exact hsome k h
    · simp at h; rw [h]; exact hx
theorem Cach.less {q m g gr : Nat} {F : Nat → Prop} {most now N c : Nat} {f : ByteArray → Option Ent} {l : PL2} {w w1 : World} (h : Cach q m g F most now N c f l w) (hn : New w w1) (h1 : w.heap.size ≤ gr) (h2 : gr < w1.heap.size) : Cach q m g (fun b => F b ∧ b ≠ gr) most now N c f l w1 := by
  have h' := h.new hn
  exact ⟨h'.blk, h'.map, h.kv.less (hn.mono fun _ _ e => e.elim) h1 h2, fun e => h.nq e.1, fun e => h.nm e.1, h.ne, h.room, h.small, h.len, h.nowN, h.fits⟩
/-- So many are written. -/
structure Sy (q m g gr : Nat) (F : Nat → Prop) (most now N c : Nat) (f : ByteArray → Option Ent) (l : PL2) (ys : List ByteArray) (w1 : World) (i : Nat) (f' : ByteArray → Option Ent) (l' : PL2) (W : World) : Prop where
  ca : Cach q m g (fun b => F b ∧ b ≠ gr) most now (N + i) c f' l' W
  same : ∀ k, eff f' l' k = eff f l k
  dom : ∀ k, (f' k).isSome = (f k).isSome
  cl : ∀ j, j < i → ∀ k, ys[j]? = some k → ∀ x, f' k = some x → x.dirty = false
  kept : Kept (fun b => (F b ∧ b ≠ gr) ∨ b = q ∨ b = m) w1 W
theorem Sy.step {q m g gr : Nat} {F : Nat → Prop} {most now N c : Nat} {f : ByteArray → Option Ent} {l : PL2} {ys : List ByteArray} {w1 : World} {i : Nat} {f' : ByteArray → Option Ent} {l' : PL2} {W W2 : World} {k : ByteArray} {x : Ent} (h : Sy q m g gr F most now N c f l ys w1 i f' l' W) (hk : ys[i]? = some k) (hx : f' k = some x)
    (hC : Cach q m g (fun b => F b ∧ b ≠ gr) most now (N + i + 1) c (wrF f' k) (wrL f' l' k) W2) (hK : Kept (fun b => (F b ∧ b ≠ gr) ∨ b = q ∨ b = m) W W2) : Sy q m g gr F most now N c f l ys w1 (i + 1) (wrF f' k) (wrL f' l' k) W2 := by
  refine ⟨hC, fun k' => (wr_eff h.ca.fits hx k').trans (h.same k'), fun k' => ?_, fun j hj k' hk' y hy => ?_, h.kept.trans hK⟩
  · rw [wr_at hx]
    split
    · rename_i e; rw [← h.dom, e, hx]; rfl
    · exact h.dom k'
  · rw [wr_at hx] at hy
    split at hy
    · cases hy; rfl
    · rename_i e
      rcases Nat.lt_succ_iff_lt_or_eq.1 hj with hj | rfl
      · exact h.cl j hj k' hk' y hy
      · rw [hk] at hk'; cases hk'; exact absurd rfl e
theorem Sy.cell {q m g gr cap : Nat} {F : Nat → Prop} {most now N c : Nat} {f : ByteArray → Option Ent} {l : PL2} {ys : List ByteArray} {w1 : World} {i : Nat} {f' : ByteArray → Option Ent} {l' : PL2} {W : World} {n : Nat} (h : Sy q m g gr F most now N c f l ys w1 i f' l' W) (hr : w1.ownsRow 0 9 1 (.slice (some ⟨gr, 0, none⟩) n cap) n (strRow ys)) (hq : gr ≠ q) (hm : gr ≠ m) (k : ByteArray) (hi : ys[i]? = some k) : W.cell? ⟨gr, i, none⟩ = some (.string k) := by
  have hr2 := owns_kept h.kept hr fun b e e1 => by
    have : gr = b := by simpa [Value.ownBlock] using e
    subst this
    rcases e1 with e1 | e1 | e1
    · exact e1.2 rfl
    · exact hq e1
    · exact hm e1
  obtain ⟨a, cap', e, _, _, hc⟩ := owns_cells hr2
  have hn : n = ys.length := by have := hr2.1; simp [strRow] at this; exact this.symm
  obtain ⟨b', hb1, hb2, _, hcc⟩ := hc (by have := (List.getElem?_eq_some_iff.1 hi).1; omega)
  have : gr = b' := by simpa [Value.ownBlock] using hb2
  subst this
  exact (hcc i (.string k) (by simp [strRow, hi])).1
set_option maxHeartbeats 3200000 in
set_option maxRecDepth 100000 in
theorem cache_sync {q m g : Nat} {F : Nat → Prop} {most now N c : Nat} {f : ByteArray → Option Ent} {l : PL2} {w : World} (h : Cach q m g F most now N c f l w) (hN : N < 90000) :
    Calls Try.prog 25 #[.pointer (some ⟨q, 0, none⟩)] w fun e w' => e = .returned (.int .i64 0) ∧ ∃ f' l', Cach q m g F most now (N + 1000) c f' l' w' ∧ (∀ k, eff f' l' k = eff f l k) ∧ (∀ k x, f' k = some x → x.dirty = false) ∧ Kept (fun b => F b ∨ b = q ∨ b = m) w w' := by
  obtain ⟨r, p, hr, hp, hb⟩ := h.blk
  have hc1 : c ≤ 1000 := Nat.le_trans h.room h.small
  have c2 : w.cell? ⟨q, 2, none⟩ = some (.map (some m)) := (cell_at hb 2).trans rfl
  have HB := hid (cache_bad h)
  have hmap := hid h.map
  have hml := h.map.lt
  have H := hid h
  obtain ⟨i0, hi0, hz0, hz1, hz2⟩ := info_parts Try.info9'
  clear h hb
  go_enter Try.func25, Try.ntmps25
  go_wp2_with (first
    | (go_at_call 43; (with_reducible refine HB.out.mono ?_); rintro e w1 ⟨rfl, rfl⟩)
    | (at_range; refine wpList_mapF_range (B := CK) _ rfl (.tmp 13) rfl hmap.out rfl ?_; intro w0 hrg0 hg0 hs0))
  go_frame
  go_loopw [3] (fun a wr => ∃ (xs : List ByteArray) (left : ByteArray → Bool) (cnt : Nat), Hid (Coll w m w.heap.size f c a xs left cnt wr)) (fun _ wr => wr.rangeLeft m w.heap.size)
  case atStart => exact ⟨[], _, c, hid ⟨hrg0, hg0, ⟨rfl, .inl ⟨rfl, rfl⟩⟩, .inl ⟨rfl, rfl⟩, fun k hk => .inr hk, fun k hk => (by cases hk), by simp⟩⟩
  case round =>
    obtain ⟨xs, left, cnt, HC⟩ := hrel
    go_wp2_with (first | (at_next; refine wpList_mapF_next (B := CK) _ rfl (.tmp 14) rfl rfl HC.out.rng ?_ ?_))
    · intro hc0 hl0
      have HD : Hid (∀ k, (f k).isSome = true → k ∈ xs) := hid fun k hk => by
        rcases HC.out.all k hk with h | h
        · exact h
        · have hgood : CK.good k := by
            cases hf : f k with
            | none => rw [hf] at hk; cases hk
            | some x => exact Nat.le_trans (H.out.fits.short k x hf) (by decide)
          rw [hl0 k hgood] at h; cases h
      have HN := hid HC.out.new
      have hfew := HC.out.few
      clear hl0
      rcases HC.out.shape with ⟨rfl, hxs⟩ | ⟨gr, cap, rfl, hgr⟩
      · have HX := hid hxs
        clear hxs
        go_wp2_with (first | (go_at_call 46; (with_reducible refine (sort_none).mono ?_); rintro e w1 ⟨rfl, rfl⟩))
        go_loopw [27] (fun a ws => a = .int .i64 0 ∧ Hid (New w ws)) (fun _ _ => 0)
        case atStart => exact ⟨rfl, HN⟩
        case round =>
          obtain ⟨rfl, HN2⟩ := hrel
          go_wp2
          go_ret
          refine ⟨rfl, f, l, (H.out.new HN2.out).more2 (by omega), fun _ => rfl, fun k x hx => ?_, HN2.out.mono fun _ _ e => e.elim⟩
          have := HD.out k (by rw [hx]; rfl)
          rw [HX.out] at this
          cases this
      · have HS := hid (sort_strs HC.out.own (by omega))
        have hqr : q < w.heap.size := blk_lt H.out.blk.choose_spec.choose_spec.2.2
        go_wp2_with (first | (go_at_call 46; (with_reducible refine HS.out.mono ?_); rintro e w1 ⟨rfl, ys, hperm, hrow, hK1⟩; have HP := hid hperm; have HR := hid hrow; have HN1 := hid (HN.out.turn hK1 (by omega)); have hlen := hperm.length_eq; have hgl := own_lt hrow rfl; clear hperm hrow hK1))
        have hg1 : gr ≠ q := by omega
        have hg2 : gr ≠ m := by omega
        have HL := hid (H.out.less HN1.out (gr := gr) (by omega) hgl)
        have hxl : xs.length ≤ 9223372036854775807 := by omega
        go_loopw [27] (fun a ws => ∃ (i : Nat) (f' : ByteArray → Option Ent) (l' : PL2), a = .int .i64 i ∧ i ≤ xs.length ∧ Hid (Sy q m g gr F most now N c f l ys w1 i f' l' ws)) (fun a _ => xs.length - (intOf a).toNat)
        case atStart => exact ⟨0, f, l, rfl, Nat.zero_le _, hid ⟨HL.out, fun _ => rfl, fun _ => rfl, fun j hj => absurd hj (Nat.not_lt_zero _), Kept.refl _ _⟩⟩
        case round =>
          obtain ⟨i, f', l', rfl, hi, HS2⟩ := hrel
          by_cases hlt : i < xs.length
          · obtain ⟨k, hk⟩ : ∃ k, ys[i]? = some k := ⟨ys[i]'(by omega), by simp⟩
            have hcell := HS2.out.cell HR.out hg1 hg2 k hk
            obtain ⟨x, hx⟩ : ∃ x, f' k = some x := by
              have h1 : k ∈ xs := HP.out.mem_iff.1 (List.mem_of_getElem? hk)
              have h2 := HC.out.dom k h1
              rw [← HS2.out.dom] at h2
              exact Option.isSome_iff_exists.1 h2
            have HW := hid (cache_write HS2.out.ca (by omega) hx)
            have HK := hid hk
            have HX := hid hx
            clear hk hx
            go_wp2_with (first | (go_at_call 47; (with_reducible refine HW.out.mono ?_); rintro e w3 ⟨rfl, hC, hK⟩; have HS3 := hid (HS2.out.step HK.out HX.out hC hK); clear hC hK))
            go_roundw
            case rel => exact ⟨i + 1, _, _, by go_num, by omega, HS3⟩
            case measure => simp [intOf]; omega
          · obtain rfl : i = xs.length := by omega
            go_wp2
            go_ret
            refine ⟨rfl, f', l', (HS2.out.ca.more2 (by omega)).wider (fun _ e => e.1) H.out.nq H.out.nm, HS2.out.same, fun k x hx => ?_, (HN1.out.mono fun _ _ e => e.elim).trans (HS2.out.kept.mono fun _ _ e => e.imp (fun e => e.1) id)⟩
            have h1 : (f k).isSome = true := by rw [← HS2.out.dom, hx]; rfl
            obtain ⟨j, hj⟩ := List.getElem?_of_mem (HP.out.mem_iff.2 (HD.out k h1))
            exact HS2.out.cl j (by have := (List.getElem?_eq_some_iff.1 hj).1; omega) k hj x hx
    · intro x y w' cnt' hgx _ hfx hrg' hlt hkp hsz hen
      have hle := HC.out.rng.left_eq
      have HT := hid (HC.out.turn (Nat.le_refl _) hrg' hkp hlt)
      have hfew := HC.out.few
      have HX : Hid ((f x).isSome = true) := hid (by rw [hfx]; rfl)
      change (Instr.entry (.pointer (some ⟨w.heap.size, 0, none⟩))).run Try.prog w' = Result.ok (.tuple #[.string x, CK.mkV y]) w' at hen
      clear hrg' hkp hfx hgx
      go_wp2_with (first | (at_builtin; refine wpList_append_lies _ rfl (.tmp 19) (.tmp 21) 24 rfl 0 9 i0 (.string ⟨#[]⟩) 1 16 Try.underlying24 hi0 hz0 hz1 hz2 rfl (by decide) _ _ _ rfl (World.ownsRow.alloc HT.out.2.2.1 _) ⟨wr.heap.size, 0, none⟩ 1 1 [.string x] rfl rfl (World.news_of_block (blk_at _ _ hsz)) (by intro u hu; simp at hu; subst hu; rfl) (by decide) (by unfold maxLen; omega) (by omega) (Nat.zero_le _) _ rfl ?_; intro g1 cap1 w5 hown hgrow hat hlt5; have HC2 := hid (Coll.app (Nat.le_refl _) hml HC.out.all HC.out.dom HX.out HC.out.shape HT.out hown hgrow hat); clear hown hgrow hat))
      have hle2 := HC2.out.rng.left_eq
      exact ⟨⟨xs ++ [x], _, cnt', HC2⟩, by rw [hle, hle2]; exact hlt⟩
end Go.Proofs.Ytmlnjheiogmlaaa
