/-
KV.Delete: a key is taken away, out of two rows behind a pointer; conditions: the rows lie in memory as told.
-/
import Derived.Test.YtmlnjheiogmlaaaMem
import Derived.Deep.RegionLaw
import Derived.BigRegion
import Derived.Deep.DeepCutAuto
namespace Go.Proofs.Ytmlnjheiogmlaaa
open Go.RowKit Go.Lib
theorem Try.info9' : (Try.prog.info? 9).map (fun i => (i.zero, i.size, i.bytes)) = some (some (.string ⟨#[]⟩), 1, 16) := by kernel_rfl
theorem str_one (xs : List (ByteArray × ByteArray)) (f : ByteArray × ByteArray → ByteArray) : ∀ u ∈ xs.map fun p => Value.string (f p), u.oneCell' = true := by
  intro u hu
  obtain ⟨x, _, rfl⟩ := List.mem_map.1 hu
  rfl
/-- The first ones of a row, and the last ones, in whatever world in which all that was there is as it was. -/
theorem head_row {w : World} {b : Nat} {f : ByteArray × ByteArray → ByteArray} {l : List (ByteArray × ByteArray)} (i : Nat) (h : ∀ (i : Nat) u, (l.map fun p => Value.string (f p))[i]? = some u → w.cell? ⟨b, i, none⟩ = some u) (hb : b < w.heap.size) :
    Hid (∀ W, New w W → ∀ (j : Nat) u, ((l.take i).map fun p => Value.string (f p))[j]? = some u → W.cell? ((⟨b, 0, none⟩ : Addr).add j) = some u) := by
  intro W hW j u hu
  refine New.cells (off := 0) hW (xs := (l.take i).map fun p => Value.string (f p)) (fun j u hu => ?_) hb j u hu
  rw [Nat.zero_add]
  refine h j u ?_
  rw [List.map_take, List.getElem?_take] at hu
  split at hu
  · exact hu
  · cases hu
theorem tail_row {w : World} {b cap i : Nat} {f : ByteArray × ByteArray → ByteArray} {l : List (ByteArray × ByteArray)} (hi : i < l.length) (hc : l.length ≤ cap) (h : ∀ (i : Nat) u, (l.map fun p => Value.string (f p))[i]? = some u → w.cell? ⟨b, i, none⟩ = some u) (hb : b < w.heap.size) :
    ∃ A : Addr, (if cap = i + 1 then some (⟨b, 0, none⟩ : Addr) else some ⟨b, i + 1, none⟩) = some A ∧
      Hid (∀ W, New w W → ∀ (j : Nat) u, ((l.drop (i + 1)).map fun p => Value.string (f p))[j]? = some u → W.cell? (A.add j) = some u) := by
  by_cases hc : cap = i + 1
  · refine ⟨_, if_pos hc, fun W hW j u hu => ?_⟩
    rw [List.drop_of_length_le (by omega)] at hu
    simp at hu
  · refine ⟨_, if_neg hc, fun W hW j u hu => ?_⟩
    refine New.cells hW (xs := (l.drop (i + 1)).map fun p => Value.string (f p)) (fun j u hu => ?_) hb j u hu
    refine h _ u ?_
    rw [List.map_drop, List.getElem?_drop] at hu
    exact hu
set_option maxHeartbeats 8000000 in
set_option maxRecDepth 100000 in
theorem KV_Delete {g : Nat} {vk vt : Value} {l : List (ByteArray × ByteArray)} {w : World} (k : ByteArray) (h : KVat g vk vt l w) (hs : l.length < 1000000) :
    Calls Try.prog 91 #[.pointer (some ⟨g, 0, none⟩), .string k] w fun e w' => e = .returned (.tuple #[.bool (kvGet l k).2, .int .i64 0]) ∧ Puts g vk vt (kvDel l k) w w' := by
  obtain ⟨ak, ck, rfl, hck, hcm, hak⟩ := owns_cells h.ks
  obtain ⟨at_, ct, rfl, hct, htm, hat⟩ := owns_cells h.ts
  have c0 : w.cell? ⟨g, 0, none⟩ = some (.slice ak l.length ck) := (cell_at h.blk 0).trans rfl
  have c1 : w.cell? ⟨g, 0 + 1, none⟩ = some (.slice at_ l.length ct) := (cell_at h.blk 1).trans rfl
  obtain ⟨v, hv⟩ : ∃ v, kvDel l k = v := ⟨_, rfl⟩
  obtain ⟨u, hu⟩ : ∃ u, (kvGet l k).2 = u := ⟨_, rfl⟩
  have HV := hid hv
  have HU := hid hu
  rw [hv, hu]
  have H := hid h
  clear h hv hu
  have hk := hid hak
  have ht := hid hat
  clear hak hat
  obtain ⟨i0, hi0, hz0, hz1, hz2⟩ := info_parts Try.info9'
  go_enter Try.func91, Try.ntmps91
  go_wp2
  go_loop [6] (fun q => ∃ i : Nat, q = .int .i64 i ∧ i ≤ l.length ∧ Hid (∀ j (hj : j < i) (hl : j < l.length), l[j].1 ≠ k)) (fun q => l.length - (intOf q).toNat)
  case atStart => exact ⟨0, rfl, Nat.zero_le _, hid (fun j hj => absurd hj (Nat.not_lt_zero _))⟩
  case round =>
    obtain ⟨i, rfl, hi, HN⟩ := hrel
    by_cases hlt : i < l.length
    · obtain ⟨bk, rfl, hobk, hbkl, hbk⟩ := hk.out (by omega)
      obtain ⟨bt, rfl, hobt, hbtl, hbt⟩ := ht.out (by omega)
      have rowk := hid fun i u h => (hbk i u h).1
      have k1 := (hbk i (.string l[i].1) (by simp [hlt])).1
      by_cases he : l[i].1 = k
      · have hq := str_eq he
        have hv : v = l.take i ++ l.drop (i + 1) := HV.out.symm.trans (kvDel_at l k i hlt (fun j hj => HN.out j hj (by omega)) he)
        have hu : u = true := HU.out.symm.trans (by rw [kvGet_at l k i hlt (fun j hj => HN.out j hj (by omega)) he])
        clear he hbk hbt HV HU HN hk ht
        generalize l[i] = p at *
        subst hv hu
        have q1 : (0 : Int) ≤ i := by omega
        have q2 : (i : Int) ≤ ck := by omega
        have q3 : (i : Int) ≤ ct := by omega
        have hwr : IntKind.i64.wrap ((i : Int) + 1) = (i : Int) + 1 := by rw [IntKind.wrap_i64]; omega
        have hp0 : (0 : Int) ≤ (i : Int) + 1 := by omega
        have hp1 : (i : Int) + 1 ≤ (l.length : Int) := by omega
        have hp2 : ((i : Int) + 1).toNat = i + 1 := by omega
        obtain ⟨A, hA, S2⟩ := tail_row (f := fun p => p.1) hlt hck (rowk.out) hbkl
        have S1 := head_row (f := fun p => p.1) i (rowk.out) hbkl
        have e0 : ∀ o, (w.alloc o).cell? ⟨g, 0, none⟩ = some (.slice (some ⟨bk, 0, none⟩) l.length ck) := fun o => (cell_at (blk_alloc H.out.blk o) 0).trans rfl
        go_upto_region 5 with fail
        go_cut [] (fun wc => Hid (∃ vk', Del1 g vk' (.slice (some ⟨bt, 0, none⟩) l.length ct) l (l.take i ++ l.drop (i + 1)) w wc))
        case first =>
          go_region_law (first | (refine step_append_some _ rfl (.tmp 26) (.tmp 32) 24 rfl 0 9 i0 (.string ⟨#[]⟩) 1 16 Try.underlying24 hi0 hz0 hz1 hz2 rfl (by decide) _ 0 0 [] rfl (by exact own_empty (blk_at _ _ rfl)) ⟨bk, 0, none⟩ i ck ((l.take i).map fun p => .string p.1) rfl (by simp; omega) (S1.out _ (by repeat (first | exact Kept.refl _ _ | exact N1 | apply Kept.drew | apply Kept.alloc))) (str_one _ fun p => p.1) (by unfold maxLen; omega) (by omega) (Nat.zero_le _) ?_; intro g1 cap1 w1 hown1 hgrow1 hat1; have N1 : New w w1 := Kept.grown (by repeat (first | exact Kept.refl _ _ | exact N1 | apply Kept.drew | apply Kept.alloc)) hgrow1 (fun k e => .inr (by cases e; simp)); simp only [Nat.zero_add, List.nil_append] at hown1; have G1 : w.heap.size ≤ g1 := (by have := N1.size; simp at hat1; omega); have OW1 := hid hown1; have d1 := (N1.load H.out.blk 0).1.trans rfl; clear hown1 hgrow1 hat1) | (refine step_append_some _ rfl (.tmp 33) (.tmp 40) 24 rfl 0 9 i0 (.string ⟨#[]⟩) 1 16 Try.underlying24 hi0 hz0 hz1 hz2 rfl (by decide) _ i cap1 _ rfl OW1.out A (l.length - (i + 1)) (ck - (i + 1)) ((l.drop (i + 1)).map fun p => .string p.1) rfl (by simp) (S2.out _ N1) (str_one _ fun p => p.1) (by unfold maxLen; omega) (by omega) (Nat.zero_le _) ?_; intro g2 cap2 w2 hown2 hgrow2 hat2; have N2 : New w w2 := Kept.grown N1 hgrow2 (fun k e => .inr (by cases e; exact G1)); have G2 : w.heap.size ≤ g2 := (by have := N1.size; omega); have OW2 := hid hown2; obtain ⟨d2, d3⟩ := N2.load H.out.blk 0; have d2' := d2.trans rfl; clear hown2 hgrow2 hat2 d2))
          all_goals
            go_wp2_with fail
            go_meet
            exact hid ⟨_, Del1.mk' H.out N2 OW2.out (by simp; omega) (by simp) G2⟩
        case rest =>
          obtain ⟨vk', hD⟩ := hcut.out
          have HD := hid hD
          have c3 : wc.cell? ⟨g, 1, none⟩ = some (.slice (some ⟨bt, 0, none⟩) l.length ct) := (cell_at hD.blk 1).trans rfl
          have e3 : ∀ o, (wc.alloc o).cell? ⟨g, 1, none⟩ = some (.slice (some ⟨bt, 0, none⟩) l.length ct) := fun o => (cell_at (blk_alloc hD.blk o) 1).trans rfl
          have rowt : Hid (∀ (i : Nat) u, (l.map fun p => Value.string p.2)[i]? = some u → wc.cell? ⟨bt, i, none⟩ = some u) := by
            obtain ⟨a, cap, e, _, _, h⟩ := owns_cells hD.ts
            obtain ⟨b, hb, hob, _, hr⟩ := h (by omega)
            subst hb
            simp at e
            rw [e.1] at *
            exact fun i u hu => (hr i u hu).1
          have hbl : bt < wc.heap.size := own_lt hD.ts hobt
          have hgw : g < w.heap.size := blk_lt H.out.blk
          obtain ⟨A', hA', S4⟩ := tail_row (f := fun p => p.2) hlt hct (rowt.out) hbl
          have S3 := head_row (f := fun p => p.2) i (rowt.out) hbl
          clear hcut hD e0 rowt rowk S1 S2 hA c0 c1
          go_wp2_with fail
          go_region_law (first | (refine step_append_some _ rfl (.tmp 45) (.tmp 51) 24 rfl 0 9 i0 (.string ⟨#[]⟩) 1 16 Try.underlying24 hi0 hz0 hz1 hz2 rfl (by decide) _ 0 0 [] rfl (by exact own_empty (blk_at _ _ rfl)) ⟨bt, 0, none⟩ i ct ((l.take i).map fun p => .string p.2) rfl (by simp; omega) (S3.out _ (by repeat (first | exact Kept.refl _ _ | exact N1 | apply Kept.drew | apply Kept.alloc))) (str_one _ fun p => p.2) (by unfold maxLen; omega) (by omega) (Nat.zero_le _) ?_; intro g1 cap1 w1 hown1 hgrow1 hat1; have N1 : New wc w1 := Kept.grown (by repeat (first | exact Kept.refl _ _ | exact N1 | apply Kept.drew | apply Kept.alloc)) hgrow1 (fun k e => .inr (by cases e; simp)); simp only [Nat.zero_add, List.nil_append] at hown1; have G1 : wc.heap.size ≤ g1 := (by have := N1.size; simp at hat1; omega); have OW1 := hid hown1; have d1 := (N1.load HD.out.blk 1).1.trans rfl; clear hown1 hgrow1 hat1) | (refine step_append_some _ rfl (.tmp 52) (.tmp 59) 24 rfl 0 9 i0 (.string ⟨#[]⟩) 1 16 Try.underlying24 hi0 hz0 hz1 hz2 rfl (by decide) _ i cap1 _ rfl OW1.out A' (l.length - (i + 1)) (ct - (i + 1)) ((l.drop (i + 1)).map fun p => .string p.2) rfl (by simp) (S4.out _ N1) (str_one _ fun p => p.2) (by unfold maxLen; omega) (by omega) (Nat.zero_le _) ?_; intro g2 cap2 w2 hown2 hgrow2 hat2; have N2 : New wc w2 := Kept.grown N1 hgrow2 (fun k e => .inr (by cases e; exact G1)); have G2 : wc.heap.size ≤ g2 := (by have := N1.size; omega); have OW2 := hid hown2; obtain ⟨d2, d3⟩ := N2.load HD.out.blk 1; have d2' := d2.trans rfl; clear hown2 hgrow2 hat2 d2))
          all_goals
            go_wp2
            go_ret2
            exact ⟨rfl, Del1.done HD.out N2 OW2.out (by simp; omega) (by simp) G2 hgw⟩
      · have hq := str_ne he
        have hn : Hid (∀ j (hj : j < i + 1) (hl : j < l.length), l[j].1 ≠ k) := fun j hj hl => by
          rcases Nat.lt_succ_iff_lt_or_eq.1 hj with hj | rfl
          · exact HN.out j hj hl
          · exact he
        generalize l[i] = p at *
        clear he hbk hbt
        go_wp2
        go_round
        case rel => exact ⟨i + 1, by go_num, by omega, hn⟩
        case measure => simp [intOf]; omega
    · have hv : v = l := HV.out.symm.trans (kvDel_none l k fun j hj => HN.out j (by omega) hj)
      have hu : u = false := HU.out.symm.trans (by rw [kvGet_none l k fun j hj => HN.out j (by omega) hj])
      subst hv hu
      go_wp2
      go_ret2
      exact ⟨rfl, _, _, H.out, Kept.refl _ _, fun b hb => .inl hb⟩
end Go.Proofs.Ytmlnjheiogmlaaa
