/-
The document's Put; conditions: the list lies in memory as told.
-/
import Derived.Test.YtmlnjheiogmlaaaRef10
import Derived.Laws.Cover1
namespace Go.Proofs.Ytmlnjheiogmlaaa
open Go.RowKit Go.Lib
/-- With a key that has something. -/
def putR : PL2 → ByteArray → ByteArray → PL2
  | [], k, t => [(k, t)]
  | p :: l, k, t => if Op.bytesLess p.1.toList k.toList then p :: putR l k t else (k, t) :: (if p.1 = k then l else p :: l)
/-- The rest that is still to come. -/
def restR (d : Bool) (l : PL2) (k t : ByteArray) : PL2 := if d then l else putR l k t
theorem restR_less {l : PL2} {i : Nat} {k t : ByteArray} (h : i < l.length) (hl : Op.bytesLess l[i].1.toList k.toList = true) (m : PL2) : m ++ restR false (l.drop i) k t = (m ++ [l[i]]) ++ restR false (l.drop (i + 1)) k t := by
  rw [List.drop_eq_getElem_cons h]
  simp [restR, putR, hl]
theorem restR_same {l : PL2} {i : Nat} {k t : ByteArray} (h : i < l.length) (hl : Op.bytesLess l[i].1.toList k.toList = false) (he : l[i].1 = k) (m : PL2) : m ++ restR false (l.drop i) k t = (m ++ [(k, t)]) ++ restR true (l.drop (i + 1)) k t := by
  rw [List.drop_eq_getElem_cons h]
  have e : putR (l[i] :: l.drop (i + 1)) k t = (k, t) :: l.drop (i + 1) := by rw [putR, if_neg (by simp [hl]), if_pos he]
  have e2 : restR false (l[i] :: l.drop (i + 1)) k t = (k, t) :: l.drop (i + 1) := e
  rw [e2]
  simp [restR]
theorem restR_more {l : PL2} {i : Nat} {k t : ByteArray} (h : i < l.length) (hl : Op.bytesLess l[i].1.toList k.toList = false) (he : l[i].1 ≠ k) (m : PL2) : m ++ restR false (l.drop i) k t = (m ++ [(k, t)] ++ [l[i]]) ++ restR true (l.drop (i + 1)) k t := by
  rw [List.drop_eq_getElem_cons h]
  simp [restR, putR, hl, he]
theorem restR_done {l : PL2} {i : Nat} {k t : ByteArray} (h : i < l.length) (m : PL2) : m ++ restR true (l.drop i) k t = (m ++ [l[i]]) ++ restR true (l.drop (i + 1)) k t := by
  rw [List.drop_eq_getElem_cons h]
  simp [restR]
/-- One pair more behind a list of the call's own. -/
theorem own2_app {w wr w4 : World} {g g1 cap1 : Nat} {m : PL2} {p : ByteArray × ByteArray} {o : Obj} (hN : New w wr) (hgs : w.heap.size ≤ g) (hown : w4.ownsRow 0 90 2 (.slice (some ⟨g1, 0, none⟩) (m.length + 1) cap1) (m.length + 1) (pcells m ++ pcells [p])) (hgrow : (wr.alloc o).grownBy w4 (some g)) (hat : g1 = g ∨ g1 = (wr.alloc o).heap.size) :
    PR g1 cap1 (m ++ [p]) w4 ∧ New w w4 ∧ w.heap.size ≤ g1 := by
  refine ⟨?_, (hN.alloc _).grown hgrow fun k e => .inr (by cases e; exact hgs), ?_⟩
  · unfold PR
    rw [List.length_append, pcells_append]
    exact hown
  · have := hN.size
    rcases hat with rfl | rfl
    · exact hgs
    · simp; omega
set_option maxHeartbeats 3200000 in
set_option maxRecDepth 100000 in
theorem ref_put {b cap : Nat} {l : PL2} {w : World} (k t : ByteArray) (h : PR b cap l w) (hs : l.length < 1000000) :
    Calls Try.prog 28 #[.slice (some ⟨b, 0, none⟩) l.length cap, .string k, .string t] w fun e w' => ∃ v, e = .returned v ∧ Own2 w (putR l k t) v w' ∧ New w w' := by
  have hbl := h.lt
  have H := hid h
  obtain ⟨hl1, hl2⟩ := h.len
  obtain ⟨i0, hi0, hz0, hz1, hz2⟩ := info_parts Try.info90
  have hl3 : l.length ≤ 9223372036854775807 := Nat.le_trans (Nat.le_trans hl1 hl2) (by decide)
  clear h
  go_enter Try.func28, Try.ntmps28
  go_wp2
  go_loopw [7, 8, 9] (fun a d q wr => ∃ (i : Nat) (m : PL2) (dn : Bool), q = .int .i64 i ∧ d = .bool dn ∧ i ≤ l.length ∧ m.length ≤ i + 1 ∧ (dn = false → m.length ≤ i) ∧ Hid (Own2 w m a wr ∧ New w wr) ∧ Hid (m ++ restR dn (l.drop i) k t = putR l k t)) (fun _ _ q _ => l.length - (intOf q).toNat)
  case atStart => exact ⟨0, [], false, rfl, rfl, Nat.zero_le _, by simp, by simp, hid ⟨⟨_, 0, rfl, own_empty2 (blk_new _ _), Nat.le_refl _⟩, (Kept.refl _ _).alloc _⟩, hid (by simp [restR])⟩
  case round =>
    obtain ⟨i, m, dn, rfl, rfl, hi, hml, hmf, HR, HI⟩ := hrel
    obtain ⟨⟨g, cg, rfl, hg, hgs⟩, hN⟩ := HR.out
    have HG := hid hg
    have HN := hid hN
    clear HR hg hN
    by_cases hlt : i < l.length
    · obtain ⟨k1, t1⟩ := (H.out.kept HN.out id).cells (i := i) (p := l[i]) (by simp [hlt])
      have HP : Hid (l[i]? = some l[i]) := hid (by simp [hlt])
      cases dn with
      | true =>
        have HI2 := hid ((restR_done (k := k) (t := t) hlt m).symm.trans HI.out)
        generalize l[i] = p at *
        obtain ⟨pk, pt⟩ := p
        clear HI
        go_wp2_with (first | (at_builtin; refine wpList_append_some _ rfl (.tmp 41) (.tmp 46) 54 rfl 0 90 i0 (.agg #[.string ⟨#[]⟩, .string ⟨#[]⟩]) 2 32 Try.underlying54 hi0 hz0 hz1 hz2 rfl (by decide) g m.length cg (pcells m) rfl (World.ownsRow.alloc HG.out _) ⟨wr.heap.size, 0, none⟩ 1 1 (pcells [(pk, pt)]) rfl rfl (two_new (blk_new _ _)) (pcells_one _) (by unfold maxLen; omega) (by omega) (Nat.zero_le _) ?_; intro g1 cap1 w4 hown4 hgrow4 hat4 hlt4; obtain ⟨r1, r2, r3⟩ := own2_app HN.out hgs hown4 hgrow4 hat4; have R1 := hid r1; have R2 := hid r2; clear hown4 hgrow4 hat4 r1 r2))
        exact ⟨⟨i + 1, m ++ [(pk, pt)], true, by go_num, rfl, by omega, by simp; omega, by simp, hid ⟨⟨g1, cap1, by rw [List.length_append]; rfl, R1.out, r3⟩, R2.out⟩, HI2⟩, by simp [intOf]; omega⟩
      | false =>
        have hml2 := hmf rfl
        clear hmf
        cases hb : Op.bytesLess l[i].1.toList k.toList with
        | true =>
          have HI2 := hid ((restR_less (k := k) (t := t) hlt hb m).symm.trans HI.out)
          generalize l[i] = p at *
          obtain ⟨pk, pt⟩ := p
          clear HI
          go_wp2_with (first | (at_builtin; refine wpList_append_some _ rfl (.tmp 41) (.tmp 46) 54 rfl 0 90 i0 (.agg #[.string ⟨#[]⟩, .string ⟨#[]⟩]) 2 32 Try.underlying54 hi0 hz0 hz1 hz2 rfl (by decide) g m.length cg (pcells m) rfl (World.ownsRow.alloc HG.out _) ⟨wr.heap.size, 0, none⟩ 1 1 (pcells [(pk, pt)]) rfl rfl (two_new (blk_new _ _)) (pcells_one _) (by unfold maxLen; omega) (by omega) (Nat.zero_le _) ?_; intro g1 cap1 w4 hown4 hgrow4 hat4 hlt4; obtain ⟨r1, r2, r3⟩ := own2_app HN.out hgs hown4 hgrow4 hat4; have R1 := hid r1; have R2 := hid r2; clear hown4 hgrow4 hat4 r1 r2))
          exact ⟨⟨i + 1, m ++ [(pk, pt)], false, by go_num, rfl, by omega, by simp; omega, by simp; omega, hid ⟨⟨g1, cap1, by rw [List.length_append]; rfl, R1.out, r3⟩, R2.out⟩, HI2⟩, by simp [intOf]; omega⟩
        | false =>
          by_cases he : l[i].1 = k
          · have hq := str_eq he
            have HI2 := hid ((restR_same (k := k) (t := t) hlt hb he m).symm.trans HI.out)
            clear he
            generalize l[i] = p at *
            obtain ⟨pk, pt⟩ := p
            clear HI
            go_wp2_with (first | (at_builtin; refine wpList_append_some _ rfl (.tmp 28) (.tmp 32) 54 rfl 0 90 i0 (.agg #[.string ⟨#[]⟩, .string ⟨#[]⟩]) 2 32 Try.underlying54 hi0 hz0 hz1 hz2 rfl (by decide) g m.length cg (pcells m) rfl (World.ownsRow.alloc HG.out _) ⟨wr.heap.size, 0, none⟩ 1 1 (pcells [(k, t)]) rfl rfl (two_new (blk_new _ _)) (pcells_one _) (by unfold maxLen; omega) (by omega) (Nat.zero_le _) ?_; intro g1 cap1 w4 hown4 hgrow4 hat4 hlt4; obtain ⟨r1, r2, r3⟩ := own2_app HN.out hgs hown4 hgrow4 hat4; have R1 := hid r1; have R2 := hid r2; have k2 := (H.out.kept R2.out id).cells HP.out; clear hown4 hgrow4 hat4 r1 r2))
            exact ⟨⟨i + 1, m ++ [(k, t)], true, by go_num, rfl, by omega, by simp; omega, by simp, hid ⟨⟨g1, cap1, by rw [List.length_append]; rfl, R1.out, r3⟩, R2.out⟩, HI2⟩, by simp [intOf]; omega⟩
          · have hq := str_ne he
            have HI2 := hid ((restR_more (k := k) (t := t) hlt hb he m).symm.trans HI.out)
            clear he
            generalize l[i] = p at *
            obtain ⟨pk, pt⟩ := p
            clear HI
            go_wp2_with (first | (at_builtin; refine wpList_append_some _ rfl (.tmp 28) (.tmp 32) 54 rfl 0 90 i0 (.agg #[.string ⟨#[]⟩, .string ⟨#[]⟩]) 2 32 Try.underlying54 hi0 hz0 hz1 hz2 rfl (by decide) g m.length cg (pcells m) rfl (World.ownsRow.alloc HG.out _) ⟨wr.heap.size, 0, none⟩ 1 1 (pcells [(k, t)]) rfl rfl (two_new (blk_new _ _)) (pcells_one _) (by unfold maxLen; omega) (by omega) (Nat.zero_le _) ?_; intro g1 cap1 w4 hown4 hgrow4 hat4 hlt4; obtain ⟨r1, r2, r3⟩ := own2_app HN.out hgs hown4 hgrow4 hat4; have R1 := hid r1; have R2 := hid r2; have k2 := (H.out.kept R2.out id).cells HP.out; clear hown4 hgrow4 hat4 r1 r2) | (at_builtin; refine wpList_append_some _ rfl (.tmp 41) (.tmp 46) 54 rfl 0 90 i0 (.agg #[.string ⟨#[]⟩, .string ⟨#[]⟩]) 2 32 Try.underlying54 hi0 hz0 hz1 hz2 rfl (by decide) g1 (m ++ [(k, t)]).length cap1 (pcells (m ++ [(k, t)])) (by rw [List.length_append]; rfl) (World.ownsRow.alloc R1.out _) ⟨w4.heap.size, 0, none⟩ 1 1 (pcells [(pk, pt)]) rfl rfl (two_new (blk_new _ _)) (pcells_one _) (by unfold maxLen; simp; omega) (by simp; omega) (Nat.zero_le _) ?_; intro g2 cap2 w5 hown5 hgrow5 hat5 hlt5; obtain ⟨r4, r5, r6⟩ := own2_app R2.out r3 hown5 hgrow5 hat5; have R4 := hid r4; have R5 := hid r5; clear hown5 hgrow5 hat5 r4 r5))
            exact ⟨⟨i + 1, m ++ [(k, t)] ++ [(pk, pt)], true, by go_num, rfl, by omega, by simp; omega, by simp, hid ⟨⟨g2, cap2, by simp, R4.out, r6⟩, R5.out⟩, HI2⟩, by simp [intOf]; omega⟩
    · obtain rfl : i = l.length := by omega
      have HI2 : Hid (m ++ restR dn [] k t = putR l k t) := hid (by have := HI.out; rwa [List.drop_length] at this)
      clear HI
      cases dn with
      | true =>
        have e : m = putR l k t := by simpa [restR] using HI2.out
        have HE := hid e
        clear e
        go_wp2
        go_ret
        exact ⟨_, rfl, ⟨g, cg, by rw [← HE.out]; rfl, by rw [← HE.out]; exact HG.out, hgs⟩, HN.out⟩
      | false =>
        have HE : Hid (m ++ [(k, t)] = putR l k t) := hid (by simpa [restR, putR] using HI2.out)
        go_wp2_with (first | (at_builtin; refine wpList_append_some _ rfl (.tmp 50) (.tmp 54) 54 rfl 0 90 i0 (.agg #[.string ⟨#[]⟩, .string ⟨#[]⟩]) 2 32 Try.underlying54 hi0 hz0 hz1 hz2 rfl (by decide) g m.length cg (pcells m) rfl (World.ownsRow.alloc HG.out _) ⟨wr.heap.size, 0, none⟩ 1 1 (pcells [(k, t)]) rfl rfl (two_new (blk_new _ _)) (pcells_one _) (by unfold maxLen; omega) (by omega) (Nat.zero_le _) ?_; intro g1 cap1 w4 hown4 hgrow4 hat4 hlt4; obtain ⟨r1, r2, r3⟩ := own2_app HN.out hgs hown4 hgrow4 hat4; have R1 := hid r1; have R2 := hid r2; clear hown4 hgrow4 hat4 r1 r2))
        go_ret
        exact ⟨_, rfl, ⟨g1, cap1, by rw [← HE.out, List.length_append]; rfl, by rw [← HE.out]; exact R1.out, r3⟩, R2.out⟩
end Go.Proofs.Ytmlnjheiogmlaaa
