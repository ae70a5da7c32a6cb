/-
Keys and texts as a plain list: what the document's functions compute; conditions: the list lies in memory as told.
-/
import Derived.Test.YtmlnjheiogmlaaaPlays
namespace Go.Proofs.Ytmlnjheiogmlaaa
open Go.RowKit Go.Lib
abbrev PL2 := List (ByteArray × ByteArray)
def pcells (l : PL2) : List Value := l.flatMap fun p => [.string p.1, .string p.2]
theorem pcells_append (l m : PL2) : pcells (l ++ m) = pcells l ++ pcells m := by simp [pcells]
theorem pcells_length (l : PL2) : (pcells l).length = l.length * 2 := by
  induction l with
  | nil => rfl
  | cons p l ih => simp [pcells] at ih ⊢; omega
theorem pcells_at : ∀ (l : PL2) (i : Nat) (p : ByteArray × ByteArray), l[i]? = some p → (pcells l)[i * 2]? = some (.string p.1) ∧ (pcells l)[i * 2 + 1]? = some (.string p.2)
  | [], i, p, h => by simp at h
  | q :: l, 0, p, h => by
    simp at h
    subst h
    simp [pcells]
  | q :: l, i + 1, p, h => by
    have := pcells_at l i p (by simpa using h)
    have e1 : (i + 1) * 2 = i * 2 + 1 + 1 := by omega
    have e2 : pcells (q :: l) = .string q.1 :: .string q.2 :: pcells l := rfl
    rw [e1, e2]
    simpa using this
theorem pcells_one (l : PL2) : ∀ u ∈ pcells l, u.oneCell' = true := by
  intro u hu
  simp only [pcells, List.mem_flatMap] at hu
  obtain ⟨p, _, hp⟩ := hu
  simp at hp
  rcases hp with rfl | rfl <;> rfl
/-- A list of pairs lies in block b. -/
def PR (b cap : Nat) (l : PL2) (w : World) : Prop := w.ownsRow 0 90 2 (.slice (some ⟨b, 0, none⟩) l.length cap) l.length (pcells l)
theorem PR.lt {b cap : Nat} {l : PL2} {w : World} (h : PR b cap l w) : b < w.heap.size := own_lt h rfl
theorem PR.kept {F : Nat → Prop} {b cap : Nat} {l : PL2} {w w' : World} (h : PR b cap l w) (hk : Kept F w w') (hF : ¬ F b) : PR b cap l w' := owns_kept hk h fun k e => by cases e; exact hF
theorem PR.len {b cap : Nat} {l : PL2} {w : World} (h : PR b cap l w) : l.length ≤ cap ∧ cap ≤ maxLen := by
  rcases h.2 with ⟨h0, _⟩ | ⟨g, c, cur, hv, _, hg, h1, h2, _⟩
  · cases h0
  · cases hv; exact ⟨h1, h2⟩
theorem PR.cells {b cap : Nat} {l : PL2} {w : World} (h : PR b cap l w) {i : Nat} {p : ByteArray × ByteArray} (hi : l[i]? = some p) : w.cell? ⟨b, i * 2, none⟩ = some (.string p.1) ∧ w.cell? ⟨b, i * 2 + 1, none⟩ = some (.string p.2) := by
  obtain ⟨h1, h2⟩ := pcells_at l i p hi
  have hc := World.ownsRow.cells (g := b) h rfl
  have ha : ∀ j, (⟨b, 0, none⟩ : Addr).add j = ⟨b, j, none⟩ := fun j => by unfold Addr.add; split <;> simp_all
  have e1 := hc _ _ h1
  have e2 := hc _ _ h2
  rw [ha] at e1 e2
  exact ⟨e1, e2⟩
theorem Try.info90 : (Try.prog.info? 90).map (fun i => (i.zero, i.size, i.bytes)) = some (some (.agg #[.string ⟨#[]⟩, .string ⟨#[]⟩]), 2, 32) := by kernel_rfl
set_option maxHeartbeats 1600000 in
set_option maxRecDepth 100000 in
theorem ref_get {b cap : Nat} {l : PL2} {w : World} (k : ByteArray) (h : PR b cap l w) :
    Calls Try.prog 21 #[.slice (some ⟨b, 0, none⟩) l.length cap, .string k] w fun e w' => e = .returned (.tuple #[.string (kvGet l k).1, .bool (kvGet l k).2]) ∧ w = w' := by
  obtain ⟨v, hv⟩ : ∃ v, kvGet l k = v := ⟨_, rfl⟩
  have HV := hid hv
  have H := hid h
  obtain ⟨hl1, hl2⟩ := h.len
  have hl3 : l.length ≤ 9223372036854775807 := Nat.le_trans (Nat.le_trans hl1 hl2) (by decide)
  rw [hv]
  clear h hv
  go_enter Try.func21, Try.ntmps21
  go_wp2
  go_loop [6] (fun q => ∃ i : Nat, q = .int .i64 i ∧ i ≤ l.length ∧ Hid (∀ j (hj : j < i) (hl : j < l.length), l[j].1 ≠ k)) (fun q => l.length - (intOf q).toNat)
  case atStart => exact ⟨0, rfl, Nat.zero_le _, hid (fun j hj => absurd hj (Nat.not_lt_zero _))⟩
  case round =>
    obtain ⟨i, rfl, hi, HN⟩ := hrel
    by_cases hlt : i < l.length
    · obtain ⟨k1, t1⟩ := H.out.cells (i := i) (p := l[i]) (by simp [hlt])
      by_cases he : l[i].1 = k
      · have hq := str_eq he
        have hv : v = (l[i].2, true) := HV.out.symm.trans (kvGet_at l k i hlt (fun j hj => HN.out j hj (by omega)) he)
        clear he HV
        generalize l[i] = p at *
        subst hv
        go_wp2
        go_ret2
        exact ⟨rfl, rfl⟩
      · have hq := str_ne he
        have hn : Hid (∀ j (hj : j < i + 1) (hl : j < l.length), l[j].1 ≠ k) := hid fun j hj hl => by
          rcases Nat.lt_succ_iff_lt_or_eq.1 hj with hj | rfl
          · exact HN.out j hj hl
          · exact he
        generalize l[i] = p at *
        clear he
        go_wp2
        go_round
        case rel => exact ⟨i + 1, by go_num, by omega, hn⟩
        case measure => simp [intOf]; omega
    · have hv : v = (⟨#[]⟩, false) := HV.out.symm.trans (kvGet_none l k fun j hj => HN.out j (by omega) hj)
      subst hv
      go_wp2
      go_ret2
      exact ⟨rfl, rfl⟩
theorem own_empty2 {W : World} {b e : Nat} (h : W.heap[b]? = some (.cells #[] e (0, 0))) : W.ownsRow 0 e 2 (.slice (some ⟨b, 0, none⟩) 0 0) 0 [] :=
  ⟨rfl, .inr ⟨b, 0, _, rfl, Nat.zero_le _, h, Nat.le_refl _, Nat.zero_le _, rfl, rfl⟩⟩
theorem two_new {W : World} {b : Nat} {x y : ByteArray} (h : W.heap[b]? = some (.cells #[.string x, .string y] 90 (0, 0))) : ∀ j u, (pcells [(x, y)])[j]? = some u → W.cell? ((⟨b, 0, none⟩ : Addr).add j) = some u := World.news_of_block h
theorem delF_step {l : PL2} {k : ByteArray} {i : Nat} (h : i < l.length) : (l.take (i + 1)).filter (fun p => decide (p.1 ≠ k)) = (l.take i).filter (fun p => decide (p.1 ≠ k)) ++ (if l[i].1 = k then [] else [l[i]]) := by
  rw [List.take_add_one, List.getElem?_eq_getElem h, List.filter_append]
  by_cases e : l[i].1 = k <;> simp [e]
/-- Without a key. -/
abbrev delF (l : PL2) (k : ByteArray) : PL2 := l.filter fun p => decide (p.1 ≠ k)
/-- A list of the call's own. -/
def Own2 (w : World) (m : PL2) (v : Value) (W : World) : Prop := ∃ g cap, v = .slice (some ⟨g, 0, none⟩) m.length cap ∧ PR g cap m W ∧ w.heap.size ≤ g
set_option maxHeartbeats 1600000 in
set_option maxRecDepth 100000 in
theorem ref_delete {b cap : Nat} {l : PL2} {w : World} (k : ByteArray) (h : PR b cap l w) (hs : l.length < 1000000) :
    Calls Try.prog 24 #[.slice (some ⟨b, 0, none⟩) l.length cap, .string k] w fun e w' => ∃ v, e = .returned v ∧ Own2 w (delF l k) v w' ∧ New w w' := by
  have hbl := h.lt
  have H := hid h
  obtain ⟨hl1, hl2⟩ := h.len
  obtain ⟨i0, hi0, hz0, hz1, hz2⟩ := info_parts Try.info90
  have hl3 : l.length ≤ 9223372036854775807 := Nat.le_trans (Nat.le_trans hl1 hl2) (by decide)
  clear h
  go_enter Try.func24, Try.ntmps24
  go_wp2
  go_loopw [5, 6] (fun a q wr => ∃ i : Nat, q = .int .i64 i ∧ i ≤ l.length ∧ Hid (Own2 w (delF (l.take i) k) a wr ∧ New w wr)) (fun _ q _ => l.length - (intOf q).toNat)
  case atStart => exact ⟨0, rfl, Nat.zero_le _, hid ⟨⟨_, 0, rfl, own_empty2 (blk_new _ _), Nat.le_refl _⟩, (Kept.refl _ _).alloc _⟩⟩
  case round =>
    obtain ⟨i, rfl, hi, HR⟩ := hrel
    obtain ⟨⟨g, cg, rfl, hg, hgs⟩, hN⟩ := HR.out
    have HG := hid hg
    have HN := hid hN
    have hgl : (delF (l.take i) k).length ≤ i := Nat.le_trans (List.length_filter_le _ _) (by simp; omega)
    clear HR hg hN
    generalize hm : delF (l.take i) k = m at *
    have HM := hid hm
    clear hm
    by_cases hlt : i < l.length
    · obtain ⟨k1, t1⟩ := (H.out.kept HN.out id).cells (i := i) (p := l[i]) (by simp [hlt])
      have HS := hid (delF_step (l := l) (k := k) hlt)
      by_cases he : l[i].1 = k
      · have hq := str_eq he
        have HE : Hid (delF (l.take (i + 1)) k = m) := hid (by have := HS.out; rw [if_pos he, List.append_nil] at this; rw [← HM.out]; exact this)
        clear he HS
        generalize l[i] = p at *
        go_wp2
        go_roundw
        case rel => exact ⟨i + 1, by go_num, by omega, hid ⟨⟨g, cg, by rw [HE.out], by rw [HE.out]; exact HG.out, hgs⟩, HN.out⟩⟩
        case measure => simp [intOf]; omega
      · have hq := str_ne he
        have HE : Hid (delF (l.take (i + 1)) k = m ++ [l[i]]) := hid (by have := HS.out; rw [if_neg he] at this; rw [← HM.out]; exact this)
        clear he HS
        generalize l[i] = p at *
        obtain ⟨pk, pt⟩ := p
        go_wp2_with (first | (at_builtin; refine wpList_append_some _ rfl (.tmp 21) (.tmp 26) 54 rfl 0 90 i0 (.agg #[.string ⟨#[]⟩, .string ⟨#[]⟩]) 2 32 Try.underlying54 hi0 hz0 hz1 hz2 rfl (by decide) g m.length cg (pcells m) rfl (World.ownsRow.alloc HG.out _) ⟨wr.heap.size, 0, none⟩ 1 1 (pcells [(pk, pt)]) rfl rfl (two_new (blk_new _ _)) (pcells_one _) (by unfold maxLen; omega) (by omega) (Nat.zero_le _) ?_; intro g1 cap1 w4 hown4 hgrow4 hat4 hlt4))
        have K1 : New w wr := HN.out
        have N4 : New w w4 := (HN.out.alloc _).grown hgrow4 fun k e => .inr (by cases e; exact hgs)
        have G4 : w.heap.size ≤ g1 := by
          have := HN.out.size
          rcases hat4 with rfl | rfl
          · exact hgs
          · simp; omega
        refine ⟨⟨i + 1, by go_num, by omega, hid ⟨⟨g1, cap1, by rw [HE.out, List.length_append]; rfl, ?_, G4⟩, N4⟩⟩, by simp [intOf]; omega⟩
        rw [HE.out]
        unfold PR
        rw [List.length_append, pcells_append]
        exact hown4
    · obtain rfl : i = l.length := by omega
      go_wp2
      go_ret
      have e := HM.out
      rw [List.take_length] at e
      exact ⟨_, rfl, ⟨g, cg, by rw [e]; rfl, by rw [e]; exact HG.out, hgs⟩, HN.out⟩
end Go.Proofs.Ytmlnjheiogmlaaa
