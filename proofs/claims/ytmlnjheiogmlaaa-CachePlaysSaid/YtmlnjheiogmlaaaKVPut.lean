/-
KV.Put: a key is let have a text, in two rows behind a pointer; conditions: the rows lie in memory as told.
-/
import Derived.Test.YtmlnjheiogmlaaaMem
import Derived.Deep.RegionHeldLaw
import Derived.Deep.RegionLaw
import Derived.BigRegion
namespace Go.Proofs.Ytmlnjheiogmlaaa
open Go.RowKit Go.Lib
theorem Try.info9 : (Try.prog.info? 9).map (fun i => (i.zero, i.size, i.bytes)) = some (some (.string ⟨#[]⟩), 1, 16) := by kernel_rfl
set_option maxHeartbeats 16000000 in
set_option maxRecDepth 100000 in
theorem KV_Put {g : Nat} {vk vt : Value} {l : List (ByteArray × ByteArray)} {w : World} (k t : ByteArray) (h : KVat g vk vt l w) (hs : l.length < 1000000) :
    Calls Try.prog 92 #[.pointer (some ⟨g, 0, none⟩), .string k, .string t] w fun e w' => e = .returned (.int .i64 0) ∧ Puts g vk vt (kvPut l k t) w w' := by
  obtain ⟨ak, ck, rfl, _, _, hak⟩ := owns_cells h.ks
  obtain ⟨at_, ct, rfl, _, _, hat⟩ := owns_cells h.ts
  have c0 : w.cell? ⟨g, 0, none⟩ = some (.slice ak l.length ck) := (cell_at h.blk 0).trans rfl
  have c1 : w.cell? ⟨g, 0 + 1, none⟩ = some (.slice at_ l.length ct) := (cell_at h.blk 1).trans rfl
  obtain ⟨v, hv⟩ : ∃ v, kvPut l k t = v := ⟨_, rfl⟩
  have HV := hid hv
  rw [hv]
  have H := hid h
  clear h hv
  have hk := hid hak
  have ht := hid hat
  clear hak hat
  obtain ⟨i0, hi0, hz0, hz1, hz2⟩ := info_parts Try.info9
  go_enter Try.func92, Try.ntmps92
  go_wp2
  go_loop [7] (fun q => ∃ i : Nat, q = .int .i64 i ∧ i ≤ l.length ∧ Hid (∀ j (hj : j < i) (hl : j < l.length), l[j].1 ≠ k)) (fun q => l.length - (intOf q).toNat)
  case atStart => exact ⟨0, rfl, Nat.zero_le _, hid (fun j hj => absurd hj (Nat.not_lt_zero _))⟩
  case round =>
    obtain ⟨i, rfl, hi, HN⟩ := hrel
    by_cases hlt : i < l.length
    · obtain ⟨bk, rfl, -, -, hbk⟩ := hk.out (by omega)
      obtain ⟨bt, rfl, hob, -, hbt⟩ := ht.out (by omega)
      have k1 := (hbk i (.string l[i].1) (by simp [hlt])).1
      have t1 := (hbt i (.string l[i].2) (by simp [hlt])).1
      have t2 := (hbt i (.string l[i].2) (by simp [hlt])).2
      by_cases he : l[i].1 = k
      · have hq := str_eq he
        have hv : v = l.set i (l[i].1, t) := HV.out.symm.trans (kvPut_at l k t i hlt (fun j hj => HN.out j hj (by omega)) he)
        have hP := hid (H.out.store hob hlt t)
        rw [← hv] at hP
        clear he hbk hbt HV hv
        generalize l[i] = p at *
        go_wp2
        go_ret
        exact ⟨rfl, _, _, hP.out, (Kept.refl _ _).setCell (.inl (.inr (.inr hob))) _, fun b hb => .inl hb⟩
      · have hq := str_ne he
        have hn : Hid (∀ j (hj : j < i + 1) (hl : j < l.length), l[j].1 ≠ k) := fun j hj hl => by
          rcases Nat.lt_succ_iff_lt_or_eq.1 hj with hj | rfl
          · exact HN.out j hj hl
          · exact he
        generalize l[i] = p at *
        clear he hbk hbt
        go_wp2
        go_round
        case rel => exact ⟨i + 1, by go_num, by omega, hn⟩
        case measure => simp [intOf]; omega
    · have hv : v = l ++ [(k, t)] := HV.out.symm.trans (kvPut_none l k t fun j hj => HN.out j (by omega) hj)
      subst hv
      have HK : w.ownsRow 0 9 1 (.slice ak l.length ck) l.length (l.map fun p => .string p.1) := H.out.ks
      have e0 : ∀ o, (w.alloc o).cell? ⟨g, 0, none⟩ = some (.slice ak l.length ck) := fun o => (cell_at (blk_alloc H.out.blk o) 0).trans rfl
      have e1 : ∀ o, (w.alloc o).cell? ⟨g, 1, none⟩ = some (.slice at_ l.length ct) := fun o => (cell_at (blk_alloc H.out.blk o) 1).trans rfl
      have f0 : ∀ o o', ((w.alloc o).alloc o').cell? ⟨g, 0, none⟩ = some (.slice ak l.length ck) := fun o o' => (cell_at (blk_alloc (blk_alloc H.out.blk o) o') 0).trans rfl
      have f1 : ∀ o o', ((w.alloc o).alloc o').cell? ⟨g, 1, none⟩ = some (.slice at_ l.length ct) := fun o o' => (cell_at (blk_alloc (blk_alloc H.out.blk o) o') 1).trans rfl
      clear hk ht HV HN
      go_wp2
      go_region_law (first | (refine step_append_lies _ rfl (.tmp 38) (.tmp 40) 24 rfl 0 9 i0 (.string ⟨#[]⟩) 1 16 Try.underlying24 hi0 hz0 hz1 hz2 rfl (by decide) _ _ _ rfl (by first | exact HK | exact World.ownsRow.alloc HK _ | exact World.ownsRow.alloc (World.ownsRow.alloc HK _) _) _ 1 1 [.string k] rfl rfl (by first | exact World.news_of_block (blk_drew (blk_at _ _ (by simp))) | exact World.news_of_block (blk_drew (blk_alloc (blk_at _ _ (by simp)) _))) (by intro u hu; simp at hu; subst hu; rfl) (by decide) (by unfold maxLen; omega) (by omega) (Nat.zero_le _) _ rfl ?_; intro gk capk w1 hown1 hgrow1 hat1 hlt1; have P1 := Put1.mk' H.out (by repeat (first | exact Kept.refl _ _ | apply Kept.drew | apply Kept.alloc)) hgrow1 hown1 hat1 rfl; have N1 := Put1.new H.out hgrow1; have d1 := P1.load; have d1' := fun o => (P1.alloc o).load; clear hown1 hgrow1 hat1 hlt1) | (refine step_append_lies _ rfl (.tmp 45) (.tmp 47) 24 rfl 0 9 i0 (.string ⟨#[]⟩) 1 16 Try.underlying24 hi0 hz0 hz1 hz2 rfl (by decide) _ _ _ rfl (by first | exact P1.ts | exact World.ownsRow.alloc P1.ts _) _ 1 1 [.string t] rfl rfl (by first | exact World.news_of_block (blk_at _ _ (by simp)) | exact World.news_of_block (N1 _ _ (by simp) (blk_drew (blk_at _ _ (by simp)))) | exact World.news_of_block (N1 _ _ (by simp) (blk_drew (blk_alloc (blk_at _ _ (by simp)) _)))) (by intro u hu; simp at hu; subst hu; rfl) (by decide) (by unfold maxLen; omega) (by omega) (Nat.zero_le _) _ rfl ?_; intro gt capt w2 hown2 hgrow2 hat2 hlt2; have P2 := Put1.two H.out (by first | exact P1 | exact P1.alloc _) hgrow2 hown2 hat2 rfl; obtain ⟨d2, d3, d4, d5⟩ := P2.load; clear hown2 hgrow2 hat2 hlt2))
      all_goals
        go_wp2
        go_ret
        exact ⟨rfl, P2.done H.out⟩
end Go.Proofs.Ytmlnjheiogmlaaa
