/-
The law's small functions: whether a number is among others, how many keys there are, one that waits; conditions: the rows lie in memory as told.
-/
import Derived.Test.YtmlnjheiogmlaaaQueueS
namespace Go.Proofs.Ytmlnjheiogmlaaa
open Go.RowKit Go.Lib Go.Proofs.Ytmlnjheiogmlaaa.F Go.Proofs.Ytmlnjheiogmlaaa.Pure Go.Proofs.YtmlnjheiogmlaaaW.PrintWords
/-- Numbers that lie in a row, whose block is none of F. -/
def NumRow (F : Nat → Prop) (A : Option Addr) (x : List Nat) (w : World) : Prop :=
  x ≠ [] → ∃ b off, A = some ⟨b, off, none⟩ ∧ b < w.heap.size ∧ ¬ F b ∧ ∀ (i : Nat) v, x[i]? = some v → w.cell? ⟨b, off + i, none⟩ = some (.int .u64 (v : Int))
theorem NumRow.kept {F : Nat → Prop} {A : Option Addr} {x : List Nat} {w w' : World} (h : NumRow F A x w) (hk : Kept F w w') : NumRow F A x w' := fun hx => by
  obtain ⟨b, off, h1, h2, h3, h4⟩ := h hx
  exact ⟨b, off, h1, Nat.lt_of_lt_of_le h2 hk.size, h3, fun i v hv => (World.cell?_of_block (w := w) (hk.block b h2 h3)).trans (h4 i v hv)⟩
theorem NumRow.new {F : Nat → Prop} {A : Option Addr} {x : List Nat} {w w' : World} (h : NumRow F A x w) (hk : New w w') : NumRow F A x w' := h.kept (hk.mono fun _ _ e => e.elim)
theorem NumRow.less {F F' : Nat → Prop} {A : Option Addr} {x : List Nat} {w : World} (h : NumRow F A x w) (hF : ∀ b, F' b → F b) : NumRow F' A x w := fun hx => by
  obtain ⟨b, off, h1, h2, h3, h4⟩ := h hx
  exact ⟨b, off, h1, h2, fun e => h3 (hF b e), h4⟩
theorem NumRow.nil (F : Nat → Prop) (A : Option Addr) (w : World) : NumRow F A [] w := fun h => absurd rfl h
theorem NumRow.tail {F : Nat → Prop} {b off v : Nat} {r : List Nat} {w : World} (h : NumRow F (some ⟨b, off, none⟩) (v :: r) w) : NumRow F (some ⟨b, off + 1, none⟩) r w := fun _ => by
  obtain ⟨b', off', h1, h2, h3, h4⟩ := h (by simp)
  simp only [Option.some.injEq, Addr.mk.injEq] at h1
  obtain ⟨rfl, rfl, _⟩ := h1
  exact ⟨b, off + 1, rfl, h2, h3, fun i u hu => by have := h4 (i + 1) u (by simpa using hu); rwa [show off + 1 + i = off + (i + 1) by omega]⟩
set_option maxHeartbeats 800000 in
theorem has_any {F : Nat → Prop} {A : Option Addr} {x : List Nat} {c n : Nat} {w : World} (h : NumRow F A x w) (hl : x.length < 1000000) :
    Calls Try.prog 10 #[.slice A x.length c, .int .u64 (n : Int)] w fun e w' => e = .returned (.bool (decide (n ∈ x))) ∧ w = w' := by
  have H := hid h
  obtain ⟨r, hr⟩ : ∃ r, decide (n ∈ x) = r := ⟨_, rfl⟩
  have HR := hid hr
  rw [hr]
  clear h hr
  go_enter Try.func10, Try.ntmps10
  go_wp2
  go_loop [5] (fun v5 => ∃ i : Nat, v5 = .int .i64 (i : Int) ∧ i ≤ x.length ∧ Hid (n ∉ x.take i)) (fun v5 => x.length - (intOf v5).toNat)
  case atStart => exact ⟨0, rfl, Nat.zero_le _, by simp [Hid]⟩
  case round =>
    obtain ⟨i, rfl, hi, HN⟩ := hrel
    by_cases hlt : i < x.length
    · obtain ⟨b, off, rfl, -, -, h4⟩ := H.out (by intro e; subst e; simp at hlt)
      have hc := h4 i x[i] (List.getElem?_eq_getElem hlt)
      clear h4 H
      have hst : x.take (i + 1) = x.take i ++ [x[i]] := List.take_succ_eq_append_getElem hlt
      by_cases he : x[i] = n
      · have hb : ((x[i] : Int) == (n : Int)) = true := by simp [he]
        have hv : r = true := HR.out.symm.trans (decide_eq_true (he ▸ List.getElem_mem hlt))
        subst hv
        clear hst HR HN
        generalize x[i] = p at *
        go_wp2
        go_ret
        exact ⟨rfl, rfl⟩
      · have hb : ((x[i] : Int) == (n : Int)) = false := by simp; omega
        have hn : Hid (n ∉ x.take (i + 1)) := by
          unfold Hid
          rw [hst, List.mem_append, List.mem_singleton]
          exact fun e => e.elim HN.out (fun e => he e.symm)
        clear hst HN he
        generalize x[i] = p at *
        go_wp2
        go_round
        case rel => exact ⟨i + 1, by go_num, by omega, hn⟩
        case measure => simp [intOf]; omega
    · have hv : r = false := by
        have := HN.out
        rw [List.take_of_length_le (by omega)] at this
        exact HR.out.symm.trans (decide_eq_false this)
      subst hv
      clear HN H
      go_wp2
      go_ret
      exact ⟨rfl, rfl⟩
theorem KVs.len {g : Nat} {F : Nat → Prop} {l : List (ByteArray × ByteArray)} {w : World} (h : KVs g F l w) :
    Calls Try.prog 13 #[.pointer (some ⟨g, 0, none⟩)] w fun e w' => e = .returned (.int .i64 (l.length : Int)) ∧ w = w' := by
  obtain ⟨⟨vk, vt, h1, _⟩, _⟩ := h
  obtain ⟨ak, ck, rfl, _, _, _⟩ := owns_cells h1.ks
  have c0 : w.cell? ⟨g, 0, none⟩ = some (.slice ak l.length ck) := (cell_at h1.blk 0).trans rfl
  clear h1
  go_enter Try.func13, Try.ntmps13
  go_wp2
  go_ret
  exact ⟨rfl, rfl⟩
theorem fresh_at {w : World} {n : Nat} (hn : w.heap.size = n) : KVat n (.slice none 0 0) (.slice none 0 0) [] (w.alloc (.cells #[.slice none 0 0, .slice none 0 0] 26)) :=
  ⟨blk_at _ _ hn, ⟨rfl, .inl ⟨rfl, rfl⟩⟩, ⟨rfl, .inl ⟨rfl, rfl⟩⟩, by simp [Value.ownBlock], by simp [Value.ownBlock], by simp [Value.ownBlock]⟩
/-- Keys and texts that are new, in whatever later world. -/
theorem KVs.start {w W : World} {g : Nat} {F : Nat → Prop} (hg : w.heap.size = g) (hn : New (w.alloc (.cells #[.slice none 0 0, .slice none 0 0] 26)) W) (hF : F g) (hu : ∀ b, W.heap.size ≤ b → F b) : KVs g F [] W := by
  refine ⟨⟨_, _, (fresh_at hg).kept hn fun _ _ => id, ?_⟩, hu⟩
  rintro b (rfl | e | e)
  · exact hF
  · cases e
  · cases e
theorem que_lt {q g : Nat} {nm : ByteArray} {w : World} (h : Que q g nm w) : q < w.heap.size := blk_lt h.blk
theorem QS.push5 {c : UInt8} {q g : Nat} {F : Nat → Prop} {w : World} (h : QS c q g 0 [] F [] w) :
    Calls Try.prog 9 #[.pointer (some ⟨q, 0, none⟩), .int .u64 5] w fun e w' => e = .returned (.tuple #[.bool true, .int .i64 0]) ∧ ∃ kv', QS c q g 0 [5] F kv' w' ∧ Kept F w w' ∧ kv'.length < 990 := by
  refine (h.push (n := 5) (by decide) (by decide) (by decide) (by simp)).mono ?_
  rintro e w' ⟨rfl, kv, h1, h2, _, h3⟩
  exact ⟨rfl, kv, h1, h2, by simp at h3; omega⟩
theorem QS.pop5 {c : UInt8} {q g : Nat} {F : Nat → Prop} {kv : List (ByteArray × ByteArray)} {w : World} (h : QS c q g 0 [5] F kv w) (hl : kv.length < 990) :
    Calls Try.prog 11 #[.pointer (some ⟨q, 0, none⟩)] w fun e w' => e = .returned (.tuple #[.int .u64 5, .bool true, .int .i64 0]) ∧ Kept F w w' := by
  refine (h.pop hl).mono ?_
  rintro e w' ⟨rfl, _, _, _, h2, _⟩
  exact ⟨rfl, h2⟩
set_option maxHeartbeats 1600000 in
theorem queue_awake (w : World) : Calls Try.prog 12 #[] w fun e w' => e = .returned (.bool true) ∧ Below w.heap.size w w' := by
  go_enter Try.func12, Try.ntmps12
  go_wp2_with (first | (go_at_call 8; (with_reducible refine que_new.mono ?_); rintro e w1 ⟨q, rfl, hq, hle, hb1⟩; have hlt := hid (que_lt hq); have hN := new_of_below hb1; have hS : QS 113 q w.heap.size 0 [] (fun b => w.heap.size ≤ b ∧ b ≠ q) [] w1 := ⟨hq, KVs.start rfl hN ⟨Nat.le_refl _, by simp at hle; omega⟩ (fun b hb => ⟨by have := hb1.size; simp at this; omega, by have := hlt.out; omega⟩), List.nodup_nil, QI.start _, fun e => e.2 rfl, by decide, by decide⟩; have B1 := below_step (below_alloc (Below.refl w.heap.size w) _) hb1) | (go_at_call 9; (with_reducible refine hS.push5.mono ?_); rintro e w2 ⟨rfl, kv2, hS2, hK2, hl2⟩) | (go_at_call 11; (with_reducible refine (hS2.pop5 hl2).mono ?_); rintro e w3 ⟨rfl, hK3⟩))
  go_ret
  exact ⟨rfl, B1.trans ((hK2.trans hK3).below B1.size fun x e => e.1)⟩
end Go.Proofs.Ytmlnjheiogmlaaa
