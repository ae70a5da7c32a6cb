/-
QueueStays: what waits is in the keys alone, and the Go call of the law answers true; conditions: the numbers lie in memory as told.
-/
import Derived.Test.YtmlnjheiogmlaaaQueueL
import Derived.OpenShut
namespace Go.Proofs.Ytmlnjheiogmlaaa
open Go.RowKit Go.Lib Go.Proofs.Ytmlnjheiogmlaaa.F Go.Proofs.Ytmlnjheiogmlaaa.Pure Go.Proofs.YtmlnjheiogmlaaaW.PrintWords
theorem Try.info29 : (Try.prog.info? 29).map (fun i => (i.zero, i.size, i.bytes)) = some (some (.int .u64 0), 1, 8) := by kernel_rfl
theorem KVs.keep {g : Nat} {F G : Nat → Prop} {l : List (ByteArray × ByteArray)} {w w' : World} (h : KVs g F l w) (hk : Kept G w w') (hG : ∀ b, G b → ¬ F b) : KVs g F l w' := by
  obtain ⟨⟨vk, vt, h1, h2⟩, h3⟩ := h
  exact ⟨⟨vk, vt, h1.kept hk fun b hb hg => hG b hg (h2 b hb), h2⟩, fun b hb => h3 b (Nat.le_trans hk.size hb)⟩
theorem KVs.less {g r : Nat} {F : Nat → Prop} {l : List (ByteArray × ByteArray)} {w w' : World} (h : KVs g F l w) (hn : Kept (fun b => ¬ F b) w w') (h1 : w.heap.size ≤ r) (h2 : r < w'.heap.size) : KVs g (fun b => F b ∧ b ≠ r) l w' := by
  have h' := h.keep hn fun _ e => e
  obtain ⟨⟨vk, vt, h3, h4⟩, h5⟩ := h
  obtain ⟨_, h6⟩ := h'
  refine ⟨⟨vk, vt, h3.kept hn fun b hb e => e (h4 b hb), fun b hb => ⟨h4 b hb, ?_⟩⟩, fun b hb => ⟨h6 b hb, by omega⟩⟩
  have : b < w.heap.size := by
    rcases hb with rfl | hb | hb
    · exact blk_lt h3.blk
    · exact own_lt h3.ks hb
    · exact own_lt h3.ts hb
  omega
/-- What the law keeps: a queue in which y waits, and the numbers x in a row of its own. -/
structure LS (w0 : World) (c : UInt8) (q g a : Nat) (y x : List Nat) (v : Value) (F : Nat → Prop) (kv : List (ByteArray × ByteArray)) (W : World) : Prop where
  qs : QS c q g a y F kv W
  own : W.ownsRow 0 29 1 v x.length (x.map fun n : Nat => Value.int .u64 (n : Int))
  nf : ∀ b, v.ownBlock = some b → ¬ F b ∧ w0.heap.size ≤ b ∧ b ≠ q
  base : ∀ b, F b → w0.heap.size ≤ b
  below : Below w0.heap.size w0 W
theorem LS.new {w0 : World} {c : UInt8} {q g a : Nat} {y x : List Nat} {v : Value} {F : Nat → Prop} {kv : List (ByteArray × ByteArray)} {W W' : World} (h : LS w0 c q g a y x v F kv W) (hn : New W W') : LS w0 c q g a y x v F kv W' :=
  ⟨h.qs.new hn, owns_kept hn h.own fun _ _ => id, h.nf, h.base, h.below.trans (hn.below h.below.size fun _ e => e.elim)⟩
theorem LS.turn {w0 : World} {c : UInt8} {q g a a' : Nat} {y y' x : List Nat} {v : Value} {F : Nat → Prop} {kv kv' : List (ByteArray × ByteArray)} {W W' : World} (h : LS w0 c q g a y x v F kv W) (hq : QS c q g a' y' F kv' W') (hK : Kept F W W') : LS w0 c q g a' y' x v F kv' W' :=
  ⟨hq, owns_kept hK h.own fun b hb => (h.nf b hb).1, h.nf, h.base, h.below.trans (hK.below h.below.size h.base)⟩
theorem LS.app {w0 : World} {c : UInt8} {q g a n r cap : Nat} {y x : List Nat} {v : Value} {F : Nat → Prop} {kv : List (ByteArray × ByteArray)} {W w1 : World} {o : Obj} (h : LS w0 c q g a y x v F kv W) (hg : (W.alloc o).grownBy w1 v.ownBlock)
    (ho : w1.ownsRow 0 29 1 (.slice (some ⟨r, 0, none⟩) (x.length + 1) cap) (x.length + 1) ((x.map fun n : Nat => Value.int .u64 (n : Int)) ++ [.int .u64 (n : Int)])) (hat : v.ownBlock = some r ∨ r = W.heap.size + 1) (hlt : r < w1.heap.size) :
    ∃ F', LS w0 c q g a y (x ++ [n]) (.slice (some ⟨r, 0, none⟩) (x.length + 1) cap) F' kv w1 := by
  have hq := que_lt h.qs.que
  have kk : Kept (fun b => v.ownBlock = some b) W w1 := ((Kept.refl _ _).alloc o).grown hg fun k e => .inl e
  have ow : w1.ownsRow 0 29 1 (.slice (some ⟨r, 0, none⟩) (x.length + 1) cap) (x ++ [n]).length ((x ++ [n]).map fun n : Nat => Value.int .u64 (n : Int)) := by
    rw [List.length_append, List.map_append]; exact ho
  have bel : Below w0.heap.size w0 w1 := h.below.trans (kk.below h.below.size fun b hb => (h.nf b hb).2.1)
  rcases hat with hat | hat
  · refine ⟨F, ⟨⟨h.qs.que.kept kk fun e => (h.nf q e).2.2 rfl, h.qs.kvs.keep kk fun b hb => (h.nf b hb).1, h.qs.once, h.qs.qi, h.qs.out, h.qs.few, h.qs.low⟩, ow, ?_, h.base, bel⟩⟩
    intro b hb
    have : r = b := by simpa [Value.ownBlock] using hb
    exact this ▸ h.nf r hat
  · refine ⟨fun b => F b ∧ b ≠ r, ⟨⟨h.qs.que.kept kk fun e => (h.nf q e).2.2 rfl, ?_, h.qs.once, h.qs.qi, fun e => h.qs.out e.1, h.qs.few, h.qs.low⟩, ow, ?_, fun b hb => h.base b hb.1, bel⟩⟩
    · exact h.qs.kvs.less (kk.mono fun b _ hb => (h.nf b hb).1) (by omega) hlt
    · intro b hb
      have : r = b := by simpa [Value.ownBlock] using hb
      subst this
      exact ⟨fun e => e.2 rfl, by have := h.below.size; omega, by omega⟩
theorem LS.row {w0 : World} {c : UInt8} {q g a : Nat} {y x : List Nat} {v : Value} {F : Nat → Prop} {kv : List (ByteArray × ByteArray)} {W : World} (h : LS w0 c q g a y x v F kv W) : ∃ A cap, v = .slice A x.length cap ∧ NumRow F A x W := by
  obtain ⟨A, cap, hv, _, _, hr⟩ := owns_cells h.own
  refine ⟨A, cap, hv, fun hx => ?_⟩
  obtain ⟨b, hA, hb, hl, hc⟩ := hr (List.length_pos_iff.2 hx)
  exact ⟨b, 0, hA, hl, (h.nf b hb).1, fun i u hu => by rw [Nat.zero_add]; exact (hc i _ (by simp [hu])).1⟩
theorem LS.nums {w0 : World} {c : UInt8} {q g a cp : Nat} {y x : List Nat} {B : Option Addr} {F : Nat → Prop} {kv : List (ByteArray × ByteArray)} {W : World} (h : LS w0 c q g a y x (.slice B x.length cp) F kv W) : NumRow F B x W := by
  obtain ⟨A, cap, h1, h2⟩ := h.row
  simp only [Value.slice.injEq] at h1
  rw [h1.1]
  exact h2
/-- Numbers that came in. -/
def ArgRow (A : Option Addr) (zs : List Int) (w : World) : Prop :=
  zs ≠ [] → ∃ b off, A = some ⟨b, off, none⟩ ∧ b < w.heap.size ∧ ∀ (i : Nat) v, zs[i]? = some v → w.cell? ⟨b, off + i, none⟩ = some (.int .u64 v)
theorem arg_row {x : Addr} {len cap : Nat} {zs : List Int} {w : World} (hl : len ≤ cap) (hz : zs.length = cap) (hc : ∀ i, i < zs.length → w.cell? (x.add i) = some (.int .u64 (zs.getD i 0))) : ArgRow (some x) (zs.take len) w ∧ (zs.take len).length = len := by
  refine ⟨fun hne => ?_, by rw [List.length_take]; omega⟩
  have hlen : 0 < len := by
    rcases Nat.eq_zero_or_pos len with h | h
    · subst h; simp at hne
    · exact h
  obtain ⟨b, off, rfl, hcc⟩ := ints_at hc (by omega)
  have h0 := World.block_lt_of_cell? w _ (hcc 0 (by omega))
  refine ⟨b, off, rfl, h0, fun i v hv => ?_⟩
  rw [List.getElem?_take] at hv
  split at hv
  · have := hcc i (by omega)
    rw [this, List.getD_eq_getElem?_getD, hv]
    rfl
  · cases hv

theorem and_range_u (x : Int) (m : Nat) (hm : m < 18446744073709551616) : ∃ n : Nat, Go.bits .and .u64 x m = (n : Int) ∧ n ≤ m := by
  have hlt : ((BitVec.ofInt 64 x) &&& (BitVec.ofInt 64 (m : Int))).toNat ≤ m := by
    rw [BitVec.toNat_and, BitVec.ofInt_natCast, BitVec.toNat_ofNat, Nat.mod_eq_of_lt (by omega)]
    exact Nat.and_le_right
  have e : Go.bits .and .u64 x m = (((BitVec.ofInt 64 x) &&& (BitVec.ofInt 64 (m : Int))).toNat : Int) % 18446744073709551616 := by
    unfold Go.bits
    rw [IntKind.wrap_u64]
    rfl
  rw [e]
  generalize ((BitVec.ofInt 64 x) &&& (BitVec.ofInt 64 (m : Int))).toNat = c at *
  exact ⟨c, by omega, hlt⟩
/-- There are no keys but the queue's own. -/
def Only (c : UInt8) (kv : List (ByteArray × ByteArray)) : Prop := ∀ k, ¬ IsKey c k → kvGet kv k = nothing
theorem Only.apart {c : UInt8} {kv kv' : List (ByteArray × ByteArray)} (h : Only c kv) (ha : Apart c kv kv') : Only c kv' := fun k hk => (ha k hk).trans (h k hk)
theorem Only.empty {c : UInt8} {q g a : Nat} {F : Nat → Prop} {kv : List (ByteArray × ByteArray)} {w : World} (h : Only c kv) (hq : QS c q g a [] F kv w) : kv = [] :=
  empty_of fun k => by
    by_cases hk : IsKey c k
    · exact hq.qi.empty hk
    · exact h k hk
theorem LS.renew {w0 : World} {c : UInt8} {q q2 g a : Nat} {y x : List Nat} {v : Value} {F : Nat → Prop} {kv : List (ByteArray × ByteArray)} {W W' : World} (h : LS w0 c q g a y x v F kv W) (hn : New W W') (hq : Que q2 g (nmOf c) W') (hle : W.heap.size ≤ q2) :
    ∃ F', LS w0 c q2 g a y x v F' kv W' := by
  have h' := h.new hn
  refine ⟨fun b => F b ∧ b ≠ q2, ⟨hq, h.qs.kvs.less (hn.mono fun _ _ e => e.elim) hle (que_lt hq), h.qs.once, h.qs.qi, fun e => e.2 rfl, h.qs.few, h.qs.low⟩, h'.own, fun b hb => ⟨fun e => (h.nf b hb).1 e.1, (h.nf b hb).2.1, ?_⟩, fun b hb => h.base b hb.1, h'.below⟩
  have := own_lt h.own hb
  omega
theorem fresh_queue {w w1 : World} {q n : Nat} {c : UInt8} (hn : w.heap.size = n) (o : Obj) (hb : Below ((w.alloc (.cells #[.slice none 0 0, .slice none 0 0] 26)).alloc o).heap.size ((w.alloc (.cells #[.slice none 0 0, .slice none 0 0] 26)).alloc o) w1) (hq : Que q n (nmOf c) w1) (hle : ((w.alloc (.cells #[.slice none 0 0, .slice none 0 0] 26)).alloc o).heap.size ≤ q) :
    QS c q n 0 [] (fun b => n ≤ b ∧ b ≠ q ∧ b ≠ n + 1) [] w1 := by
  have hs := hb.size
  simp at hle hs
  have hlt := que_lt hq
  exact ⟨hq, KVs.start hn (((Kept.refl _ _).alloc o).trans (new_of_below hb)) ⟨Nat.le_refl _, by omega, by omega⟩ (fun b hb => ⟨by omega, by omega, by omega⟩), List.nodup_nil, QI.start c, fun e => e.2.1 rfl, by decide, by decide⟩
set_option maxHeartbeats 3200000 in
set_option maxRecDepth 100000 in
theorem queueStays_walk (A : Option Addr) (cap : Nat) (zs : List Int) (many : Int) (w : World) (hA : ArgRow A zs w) :
    Calls Try.prog 3 #[.slice A zs.length cap, .int .i64 many] w fun e w' => e = .returned (.bool true) ∧ Below w.heap.size w w' := by
  obtain ⟨i0, hi0, hz0, hz1, hz2⟩ := info_parts Try.info29
  have HA := hid hA
  clear hA
  go_enter Try.func3, Try.ntmps3
  go_wp2_with (go_at_call 8; (with_reducible refine que_new.mono ?_); rintro e w1 ⟨q, rfl, hq, hle, hb1⟩)
  have hQ := fresh_queue rfl _ hb1 hq hle
  have hsz := hb1.size
  have hqlt := que_lt hq
  simp at hle hsz
  have hL0 : LS w 110 q w.heap.size 0 [] [] (.slice (some ⟨w.heap.size + 1, 0, none⟩) 0 0) (fun b => w.heap.size ≤ b ∧ b ≠ q ∧ b ≠ w.heap.size + 1) [] w1 := by
    refine ⟨hQ, owns_kept (new_of_below hb1) (own_empty (blk_at _ _ (by simp))) fun _ _ => id, ?_, fun b hb => hb.1, below_step (below_alloc (below_alloc (Below.refl _ _) _) _) hb1⟩
    intro b hb
    have : w.heap.size + 1 = b := by simpa [Value.ownBlock] using hb
    subst this
    exact ⟨fun e => e.2.2 rfl, by omega, by omega⟩
  have HL0 := hid hL0
  clear hQ hsz hqlt hle hL0 hq
  go_loopw [6, 8] (fun v6 v8 wr => ∃ (i : Nat) (x : List Nat) (B : Option Addr) (c : Nat), v8 = .int .i64 (i : Int) ∧ v6 = .slice B x.length c ∧ i ≤ 40 ∧ i ≤ zs.length ∧ x.length ≤ i ∧ Hid (∃ F kv, LS w 110 q w.heap.size 0 x x (.slice B x.length c) F kv wr ∧ kv.length ≤ 6 * i ∧ Only 110 kv ∧ ∀ n ∈ x, n ≤ 1023)) (fun _ v8 _ => 40 - (intOf v8).toNat)
  case atStart => exact ⟨0, [], _, _, rfl, rfl, by omega, by omega, by simp, hid ⟨_, _, HL0.out, by simp, fun k _ => rfl, by simp⟩⟩
  case round =>
    obtain ⟨i, x, B, c, rfl, rfl, hi1, hi2, hx, HR⟩ := hrel
    clear HL0
    obtain ⟨F, kv, hL, hkl, hon, hsm⟩ := HR.out
    have HON := hid hon
    clear hon
    clear HR
    by_cases hgo : i < zs.length ∧ i < 40
    · obtain ⟨hlt, hlt2⟩ := hgo
      · obtain ⟨b, off, rfl, hbl, hz⟩ := HA.out (by intro e; subst e; simp at hlt)
        have hcz := (hL.below.cell (p := ⟨b, off + i, none⟩) hbl).trans (hz i zs[i] (List.getElem?_eq_getElem hlt))
        generalize zs[i] = z at hcz
        obtain ⟨nn, hnn, hnl⟩ := and_range_u z 1023 (by decide)
        have hnn' : Go.bits .and .u64 z 1023 = (nn : Int) := hnn
        have hme : Hid (40 - ((i : Int) + 1).toNat < 40 - (i : Int).toNat) := by unfold Hid; omega
        have hL' := hid hL
        by_cases hm : nn ∈ x
        · have hhas := hid (fun (W : World) (hW : New wr W) => has_any (c := c) (n := nn) (hL.nums.new hW) (by omega))
          rw [decide_eq_true hm] at hhas
          have hpush := hid (hL.qs.push_no (n := nn) (by omega) hm)
          clear hL hnn hz hm
          go_wp2_with (first | (go_at_call 9; (with_reducible refine hpush.out.mono ?_); rintro e w2 ⟨rfl, hb2⟩; have N2 := new_of_below hb2) | (go_at_call 10; (with_reducible refine (hhas.out _ N2).mono ?_); rintro e w3 ⟨rfl, rfl⟩))
          exact ⟨⟨i + 1, x, B, c, by go_num, rfl, by omega, by omega, by omega, hid ⟨F, kv, hL'.out.new N2, by omega, HON.out, hsm⟩⟩, hme.out⟩
        · have hhas := hid (fun (F' : Nat → Prop) (W : World) (hW : NumRow F' B x W) => has_any (c := c) (n := nn) hW (by omega))
          rw [decide_eq_false hm] at hhas
          have hpush := hid (hL.qs.push (by omega) (by omega) (n := nn) (by omega) hm)
          have hnums := hid hL.nums
          clear hL hnn hz hm
          go_wp2_with (first | (go_at_call 9; (with_reducible refine hpush.out.mono ?_); rintro e w2 ⟨rfl, kv2, hq2, hK2, hap2, hl2⟩; have ON2 := hid (HON.out.apart hap2); clear hap2; have L2 := hid (hL'.out.turn hq2 hK2); have hn2 := hid (hnums.out.kept hK2)) | (go_at_call 10; (with_reducible refine (hhas.out _ _ hn2.out).mono ?_); rintro e w3 ⟨rfl, rfl⟩) | (at_builtin; refine wpList_append_lies _ rfl (.tmp 45) (.tmp 47) 22 rfl 0 29 i0 (.int .u64 0) 1 8 Try.underlying22 hi0 hz0 hz1 hz2 rfl (by decide) _ _ _ rfl (World.ownsRow.alloc L2.out.own _) ⟨w2.heap.size, 0, none⟩ 1 1 [.int .u64 (nn : Int)] rfl rfl (cell_one_new _ _ _) (by intro u hu; simp at hu; subst hu; rfl) (by decide) (by unfold maxLen; omega) (by omega) (Nat.zero_le _) _ rfl ?_; intro r capr w5 hown hgrow hat hlt5; obtain ⟨F5, hL5⟩ := L2.out.app hgrow hown (hat.imp id fun e => e.trans (by simp)) hlt5; have HL5 := hid hL5; clear hL5 hown hgrow hat hlt5))
          refine ⟨⟨i + 1, x ++ [nn], some ⟨r, 0, none⟩, capr, by go_num, by simp, by omega, by omega, by simp; omega, hid ⟨F5, kv2, ?_, by omega, ON2.out, ?_⟩⟩, hme.out⟩
          · have := HL5.out; simpa using this
          · intro n hn
            rcases List.mem_append.1 hn with hn | hn
            · exact hsm n hn
            · rw [List.mem_singleton.1 hn]; exact hnl
    · have HL := hid (⟨F, kv, hL, by omega, HON.out⟩ : ∃ F kv, LS w 110 q w.heap.size 0 x x (.slice B x.length c) F kv wr ∧ kv.length ≤ 240 ∧ Only 110 kv)
      have hx40 : x.length ≤ 40 := by omega
      clear hL hkl HON hsm
      rcases (by omega : ¬ i < zs.length ∨ (i < zs.length ∧ ¬ i < 40)) with hgo1 | ⟨hgo1, hgo2⟩
      all_goals clear hgo
      all_goals go_wp2
      all_goals go_loopw [7, 10] (fun v7 v10 ws => ∃ (j q2 : Nat), v7 = .pointer (some ⟨q2, 0, none⟩) ∧ v10 = .int .i64 (j : Int) ∧ j ≤ x.length ∧ Hid (∃ a F kv, LS w 110 q2 w.heap.size a (x.drop j) x (.slice B x.length c) F kv ws ∧ kv.length ≤ 240 + 6 * j ∧ Only 110 kv)) (fun _ v10 _ => x.length - (intOf v10).toNat)
      case atStart =>
        obtain ⟨F, kv, h1, h2, h3⟩ := HL.out
        exact ⟨0, q, rfl, rfl, by omega, hid ⟨0, F, kv, by simpa using h1, by omega, h3⟩⟩
      case atStart =>
        obtain ⟨F, kv, h1, h2, h3⟩ := HL.out
        exact ⟨0, q, rfl, rfl, by omega, hid ⟨0, F, kv, by simpa using h1, by omega, h3⟩⟩
      all_goals
        obtain ⟨j, q2, rfl, rfl, hj, HR⟩ := hrel
        clear HL
        obtain ⟨a, F, kv, hL, hkl, hon⟩ := HR.out
        have HON := hid hon
        clear HR hon
        by_cases hjl : j < x.length
        · have hdr : x.drop j = x[j] :: x.drop (j + 1) := List.drop_eq_getElem_cons hjl
          obtain ⟨b, off, rfl, hbl, hbF, hz⟩ := hL.nums (by intro e; subst e; simp at hjl)
          have hcz := hz j x[j] (List.getElem?_eq_getElem hjl)
          rw [hdr] at hL
          generalize x[j] = v at hcz hL
          have HL := hid hL
          have hme : Hid (x.length - ((j : Int) + 1).toNat < x.length - (j : Int).toNat) := by unfold Hid; omega
          have hj1 : Hid (j + 1 ≤ x.length) := hjl
          have hkb : kv.length < 990 := by omega
          have hvv : ((v : Int) != (v : Int)) = false := by simp
          clear hz hdr hL
          cases hmt : ((j : Int) == Go.bits .and .i64 many 31)
          · have hmt2 := hmt
            go_wp2_with (go_at_call 11; (with_reducible refine (HL.out.qs.pop hkb).mono ?_); rintro e w2 ⟨rfl, a2, kv2, hq2, hK2, hap2, hl2, -⟩; have L2 := hid (HL.out.turn hq2 hK2); have ON2 := hid (HON.out.apart hap2); have d2 := (World.cell?_of_block (w := wr) (a := ⟨b, off + j, none⟩) (hK2.block b hbl hbF)).trans hcz; clear hap2)
            exact ⟨⟨j + 1, q2, rfl, by go_num, hj1.out, hid ⟨a2, F, kv2, L2.out, by omega, ON2.out⟩⟩, hme.out⟩
          · go_wp2_with (first | (go_at_call 8; (with_reducible refine que_new.mono ?_); rintro e w2 ⟨q3, rfl, hq3, hle3, hb3⟩; have N3 := new_of_below hb3; obtain ⟨F3, hL3⟩ := HL.out.renew N3 hq3 hle3; have L3 := hid hL3; have hn3 := hid (L3.out.nums (by intro e; subst e; simp at hjl)); clear hL3) | (go_at_call 11; (with_reducible refine (L3.out.qs.pop hkb).mono ?_); rintro e w4 ⟨rfl, a4, kv4, hq4, hK4, hap4, hl4, -⟩; have L4 := hid (L3.out.turn hq4 hK4); have ON4 := hid (HON.out.apart hap4); have d4 := (World.cell?_of_block (w := w2) (a := ⟨b, off + j, none⟩) (hK4.block b (Nat.lt_of_lt_of_le hbl N3.size) (by obtain ⟨b', off', e1, _, e2, _⟩ := hn3.out; simp at e1; exact e1.1 ▸ e2))).trans ((World.cell?_of_block (w := wr) (a := ⟨b, off + j, none⟩) (N3.block b hbl id)).trans hcz); clear hap4))
            exact ⟨⟨j + 1, q3, rfl, by go_num, hj1.out, hid ⟨a4, F3, kv4, L4.out, by omega, ON4.out⟩⟩, hme.out⟩
        · obtain rfl : j = x.length := by omega
          have hL0 := hL
          rw [List.drop_length] at hL0
          have HL0 := hid hL0
          have hkv := HON.out.empty hL0.qs
          subst hkv
          clear hL hL0
          go_wp2_with (first | (go_at_call 11; (with_reducible refine HL0.out.qs.pop_none.mono ?_); rintro e w2 ⟨rfl, hb2⟩; have L2 := hid (HL0.out.new (new_of_below hb2))) | (go_at_call 12; (with_reducible refine (queue_awake _).mono ?_); rintro e w3 ⟨rfl, hb3⟩; have L3 := hid (L2.out.new (new_of_below hb3))) | (go_at_call 13; (with_reducible refine L3.out.qs.kvs.len.mono ?_); rintro e w4 ⟨rfl, rfl⟩))
          go_ret
          exact ⟨rfl, L3.out.below⟩
end Go.Proofs.Ytmlnjheiogmlaaa
