/-
One act of a queue, and of a list: the list then, and that they are alike; conditions: the queue lies in memory as told.
-/
import Derived.Test.YtmlnjheiogmlaaaStays
import Derived.Outline
namespace Go.Proofs.Ytmlnjheiogmlaaa
open Go.RowKit Go.Lib Go.Proofs.Ytmlnjheiogmlaaa.F Go.Proofs.Ytmlnjheiogmlaaa.Pure Go.Proofs.YtmlnjheiogmlaaaW.PrintWords
/-- append onto a slice that is not nil, nothing or something. -/
theorem wpList_append_some {P : Program} (w : World) {ops : Array Oper} {rest : List Oper} {o : Oper} {a : Act} {Q : Exit → Act → World → Prop} (hgd : o.guard = none) (s x : Operand) (t : TypeId)
    (ho : o.op = .call { callee := .builtin .append, args := #[s, x], argTypes := #[t, t] })
    (base : Nat) (e : TypeId) (i : TypeInfo) (z : Value) (size bytes : Nat) (ht : P.underlying t = some (.slice e)) (hi : P.info? e = some i) (hz : i.zero = some z)
    (hsize : i.size = size) (hby : i.bytes = bytes) (hzs : z.cells.size = size) (hsz : 0 < size)
    (b0 n cap0 : Nat) (xs : List Value) (hs : a.eval s = .slice (some ⟨b0, 0, none⟩) n cap0) (hown : w.ownsRow base e size (.slice (some ⟨b0, 0, none⟩) n cap0) n xs)
    (ad : Addr) (m c : Nat) (news : List Value) (hx : a.eval x = .slice (some ad) m c) (hl : news.length = m * size) (hnews : ∀ j u, news[j]? = some u → w.cell? (ad.add j) = some u) (h1 : ∀ u ∈ news, u.oneCell' = true)
    (h63 : n + m ≤ maxLen) (hbytes : (n + m) * bytes ≤ 140737488355328) (hbase : base ≤ w.heap.size)
    (h : ∀ g cap w', w'.ownsRow base e size (.slice (some ⟨g, 0, none⟩) (n + m) cap) (n + m) (xs ++ news) → w.grownBy w' (some b0) → (g = b0 ∨ g = w.heap.size) → g < w'.heap.size → wpList P ops Q rest (a.put o.dst (.slice (some ⟨g, 0, none⟩) (n + m) cap)) w') :
    wpList P ops Q (o :: rest) a w := by
  refine wpList_append_own_at w hgd s x t ho base e i z size bytes ht hi hz hsize hby hzs hsz _ n xs hs hown ad m c news hx hl hnews h1 h63 hbytes hbase fun v' w' h2 h3 h4 h5 => ?_
  have hv : ∃ g cap, v' = .slice (some ⟨g, 0, none⟩) (n + m) cap := by
    rcases h2.2 with ⟨h0, _⟩ | ⟨g, cap, cur, hv, _⟩
    · exact absurd (h4.1 h0).1 (by simp)
    · exact ⟨g, cap, hv⟩
  obtain ⟨g, cap, rfl⟩ := hv
  exact h g cap w' h2 h3 (h5.imp (fun e => by simpa [Value.ownBlock] using e) (fun e => by simpa [Value.ownBlock] using e)) (own_lt h2 rfl)
theorem NumRow.cells {F : Nat → Prop} {A : Addr} {l : List Nat} {w : World} (h : NumRow F (some A) l w) : ∀ (j : Nat) u, (l.map fun n : Nat => Value.int .u64 (n : Int))[j]? = some u → w.cell? (A.add j) = some u := fun j u hu => by
  have hne : l ≠ [] := by rintro rfl; simp at hu
  obtain ⟨b, off, hA, _, _, hc⟩ := h hne
  obtain rfl : A = ⟨b, off, none⟩ := Option.some.inj hA
  have hadd : (⟨b, off, none⟩ : Addr).add j = ⟨b, off + j, none⟩ := by unfold Addr.add; split <;> simp_all
  rw [hadd]
  rw [List.getElem?_map] at hu
  cases hv : l[j]? with
  | none => rw [hv] at hu; cases hu
  | some v =>
    rw [hv] at hu
    cases hu
    exact hc j v hv
theorem num_one (l : List Nat) : ∀ u ∈ l.map fun n : Nat => Value.int .u64 (n : Int), u.oneCell' = true := by
  intro u hu
  obtain ⟨x, _, rfl⟩ := List.mem_map.1 hu
  rfl
/-- What an act leaves: the list's row, the queue in which just that waits, the other keys as they were. -/
def Played (c : UInt8) (q g a : Nat) (l : List Nat) (F : Nat → Prop) (kv : List (ByteArray × ByteArray)) (w : World) (e : Ending) (w' : World) : Prop :=
  ∃ (A' : Addr) (cv' : Nat) (l' : List Nat) (a' : Nat) (F' : Nat → Prop) (kv' : List (ByteArray × ByteArray)), e = .returned (.tuple #[.slice (some A') l'.length cv', .bool true]) ∧ QS c q g a' l' F' kv' w' ∧ NumRow F' (some A') l' w' ∧ l'.length ≤ cv' ∧ Apart c kv kv' ∧
    kv'.length ≤ kv.length + 6 ∧ a' + l'.length ≤ a + l.length + 1 ∧ (∀ b, F' b → F b) ∧ Kept F w w'
theorem Played.same {c : UInt8} {q g a cv : Nat} {l : List Nat} {A : Addr} {F : Nat → Prop} {kv : List (ByteArray × ByteArray)} {w w' : World} (h : QS c q g a l F kv w) (hr : NumRow F (some A) l w) (hcv : l.length ≤ cv) (hn : New w w') :
    Played c q g a l F kv w (.returned (.tuple #[.slice (some A) l.length cv, .bool true])) w' :=
  ⟨A, cv, l, a, F, kv, rfl, h.new hn, hr.new hn, hcv, fun _ _ => rfl, by omega, by omega, fun _ => id, hn.mono fun _ _ e => e.elim⟩
theorem plays_pop_none {c : UInt8} {q g a cv : Nat} {A : Addr} {F : Nat → Prop} {kv : List (ByteArray × ByteArray)} {w : World} (t N : Int) (ot : Bool) (h : QS c q g a [] F kv w) (ht : Go.bits .and .i64 t 3 = 2) :
    Calls Try.prog 14 #[.pointer (some ⟨q, 0, none⟩), .slice (some A) 0 cv, .agg #[.int .i64 t, .int .u64 N, .bool ot]] w (Played c q g a [] F kv w) := by
  have hN : New w (w.alloc (.cells #[.int .i64 t, .int .u64 N, .bool ot] 41)) := (Kept.refl _ _).alloc _
  have hP := hid (h.new hN).pop_none
  have hS := hid (fun (w' : World) (hn : New w w') => Played.same (A := A) (cv := cv) h (NumRow.nil _ _ _) (Nat.zero_le _) hn)
  have hNN := hid hN
  have hu := Try.underlying41
  clear h hN
  go_enter Try.func14, Try.ntmps14
  go_wp2_with (go_at_call 11; (with_reducible refine hP.out.mono ?_); rintro e w1 ⟨rfl, hb1⟩)
  go_ret2
  exact hS.out _ (hNN.out.trans (new_of_below hb1))
set_option maxHeartbeats 1600000 in
theorem plays_pop {c : UInt8} {q g a cv v : Nat} {r : List Nat} {A : Addr} {F : Nat → Prop} {kv : List (ByteArray × ByteArray)} {w : World} (t N : Int) (ot : Bool) (h : QS c q g a (v :: r) F kv w) (hr : NumRow F (some A) (v :: r) w) (hcv : r.length + 1 ≤ cv) (h1 : kv.length < 980) (ht : Go.bits .and .i64 t 3 = 2) :
    Calls Try.prog 14 #[.pointer (some ⟨q, 0, none⟩), .slice (some A) (r.length + 1) cv, .agg #[.int .i64 t, .int .u64 N, .bool ot]] w (Played c q g a (v :: r) F kv w) := by
  have hN : New w (w.alloc (.cells #[.int .i64 t, .int .u64 N, .bool ot] 41)) := (Kept.refl _ _).alloc _
  have hP := hid ((h.new hN).pop (by omega))
  obtain ⟨b, off, hAe, hbl, hbF, hz⟩ := hr (by simp)
  obtain rfl : A = ⟨b, off, none⟩ := Option.some.inj hAe
  have hz0 := hz 0 v rfl
  rw [Nat.add_zero] at hz0
  obtain ⟨A', hA', hA2⟩ : ∃ A' : Addr, (if cv = 1 then some (⟨b, off, none⟩ : Addr) else some ⟨b, off + 1, none⟩) = some A' ∧ Hid (∀ W, Kept F w W → NumRow F (some A') r W) := by
    by_cases hc : cv = 1
    · have : r = [] := List.length_eq_zero_iff.1 (by omega)
      subst this
      exact ⟨_, if_pos hc, hid fun W _ => NumRow.nil _ _ _⟩
    · exact ⟨_, if_neg hc, hid fun W hW => (hr.kept hW).tail⟩
  have hNN := hid hN
  have hu := Try.underlying41
  have hvv : ((v : Int) != (v : Int)) = false := by simp
  have hF0 := hid h.low
  clear h hN hr hz
  go_enter Try.func14, Try.ntmps14
  go_wp2_with (go_at_call 11; (with_reducible refine hP.out.mono ?_); rintro e w1 ⟨rfl, a1, kv1, hq1, hK1, hap1, hl1, ha1⟩; have K1 := hid ((hNN.out.mono fun _ _ e => e.elim).trans hK1 : Kept F w w1); have d1 := (World.cell?_of_block (w := w) (a := ⟨b, off, none⟩) (K1.out.block b hbl hbF)).trans hz0; have HQ := hid (And.intro hq1 hap1); clear hq1 hap1 hK1)
  go_ret2
  refine ⟨A', cv - 1, r, a1, F, kv1, rfl, HQ.out.1, hA2.out _ K1.out, by omega, HQ.out.2, hl1, ?_, fun _ => id, K1.out⟩
  simp only [List.length_cons]
  omega
theorem two_bits (t : Int) : Go.bits .and .i64 t 3 = 0 ∨ Go.bits .and .i64 t 3 = 1 ∨ Go.bits .and .i64 t 3 = 2 ∨ Go.bits .and .i64 t 3 = 3 := by
  have hlt : ((BitVec.ofInt 64 t) &&& (BitVec.ofInt 64 3)).toNat ≤ 3 := by
    rw [BitVec.toNat_and]
    exact Nat.and_le_right
  have e : Go.bits .and .i64 t 3 = IntKind.i64.wrap ((((BitVec.ofInt 64 t) &&& (BitVec.ofInt 64 3)).toNat : Nat) : Int) := rfl
  rw [e, IntKind.wrap_i64]
  generalize ((BitVec.ofInt 64 t) &&& (BitVec.ofInt 64 3)).toNat = c at *
  omega
set_option maxHeartbeats 1600000 in
theorem plays_ask {c : UInt8} {q g a cv : Nat} {l : List Nat} {A : Addr} {F : Nat → Prop} {kv : List (ByteArray × ByteArray)} {w : World} (t N : Int) (ot : Bool) (h : QS c q g a l F kv w) (hr : NumRow F (some A) l w) (hcv : l.length ≤ cv) (ht : Go.bits .and .i64 t 3 = 3) :
    Calls Try.prog 14 #[.pointer (some ⟨q, 0, none⟩), .slice (some A) l.length cv, .agg #[.int .i64 t, .int .u64 N, .bool ot]] w (Played c q g a l F kv w) := by
  have hN : New w (w.alloc (.cells #[.int .i64 t, .int .u64 N, .bool ot] 41)) := (Kept.refl _ _).alloc _
  obtain ⟨n, hn, hnl⟩ := and_range_u N 4611686018427387903 (by decide)
  have hn' : Go.bits .and .u64 N 4611686018427387903 = (n : Int) := hn
  have hl := h.low
  have hH := hid ((h.new hN).has n (by omega))
  have hL := hid (fun (W : World) (hW : New w W) => (h.new hW).len)
  have hA := hid (fun (W : World) (hW : New w W) => has_any (c := cv) (n := n) (hr.new hW) (by omega))
  have hS := hid (fun (w' : World) (hn : New w w') => Played.same (A := A) (cv := cv) h hr hcv hn)
  have hNN := hid hN
  have hu := Try.underlying41
  obtain ⟨d, hd⟩ : ∃ d, decide (n ∈ l) = d := ⟨_, rfl⟩
  rw [hd] at hH hA
  clear h hN hr hn hd
  go_enter Try.func14, Try.ntmps14
  go_wp2_with (first | (go_at_call 31; (with_reducible refine hH.out.mono ?_); rintro e w1 ⟨rfl, hb1⟩; have N1 := hid (hNN.out.trans (new_of_below hb1))) | (go_at_call 40; (with_reducible refine (hL.out _ N1.out).mono ?_); rintro e w2 ⟨rfl, hb2⟩; have N2 := hid (N1.out.trans (new_of_below hb2))) | (go_at_call 10; (with_reducible refine (hA.out _ N2.out).mono ?_); rintro e w3 ⟨rfl, rfl⟩))
  go_ret2
  exact hS.out _ N2.out
set_option maxHeartbeats 3200000 in
set_option maxRecDepth 100000 in
theorem plays_push_no {c : UInt8} {q g a cv n : Nat} {l : List Nat} {A : Addr} {F : Nat → Prop} {kv : List (ByteArray × ByteArray)} {w : World} (t N : Int) (ot : Bool) (h : QS c q g a l F kv w) (hr : NumRow F (some A) l w) (hcv : l.length ≤ cv) (ht2 : (Go.bits .and .i64 t 3 == 2) = false) (ht3 : (Go.bits .and .i64 t 3 == 3) = false)
    (hn : Go.bits .and .u64 N 4611686018427387903 = (n : Int)) (hnl : n ≤ 4611686018427387903) (hm : n ∈ l) :
    Calls Try.prog 14 #[.pointer (some ⟨q, 0, none⟩), .slice (some A) l.length cv, .agg #[.int .i64 t, .int .u64 N, .bool ot]] w (Played c q g a l F kv w) := by
  have hN : New w (w.alloc (.cells #[.int .i64 t, .int .u64 N, .bool ot] 41)) := (Kept.refl _ _).alloc _
  have hl := h.low
  have hP := hid ((h.new hN).push_no (n := n) (by omega) hm)
  have hA := hid (fun (W : World) (hW : New w W) => has_any (c := cv) (n := n) (hr.new hW) (by omega))
  rw [decide_eq_true hm] at hA
  have hS := hid (fun (w' : World) (hn : New w w') => Played.same (A := A) (cv := cv) h hr hcv hn)
  have hNN := hid hN
  have hu := Try.underlying41
  clear h hN hr hm
  go_enter Try.func14, Try.ntmps14
  go_wp2_with (first | (go_at_call 9; (with_reducible refine hP.out.mono ?_); rintro e w1 ⟨rfl, hb1⟩; have N1 := hid (hNN.out.trans (new_of_below hb1))) | (go_at_call 10; (with_reducible refine (hA.out _ N1.out).mono ?_); rintro e w3 ⟨rfl, rfl⟩))
  go_ret2
  exact hS.out _ N1.out
set_option maxHeartbeats 3200000 in
set_option maxRecDepth 100000 in
theorem plays_push {c : UInt8} {q g a cv n : Nat} {l : List Nat} {A : Addr} {F : Nat → Prop} {kv : List (ByteArray × ByteArray)} {w : World} (t N : Int) (ot : Bool) (h : QS c q g a l F kv w) (hr : NumRow F (some A) l w) (_hcv : l.length ≤ cv) (h1 : kv.length < 980) (h2 : a + l.length < 980) (ht2 : (Go.bits .and .i64 t 3 == 2) = false) (ht3 : (Go.bits .and .i64 t 3 == 3) = false)
    (hn : Go.bits .and .u64 N 4611686018427387903 = (n : Int)) (hnl : n ≤ 4611686018427387903) (hm : n ∉ l) :
    Calls Try.prog 14 #[.pointer (some ⟨q, 0, none⟩), .slice (some A) l.length cv, .agg #[.int .i64 t, .int .u64 N, .bool ot]] w (Played c q g a l F kv w) := by
  have hN : New w (w.alloc (.cells #[.int .i64 t, .int .u64 N, .bool ot] 41)) := (Kept.refl _ _).alloc _
  obtain ⟨i0, hi0, hz0, hz1, hz2⟩ := info_parts Try.info29
  have hP := hid ((h.new hN).push (by omega) (by omega) (n := n) (by omega) hm)
  have hA := hid (fun (F' : Nat → Prop) (W : World) (hW : NumRow F' (some A) l W) => has_any (c := cv) (n := n) hW (by omega))
  rw [decide_eq_false hm] at hA
  have hR := hid hr
  have hNN := hid hN
  have hu := Try.underlying41
  clear h hN hr hm
  go_enter Try.func14, Try.ntmps14
  go_wp2_with (first | (go_at_call 9; (with_reducible refine hP.out.mono ?_); rintro e w1 ⟨rfl, kv1, hq1, hK1, hap1, hl1⟩; have K1 := hid ((hNN.out.mono fun _ _ e => e.elim).trans hK1 : Kept F w w1); have HQ := hid (And.intro hq1 hap1); clear hq1 hap1 hK1; have R1 := hid (hR.out.kept K1.out)) | (go_at_call 10; (with_reducible refine (hA.out _ _ R1.out).mono ?_); rintro e w3 ⟨rfl, rfl⟩) | (at_builtin; refine wpList_append_some _ rfl (.tmp 106) (.tmp 107) 22 rfl 0 29 i0 (.int .u64 0) 1 8 Try.underlying22 hi0 hz0 hz1 hz2 rfl (by decide) _ 0 0 [] rfl (own_empty (blk_new _ _)) A l.length cv (l.map fun n : Nat => Value.int .u64 (n : Int)) rfl (by simp) (NumRow.cells (R1.out.new ((Kept.refl _ _).alloc _))) (num_one _) (by unfold maxLen; omega) (by omega) (Nat.zero_le _) ?_; intro g1 cap1 w4 hown4 hgrow4 hat4 hlt4; simp only [Nat.zero_add, List.nil_append] at hown4; have N4 := hid (Kept.grown ((Kept.refl _ w1).alloc _) hgrow4 (fun k e => .inr (by cases e; exact Nat.le_refl _)) : New w1 w4); have O4 := hid hown4; have G4 := hid (by simp at hat4; omega : w1.heap.size ≤ g1); clear hown4 hgrow4 hat4 hlt4) | (at_builtin; refine wpList_append_some _ rfl (.tmp 108) (.tmp 110) 22 rfl 0 29 i0 (.int .u64 0) 1 8 Try.underlying22 hi0 hz0 hz1 hz2 rfl (by decide) _ l.length cap1 _ rfl (World.ownsRow.alloc O4.out _) ⟨w4.heap.size, 0, none⟩ 1 1 [.int .u64 (n : Int)] rfl rfl (cell_one_new _ _ _) (by intro u hu; simp at hu; subst hu; rfl) (by unfold maxLen; omega) (by omega) (Nat.zero_le _) ?_; intro g2 cap2 w5 hown5 hgrow5 hat5 hlt5; have N5 := hid (Kept.grown (N4.out.alloc _) hgrow5 (fun k e => .inr (by cases e; exact G4.out)) : New w1 w5); have O5 := hid hown5; have G5 := hid (by have := N4.out.size; have := G4.out; simp at hat5; omega : w1.heap.size ≤ g2); have L5 := hid hlt5; clear hown5 hgrow5 hat5 hlt5))
  go_ret2
  have hq := HQ.out.1
  have hl := hq.low
  rw [List.length_append] at hl
  refine ⟨⟨g2, 0, none⟩, cap2, l ++ [n], a, fun b => F b ∧ b ≠ g2, kv1, by rw [List.length_append]; rfl, ⟨hq.que.new N5.out, hq.kvs.less (N5.out.mono fun _ _ e => e.elim) G5.out L5.out, hq.once, hq.qi, fun e => hq.out e.1, hq.few, hq.low⟩, fun _ => ⟨g2, 0, rfl, L5.out, fun e => e.2 rfl, fun i v hv => ?_⟩, ?_, HQ.out.2, hl1, by simp; omega, fun _ e => e.1, K1.out.trans (N5.out.mono fun _ _ e => e.elim)⟩
  · obtain ⟨A', cp, hv', _, _, hc⟩ := owns_cells O5.out
    obtain ⟨b, hb1, hb2, _, hb4⟩ := hc (by omega)
    have : g2 = b := by simpa [Value.ownBlock] using hb2
    subst this
    rw [Nat.zero_add]
    refine (hb4 i _ ?_).1
    have e : (l.map fun n : Nat => Value.int .u64 (n : Int)) ++ [Value.int .u64 (n : Int)] = (l ++ [n]).map fun n : Nat => Value.int .u64 (n : Int) := by simp
    rw [e, List.getElem?_map, hv]
    rfl
  · obtain ⟨A', cp, hv', hle, _, _⟩ := owns_cells O5.out
    simp only [Value.slice.injEq] at hv'
    rw [List.length_append]
    simp only [List.length_cons, List.length_nil]
    omega
theorem plays_any {c : UInt8} {q g a cv : Nat} {l : List Nat} {A : Addr} {F : Nat → Prop} {kv : List (ByteArray × ByteArray)} {w : World} (t N : Int) (ot : Bool) (h : QS c q g a l F kv w) (hr : NumRow F (some A) l w) (hcv : l.length ≤ cv) (h1 : kv.length < 980) (h2 : a + l.length < 980) :
    Calls Try.prog 14 #[.pointer (some ⟨q, 0, none⟩), .slice (some A) l.length cv, .agg #[.int .i64 t, .int .u64 N, .bool ot]] w (Played c q g a l F kv w) := by
  obtain ⟨n, hn, hnl⟩ := and_range_u N 4611686018427387903 (by decide)
  have hpush : (Go.bits .and .i64 t 3 == 2) = false → (Go.bits .and .i64 t 3 == 3) = false → Calls Try.prog 14 #[.pointer (some ⟨q, 0, none⟩), .slice (some A) l.length cv, .agg #[.int .i64 t, .int .u64 N, .bool ot]] w (Played c q g a l F kv w) := fun e2 e3 => by
    by_cases hm : n ∈ l
    · exact plays_push_no t N ot h hr hcv e2 e3 hn hnl hm
    · exact plays_push t N ot h hr hcv h1 h2 e2 e3 hn hnl hm
  rcases two_bits t with ht | ht | ht | ht
  · exact hpush (by rw [ht]; rfl) (by rw [ht]; rfl)
  · exact hpush (by rw [ht]; rfl) (by rw [ht]; rfl)
  · cases l with
    | nil => exact plays_pop_none t N ot h ht
    | cons v r => exact plays_pop t N ot h hr hcv h1 ht
  · exact plays_ask t N ot h hr hcv ht
end Go.Proofs.Ytmlnjheiogmlaaa
