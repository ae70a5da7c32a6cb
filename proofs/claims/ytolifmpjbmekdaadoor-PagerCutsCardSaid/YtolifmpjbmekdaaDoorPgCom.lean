/-
The pager's Commit; conditions: the pager lies in memory as told, few writes wait.
-/
import Derived.Test.YtolifmpjbmekdaaDoorCalm
import Derived.BigRegion
namespace Go.Proofs.YtolifmpjbmekdaaDoor
open Go.RowKit
open Go.Lib (hid)
variable {F : Nat → Prop} {p q pk bk pu bu mf mc : Nat} {v : Value} {S : PS} {D : DS} {w : World}
def PPuts (x : Pg) (s : ByteArray) : Prop := ∀ W, Calls Tryd.prog 39 #[pgV x] W fun e w' => e = .returned (.string s) ∧ New W w'
def PS.committed (S : PS) (root : Int) : PS := { S with gen := S.gen + 1, root := root, K := fun n => S.U n && !decide (n ∈ S.free), U := fun n => S.U n && !decide (n ∈ S.free), fresh := fun _ => none, clean := fun n => if (S.fresh n).isSome then S.fresh n else S.clean n, free := [] }
def ComPost (F : Nat → Prop) (p q pk bk pu bu mf mc : Nat) (v : Value) (S : PS) (root : Int) (w : World) (r : DS × Int) (e : Ending) (w' : World) : Prop :=
  e = .returned (.int .i64 r.2) ∧ Kept (fun b => F b ∨ b = p ∨ b = bu ∨ b = mf ∨ b = mc) w w' ∧ (r.2 ≠ 0 → PgrAt F p q pk bk pu bu mf mc v S r.1 w') ∧
    (r.2 = 0 → ∃ F' pk' bk', PgrAt F' p q pk' bk' pu bu mf mc (.slice none 0 0) (S.committed root) r.1 w' ∧ (∀ b, F' b → F b) ∧ w.heap.size ≤ pk' ∧ w.heap.size ≤ bk')
theorem Pages.look {b m : Nat} {g : Nat → Option Pg} (h : Pages w b m g) {n : Nat} (hn : n < 1000000) : (Instr.lookup 81 (.map (some b)) (.int .i64 n) false).run Tryd.prog w = .ok (pgV ((g n).getD pg0)) w := by
  obtain ⟨c, h1, h2⟩ := h
  have h3 := h1.look (x := (n : Int)) (wf_nat hn)
  have e : (if 0 ≤ (n : Int) then g (n : Int).toNat else none) = g n := by simp
  rw [e] at h3
  exact h3
theorem DS.commit_puts {D : DS} {l : List (Nat × ByteArray)} {gen : Nat} {root : Int} {a : DS × Int} (h : D.puts l = a) (h2 : a.2 ≠ 0) : D.commit l gen root = a := by
  unfold DS.commit; rw [h, if_pos h2]
theorem DS.commit_flush {D D1 : DS} {l : List (Nat × ByteArray)} {gen : Nat} {root : Int} (h : D.puts l = (D1, 0)) (h2 : D1.flush.2 ≠ 0) : D.commit l gen root = D1.flush := by
  unfold DS.commit; rw [h]; simp only; rw [if_neg (by simp), if_pos h2]
theorem DS.commit_write {D D1 D2 : DS} {l : List (Nat × ByteArray)} {gen : Nat} {root : Int} (h : D.puts l = (D1, 0)) (h2 : D1.flush = (D2, 0)) (h3 : (D2.write (gen % 2 : Nat) (supS gen root)).2 ≠ 0) : D.commit l gen root = D2.write (gen % 2 : Nat) (supS gen root) := by
  unfold DS.commit; rw [h]; simp only; rw [if_neg (by simp), h2]; simp only; rw [if_neg (by simp), if_pos h3]
theorem DS.commit_all {D D1 D2 D3 : DS} {l : List (Nat × ByteArray)} {gen : Nat} {root : Int} (h : D.puts l = (D1, 0)) (h2 : D1.flush = (D2, 0)) (h3 : D2.write (gen % 2 : Nat) (supS gen root) = (D3, 0)) : D.commit l gen root = D3.flush := by
  unfold DS.commit; rw [h]; simp only; rw [if_neg (by simp), h2]; simp only; rw [if_neg (by simp), h3]; simp only; rw [if_neg (by simp)]
theorem free_any {many : Nat} {U : Nat → Bool} (h : Spc p bu many U w) {n : Nat} (hn : n < many) : Calls Tryd.prog 40 #[.pointer (some ⟨p, 0, none⟩), .int .i64 n] w fun e w' => (∃ b, e = .returned (.bool b)) ∧ Spc p bu many (setU U n false) w' ∧ Kept (fun b => b = bu) w w' := by
  by_cases hu : U n = true
  · exact (free_yes h hn hu).mono fun e w' he => ⟨⟨_, he.1⟩, he.2⟩
  · have hu : U n = false := by simpa using hu
    refine (free_free h hn hu).mono fun e w' he => ⟨⟨_, he.1⟩, ?_⟩
    have e1 : setU U n false = U := by
      funext k
      unfold setU
      split
      · rename_i e; rw [e, hu]
      · rfl
    rw [← he.2, e1]
    exact ⟨h, Kept.refl _ _⟩
/-- So many pages are written. -/
structure Wr (F : Nat → Prop) (p q pk bk pu bu mf mc : Nat) (v : Value) (S : PS) (D : DS) (pl : List (Nat × ByteArray)) (w1 : World) (i : Nat) (D' : DS) (W : World) : Prop where
  at_ : PgrAt F p q pk bk pu bu mf mc v S D' W
  kept : Kept F w1 W
  puts : D.puts pl = D'.puts (pl.drop i)
  few : D'.wait.length ≤ 1000 + i
/-- What is clean when so many of the new pages are. -/
def cleanL (S : PS) (L : List Nat) (i : Nat) : Nat → Option Pg := fun n => if n ∈ L.take i then S.fresh n else S.clean n
theorem cleanL_step {S : PS} {L : List Nat} {i n : Nat} {x : Pg} (h : L[i]? = some n) (hx : S.fresh n = some x) : updF (cleanL S L i) n (some x) = cleanL S L (i + 1) := by
  obtain ⟨hi, e⟩ := List.getElem?_eq_some_iff.1 h
  funext k
  unfold cleanL updF
  rw [List.take_succ_eq_append_getElem hi, e]
  by_cases hk : k = n
  · subst hk; simp [hx]
  · simp [hk]
theorem cleanL_all {S : PS} {m : Nat} (hm : ∀ n, (S.fresh n).isSome = true → n < m) : cleanL S (freshL S.fresh m) (freshL S.fresh m).length = fun n => if (S.fresh n).isSome then S.fresh n else S.clean n := by
  funext n
  unfold cleanL
  rw [List.take_length]
  by_cases h : (S.fresh n).isSome = true
  · rw [if_pos (mem_freshL.2 ⟨hm n h, h⟩), if_pos h]
  · rw [if_neg (fun e => h (mem_freshL.1 e).2), if_neg h]
def freeL (S : PS) (i : Nat) : Nat → Bool := fun n => S.U n && !decide (n ∈ S.free.take i)
theorem freeL_step {S : PS} {i n : Nat} (h : S.free[i]? = some n) : setU (freeL S i) n false = freeL S (i + 1) := by
  obtain ⟨hi, e⟩ := List.getElem?_eq_some_iff.1 h
  funext k
  unfold freeL setU
  rw [List.take_succ_eq_append_getElem hi, e]
  by_cases hk : k = n
  · subst hk; simp
  · simp [hk]
/-- A lookup that only reads, in front of a store. -/
theorem wpStill_lookup {P : Program} {ops : Array Oper} {w : World} {Q : Act → Prop} {a : Act} {o : Oper} {rest : List Oper} (hg : o.guard = none) (t : TypeId) (m x : Operand) (b : Bool) (hop : o.op = Op.lookup t m x b) {mv xv v : Value} (hm : a.eval m = mv) (hx : a.eval x = xv) (hr : (Instr.lookup t mv xv b).run P w = .ok v w) (h : wpStill P ops w Q rest (a.put o.dst v)) : wpStill P ops w Q (o :: rest) a := by
  refine wpStill_step fun K hK => ?_
  have hw : Region.wanted o (yielded ops a.tmps) = true := by simp [Region.wanted, hg]
  rw [if_pos hw]
  unfold Oper.still
  have e : (execOp a.eval o).run P w = .ok (.value v) w := by simp [execOp, hop, hm, hx, hr, Result.andThen]
  rw [e, Oper.stillUpon_value]
  exact hK _ h
/-- A new state is committed: the block's own cells are set. -/
theorem PgrAt.turnK (h : PgrAt F p q pk bk pu bu mf mc v S D w) {pk2 bk2 g : Nat} {root : Int} {w' : World} (hk : Kept (fun b => b = p) w w') (hb : w'.heap[p]? = some (.cells (pagerV q pk2 pu mf mc (.slice none 0 0) { S with gen := g, root := root, K := S.U, free := [] }) 83 (0, 0))) (hs : Spc pk2 bk2 S.many S.U w) (n1 : bk2 ≠ bu) (n2 : pk2 ≠ pu) (f1 : ¬ F pk2) (f2 : ¬ F bk2) (hg : g < 1000000) :
    PgrAt F p q pk2 bk2 pu bu mf mc (.slice none 0 0) { S with gen := g, root := root, K := S.U, free := [] } D w' := by
  obtain ⟨a, b, c, d, e⟩ := h.apart
  obtain ⟨c1, k1, _⟩ := hs.words
  have t1 := tag_cells h.blk
  have t2 := tag_cells hs.blk
  have t3 := tag_cells k1
  have ne : ∀ {a b x y : Nat}, tagOf w a = x → tagOf w b = y → x ≠ y → a ≠ b := fun ha hb hxy e => by subst e; exact hxy (ha.symm.trans hb)
  have m1 : p ≠ pk2 := ne t1 t2 (by decide)
  have m2 : p ≠ bk2 := ne t1 t3 (by decide)
  have b1 : pu ≠ p := a.2.2.1.symm
  have b2 : bu ≠ p := a.2.2.2.1.symm
  have b3 : pk2 ≠ p := m1.symm
  have b4 : bk2 ≠ p := m2.symm
  have b5 : mf ≠ p := a.2.2.2.2.1.symm
  have b6 : mc ≠ p := a.2.2.2.2.2.symm
  exact ⟨hb, h.disk.kept hk (notAt h.np), hs.kept hk b3 b4, h.usedS.kept hk b1 b2, h.fresh.kept hk b5, h.clean.kept hk b6, nil_owns _ _ _ _, hg, by simp, h.same, n1, n2, h.ne3, h.np, f1, f2, h.npu, h.nbu, h.nmf, h.nmc, fun b hb => by cases hb⟩
theorem PgrAt.newState (h : PgrAt F p q pk bk pu bu mf mc v S D w) {w9 : World} (hs : Spc (w.heap.size + 1) w.heap.size S.many S.U w9) (hn : New w w9) (hsz : w9.heap.size = w.heap.size + 2) {g : Nat} (hg : g < 1000000) (root : Int) :
    PgrAt (fun b => F b ∧ ¬ (w.heap.size ≤ b ∧ b < w9.heap.size)) p q (w.heap.size + 1) w.heap.size pu bu mf mc (.slice none 0 0) { S with gen := g, root := root, K := S.U, free := [] } D ((((w9.setCell ⟨p, 1, none⟩ (.int .u64 g)).setCell ⟨p, 2, none⟩ (.int .i64 root)).setCell ⟨p, 3, none⟩ (ptr (w.heap.size + 1))).setCell ⟨p, 7, none⟩ (.slice none 0 0)) ∧
      Kept (fun b => b = p) w ((((w9.setCell ⟨p, 1, none⟩ (.int .u64 g)).setCell ⟨p, 2, none⟩ (.int .i64 root)).setCell ⟨p, 3, none⟩ (ptr (w.heap.size + 1))).setCell ⟨p, 7, none⟩ (.slice none 0 0)) := by
  have l2 := h.usedS.lt
  have hk : Kept (fun b => b = p) w9 ((((w9.setCell ⟨p, 1, none⟩ (.int .u64 g)).setCell ⟨p, 2, none⟩ (.int .i64 root)).setCell ⟨p, 3, none⟩ (ptr (w.heap.size + 1))).setCell ⟨p, 7, none⟩ (.slice none 0 0)) := (((keptc w9 1 _).trans (keptc _ 2 _)).trans (keptc _ 3 _)).trans (keptc _ 7 _)
  have b0 := (h.new hn).blk
  have hb := heap_setCell_same (i := 7) (u := .slice none 0 0) (heap_setCell_same (i := 3) (u := ptr (w.heap.size + 1)) (heap_setCell_same (i := 2) (u := .int .i64 root) (heap_setCell_same (i := 1) (u := .int .u64 g) b0)))
  exact ⟨(h.less hn).turnK hk (hb.trans (by simp)) hs (by omega) (by omega) (fun e => e.2 ⟨by omega, by omega⟩) (fun e => e.2 ⟨by omega, by omega⟩) hg, (hn.mono fun _ _ e => e.elim).trans hk⟩
theorem PgrAt.cleared (h : PgrAt F p q pk bk pu bu mf mc v S D w) : ∃ w2, (Builtin.clear_ #[81] 0 #[.map (some mf)]).run Tryd.prog w = .ok (.tuple #[]) w2 ∧ PgrAt F p q pk bk pu bu mf mc v { S with fresh := fun _ => none } D w2 ∧ Kept (fun b => b = mf) w w2 := by
  obtain ⟨c, m1, m2⟩ := h.fresh
  obtain ⟨w2, r1, r2, r3, r4⟩ := m1.clear 0
  exact ⟨w2, r1, h.setFresh ⟨0, by simpa using r2, fun n hn => by cases hn⟩ r3, r3⟩
theorem write_n (D : DS) (n : Int) (s : ByteArray) : (D.write n s).1.n = D.n := by
  unfold DS.write
  split
  · rfl
  · split
    · rfl
    · split
      · rfl
      · exact act_same (D.push n.toNat s)
theorem flush_n (D : DS) : D.flush.1.n = D.n := by
  unfold DS.flush
  split
  · rfl
  · split
    · exact act_same D
    · exact (keeps_same _ _).1.trans (act_same D)
set_option maxRecDepth 100000 in
theorem commit_none (root : Int) (w : World) : Calls Tryd.prog 15 #[.pointer none, .int .i64 root] w fun e w' => e = .returned (.int .i64 1) ∧ w = w' := by
  go_enter Tryd.func15, Tryd.ntmps15
  go_wp2
  go_ret
  exact ⟨rfl, rfl⟩
theorem commit_bad (h : PgrAt F p q pk bk pu bu mf mc v S D w) {root : Int} (hr : smayB (S.gen + 1 : Nat) root = false) : Calls Tryd.prog 15 #[ptr p, .int .i64 root] w fun e w' => e = .returned (.int .i64 1) ∧ New w w' := by
  have c1 : w.cell? ⟨p, 1, none⟩ = some (.int .u64 S.gen) := (h.cells 1).1
  have HM := hid (fun (o : Obj) => by
    have := smay_calls ((S.gen + 1 : Nat) : Int) root (w.alloc o)
    rw [hr] at this
    exact this)
  have hng := h.ng
  have s1 : IntKind.u64.wrap ((S.gen : Int) + 1) = ((S.gen + 1 : Nat) : Int) := by rw [IntKind.wrap_u64]; omega
  clear h hr
  generalize S.gen + 1 = g at *
  go_enter Tryd.func15, Tryd.ntmps15
  go_wp2_with (first
    | (go_at_call 37; have hh := HM.out (.cells #[.int .u64 g, .int .i64 root] 37); (with_reducible refine hh.mono ?_); rintro e w2 ⟨rfl, hw⟩; clear hh; have W2 := hid hw; clear hw))
  go_ret
  exact ⟨rfl, ((Kept.refl _ _).alloc _).trans W2.out⟩
set_option maxHeartbeats 40000000 in
set_option maxRecDepth 100000 in
theorem commit_calls (h : PgrAt F p q pk bk pu bu mf mc v S D w) {txt : Nat → ByteArray} (hP : ∀ n x, S.fresh n = some x → PPuts x (txt n)) (hw : D.wait.length ≤ 1000) {root : Int} (hr : smayB (S.gen + 1 : Nat) root = true) (hf : ∀ n ∈ S.free, n < S.many) (hg : S.gen + 1 < 1000000) :
    Calls Tryd.prog 15 #[ptr p, .int .i64 root] w (ComPost F p q pk bk pu bu mf mc v S root w (D.commit ((freshL S.fresh S.many).map fun n => (n, txt n)) (S.gen + 1) root)) := by
  have c1 : w.cell? ⟨p, 1, none⟩ = some (.int .u64 S.gen) := (h.cells 1).1
  have HM := hid (fun (o : Obj) => by
    have := smay_calls ((S.gen + 1 : Nat) : Int) root (w.alloc o)
    rw [hr] at this
    exact this)
  have s1 : IntKind.u64.wrap ((S.gen : Int) + 1) = ((S.gen + 1 : Nat) : Int) := by rw [IntKind.wrap_u64]; omega
  obtain ⟨i0, hi0, hz0, hz1, hz2⟩ := info_parts info_ints
  obtain ⟨c, hc1, hc2⟩ := h.fresh.split h.keptS.few
  have hcm : c < maxLen := hc2
  have hc3 : c ≤ S.many := by
    refine hc1.count_le Int.toNat (fun x hx => ?_) fun x y hx hy e => ?_
    · by_cases h0 : 0 ≤ x
      · rw [if_pos h0] at hx; exact h.fresh.low _ hx
      · rw [if_neg h0] at hx; cases hx
    · by_cases h0 : 0 ≤ x
      · by_cases h1 : 0 ≤ y
        · omega
        · rw [if_neg h1] at hy; cases hy
      · rw [if_neg h0] at hx; cases hx
  have hfew := h.keptS.few
  have hml := h.fresh.lt
  have HM1 := hid hc1
  have H := hid h
  have HPP := hid hP
  have HFR := hid hf
  have HWh := hid (where_calls (gen := S.gen + 1) (by omega))
  have HSp := hid (sput_calls hr)
  have HPL : Hid (∃ pl, (freshL S.fresh S.many).map (fun n => (n, txt n)) = pl) := hid ⟨_, rfl⟩
  clear h hP hr hf hc1 hc2
  generalize hgen : S.gen + 1 = g at *
  obtain ⟨pl, hpl⟩ := HPL.out
  rw [hpl]
  have HPL := hid hpl
  clear hpl
  go_enter Tryd.func15, Tryd.ntmps15
  go_wp2_with (first
    | (go_at_call 37; have hh := HM.out (.cells #[.int .u64 g, .int .i64 root] 37); (with_reducible refine hh.mono ?_); rintro e w2 ⟨rfl, hw⟩; clear hh; have W2 := hid (((Kept.refl (fun _ => False) w).alloc _).trans hw); have B2 := hid (hw.at (blk_new w _) id); clear hw; have d5 : w2.cell? ⟨p, 5, none⟩ = some (.map (some mf)) := ((H.out.new W2.out).cells 5).1)
    | (at_range; refine wpList_mapF_range (B := PK) _ rfl (.tmp 34) rfl (MapF.new HM1.out W2.out) rfl ?_; intro w0 hrg0 hg0 hs0))
  go_frame
  go_loopw [6] (fun a wr => ∃ (xs : List Nat) (left : Int → Bool) (cnt : Nat), Hid (Coll w2 mf w2.heap.size S.fresh c a xs left cnt wr)) (fun _ wr => wr.rangeLeft mf w2.heap.size)
  case atStart => exact ⟨[], _, c, hid ⟨hrg0, hg0, ⟨rfl, .inl ⟨rfl, rfl⟩⟩, .inl ⟨rfl, rfl⟩, fun k hk => .inr (by simpa using hk), fun k hk => (by cases hk), by simp, by simp⟩⟩
  case round =>
    obtain ⟨xs, left, cnt, HC⟩ := hrel
    go_wp2_with (first | (at_next; refine wpList_mapF_next (B := PK) _ rfl (.tmp 35) rfl rfl HC.out.rng ?_ ?_))
    · intro hc0 hl0
      have HD : Hid (∀ k, (S.fresh k).isSome = true → k ∈ xs) := hid fun k hk => by
        rcases HC.out.all k hk with h | h
        · exact h
        · have hk1 := H.out.fresh.low k hk
          rw [hl0 (k : Int) (wf_nat (by omega))] at h; cases h
      have hml2 : mf < w2.heap.size := Nat.lt_of_lt_of_le hml W2.out.size
      have hfl := HC.out.few
      have hxl : xs.length < 1000000 := by omega
      clear hl0
      go_upto_region 11 with fail
      go_cut [6] (fun u wc => Hid (∃ A cap, u = .slice A (freshL S.fresh S.many).length cap ∧ IntsAt (fun b => w.heap.size ≤ b) u ((freshL S.fresh S.many).map fun n : Nat => (n : Int)) wc ∧ New w2 wc))
      case first =>
        have HM3 : Hid (∀ n, n ∈ xs ↔ n < S.many ∧ (S.fresh n).isSome = true) := hid fun n => ⟨fun hn => ⟨H.out.fresh.low n (HC.out.dom n hn).1, (HC.out.dom n hn).1⟩, fun hn => HD.out n hn.2⟩
        rcases HC.out.shape with ⟨rfl, hxs⟩ | ⟨gr, cap, rfl, hgr⟩
        · have e1 : freshL S.fresh S.many = [] := (freshL_eq (List.Perm.refl xs) (by rw [hxs]; exact .nil) HC.out.nodup HM3.out).symm.trans hxs
          have E1 := hid e1
          have HN := hid HC.out.new
          clear hxs e1
          go_wp2_with (first | (go_at_call 38; (with_reducible refine (isort_none).mono ?_); rintro e w1 ⟨rfl, rfl⟩))
          go_meet
          refine hid ⟨none, 0, by rw [E1.out]; rfl, ?_, HN.out⟩
          rw [E1.out]
          exact ⟨none, 0, rfl, by simp, fun _ => rfl, fun h => absurd rfl h⟩
        · have HS := hid (isort_calls HC.out.own hxl)
          have HN := hid HC.out.new
          have HNd := hid HC.out.nodup
          go_wp2_with (first | (go_at_call 38; (with_reducible refine HS.out.mono ?_); rintro e w1 ⟨rfl, ys, hperm, hsort, hrow, hK1⟩; have E1 := hid (freshL_eq hperm hsort HNd.out HM3.out); have HR := hid hrow; have HN1 := hid (HN.out.turn hK1 (by omega)); have hlen := hid hperm.length_eq; clear hperm hsort hrow hK1))
          go_meet
          have e2 : (freshL S.fresh S.many).length = xs.length := by rw [← E1.out]; exact hlen.out
          have hw2 := W2.out.size
          refine hid ⟨_, cap, by rw [e2], ?_, HN1.out⟩
          have e3 := HR.out
          rw [E1.out, ← e2] at e3
          rw [← e2]
          refine (ints_at e3 (by omega)).mono fun b hb hb2 => ?_
          have : gr = b := by simpa [Value.ownBlock] using hb2
          omega
      case rest =>
        obtain ⟨A, cap, rfl, hia, hnc⟩ := hcut.out
        have hnw := W2.out.trans hnc
        have hsz2 := blk_lt B2.out
        have HIA := hid hia
        have NW := hid hnw
        have P0 := hid (H.out.less hnw)
        have BC := hid (hnc.at B2.out id)
        have hlen : (freshL S.fresh S.many).length ≤ 16384 := Nat.le_trans (Nat.le_trans (List.length_filter_le _ _) (by simp)) hfew
        have hmem := hid (fun n (hn : n ∈ freshL S.fresh S.many) => mem_freshL.1 hn)
        clear hcut hia hnc hnw HC HD HM B2 d5 hfl hxl
        have hG1 : Hid (∀ b, w.heap.size ≤ b → b < wc.heap.size → ¬ (F b ∧ ¬ (w.heap.size ≤ b ∧ b < wc.heap.size))) := hid fun b h1 h2 h3 => h3.2 ⟨h1, h2⟩
        have hG2 : Hid (∀ b, (F b ∧ ¬ (w.heap.size ≤ b ∧ b < wc.heap.size)) → F b) := hid fun b h => h.1
        generalize hGF : (fun b => F b ∧ ¬ (w.heap.size ≤ b ∧ b < wc.heap.size)) = G at *
        have hG1 : Hid (∀ b, w.heap.size ≤ b → b < wc.heap.size → ¬ G b) := hid fun b h1 h2 h3 => hG1.out b h1 h2 (by rw [← hGF] at h3; exact h3)
        have hG2 : Hid (∀ b, G b → F b) := hid fun b h => hG2.out b (by rw [← hGF] at h; exact h)
        clear hGF
        generalize hL : freshL S.fresh S.many = L at *
        have hlen2 : L.length ≤ 9223372036854775807 := by omega
        have hErr : Hid (∀ (r : DS × Int) (W : World), D.commit pl g root = r → r.2 ≠ 0 → PgrAt G p q pk bk pu bu mf mc v S r.1 W → Kept G wc W → ComPost F p q pk bk pu bu mf mc v S root w (D.commit pl g root) (.returned (.int .i64 r.2)) W) := hid fun r W e1 e2 e3 e4 => by
          rw [e1]
          exact ⟨rfl, (NW.out.mono fun _ _ e => e.elim).trans' e4 fun b _ hb => .inl (hG2.out b hb), fun _ => e3.wider H.out hG2.out, fun e => absurd e e2⟩
        go_wp2
        go_loopw [48] (fun a ws => ∃ (i : Nat) (D' : DS), a = .int .i64 i ∧ i ≤ L.length ∧ Hid (Wr G p q pk bk pu bu mf mc v S D pl wc i D' ws)) (fun a _ => L.length - (intOf a).toNat)
        case atStart => exact ⟨0, D, rfl, Nat.zero_le _, hid ⟨P0.out, Kept.refl _ _, by simp, hw⟩⟩
        case round =>
          obtain ⟨i, D', rfl, hi, HW⟩ := hrel
          by_cases hlt : i < L.length
          · as_aux_lemma =>
            have hlt0 := hlt
            have hi1 := (HIA.out.kept HW.out.kept fun b hb hs => hG1.out b hs hb)
            obtain ⟨A', cap', e1, -, -, hcc⟩ := hi1
            obtain ⟨b, off, rfl, -, -, hc⟩ := hcc (by intro e; rw [List.map_eq_nil_iff] at e; rw [e] at hlt; cases hlt)
            simp only [Value.slice.injEq, List.length_map] at e1
            obtain ⟨rfl, -, rfl⟩ := e1
            have hni : L[i]? = some L[i] := List.getElem?_eq_getElem hlt
            have hcell := hc i (L[i] : Int) (by rw [List.getElem?_map, hni]; rfl)
            obtain ⟨hn1, hn2⟩ := hmem.out L[i] (List.getElem_mem hlt)
            have hpi : pl.drop i = (L[i], txt L[i]) :: pl.drop (i + 1) := by
              have h1 : i < pl.length := by rw [← HPL.out, List.length_map]; exact hlt
              rw [List.drop_eq_getElem_cons h1]
              congr 1
              simp only [← HPL.out, List.getElem_map]
            have HPI := hid hpi
            clear hpi hc hcc
            generalize L[i] = n at *
            obtain ⟨x, hx⟩ := Option.isSome_iff_exists.1 hn2
            have HPU := hid (HPP.out n x hx)
            have hnm : n < 1000000 := by omega
            have hlk := hid (fun (W : World) (hW : Kept G wr W) => (by
              have h1 := (HW.out.at_.fresh.kept hW HW.out.at_.nmf).look hnm
              rw [hx] at h1
              exact h1 : (Instr.lookup 81 (.map (some mf)) (.int .i64 n) false).run Tryd.prog W = .ok (pgV x) W))
            have hkeep := hid (fun (W : World) (hW : Kept G wr W) => (⟨hW, cell_at (hW.at HW.out.at_.blk HW.out.at_.np) 0, cell_at (hW.at HW.out.at_.blk HW.out.at_.np) 5, hlk.out W hW⟩ : Kept G wr W ∧ W.cell? ⟨p, 0, none⟩ = some (ptr q) ∧ W.cell? ⟨p, 5, none⟩ = some (.map (some mf)) ∧ (Instr.lookup 81 (.map (some mf)) (.int .i64 n) false).run Tryd.prog W = .ok (pgV x) W))
            have n0 : Kept G wr wr.drew := (Kept.refl _ _).drew
            have HWr := hid (fun (W : World) (hW : Disk q D' G W) => write_calls hW (n : Int) (txt n) (by have := HW.out.few; omega))
            have HD0 := hid HW.out.at_.disk
            obtain ⟨k1, k2, k3, k4⟩ := x
            unfold PPuts at HPU
            obtain ⟨r, hr⟩ : ∃ r, D'.write (n : Int) (txt n) = r := ⟨_, rfl⟩
            rw [hr] at HWr
            have HR := hid hr
            clear hr hlk hx hn2 hni
            obtain ⟨D2, er⟩ := r
            have sK := hid (fun (W W2 : World) (hN : Kept G wr W) (hW : New W W2) => (hN.trans (hW.mono fun _ _ e => e.elim) : Kept G wr W2))
            go_upto_region 15 with fail
            by_cases h0 : er = 0
            · have hbq : (er != 0) = false := by rw [h0]; rfl
              have H0 := hid h0
              clear h0
              go_region_held3 (fun W => Kept G wr W ∧ W.cell? ⟨p, 0, none⟩ = some (ptr q) ∧ W.cell? ⟨p, 5, none⟩ = some (.map (some mf)) ∧ (Instr.lookup 81 (.map (some mf)) (.int .i64 n) false).run Tryd.prog W = .ok (pgV ⟨k1, k2, k3, k4⟩) W) (exact hkeep.out _ (by assumption))
                (first
                  | (go_at_call 39; (with_reducible refine (HPU.out _).mono ?_); rintro e w3 ⟨rfl, x3⟩; have n3 := sK.out _ _ n0 x3; have D3 := hid (HD0.out.new ((Kept.refl (fun _ => False) wr).drew.trans x3)); clear x3)
                  | (go_at_call 26; (with_reducible refine (HWr.out _ D3.out).mono ?_); rintro e w4 ⟨rfl, x4, y4⟩; have n4 := n3.trans y4; have X4 := hid x4; clear x4 y4))
              have e2 : D2.n = D'.n := by have := write_n D' n (txt n); rw [HR.out] at this; exact this
              have e3 : D2.wait.length ≤ D'.wait.length + 1 := by have := write_wait D' n (txt n); rw [HR.out] at this; exact this
              have NX := hid ((⟨HW.out.at_.acted X4.out e2 n4, HW.out.kept.trans n4, HW.out.puts.trans (by rw [HPI.out, puts_cons, HR.out, if_neg (by simp [H0.out])]), by have := HW.out.few; omega⟩ : Wr G p q pk bk pu bu mf mc v S D pl wc (i + 1) D2 w4))
              clear e2 e3
              go_wp2
              go_roundw
              case rel => exact ⟨i + 1, D2, by go_num, by omega, NX⟩
              case measure => simp [intOf]; omega
            · have hbq : (er != 0) = true := by simpa using h0
              have H0 := hid h0
              clear h0
              go_region_held3 (fun W => Kept G wr W ∧ W.cell? ⟨p, 0, none⟩ = some (ptr q) ∧ W.cell? ⟨p, 5, none⟩ = some (.map (some mf)) ∧ (Instr.lookup 81 (.map (some mf)) (.int .i64 n) false).run Tryd.prog W = .ok (pgV ⟨k1, k2, k3, k4⟩) W) (exact hkeep.out _ (by assumption))
                (first
                  | (go_at_call 39; (with_reducible refine (HPU.out _).mono ?_); rintro e w3 ⟨rfl, x3⟩; have n3 := sK.out _ _ n0 x3; have D3 := hid (HD0.out.new ((Kept.refl (fun _ => False) wr).drew.trans x3)); clear x3)
                  | (go_at_call 26; (with_reducible refine (HWr.out _ D3.out).mono ?_); rintro e w4 ⟨rfl, x4, y4⟩; have n4 := n3.trans y4; have X4 := hid x4; clear x4 y4))
              have e2 : D2.n = D'.n := by have := write_n D' n (txt n); rw [HR.out] at this; exact this
              have NX := hid (hErr.out (D2, er) w4 (DS.commit_puts (HW.out.puts.trans (by rw [HPI.out, puts_cons, HR.out, if_pos H0.out])) H0.out) H0.out (HW.out.at_.acted X4.out e2 n4) (HW.out.kept.trans n4))
              clear e2
              go_wp2
              go_ret
              exact NX.out
          · obtain rfl : i = L.length := by omega
            have hput : D.puts pl = (D', 0) := by
              rw [HW.out.puts, List.drop_eq_nil_of_le (by rw [← HPL.out, List.length_map]; exact Nat.le_refl _)]
              rfl
            have HPT := hid hput
            have c0 : wr.cell? ⟨p, 0, none⟩ = some (ptr q) := (HW.out.at_.cells 0).1
            obtain ⟨r, hr⟩ : ∃ r, D'.flush = r := ⟨_, rfl⟩
            have HFl := hid (flush_calls HW.out.at_.disk)
            rw [hr] at HFl
            obtain ⟨D2, ef⟩ := r
            have HF2 := hid hr
            have n2 : Hid (D2.n = D'.n) := hid (by have := flush_n D'; rw [hr] at this; exact this)
            have t2 : Hid (D2.wait.length ≤ 1000000) := hid (by have := flush_wait D'; rw [hr] at this; have := HW.out.few; simp only at *; omega)
            clear hput hr
            by_cases h0 : ef = 0
            · have hbq : (ef != 0) = false := by rw [h0]; rfl
              have hF2 : D'.flush = (D2, 0) := by rw [HF2.out, h0]
              clear h0 HF2
              have HF2 := hid hF2
              clear hF2
              obtain ⟨r, hr⟩ : ∃ r, D2.write ((g % 2 : Nat) : Int) (supS g root) = r := ⟨_, rfl⟩
              have HWr := hid (fun (W : World) (hW : Disk q D2 G W) => write_calls hW ((g % 2 : Nat) : Int) (supS g root) t2.out)
              rw [hr] at HWr
              obtain ⟨D3, ew⟩ := r
              have HW2 := hid hr
              have n3 : Hid (D3.n = D2.n) := hid (by have := write_n D2 ((g % 2 : Nat) : Int) (supS g root); rw [hr] at this; exact this)
              clear hr
              go_upto_region 22 with (first | (go_at_call 27; (with_reducible refine HFl.out.mono ?_); rintro e w4 ⟨rfl, x4, y4⟩; have X4 := hid (HW.out.at_.acted x4 n2.out y4); have Y4 := hid (HW.out.kept.trans y4); clear x4 y4))
              have sK := hid (fun (W W2 : World) (hN : Kept G w4 W) (hW : New W W2) => (hN.trans (hW.mono fun _ _ e => e.elim) : Kept G w4 W2))
              have hbc := blk_lt BC.out
              have B4 := hid (Y4.out.at BC.out (hG1.out _ (Nat.le_refl _) hbc))
              have hkeep := hid (fun (W : World) (hW : Kept G w4 W) => (⟨hW, cell_at (hW.at X4.out.blk X4.out.np) 0, cell_at (hW.at B4.out (hG1.out _ (Nat.le_refl _) hbc)) 0, cell_at (hW.at B4.out (hG1.out _ (Nat.le_refl _) hbc)) 1⟩ : Kept G w4 W ∧ W.cell? ⟨p, 0, none⟩ = some (ptr q) ∧ W.cell? ⟨w.heap.size, 0, none⟩ = some (.int .u64 g) ∧ W.cell? ⟨w.heap.size, 1, none⟩ = some (.int .i64 root)))
              have n0 : Kept G w4 w4.drew := (Kept.refl _ _).drew
              generalize hss : supS g root = ss at *
              generalize hgg : g % 2 = gm at *
              by_cases h0 : ew = 0
              · have hbw : (ew != 0) = false := by rw [h0]; rfl
                have hW2 : D2.write (gm : Int) ss = (D3, 0) := by rw [HW2.out, h0]
                clear h0 HW2
                have HW2 := hid hW2
                clear hW2
                obtain ⟨r, hr⟩ : ∃ r, D3.flush = r := ⟨_, rfl⟩
                have HFm := hid (fun (W : World) (hW : Disk q D3 G W) => flush_calls hW)
                rw [hr] at HFm
                obtain ⟨D4, ez⟩ := r
                have HF4 := hid hr
                have n4' : Hid (D4.n = D3.n) := hid (by have := flush_n D3; rw [hr] at this; exact this)
                clear hr
                go_region_held3 (fun W => Kept G w4 W ∧ W.cell? ⟨p, 0, none⟩ = some (ptr q) ∧ W.cell? ⟨w.heap.size, 0, none⟩ = some (.int .u64 g) ∧ W.cell? ⟨w.heap.size, 1, none⟩ = some (.int .i64 root)) (exact hkeep.out _ (by assumption))
                  (first
                    | (go_at_call 28; (with_reducible refine (HWh.out _).mono ?_); rintro e w5 ⟨rfl, rfl⟩)
                    | (go_at_call 29; (with_reducible refine (HSp.out _).mono ?_); rintro e w6 ⟨rfl, x6⟩; have n6 := sK.out _ _ n0 x6; have D6 := hid (X4.out.disk.new ((Kept.refl (fun _ => False) w4).drew.trans x6)); clear x6)
                    | (go_at_call 26; (with_reducible refine (HWr.out _ D6.out).mono ?_); rintro e w7 ⟨rfl, x7, y7⟩; have n7 := n6.trans y7; have X7 := hid (X4.out.acted x7 n3.out n7); clear x7 y7))
                have Y7 := hid (Y4.out.trans n7)
                have d0 : w7.cell? ⟨p, 0, none⟩ = some (ptr q) := (X7.out.cells 0).1
                have HCA : Hid (D.commit pl g root = (D4, ez)) := hid (by
                  have e5 := DS.commit_all (gen := g) (root := root) HPT.out HF2.out (by rw [hss, hgg]; exact HW2.out)
                  rw [e5, HF4.out])
                rename_i hHeld
                clear hkeep n7 n6 n0 sK HWr HFl hHeld
                by_cases h0 : ez = 0
                · have hbz : (ez != 0) = false := by rw [h0]; rfl
                  subst h0
                  go_wp2_with (first | (go_at_call 27; (with_reducible refine (HFm.out _ X7.out.disk).mono ?_); rintro e w8 ⟨rfl, x8, y8⟩; have X8 := hid (X7.out.acted x8 n4'.out y8); have Y8 := hid (Y7.out.trans y8); clear x8 y8))
                  have hmcl := H.out.clean.lt
                  have HIB := hid (fun (W : World) (hW : Kept (fun b => G b ∨ b = mc) wc W) => HIA.out.kept hW fun b hb hs e => e.elim (hG1.out b hs hb) fun e => by omega)
                  go_loopw [100] (fun a ws => ∃ i : Nat, a = .int .i64 i ∧ i ≤ L.length ∧ Hid (PgrAt G p q pk bk pu bu mf mc v { S with clean := cleanL S L i } D4 ws ∧ Kept (fun b => G b ∨ b = mc) wc ws)) (fun a _ => L.length - (intOf a).toNat)
                  case atStart => exact ⟨0, rfl, Nat.zero_le _, hid ⟨by have e : cleanL S L 0 = S.clean := (by funext n; simp [cleanL]); rw [e]; exact X8.out, Y8.out.mono fun _ _ e => .inl e⟩⟩
                  case round =>
                    obtain ⟨i, rfl, hi, HX⟩ := hrel
                    by_cases hlt : i < L.length
                    · as_aux_lemma =>
                      obtain ⟨A', cap', e1, -, -, hcc⟩ := HIB.out _ HX.out.2
                      obtain ⟨b, off, rfl, -, -, hc⟩ := hcc (by intro e; rw [List.map_eq_nil_iff] at e; rw [e] at hlt; cases hlt)
                      simp only [Value.slice.injEq, List.length_map] at e1
                      obtain ⟨rfl, -, rfl⟩ := e1
                      have hni : L[i]? = some L[i] := List.getElem?_eq_getElem hlt
                      have hcell := hc i (L[i] : Int) (by rw [List.getElem?_map, hni]; rfl)
                      obtain ⟨hn1, hn2⟩ := hmem.out L[i] (List.getElem_mem hlt)
                      clear hc hcc
                      generalize L[i] = n at *
                      obtain ⟨x, hx⟩ := Option.isSome_iff_exists.1 hn2
                      have hnm : n < 1000000 := by omega
                      have hl := HX.out.1.fresh.look hnm
                      rw [show ({ S with clean := cleanL S L i } : PS).fresh n = some x from hx] at hl
                      have c5 : wr.cell? ⟨p, 5, none⟩ = some (.map (some mf)) := (HX.out.1.cells 5).1
                      have c6 : wr.cell? ⟨p, 6, none⟩ = some (.map (some mc)) := (HX.out.1.cells 6).1
                      obtain ⟨c', hc1, hc2⟩ := HX.out.1.clean.split hfew
                      have hst := hid hc1
                      have HN1 := hid hn1
                      have HX2 := hid hx
                      have HST := hid (cleanL_step hni hx)
                      clear hc1 hx hn2 hni hn1
                      obtain ⟨k1, k2, k3, k4⟩ := x
                      have HX2 : Hid ((({ S with clean := cleanL S L i } : PS).fresh n).getD pg0 = ⟨k1, k2, k3, k4⟩) := hid (by rw [show ({ S with clean := cleanL S L i } : PS).fresh n = some _ from HX2.out]; rfl)
                      change (Instr.lookup 81 (.map (some mf)) (.int .i64 n) false).run Tryd.prog wr = .ok (pgV ⟨k1, k2, k3, k4⟩) wr at hl
                      have hl2 : (Instr.lookup 81 (.map (some mf)) (.int .i64 n) false).run Tryd.prog { heap := wr.heap, tape := wr.tape, drawn := wr.drawn + 1, os := wr.os, output := wr.output } = .ok (pgV ⟨k1, k2, k3, k4⟩) { heap := wr.heap, tape := wr.tape, drawn := wr.drawn + 1, os := wr.os, output := wr.output } := (HX.out.1.new (Kept.refl _ _).drew).fresh.look hnm |>.trans (by rw [HX2.out]; rfl)
                      go_upto_region 31 with fail
                      go_still_tail 11, (by kernel_rfl)
                      refine wpStill_lookup rfl 81 (.tmp 112) (.tmp 113) false rfl rfl rfl hl2 ?_
                      refine wpStill_nil ?_
                      change wpList _ _ _ _ _ (World.drew wr)
                      go_wp2_with (first | (at_mapUpdate; refine wpList_mapF_store (B := PK) _ rfl (.tmp 107) (.tmp 108) (.tmp 114) rfl hst.out.drew hc2 rfl (n : Int) (wf_nat hnm) ⟨k1, k2, k3, k4⟩ rfl rfl ?_; intro w9 hm3 hk3 hs3; have HM9 := hid (Pages.put hm3 HX.out.1.clean.low HN1.out); have HK9 := hid hk3; clear hm3 hk3))
                      have HY := hid ((HX.out.1.new (Kept.refl _ _).drew).setClean HM9.out HK9.out)
                      rw [show updF ({ S with clean := cleanL S L i } : PS).clean n (some ⟨k1, k2, k3, k4⟩) = cleanL S L (i + 1) from HST.out] at HY
                      go_roundw
                      case rel => exact ⟨i + 1, by go_num, by omega, hid ⟨HY.out, HX.out.2.trans ((Kept.refl _ _).drew.trans (HK9.out.mono fun _ _ e => .inr e))⟩⟩
                      case measure => simp [intOf]; omega
                    · obtain rfl : i = L.length := by omega
                      have hCL : cleanL S L L.length = fun n => if (S.fresh n).isSome then S.fresh n else S.clean n := by
                        rw [← hL]; exact cleanL_all H.out.fresh.low
                      have HCL := hid hCL
                      clear hCL
                      have hlb : bu < w.heap.size := H.out.usedS.lt.2
                      generalize cleanL S L L.length = C at *
                      have hfl1 := HX.out.1.free
                      have hfl2 : S.free.length ≤ 1000000 := HX.out.1.nf
                      obtain ⟨A2, cap2, e2, -, -, -⟩ := owns_cells hfl1
                      have e2 : v = .slice A2 S.free.length cap2 := e2
                      subst e2
                      have c7 : wr.cell? ⟨p, 7, none⟩ = some (.slice A2 S.free.length cap2) := (HX.out.1.cells 7).1
                      clear hfl1
                      go_wp2
                      go_loopw [121] (fun a ws => ∃ i : Nat, a = .int .i64 i ∧ i ≤ S.free.length ∧ Hid (PgrAt G p q pk bk pu bu mf mc (.slice A2 S.free.length cap2) { S with clean := C, U := freeL S i } D4 ws ∧ Kept (fun b => G b ∨ b = mc ∨ b = bu) wc ws)) (fun a _ => S.free.length - (intOf a).toNat)
                      case atStart => exact ⟨0, rfl, Nat.zero_le _, hid ⟨by have e : freeL S 0 = S.U := (by funext n; simp [freeL]); rw [e]; exact HX.out.1, HX.out.2.mono fun _ _ e => e.imp id .inl⟩⟩
                      case round =>
                        obtain ⟨i, rfl, hi, HZ⟩ := hrel
                        by_cases hlt : i < S.free.length
                        · as_aux_lemma =>
                          obtain ⟨A', cap', e1, -, -, hcc⟩ := owns_cells HZ.out.1.free
                          obtain ⟨b, rfl, -, -, hc⟩ := hcc (show 0 < S.free.length by omega)
                          simp only [Value.slice.injEq] at e1
                          obtain ⟨rfl, -, rfl⟩ := e1
                          have hni : S.free[i]? = some S.free[i] := List.getElem?_eq_getElem hlt
                          have hcell := (hc i (.int .i64 (S.free[i] : Nat)) (by show (ints S.free)[i]? = _; rw [List.getElem?_map, hni]; rfl)).1
                          have hn1 := HFR.out S.free[i] (List.getElem_mem hlt)
                          clear hc hcc
                          generalize S.free[i] = n at *
                          have c4 : wr.cell? ⟨p, 4, none⟩ = some (ptr pu) := (HZ.out.1.cells 4).1
                          have HFA := hid (free_any HZ.out.1.usedS (n := n) hn1)
                          have HST := hid (freeL_step hni)
                          clear hni hn1
                          go_wp2_with (first | (go_at_call 40; (with_reducible refine HFA.out.mono ?_); rintro e w9 ⟨⟨bb, rfl⟩, x1, x2⟩; have HY := hid (HZ.out.1.setU x1 x2); have HK9 := hid x2; clear x1 x2))
                          rw [show setU ({ S with clean := C, U := freeL S i } : PS).U n false = freeL S (i + 1) from HST.out] at HY
                          go_roundw
                          case rel => exact ⟨i + 1, by go_num, by omega, hid ⟨HY.out, HZ.out.2.trans (HK9.out.mono fun _ _ e => .inr (.inr e))⟩⟩
                          case measure => simp [intOf]; omega
                        · obtain rfl : i = S.free.length := by omega
                          have hFL : freeL S S.free.length = fun n => S.U n && !decide (n ∈ S.free) := by
                            unfold freeL; rw [List.take_length]
                          have HFL := hid hFL
                          clear hFL
                          generalize freeL S S.free.length = U2 at *
                          have c4 : wr.cell? ⟨p, 4, none⟩ = some (ptr pu) := (HZ.out.1.cells 4).1
                          have HC := hid (copy_calls (HZ.out.1.usedS.new (Kept.refl _ _).drew))
                          have hsz5 := blk_lt BC.out
                          have B5 := hid (HZ.out.2.at BC.out fun e => e.elim (hG1.out _ (Nat.le_refl _) hsz5) fun e => by omega)
                          obtain ⟨k0, k1, -, -⟩ := two_cells0 B5.out
                          go_upto_region 38 with fail
                          go_cut [] (fun wx => Hid (∃ G' pk' bk', PgrAt G' p q pk' bk' pu bu mf mc (.slice none 0 0) { S with gen := g, root := root, K := U2, U := U2, clean := C, free := [] } D4 wx ∧ (∀ b, G' b → F b) ∧ w.heap.size ≤ pk' ∧ w.heap.size ≤ bk' ∧ Kept (fun b => b = p) wr wx))
                          case first =>
                            go_region_with (first | (go_at_call 34; (with_reducible refine HC.out.mono ?_); rintro e w9 ⟨rfl, x1, x2, x3⟩; have X1 := hid x1; have X2 := hid x2; have X3 := hid x3; clear x1 x2 x3; have B9 := hid (X2.out.at (blk_drew HZ.out.1.blk) id); have d1 : w9.cell? ⟨p, 1, none⟩ = some (.int .u64 S.gen) := cell_at B9.out 1; have d2 : w9.cell? ⟨p, 2, none⟩ = some (.int .i64 S.root) := cell_at B9.out 2; have d3 : w9.cell? ⟨p, 3, none⟩ = some (ptr pk) := cell_at B9.out 3; have d7 : w9.cell? ⟨p, 7, none⟩ = some (.slice A2 S.free.length cap2) := cell_at B9.out 7; have e1 : w9.frozen? ⟨p, 1, none⟩ = false := frozen_at B9.out 1; have e2 : w9.frozen? ⟨p, 2, none⟩ = false := frozen_at B9.out 2; have e3 : w9.frozen? ⟨p, 3, none⟩ = false := frozen_at B9.out 3; have e7 : w9.frozen? ⟨p, 7, none⟩ = false := frozen_at B9.out 7; obtain ⟨m0, m1, -, -⟩ := two_cells0 (X2.out.at (blk_drew B5.out) id)))
                            all_goals
                              have N := (HZ.out.1.new (Kept.refl _ _).drew).newState (w := wr.drew) X1.out X2.out X3.out hg root
                              have HN := hid N
                              clear N
                              go_wp2_with fail
                              go_meet
                              have z1 := NW.out.size
                              have z2 := HZ.out.2.size
                              refine hid ⟨_, _, _, HN.out.1, fun b e => hG2.out b e.1, ?_, ?_, (Kept.refl _ _).drew.trans HN.out.2⟩
                              · show w.heap.size ≤ wr.heap.size + 1; omega
                              · show w.heap.size ≤ wr.heap.size; omega
                          case rest =>
                            obtain ⟨G', pk', bk', hA, hG', l1, l2, hKw⟩ := hcut.out
                            obtain ⟨w10, hrun, hz1, hz2⟩ := hA.cleared
                            have c5 : wc.cell? ⟨p, 5, none⟩ = some (.map (some mf)) := (hA.cells 5).1
                            have Z1 := hid hz1
                            have Z2 := hid hz2
                            have HG' := hid hG'
                            have HKw := hid hKw
                            have e9 : S.committed root = { S with gen := g, root := root, K := U2, U := U2, clean := C, fresh := fun _ => none, free := [] } := by
                              unfold PS.committed; rw [hgen, ← HFL.out, ← HCL.out]
                            have E9 := hid e9
                            clear hz1 hz2 hA hG' hKw hcut e9
                            go_wp2_with fail
                            go_ret
                            rw [HCA.out]
                            refine ⟨rfl, ?_, fun e => absurd rfl e, fun _ => ⟨G', pk', bk', by rw [E9.out]; exact Z1.out, HG'.out, l1, l2⟩⟩
                            exact (NW.out.mono fun _ _ e => e.elim).trans ((HZ.out.2.mono fun b _ e => by
                              rcases e with e | e | e
                              · exact .inl (hG2.out b e)
                              · exact .inr (.inr (.inr (.inr e)))
                              · exact .inr (.inr (.inl e))).trans ((HKw.out.mono fun _ _ e => .inr (.inl e)).trans (Z2.out.mono fun _ _ e => .inr (.inr (.inr (.inl e))))))
                · as_aux_lemma =>
                  have hbz : (ez != 0) = true := by simpa using h0
                  have H0 := hid h0
                  clear h0
                  go_wp2_with (first | (go_at_call 27; (with_reducible refine (HFm.out _ X7.out.disk).mono ?_); rintro e w8 ⟨rfl, x8, y8⟩; have X8 := hid (X7.out.acted x8 n4'.out y8); have Y8 := hid (Y7.out.trans y8); clear x8 y8))
                  go_ret
                  exact hErr.out (D4, ez) _ HCA.out H0.out X8.out Y8.out
              · as_aux_lemma =>
                have hbq : (ew != 0) = true := by simpa using h0
                have H0 := hid h0
                clear h0
                go_region_held3 (fun W => Kept G w4 W ∧ W.cell? ⟨p, 0, none⟩ = some (ptr q) ∧ W.cell? ⟨w.heap.size, 0, none⟩ = some (.int .u64 g) ∧ W.cell? ⟨w.heap.size, 1, none⟩ = some (.int .i64 root)) (exact hkeep.out _ (by assumption))
                  (first
                    | (go_at_call 28; (with_reducible refine (HWh.out _).mono ?_); rintro e w5 ⟨rfl, rfl⟩)
                    | (go_at_call 29; (with_reducible refine (HSp.out _).mono ?_); rintro e w6 ⟨rfl, x6⟩; have n6 := sK.out _ _ n0 x6; have D6 := hid (X4.out.disk.new ((Kept.refl (fun _ => False) w4).drew.trans x6)); clear x6)
                    | (go_at_call 26; (with_reducible refine (HWr.out _ D6.out).mono ?_); rintro e w7 ⟨rfl, x7, y7⟩; have n7 := n6.trans y7; have X7 := hid (X4.out.acted x7 n3.out n7); clear x7 y7))
                go_wp2
                go_ret
                have e5 := DS.commit_write (gen := g) (root := root) HPT.out HF2.out (by rw [hss, hgg, HW2.out]; exact H0.out)
                rw [hss, hgg, HW2.out] at e5
                exact hErr.out (D3, ew) _ e5 H0.out X7.out (Y4.out.trans n7)
            · as_aux_lemma =>
              have hbq : (ef != 0) = true := by simpa using h0
              have H0 := hid h0
              clear h0
              go_wp2_with (first | (go_at_call 27; (with_reducible refine HFl.out.mono ?_); rintro e w4 ⟨rfl, x4, y4⟩; have X4 := hid x4; have Y4 := hid y4; clear x4 y4))
              go_ret
              exact hErr.out (D2, ef) _ (by rw [← HF2.out]; exact DS.commit_flush HPT.out (by rw [HF2.out]; exact H0.out)) H0.out (HW.out.at_.acted X4.out n2.out Y4.out) (HW.out.kept.trans Y4.out)
    · intro x y w' cnt' hgx hlx hx0 hfx hrg' hlt hkp hsz hen
      obtain ⟨n, rfl⟩ : ∃ n : Nat, x = n := ⟨x.toNat, by omega⟩
      rw [Int.toNat_natCast] at hfx
      have hle := HC.out.rng.left_eq
      have HT := hid (HC.out.turn (Nat.le_refl _) hrg' hkp hlt)
      have hfew := HC.out.few
      have HX : Hid ((S.fresh n).isSome = true) := hid (by rw [hfx]; rfl)
      have HLX := hid hlx
      have hm2 : mf < w2.heap.size := Nat.lt_of_lt_of_le hml W2.out.size
      change (Instr.entry (.pointer (some ⟨w2.heap.size, 0, none⟩))).run Tryd.prog w' = Result.ok (.tuple #[.int .i64 n, PK.mkV y]) w' at hen
      clear hrg' hkp hfx hgx hlx hx0
      go_wp2_with (first | (at_builtin; refine wpList_append_lies _ rfl (.tmp 40) (.tmp 42) 22 rfl 0 3 i0 (.int .i64 0) 1 8 Tryd.underlying22 hi0 hz0 hz1 hz2 rfl (by decide) _ _ _ rfl (World.ownsRow.alloc HT.out.2.2.1 _) ⟨wr.heap.size, 0, none⟩ 1 1 [.int .i64 (n : Int)] rfl rfl (World.news_of_block (blk_at _ _ hsz)) (by intro u hu; simp at hu; subst hu; rfl) (by decide) (by unfold maxLen; omega) (by omega) (Nat.zero_le _) _ rfl ?_; intro g1 cap1 w5 hown hgrow hat hlt5; have HC2 := hid (Coll.app (Nat.le_refl _) hm2 HC.out HX.out HLX.out HT.out hown hgrow hat); clear hown hgrow hat))
      have hle2 := HC2.out.rng.left_eq
      exact ⟨⟨xs ++ [n], _, cnt', HC2⟩, by rw [hle, hle2]; exact hlt⟩
end Go.Proofs.YtolifmpjbmekdaaDoor
