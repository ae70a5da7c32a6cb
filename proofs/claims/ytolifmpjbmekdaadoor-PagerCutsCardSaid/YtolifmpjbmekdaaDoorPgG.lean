/-
The pager's functions, where the pager's blocks are just some of G; conditions: the pager lies in memory as told.
-/
import Derived.Test.YtolifmpjbmekdaaDoorPgCom
import Derived.Test.YtolifmpjbmekdaaDoorPgOpen
namespace Go.Proofs.YtolifmpjbmekdaaDoor
open Go.RowKit
open Go.Lib (hid)
variable {F G : Nat → Prop} {p q pk bk pu bu mf mc : Nat} {v : Value} {S : PS} {D : DS} {w : World}
theorem Pgr.of (h : PgrAt F p q pk bk pu bu mf mc v S D w) (hF : ∀ b, F b → G b) (g1 : G p) (g2 : G pk) (g3 : G bk) (g4 : G pu) (g5 : G bu) (g6 : G mf) (g7 : G mc) (g8 : ∀ b, v.ownBlock = some b → G b) : Pgr G p q S D w :=
  ⟨F, pk, bk, pu, bu, mf, mc, v, h, hF, g1, g2, g3, g4, g5, g6, g7, g8⟩
theorem Pgr.wider {G2 : Nat → Prop} (h : Pgr G p q S D w) (hG : ∀ b, G b → G2 b) : Pgr G2 p q S D w := by
  obtain ⟨F, pk, bk, pu, bu, mf, mc, v, h, hF, g1, g2, g3, g4, g5, g6, g7, g8⟩ := h
  exact ⟨F, pk, bk, pu, bu, mf, mc, v, h, fun b e => hG b (hF b e), hG _ g1, hG _ g2, hG _ g3, hG _ g4, hG _ g5, hG _ g6, hG _ g7, fun b e => hG b (g8 b e)⟩
theorem Pgr.kept {H : Nat → Prop} {w' : World} (h : Pgr G p q S D w) (hk : Kept H w w') (hH : ∀ b, b < w.heap.size → G b → ¬ H b) : Pgr G p q S D w' := by
  obtain ⟨F, pk, bk, pu, bu, mf, mc, v, h, hF, g1, g2, g3, g4, g5, g6, g7, g8⟩ := h
  have l1 := blk_lt h.blk
  have l2 := h.keptS.lt
  have l3 := h.usedS.lt
  have l4 := h.fresh.lt
  have l5 := h.clean.lt
  exact ⟨F, pk, bk, pu, bu, mf, mc, v, h.kept hk (fun b hb e => hH b hb (hF b e)) (hH _ l1 g1) (hH _ l2.1 g2) (hH _ l2.2 g3) (hH _ l3.1 g4) (hH _ l3.2 g5) (hH _ l4 g6) (hH _ l5 g7) (fun b e => hH b (own_lt h.free e) (g8 b e)), hF, g1, g2, g3, g4, g5, g6, g7, g8⟩
theorem Pgr.less {w' : World} (h : Pgr G p q S D w) (hk : New w w') : Pgr (fun b => G b ∧ ¬ (w.heap.size ≤ b ∧ b < w'.heap.size)) p q S D w' := by
  obtain ⟨F, pk, bk, pu, bu, mf, mc, v, h, hF, g1, g2, g3, g4, g5, g6, g7, g8⟩ := h
  have l1 := blk_lt h.blk
  have l2 := h.keptS.lt
  have l3 := h.usedS.lt
  have l4 := h.fresh.lt
  have l5 := h.clean.lt
  refine ⟨_, pk, bk, pu, bu, mf, mc, v, h.less hk, fun b e => ⟨hF b e.1, e.2⟩, ⟨g1, by omega⟩, ⟨g2, by omega⟩, ⟨g3, by omega⟩, ⟨g4, by omega⟩, ⟨g5, by omega⟩, ⟨g6, by omega⟩, ⟨g7, by omega⟩, fun b e => ⟨g8 b e, ?_⟩⟩
  have := own_lt h.free e
  omega
theorem Pgr.disk (h : Pgr G p q S D w) : Disk q D G w := by
  obtain ⟨F, pk, bk, pu, bu, mf, mc, v, h, hF, _⟩ := h
  exact h.disk.wider hF
theorem Pgr.same (h : Pgr G p q S D w) : D.n = S.many ∧ S.many ≤ 16384 ∧ S.gen < 1000000 := by
  obtain ⟨F, pk, bk, pu, bu, mf, mc, v, h, hF, _⟩ := h
  exact ⟨h.same, h.keptS.few, h.ng⟩
theorem g_state (h : Pgr G p q S D w) : Calls Tryd.prog 12 #[ptr p] w fun e w' => e = .returned (supV S.gen S.root) ∧ New w w' := by
  obtain ⟨F, pk, bk, pu, bu, mf, mc, v, h, _⟩ := h
  exact state_calls h
theorem g_left (h : Pgr G p q S D w) : Calls Tryd.prog 24 #[ptr p] w fun e w' => e = .returned (.int .i64 ((S.many - countU S.U S.many : Nat) : Int)) ∧ w = w' := by
  obtain ⟨F, pk, bk, pu, bu, mf, mc, v, h, _⟩ := h
  exact pleft_calls h
theorem g_mark_kept (h : Pgr G p q S D w) {n : Nat} (hn : n < S.many) (hk : S.K n = true) : Calls Tryd.prog 17 #[ptr p, .int .i64 n] w fun e w' => e = .returned (.bool false) ∧ w = w' := by
  obtain ⟨F, pk, bk, pu, bu, mf, mc, v, h, _⟩ := h
  exact mark_kept h hn hk
theorem g_mark_new (h : Pgr G p q S D w) {n : Nat} (hn : n < S.many) (hk : S.K n = false) (hu : S.U n = false) : Calls Tryd.prog 17 #[ptr p, .int .i64 n] w fun e w' => e = .returned (.bool true) ∧ Pgr G p q { S with K := setU S.K n true, U := setU S.U n true } D w' ∧ Kept G w w' := by
  obtain ⟨F, pk, bk, pu, bu, mf, mc, v, h, hF, g1, g2, g3, g4, g5, g6, g7, g8⟩ := h
  exact (mark_new h hn hk hu).mono fun e w' he => ⟨he.1, .of he.2.1 hF g1 g2 g3 g4 g5 g6 g7 g8, he.2.2.mono fun b _ e => by rcases e with rfl | rfl <;> assumption⟩
theorem g_add_full (h : Pgr G p q S D w) (ht : Tabs w) (hf : ∀ k, 2 ≤ k → k < S.many → S.U k = true) (kind : Int) (s : ByteArray) : Calls Tryd.prog 14 #[ptr p, .int .i64 kind, .string s] w fun e w' => e = .returned (.tuple #[.int .i64 0, .int .i64 80]) ∧ w = w' := by
  obtain ⟨F, pk, bk, pu, bu, mf, mc, v, h, _⟩ := h
  exact padd_full h ht hf kind s
theorem g_add_no (h : Pgr G p q S D w) (ht : Tabs w) {n : Nat} (hf : FirstAt S.U 2 n) (hn : n < S.many) {kind : Int} {s : ByteArray} (hm : mayB kind n s = false) : Calls Tryd.prog 14 #[ptr p, .int .i64 kind, .string s] w fun e w' => e = .returned (.tuple #[.int .i64 0, .int .i64 1]) ∧ New w w' := by
  obtain ⟨F, pk, bk, pu, bu, mf, mc, v, h, _⟩ := h
  exact padd_no h ht hf hn hm
theorem g_add_yes (h : Pgr G p q S D w) (ht : Tabs w) {n : Nat} (hf : FirstAt S.U 2 n) (hn : n < S.many) {kind : Int} {s : ByteArray} (hm : mayB kind n s = true) : Calls Tryd.prog 14 #[ptr p, .int .i64 kind, .string s] w fun e w' => e = .returned (.tuple #[.int .i64 n, .int .i64 0]) ∧ Pgr G p q { S with U := setU S.U n true, fresh := updF S.fresh n (some ⟨kind, n, (S.gen : Int) + 1, s⟩) } D w' ∧ Kept G w w' := by
  obtain ⟨F, pk, bk, pu, bu, mf, mc, v, h, hF, g1, g2, g3, g4, g5, g6, g7, g8⟩ := h
  exact (padd_yes h ht hf hn hm).mono fun e w' he => ⟨he.1, .of he.2.1 hF g1 g2 g3 g4 g5 g6 g7 g8, he.2.2.mono fun b _ e => by rcases e with rfl | rfl <;> assumption⟩
theorem g_drop_fresh (h : Pgr G p q S D w) {n : Nat} (h2 : 2 ≤ n) (hn : n < S.many) (hu : S.U n = true) {x : Pg} (hx : S.fresh n = some x) : Calls Tryd.prog 16 #[ptr p, .int .i64 n] w fun e w' => e = .returned (.tuple #[]) ∧ Pgr G p q { S with U := setU S.U n false, fresh := updF S.fresh n none } D w' ∧ Kept G w w' := by
  obtain ⟨F, pk, bk, pu, bu, mf, mc, v, h, hF, g1, g2, g3, g4, g5, g6, g7, g8⟩ := h
  exact (drop_fresh h h2 hn hu hx).mono fun e w' he => ⟨he.1, .of he.2.1 hF g1 g2 g3 g4 g5 g6 g7 g8, he.2.2.mono fun b _ e => by rcases e with rfl | rfl <;> assumption⟩
theorem g_drop_kept (h : Pgr G p q S D w) {n : Nat} (h2 : 2 ≤ n) (hn : n < S.many) (hu : S.U n = true) (hk : S.K n = true) (hx : S.fresh n = none) (hf : n ∉ S.free) (hl2 : S.free.length + 1 ≤ 1000000) : Calls Tryd.prog 16 #[ptr p, .int .i64 n] w fun e w' => e = .returned (.tuple #[]) ∧ Pgr G p q { S with free := S.free ++ [n] } D w' ∧ Kept G w w' := by
  have hup := h.up
  obtain ⟨F, pk, bk, pu, bu, mf, mc, v, h, hF, g1, g2, g3, g4, g5, g6, g7, g8⟩ := h
  refine (drop_kept h h2 hn hu hk hx hf hl2).mono fun e w' he => ⟨he.1, ?_, he.2.2.mono fun b _ e => ?_⟩
  · obtain ⟨F', v', h', hF', hv'⟩ := he.2.1
    exact .of h' (fun b e => hF b (hF' b e)) g1 g2 g3 g4 g5 g6 g7 fun b e => (hv' b e).elim (g8 b) (hup b)
  · rcases e with rfl | e
    · exact g1
    · exact g8 b e
theorem g_undo (h : Pgr G p q S D w) : Calls Tryd.prog 22 #[ptr p] w fun e w' => e = .returned (.tuple #[]) ∧ Pgr G p q { S with U := S.K, free := [], fresh := fun _ => none } D w' ∧ Kept G w w' := by
  have hup := h.up
  obtain ⟨F, pk, bk, pu, bu, mf, mc, v, h, hF, g1, g2, g3, g4, g5, g6, g7, g8⟩ := h
  refine (undo_calls h).mono fun e w' he => ⟨he.1, ?_, he.2.2.mono fun b _ e => by rcases e with rfl | rfl <;> assumption⟩
  obtain ⟨F', h', hF'⟩ := he.2.1
  exact .of h' (fun b e => hF b (hF' b e)) g1 g2 g3 (hup _ (Nat.le_succ _)) (hup _ (Nat.le_refl _)) g6 g7 fun b e => by cases e
theorem g_commit_bad (h : Pgr G p q S D w) {root : Int} (hr : smayB (S.gen + 1 : Nat) root = false) : Calls Tryd.prog 15 #[ptr p, .int .i64 root] w fun e w' => e = .returned (.int .i64 1) ∧ New w w' := by
  obtain ⟨F, pk, bk, pu, bu, mf, mc, v, h, _⟩ := h
  exact commit_bad h hr
theorem g_commit (h : Pgr G p q S D w) {txt : Nat → ByteArray} (hP : ∀ n x, S.fresh n = some x → PPuts x (txt n)) (hw : D.wait.length ≤ 1000) {root : Int} (hr : smayB (S.gen + 1 : Nat) root = true) (hf : ∀ n ∈ S.free, n < S.many) (hg : S.gen + 1 < 1000000) {r : DS × Int} (hc : D.commit ((freshL S.fresh S.many).map fun n => (n, txt n)) (S.gen + 1) root = r) :
    Calls Tryd.prog 15 #[ptr p, .int .i64 root] w fun e w' => e = .returned (.int .i64 r.2) ∧ Pgr G p q (if r.2 = 0 then S.committed root else S) r.1 w' ∧ Kept G w w' := by
  have hup := h.up
  obtain ⟨F, pk, bk, pu, bu, mf, mc, v, h, hF, g1, g2, g3, g4, g5, g6, g7, g8⟩ := h
  have hh := commit_calls h hP hw hr hf hg
  rw [hc] at hh
  refine hh.mono fun e w' he => ?_
  obtain ⟨e1, e2, e3, e4⟩ := he
  refine ⟨e1, ?_, e2.mono fun b _ e => ?_⟩
  · by_cases h0 : r.2 = 0
    · rw [if_pos h0]
      obtain ⟨F', pk', bk', h', hF', l1, l2⟩ := e4 h0
      exact .of h' (fun b e => hF b (hF' b e)) g1 (hup _ l1) (hup _ l2) g4 g5 g6 g7 fun b e => by cases e
    · rw [if_neg h0]
      exact .of (e3 h0) hF g1 g2 g3 g4 g5 g6 g7 g8
  · rcases e with e | rfl | rfl | rfl | rfl
    · exact hF b e
    all_goals assumption
theorem g_read {w0 : World} (h : Pgr G p q S D w0) (hk : New w0 w) {n : Nat} (hn : n < S.many) {x : Pg} {S' : PS} {D' : DS} (hg : Gives S D n x S' D') (hx : x.num = n) {u : Value} {k : Int} (hu : IntsAt (fun b => w0.heap.size ≤ b) u [k] w) :
    Calls Tryd.prog 18 #[ptr p, .int .i64 n, u] w fun e w' => e = .returned (if x.kind = k then .tuple #[pgV x, .int .i64 0] else .tuple #[pgV pg0, .int .i64 82]) ∧ Pgr G p q S' D' w' ∧ Kept (fun b => G b ∧ ¬ (w0.heap.size ≤ b ∧ b < w.heap.size)) w w' := by
  obtain ⟨F, pk, bk, pu, bu, mf, mc, v, h, hF, g1, g2, g3, g4, g5, g6, g7, g8⟩ := h
  have l5 := h.clean.lt
  refine (pread_calls (h.less hk) hn hg hx hu fun b hb e => ⟨fun e2 => e2.2 ⟨e, hb⟩, by omega⟩).mono fun e w' he => ⟨he.1, .of (he.2.1.wider h fun b e => e.1) hF g1 g2 g3 g4 g5 g6 g7 g8, he.2.2.mono fun b _ e => ?_⟩
  rcases e with e | rfl
  · exact ⟨hF b e.1, e.2⟩
  · exact ⟨g7, by omega⟩
theorem g_open (h : Disk q D G w) (hm : 2 ≤ D.n) {s0 s1 : ByteArray} {D1 D2 : DS} (h0 : D.sector 0 = (D1, s0, 0)) (h1 : D1.sector 1 = (D2, s1, 0)) {A B : Option (Nat × Int)} (hA : SupTells s0 0 A) (hB : SupTells s1 1 B) {gen : Nat} {root : Int} (hl : later A B = some (gen, root)) (hg : gen < 1000000) :
    Calls Tryd.prog 11 #[.pointer (some ⟨q, 0, none⟩)] w fun e w' => (∃ p, e = .returned (.tuple #[ptr p, .int .i64 0]) ∧ Pgr G p q (PS.opened gen root D.n) D2 w' ∧ w.heap.size ≤ p) ∧ Kept G w w' := by
  have hup := h.up
  have hh := open_calls h hm (A := A) (B := B) (fun _ _ => by rw [h0]; simp only; rw [h1]; exact ⟨hA, hB⟩) (fun g r e => by rw [hl] at e; cases e; exact hg)
  rw [hl, h0] at hh
  simp only at hh
  rw [h1] at hh
  have e1 : D2.n = D.n := by
    have a := sector_n D 0
    have b := sector_n D1 1
    rw [h0] at a; rw [h1] at b
    exact b.trans a
  refine hh.mono fun e w' he => ?_
  obtain ⟨hk, he⟩ := he
  rcases he with ⟨h2, _⟩ | ⟨_, h2, _⟩ | ⟨_, _, h2, _⟩ | ⟨_, _, g', r', h2, F', p', pk', bk', pu', bu', mf', mc', rfl, h3, h4, l1, l2, l3, l4, l5, l6, l7⟩
  · exact absurd rfl h2
  · exact absurd rfl h2
  · cases h2
  · cases h2
    rw [e1] at h3
    exact ⟨⟨p', rfl, .of h3 h4 (hup _ l1) (hup _ l2) (hup _ l3) (hup _ l4) (hup _ l5) (hup _ l6) (hup _ l7) (fun b e => by cases e), l1⟩, hk⟩
end Go.Proofs.YtolifmpjbmekdaaDoor
