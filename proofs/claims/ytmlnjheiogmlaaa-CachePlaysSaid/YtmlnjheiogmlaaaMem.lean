/-
Small laws on memory: what a call leaves as it was, and keys and texts that lie in two rows behind a pointer; conditions: those that each theorem names.
-/
import Derived.Test.YtmlnjheiogmlaaaProg
import Derived.WalkKit
import Derived.Below
import Derived.Lib.Hide
import Derived.Deep.AppendLies
namespace Go.Proofs.Ytmlnjheiogmlaaa
open Go.RowKit

/-- All blocks that were there, but for those of F, are as they were. -/
structure Kept (F : Nat → Prop) (w w' : World) : Prop where
  os : w'.os = w.os
  tape : w'.tape = w.tape
  output : w'.output = w.output
  size : w.heap.size ≤ w'.heap.size
  block : ∀ k, k < w.heap.size → ¬ F k → w'.heap[k]? = w.heap[k]?

theorem Kept.refl (F : Nat → Prop) (w : World) : Kept F w w := ⟨rfl, rfl, rfl, Nat.le_refl _, fun _ _ _ => rfl⟩
theorem Kept.trans' {F F' : Nat → Prop} {a b c : World} (h : Kept F a b) (k : Kept F' b c) (hF : ∀ x, x < a.heap.size → F' x → F x) : Kept F a c :=
  ⟨k.os.trans h.os, k.tape.trans h.tape, k.output.trans h.output, Nat.le_trans h.size k.size, fun i hi hn => (k.block i (Nat.lt_of_lt_of_le hi h.size) (fun x => hn (hF i hi x))).trans (h.block i hi hn)⟩
theorem Kept.trans {F : Nat → Prop} {a b c : World} (h : Kept F a b) (k : Kept F b c) : Kept F a c := h.trans' k fun _ _ x => x
theorem Kept.mono {F F' : Nat → Prop} {a b : World} (h : Kept F a b) (hF : ∀ x, x < a.heap.size → F x → F' x) : Kept F' a b :=
  ⟨h.os, h.tape, h.output, h.size, fun i hi hn => h.block i hi (fun x => hn (hF i hi x))⟩
theorem Kept.of_below {F : Nat → Prop} {a b : World} (h : Below a.heap.size a b) : Kept F a b := ⟨h.os, h.tape, h.output, h.size, fun k hk _ => h.block k hk⟩
theorem Kept.below {F : Nat → Prop} {a b : World} {B : Nat} (h : Kept F a b) (hB : B ≤ a.heap.size) (hF : ∀ x, F x → B ≤ x) : Below B a b :=
  ⟨h.os, h.tape, h.output, h.size, fun k hk => h.block k (Nat.lt_of_lt_of_le hk hB) (fun x => Nat.lt_irrefl _ (Nat.lt_of_lt_of_le hk (hF k x)))⟩
theorem Kept.drew {F : Nat → Prop} {a b : World} (h : Kept F a b) : Kept F a b.drew := ⟨h.os, h.tape, h.output, h.size, h.block⟩
theorem Kept.alloc {F : Nat → Prop} {a b : World} (h : Kept F a b) (o : Obj) : Kept F a (b.alloc o) :=
  h.trans (Kept.of_below ((Below.refl _ _).alloc (Nat.le_refl _) o))
theorem Kept.setCell {F : Nat → Prop} {a b : World} (h : Kept F a b) {p : Addr} (hp : F p.block ∨ a.heap.size ≤ p.block) (u : Value) : Kept F a (b.setCell p u) := by
  refine h.trans' (F' := fun x => x = p.block) ⟨rfl, rfl, rfl, by simp [World.setCell], fun k hk hn => Below.heap_setCell _ _ _ _ hn⟩ ?_
  intro x hx he
  rcases hp with hp | hp
  · exact he ▸ hp
  · exact absurd hp (by omega)
theorem Kept.grown {F : Nat → Prop} {a b c : World} {row : Option Nat} (h : Kept F a b) (hg : b.grownBy c row) (hr : ∀ k, row = some k → F k ∨ a.heap.size ≤ k) : Kept F a c := by
  refine h.trans' (F' := fun x => row = some x) ⟨hg.os, hg.tape, hg.output, hg.size, fun k hk hn => hg.block k hk (fun e => hn e.symm)⟩ ?_
  intro x hx he
  rcases hr x he with h | h
  · exact h
  · omega
theorem Kept.at {F : Nat → Prop} {a b : World} (h : Kept F a b) {k : Nat} {o : Obj} (hk : a.heap[k]? = some o) (hn : ¬ F k) : b.heap[k]? = some o :=
  (h.block k (Array.getElem?_eq_some_iff.1 hk).1 hn).trans hk
theorem blk_lt {w : World} {k : Nat} {o : Obj} (hk : w.heap[k]? = some o) : k < w.heap.size := (Array.getElem?_eq_some_iff.1 hk).1

/-- What is owned stays owned where its own block is kept. -/
theorem owns_kept {F : Nat → Prop} {a b : World} (h : Kept F a b) {base : Nat} {e : TypeId} {size : Nat} {v : Value} {n : Nat} {xs : List Value} (ho : a.ownsRow base e size v n xs) (hn : ∀ k, v.ownBlock = some k → ¬ F k) : b.ownsRow base e size v n xs := by
  refine ⟨ho.1, ?_⟩
  rcases ho.2 with h0 | ⟨g, cap, cur, rfl, hb, hg, r⟩
  · exact .inl h0
  · exact .inr ⟨g, cap, cur, rfl, hb, h.at hg (hn g rfl), r⟩

/-- Keys and texts, in two rows behind a pointer. -/
structure KVat (g : Nat) (vk vt : Value) (l : List (ByteArray × ByteArray)) (w : World) : Prop where
  blk : w.heap[g]? = some (.cells #[vk, vt] 26 (0, 0))
  ks : w.ownsRow 0 9 1 vk l.length (l.map fun p => .string p.1)
  ts : w.ownsRow 0 9 1 vt l.length (l.map fun p => .string p.2)
  nk : vk.ownBlock ≠ some g
  nt : vt.ownBlock ≠ some g
  ne : ∀ k, vk.ownBlock = some k → vt.ownBlock ≠ some k
def foot (g : Nat) (vk vt : Value) (b : Nat) : Prop := b = g ∨ vk.ownBlock = some b ∨ vt.ownBlock = some b
theorem KVat.kept {F : Nat → Prop} {g : Nat} {vk vt : Value} {l : List (ByteArray × ByteArray)} {w w' : World} (h : KVat g vk vt l w) (hk : Kept F w w') (hF : ∀ b, foot g vk vt b → ¬ F b) : KVat g vk vt l w' :=
  ⟨hk.at h.blk (hF g (.inl rfl)), owns_kept hk h.ks (fun k e => hF k (.inr (.inl e))), owns_kept hk h.ts (fun k e => hF k (.inr (.inr e))), h.nk, h.nt, h.ne⟩

/-- What a key has. -/
def kvGet : List (ByteArray × ByteArray) → ByteArray → ByteArray × Bool
  | [], _ => (⟨#[]⟩, false)
  | p :: l, k => if p.1 = k then (p.2, true) else kvGet l k
/-- A key is let have a text. -/
def kvPut : List (ByteArray × ByteArray) → ByteArray → ByteArray → List (ByteArray × ByteArray)
  | [], k, t => [(k, t)]
  | p :: l, k, t => if p.1 = k then (p.1, t) :: l else p :: kvPut l k t
/-- A key is taken away. -/
def kvDel : List (ByteArray × ByteArray) → ByteArray → List (ByteArray × ByteArray)
  | [], _ => []
  | p :: l, k => if p.1 = k then l else p :: kvDel l k

theorem kvGet_at (l : List (ByteArray × ByteArray)) (k : ByteArray) : ∀ (i : Nat) (hi : i < l.length), (∀ j (hj : j < i), (l[j]'(Nat.lt_trans hj hi)).1 ≠ k) → l[i].1 = k → kvGet l k = (l[i].2, true) := by
  induction l with
  | nil => intro i hi; simp at hi
  | cons p l ih =>
    intro i hi hn he
    cases i with
    | zero => simp only [List.getElem_cons_zero] at he ⊢; simp [kvGet, he]
    | succ i =>
      have h0 := hn 0 (by omega)
      simp only [List.getElem_cons_zero] at h0
      simp only [kvGet, if_neg h0]
      exact ih i (by simpa using hi) (fun j hj => by have := hn (j + 1) (by omega); simpa using this) (by simpa using he)
theorem kvGet_none (l : List (ByteArray × ByteArray)) (k : ByteArray) (h : ∀ j (hj : j < l.length), l[j].1 ≠ k) : kvGet l k = (⟨#[]⟩, false) := by
  induction l with
  | nil => rfl
  | cons p l ih =>
    have h0 := h 0 (by simp)
    simp only [List.getElem_cons_zero] at h0
    simp only [kvGet, if_neg h0]
    exact ih fun j hj => by have := h (j + 1) (by simpa using hj); simpa using this

/-- The cells of a row of strings that is owned. -/
theorem owns_cells {w : World} {base e : Nat} {v : Value} {n : Nat} {xs : List Value} (h : w.ownsRow base e 1 v n xs) :
    ∃ a cap, v = .slice a n cap ∧ n ≤ cap ∧ cap ≤ maxLen ∧ (0 < n → ∃ b, a = some ⟨b, 0, none⟩ ∧ v.ownBlock = some b ∧ b < w.heap.size ∧ ∀ (i : Nat) u, xs[i]? = some u → w.cell? ⟨b, i, none⟩ = some u ∧ w.frozen? ⟨b, i, none⟩ = false) := by
  rcases h.2 with ⟨rfl, rfl⟩ | ⟨g, cap, cur, rfl, _, hg, h1, h2, h3, h4⟩
  · exact ⟨none, 0, rfl, Nat.le_refl _, Nat.zero_le _, fun h => absurd h (Nat.lt_irrefl _)⟩
  · refine ⟨_, cap, rfl, h1, h2, fun _ => ⟨g, rfl, rfl, blk_lt hg, fun i u hu => ⟨?_, ?_⟩⟩⟩
    · rw [cell_of_row w g i cur e (0, 0) hg]
      rw [← h4, List.getElem?_take] at hu
      split at hu
      · simpa using hu
      · cases hu
    · simp [World.frozen?, hg]
theorem cell_at {w : World} {g : Nat} {cs : Array Value} {t : TypeId} {m : Nat × Nat} (h : w.heap[g]? = some (.cells cs t m)) (i : Nat) : w.cell? ⟨g, i, none⟩ = cs[i]? := cell_of_row w g i cs t m h
theorem frozen_at {w : World} {g : Nat} {cs : Array Value} {t : TypeId} (h : w.heap[g]? = some (.cells cs t (0, 0))) (i : Nat) : w.frozen? ⟨g, i, none⟩ = false := by simp [World.frozen?, h]
theorem str_eq {a b : ByteArray} (h : a = b) : (a.toList == b.toList) = true := by rw [h]; exact beq_self_eq_true _
theorem str_ne {a b : ByteArray} (h : a ≠ b) : (a.toList == b.toList) = false := by
  refine beq_eq_false_iff_ne.2 fun e => h ?_
  rw [ByteArray.toList_eq, ByteArray.toList_eq] at e
  exact ByteArray.ext (Array.ext' e)

theorem heap_setCell_same {w : World} {b i : Nat} {u : Value} {cs : Array Value} {t : TypeId} {m : Nat × Nat} (h : w.heap[b]? = some (.cells cs t m)) : (w.setCell ⟨b, i, none⟩ u).heap[b]? = some (.cells (cs.setIfInBounds i u) t m) := by
  simp [World.setCell, Array.getElem?_modify, h]
theorem own_set {w : World} {base : Nat} {e : TypeId} {v : Value} {n b i : Nat} {xs : List Value} (h : w.ownsRow base e 1 v n xs) (hb : v.ownBlock = some b) (hi : i < n) (u : Value) : (w.setCell ⟨b, i, none⟩ u).ownsRow base e 1 v n (xs.set i u) := by
  refine ⟨by rw [List.length_set]; exact h.1, ?_⟩
  rcases h.2 with ⟨rfl, h0⟩ | ⟨g, cap, cur, rfl, hbg, hg, h1, h2, h3, h4⟩
  · omega
  · have : g = b := by simpa [Value.ownBlock] using hb
    subst this
    refine .inr ⟨g, cap, _, rfl, hbg, heap_setCell_same hg, h1, h2, by simpa using h3, ?_⟩
    rw [Array.toList_setIfInBounds, Nat.mul_one, ← h4, Nat.mul_one, List.take_set]
theorem own_set_other {w : World} {base : Nat} {e : TypeId} {size n : Nat} {v : Value} {xs : List Value} (h : w.ownsRow base e size v n xs) {p : Addr} (hne : v.ownBlock ≠ some p.block) (u : Value) : (w.setCell p u).ownsRow base e size v n xs := by
  refine ⟨h.1, ?_⟩
  rcases h.2 with h0 | ⟨g, cap, cur, rfl, hbg, hg, h1, h2, h3, h4⟩
  · exact .inl h0
  · refine .inr ⟨g, cap, cur, rfl, hbg, ?_, h1, h2, h3, h4⟩
    rw [Below.heap_setCell _ _ _ _ (fun e => hne (by rw [← e]; rfl))]
    exact hg
theorem own_lt {w : World} {base : Nat} {e : TypeId} {size n : Nat} {v : Value} {xs : List Value} (h : w.ownsRow base e size v n xs) {b : Nat} (hb : v.ownBlock = some b) : b < w.heap.size := by
  rcases h.2 with ⟨rfl, _⟩ | ⟨g, cap, cur, rfl, _, hg, _⟩
  · cases hb
  · have : g = b := by simpa [Value.ownBlock] using hb
    exact this ▸ blk_lt hg
theorem kvPut_at (l : List (ByteArray × ByteArray)) (k t : ByteArray) : ∀ (i : Nat) (hi : i < l.length), (∀ j (hj : j < i), (l[j]'(Nat.lt_trans hj hi)).1 ≠ k) → l[i].1 = k → kvPut l k t = l.set i (l[i].1, t) := by
  induction l with
  | nil => intro i hi; simp at hi
  | cons p l ih =>
    intro i hi hn he
    cases i with
    | zero => simp only [List.getElem_cons_zero] at he ⊢; simp [kvPut, he]
    | succ i =>
      have h0 := hn 0 (by omega)
      simp only [List.getElem_cons_zero] at h0
      simp only [kvPut, if_neg h0, List.set_cons_succ, List.getElem_cons_succ]
      rw [ih i (by simpa using hi) (fun j hj => by have := hn (j + 1) (by omega); simpa using this) (by simpa using he)]
theorem kvPut_none (l : List (ByteArray × ByteArray)) (k t : ByteArray) (h : ∀ j (hj : j < l.length), l[j].1 ≠ k) : kvPut l k t = l ++ [(k, t)] := by
  induction l with
  | nil => rfl
  | cons p l ih =>
    have h0 := h 0 (by simp)
    simp only [List.getElem_cons_zero] at h0
    simp only [kvPut, if_neg h0, List.cons_append]
    rw [ih fun j hj => by have := h (j + 1) (by simpa using hj); simpa using this]
theorem kvDel_at (l : List (ByteArray × ByteArray)) (k : ByteArray) : ∀ (i : Nat) (hi : i < l.length), (∀ j (hj : j < i), (l[j]'(Nat.lt_trans hj hi)).1 ≠ k) → l[i].1 = k → kvDel l k = l.take i ++ l.drop (i + 1) := by
  induction l with
  | nil => intro i hi; simp at hi
  | cons p l ih =>
    intro i hi hn he
    cases i with
    | zero => simp only [List.getElem_cons_zero] at he; simp [kvDel, he]
    | succ i =>
      have h0 := hn 0 (by omega)
      simp only [List.getElem_cons_zero] at h0
      simp only [kvDel, if_neg h0, List.take_succ_cons, List.drop_succ_cons, List.cons_append]
      rw [ih i (by simpa using hi) (fun j hj => by have := hn (j + 1) (by omega); simpa using this) (by simpa using he)]
theorem kvDel_none (l : List (ByteArray × ByteArray)) (k : ByteArray) (h : ∀ j (hj : j < l.length), l[j].1 ≠ k) : kvDel l k = l := by
  induction l with
  | nil => rfl
  | cons p l ih =>
    have h0 := h 0 (by simp)
    simp only [List.getElem_cons_zero] at h0
    simp only [kvDel, if_neg h0]
    rw [ih fun j hj => by have := h (j + 1) (by simpa using hj); simpa using this]
/-- A text is stored. -/
theorem KVat.store {g : Nat} {vk vt : Value} {l : List (ByteArray × ByteArray)} {w : World} (h : KVat g vk vt l w) {b i : Nat} (hb : vt.ownBlock = some b) (hi : i < l.length) (t : ByteArray) :
    KVat g vk vt (l.set i (l[i].1, t)) (w.setCell ⟨b, i, none⟩ (.string t)) := by
  have hbg : b ≠ g := fun e => h.nt (by rw [hb, e])
  refine ⟨?_, ?_, ?_, h.nk, h.nt, h.ne⟩
  · rw [Below.heap_setCell _ _ _ _ (fun e => hbg e.symm)]; exact h.blk
  · have := own_set_other h.ks (p := ⟨b, i, none⟩) (fun e => h.ne b e hb) (.string t)
    rw [List.length_set]
    have e : (l.set i (l[i].1, t)).map (fun p => Value.string p.1) = l.map fun p => .string p.1 := by
      apply List.ext_getElem (by simp)
      intro j h1 h2
      simp only [List.getElem_map, List.getElem_set]
      split
      · subst_vars; rfl
      · rfl
    rw [e]; exact this
  · have := own_set h.ts hb hi (.string t)
    rw [List.length_set, List.map_set]
    exact this

theorem blk_new (W : World) (o : Obj) : (W.alloc o).heap[W.heap.size]? = some o := heap_alloc_new W o
theorem blk_at (W : World) (o : Obj) {n : Nat} (h : W.heap.size = n) : (W.alloc o).heap[n]? = some o := h ▸ blk_new W o
theorem blk_alloc {W : World} {k : Nat} {o : Obj} (h : W.heap[k]? = some o) (o' : Obj) : (W.alloc o').heap[k]? = some o := (Below.heap_alloc _ _ _ (blk_lt h)).trans h
theorem blk_drew {W : World} {k : Nat} {o : Obj} (h : W.heap[k]? = some o) : W.drew.heap[k]? = some o := h
theorem own_drew {w : World} {base : Nat} {e : TypeId} {size n : Nat} {v : Value} {xs : List Value} (h : w.ownsRow base e size v n xs) : w.drew.ownsRow base e size v n xs := h
/-- Only new blocks. -/
abbrev New (w w' : World) : Prop := Kept (fun _ => False) w w'
/-- Behind the first of two appends: the keys' row is longer. -/
structure Put1 (g : Nat) (vk vt : Value) (l : List (ByteArray × ByteArray)) (k : ByteArray) (w : World) (gk capk : Nat) (w1 : World) : Prop where
  blk : w1.heap[g]? = some (.cells #[vk, vt] 26 (0, 0))
  ks : w1.ownsRow 0 9 1 (.slice (some ⟨gk, 0, none⟩) (l.length + 1) capk) (l.length + 1) ((l.map fun p => .string p.1) ++ [.string k])
  ts : w1.ownsRow 0 9 1 vt l.length (l.map fun p => .string p.2)
  kept : Kept (foot g vk vt) w w1
  lies : vk.ownBlock = some gk ∨ w.heap.size ≤ gk
theorem Put1.mk' {g : Nat} {vk vt : Value} {l : List (ByteArray × ByteArray)} {k : ByteArray} {w W w1 : World} {gk capk H : Nat} (h : KVat g vk vt l w) (hn : New w W) (hg : W.grownBy w1 vk.ownBlock)
    (ho : w1.ownsRow 0 9 1 (.slice (some ⟨gk, 0, none⟩) (l.length + 1) capk) (l.length + 1) ((l.map fun p => .string p.1) ++ [.string k])) (hat : vk.ownBlock = some gk ∨ gk = H) (hH : W.heap.size = H) : Put1 g vk vt l k w gk capk w1 := by
  have kk : Kept (fun b => vk.ownBlock = some b) w w1 := (hn.mono fun _ _ h => h.elim).grown hg fun k h => .inl h
  refine ⟨kk.at h.blk h.nk, ho, owns_kept kk h.ts (fun k e e' => h.ne k e' e), kk.mono fun x _ e => .inr (.inl e), hat.imp id fun e => ?_⟩
  have := hn.size
  omega
theorem Put1.alloc {g : Nat} {vk vt : Value} {l : List (ByteArray × ByteArray)} {k : ByteArray} {w w1 : World} {gk capk : Nat} (h : Put1 g vk vt l k w gk capk w1) (o : Obj) : Put1 g vk vt l k w gk capk (w1.alloc o) :=
  ⟨blk_alloc h.blk o, World.ownsRow.alloc h.ks o, World.ownsRow.alloc h.ts o, h.kept.alloc o, h.lies⟩
theorem Put1.drew {g : Nat} {vk vt : Value} {l : List (ByteArray × ByteArray)} {k : ByteArray} {w w1 : World} {gk capk : Nat} (h : Put1 g vk vt l k w gk capk w1) : Put1 g vk vt l k w gk capk w1.drew :=
  ⟨h.blk, h.ks, h.ts, h.kept.drew, h.lies⟩
theorem Put1.new {g : Nat} {vk vt : Value} {l : List (ByteArray × ByteArray)} {w W w1 : World} (h : KVat g vk vt l w) (hg : W.grownBy w1 vk.ownBlock) :
    ∀ k o, w.heap.size ≤ k → W.heap[k]? = some o → w1.heap[k]? = some o := fun k _ hk ho =>
  (hg.block k (blk_lt ho) (fun e => by have := own_lt h.ks e.symm; omega)).trans ho
theorem Put1.load {g : Nat} {vk vt : Value} {l : List (ByteArray × ByteArray)} {k : ByteArray} {w w1 : World} {gk capk : Nat} (h : Put1 g vk vt l k w gk capk w1) : w1.cell? ⟨g, 1, none⟩ = some vt := (cell_at h.blk 1).trans rfl
/-- Behind both. -/
structure Put2 (g : Nat) (vk vt : Value) (l : List (ByteArray × ByteArray)) (k t : ByteArray) (w : World) (gk capk gt capt : Nat) (w2 : World) : Prop where
  blk : w2.heap[g]? = some (.cells #[vk, vt] 26 (0, 0))
  ks : w2.ownsRow 0 9 1 (.slice (some ⟨gk, 0, none⟩) (l.length + 1) capk) (l.length + 1) ((l.map fun p => .string p.1) ++ [.string k])
  ts : w2.ownsRow 0 9 1 (.slice (some ⟨gt, 0, none⟩) (l.length + 1) capt) (l.length + 1) ((l.map fun p => .string p.2) ++ [.string t])
  kept : Kept (foot g vk vt) w w2
  liesk : vk.ownBlock = some gk ∨ w.heap.size ≤ gk
  liest : vt.ownBlock = some gt ∨ w.heap.size ≤ gt
  ne : gk ≠ gt
theorem Put1.two {g : Nat} {vk vt : Value} {l : List (ByteArray × ByteArray)} {k t : ByteArray} {w w1 w2 : World} {gk capk gt capt H : Nat} (h0 : KVat g vk vt l w) (h : Put1 g vk vt l k w gk capk w1) (hg : w1.grownBy w2 vt.ownBlock)
    (ho : w2.ownsRow 0 9 1 (.slice (some ⟨gt, 0, none⟩) (l.length + 1) capt) (l.length + 1) ((l.map fun p => .string p.2) ++ [.string t])) (hat : vt.ownBlock = some gt ∨ gt = H) (hH : w1.heap.size = H) : Put2 g vk vt l k t w gk capk gt capt w2 := by
  have kk : Kept (fun b => vt.ownBlock = some b) w1 w2 := (Kept.refl _ _).grown hg fun k h => .inl h
  have hkt : vt.ownBlock ≠ some gk := by
    intro e
    rcases h.lies with e' | e'
    · exact h0.ne gk e' e
    · have := own_lt h0.ts e; omega
  refine ⟨kk.at h.blk h0.nt, owns_kept kk h.ks (fun k e => ?_), ho, h.kept.trans' kk fun x _ e => .inr (.inr e), h.lies, ?_, ?_⟩
  · have : gk = k := by simpa [Value.ownBlock] using e
    exact this ▸ hkt
  · refine hat.imp id fun e => ?_
    have := h.kept.size
    omega
  · rintro rfl
    rcases hat with e | e
    · exact hkt e
    · have := own_lt h.ks (b := gk) rfl
      omega
theorem Put2.load {g : Nat} {vk vt : Value} {l : List (ByteArray × ByteArray)} {k t : ByteArray} {w w2 : World} {gk capk gt capt : Nat} (h : Put2 g vk vt l k t w gk capk gt capt w2) :
    w2.cell? ⟨g, 0, none⟩ = some vk ∧ w2.cell? ⟨g, 1, none⟩ = some vt ∧ w2.frozen? ⟨g, 0, none⟩ = false ∧ w2.frozen? ⟨g, 1, none⟩ = false :=
  ⟨(cell_at h.blk 0).trans rfl, (cell_at h.blk 1).trans rfl, frozen_at h.blk 0, frozen_at h.blk 1⟩
/-- What a call that puts leaves. -/
def Puts (g : Nat) (vk vt : Value) (l : List (ByteArray × ByteArray)) (w w' : World) : Prop :=
  ∃ vk' vt', KVat g vk' vt' l w' ∧ Kept (foot g vk vt) w w' ∧ ∀ b, foot g vk' vt' b → foot g vk vt b ∨ w.heap.size ≤ b
theorem Put2.done {g : Nat} {vk vt : Value} {l : List (ByteArray × ByteArray)} {k t : ByteArray} {w w2 : World} {gk capk gt capt : Nat} (h0 : KVat g vk vt l w) (h : Put2 g vk vt l k t w gk capk gt capt w2) :
    Puts g vk vt (l ++ [(k, t)]) w ((w2.setCell ⟨g, 0, none⟩ (.slice (some ⟨gk, 0, none⟩) (l.length + 1) capk)).setCell ⟨g, 1, none⟩ (.slice (some ⟨gt, 0, none⟩) (l.length + 1) capt)) := by
  have hgk : gk ≠ g := by
    rintro rfl
    rcases h.liesk with e | e
    · exact h0.nk e
    · have := blk_lt h0.blk; omega
  have hgt : gt ≠ g := by
    rintro rfl
    rcases h.liest with e | e
    · exact h0.nt e
    · have := blk_lt h0.blk; omega
  refine ⟨.slice (some ⟨gk, 0, none⟩) (l.length + 1) capk, .slice (some ⟨gt, 0, none⟩) (l.length + 1) capt, ⟨?_, ?_, ?_, ?_, ?_, ?_⟩, ?_, ?_⟩
  · exact (heap_setCell_same (heap_setCell_same h.blk)).trans (by simp)
  · rw [List.length_append, List.map_append]
    exact own_set_other (own_set_other h.ks (p := ⟨g, 0, none⟩) (by simp [Value.ownBlock, hgk]) _) (p := ⟨g, 1, none⟩) (by simp [Value.ownBlock, hgk]) _
  · rw [List.length_append, List.map_append]
    exact own_set_other (own_set_other h.ts (p := ⟨g, 0, none⟩) (by simp [Value.ownBlock, hgt]) _) (p := ⟨g, 1, none⟩) (by simp [Value.ownBlock, hgt]) _
  · simp [Value.ownBlock, hgk]
  · simp [Value.ownBlock, hgt]
  · intro x hx
    have : gk = x := by simpa [Value.ownBlock] using hx
    simp [Value.ownBlock, ← this, Ne.symm h.ne]
  · exact (h.kept.setCell (p := ⟨g, 0, none⟩) (.inl (.inl rfl)) _).setCell (p := ⟨g, 1, none⟩) (.inl (.inl rfl)) _
  · rintro b (rfl | e | e)
    · exact .inl (.inl rfl)
    · have : gk = b := by simpa [Value.ownBlock] using e
      subst this
      exact h.liesk.imp (fun e => .inr (.inl e)) id
    · have : gt = b := by simpa [Value.ownBlock] using e
      subst this
      exact h.liest.imp (fun e => .inr (.inr e)) id

/-- append onto a slice that is not nil, nothing or something, at a step of a region that draws its order. -/
theorem step_append_some {P : Program} (w : World) {ops : Array Oper} {o : Oper} {a : Act} {K : Act → World → Prop} {Q : Exit → Act → World → Prop} {E : Prop} (hgd : o.guard = none) (s x : Operand) (t : TypeId)
    (ho : o.op = .call { callee := .builtin .append, args := #[s, x], argTypes := #[t, t] })
    (base : Nat) (e : TypeId) (i : TypeInfo) (z : Value) (size bytes : Nat) (ht : P.underlying t = some (.slice e)) (hi : P.info? e = some i) (hz : i.zero = some z)
    (hsize : i.size = size) (hby : i.bytes = bytes) (hzs : z.cells.size = size) (hsz : 0 < size)
    (b0 n cap0 : Nat) (xs : List Value) (hs : a.eval s = .slice (some ⟨b0, 0, none⟩) n cap0) (hown : w.ownsRow base e size (.slice (some ⟨b0, 0, none⟩) n cap0) n xs)
    (ad : Addr) (m c : Nat) (news : List Value) (hx : a.eval x = .slice (some ad) m c) (hl : news.length = m * size) (hnews : ∀ j u, news[j]? = some u → w.cell? (ad.add j) = some u) (h1 : ∀ u ∈ news, u.oneCell' = true)
    (h63 : n + m ≤ maxLen) (hbytes : (n + m) * bytes ≤ 140737488355328) (hbase : base ≤ w.heap.size)
    (h : ∀ g cap w', w'.ownsRow base e size (.slice (some ⟨g, 0, none⟩) (n + m) cap) (n + m) (xs ++ news) → w.grownBy w' (some b0) → (g = b0 ∨ g = w.heap.size) → K (a.put o.dst (.slice (some ⟨g, 0, none⟩) (n + m) cap)) w') :
    if Region.wanted o (yielded ops a.tmps) = true then Oper.wp P o a w K Q else E := by
  have hw : Region.wanted o (yielded ops a.tmps) = true := by simp [Region.wanted, hgd]
  rw [if_pos hw]
  obtain ⟨v', w', hr, h2, h3, h4, h5⟩ := run_append_own_at (P := P) w base t o.type e i z size bytes ht hi hz hsize hby hzs hsz _ n xs hown ad m c news hl hnews h1 h63 hbytes hbase
  have hv : ∃ g cap, v' = .slice (some ⟨g, 0, none⟩) (n + m) cap := by
    rcases h2.2 with ⟨h0, _⟩ | ⟨g, cap, cur, hv, _⟩
    · exact absurd (h4.1 h0).1 (by simp)
    · exact ⟨g, cap, hv⟩
  obtain ⟨g, cap, rfl⟩ := hv
  unfold Oper.wp execOp
  simp only [ho, resolve, invoke, builtin, Sem.run_bind, Sem.run_pure, Result.andThen_ok, List.map_toArray, List.map_cons, List.map_nil, hs, hx, hr]
  exact h g cap w' h2 h3 (h5.imp (fun e => by simpa [Value.ownBlock] using e) (fun e => by simpa [Value.ownBlock] using e))
theorem own_empty {W : World} {b e : Nat} (h : W.heap[b]? = some (.cells #[] e (0, 0))) : W.ownsRow 0 e 1 (.slice (some ⟨b, 0, none⟩) 0 0) 0 [] :=
  ⟨rfl, .inr ⟨b, 0, _, rfl, Nat.zero_le _, h, Nat.le_refl _, Nat.zero_le _, rfl, rfl⟩⟩
/-- Cells of a row in a world in which all that was there is as it was. -/
theorem New.cells {w W : World} (h : New w W) {b off : Nat} {xs : List Value} (hx : ∀ (i : Nat) u, xs[i]? = some u → w.cell? ⟨b, off + i, none⟩ = some u) (hb : b < w.heap.size) : ∀ (i : Nat) u, xs[i]? = some u → W.cell? ((⟨b, off, none⟩ : Addr).add i) = some u := fun i u hu => by
  have hadd : (⟨b, off, none⟩ : Addr).add i = ⟨b, off + i, none⟩ := by unfold Addr.add; split <;> simp_all
  rw [hadd, World.cell?_of_block (w := w) (h.block b hb id)]
  exact hx i u hu

theorem New.load {w W : World} (h : New w W) {g : Nat} {cs : Array Value} {t : TypeId} (hb : w.heap[g]? = some (.cells cs t (0, 0))) (i : Nat) : W.cell? ⟨g, i, none⟩ = cs[i]? ∧ W.frozen? ⟨g, i, none⟩ = false :=
  ⟨cell_at (h.at hb id) i, frozen_at (h.at hb id) i⟩
/-- Behind the first of the two statements of Delete: the keys' row is a new one. -/
structure Del1 (g : Nat) (vk vt : Value) (l l' : List (ByteArray × ByteArray)) (w W : World) : Prop where
  blk : W.heap[g]? = some (.cells #[vk, vt] 26 (0, 0))
  ks : W.ownsRow 0 9 1 vk l'.length (l'.map fun p => .string p.1)
  ts : W.ownsRow 0 9 1 vt l.length (l.map fun p => .string p.2)
  kept : Kept (fun b => b = g) w W
  new : ∀ b, vk.ownBlock = some b → w.heap.size ≤ b
  nt : vt.ownBlock ≠ some g
theorem Del1.mk' {g : Nat} {vk vt : Value} {l l' : List (ByteArray × ByteArray)} {w W : World} {g2 n2 cap2 : Nat} {xs : List Value} (h : KVat g vk vt l w) (hn : New w W) (ho : W.ownsRow 0 9 1 (.slice (some ⟨g2, 0, none⟩) n2 cap2) n2 xs)
    (hl : n2 = l'.length) (hx : xs = l'.map fun p => .string p.1) (hg : w.heap.size ≤ g2) : Del1 g (.slice (some ⟨g2, 0, none⟩) n2 cap2) vt l l' w (W.setCell ⟨g, 0, none⟩ (.slice (some ⟨g2, 0, none⟩) n2 cap2)) := by
  subst hl hx
  have hlt := blk_lt h.blk
  have hne : g2 ≠ g := by omega
  refine ⟨(heap_setCell_same (hn.at h.blk id)).trans (by simp), own_set_other ho (by simp [Value.ownBlock, hne]) _, own_set_other (owns_kept hn h.ts fun _ _ => id) h.nt _, (Kept.mono (F' := fun b => b = g) hn fun _ _ h => h.elim).setCell (p := ⟨g, 0, none⟩) (.inl rfl) _, ?_, h.nt⟩
  intro b hb
  have : g2 = b := by simpa [Value.ownBlock] using hb
  omega
theorem Del1.done {g : Nat} {vk vt vt0 vk0 : Value} {l l' : List (ByteArray × ByteArray)} {w w1 W : World} {g2 n2 cap2 : Nat} {xs : List Value} (h : Del1 g vk vt l l' w w1) (hn : New w1 W) (ho : W.ownsRow 0 9 1 (.slice (some ⟨g2, 0, none⟩) n2 cap2) n2 xs)
    (hl : n2 = l'.length) (hx : xs = l'.map fun p => .string p.2) (hg : w1.heap.size ≤ g2) (hgw : g < w.heap.size) : Puts g vk0 vt0 l' w (W.setCell ⟨g, 1, none⟩ (.slice (some ⟨g2, 0, none⟩) n2 cap2)) := by
  subst hl hx
  have hlt := blk_lt h.blk
  have hne : g2 ≠ g := by omega
  have hsz := h.kept.size
  refine ⟨vk, .slice (some ⟨g2, 0, none⟩) l'.length cap2, ⟨(heap_setCell_same (hn.at h.blk id)).trans (by simp), own_set_other (owns_kept hn h.ks fun _ _ => id) (fun e => by have := h.new g e; omega) _, own_set_other ho (by simp [Value.ownBlock, hne]) _, ?_, by simp [Value.ownBlock, hne], ?_⟩, ?_, ?_⟩
  · intro e
    have := h.new _ e
    omega
  · intro x hx e
    have h1 : g2 = x := by simpa [Value.ownBlock] using e
    have h2 := own_lt h.ks hx
    omega
  · exact ((Kept.mono (F' := foot g vk0 vt0) h.kept fun _ _ e => .inl e).trans' hn fun _ _ e => e.elim).setCell (p := ⟨g, 1, none⟩) (.inl (.inl rfl)) _
  · rintro b (rfl | e | e)
    · exact .inl (.inl rfl)
    · exact .inr (h.new _ e)
    · have h1 : g2 = b := by simpa [Value.ownBlock] using e
      exact .inr (by omega)
end Go.Proofs.Ytmlnjheiogmlaaa
