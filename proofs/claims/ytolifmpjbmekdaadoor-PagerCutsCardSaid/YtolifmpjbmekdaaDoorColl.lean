/-
What a commit does, in plain Lean: the numbers of new pages in order, and what the disk does; the numbers that are collected; conditions: those that each theorem names.
-/
import Derived.Test.YtolifmpjbmekdaaDoorSort
namespace Go.Proofs.YtolifmpjbmekdaaDoor
open Go.RowKit
open Go.Lib (hid)
/-- All is written, one behind the other. -/
def DS.puts : DS → List (Nat × ByteArray) → DS × Int
  | D, [] => (D, 0)
  | D, x :: l => if (D.write x.1 x.2).2 ≠ 0 then D.write x.1 x.2 else (D.write x.1 x.2).1.puts l
def DS.commit (D : DS) (l : List (Nat × ByteArray)) (gen : Nat) (root : Int) : DS × Int :=
  if (D.puts l).2 ≠ 0 then D.puts l else
  if (D.puts l).1.flush.2 ≠ 0 then (D.puts l).1.flush else
  if ((D.puts l).1.flush.1.write (gen % 2 : Nat) (supS gen root)).2 ≠ 0 then (D.puts l).1.flush.1.write (gen % 2 : Nat) (supS gen root) else
  ((D.puts l).1.flush.1.write (gen % 2 : Nat) (supS gen root)).1.flush
/-- The numbers of new pages, in order. -/
def freshL (f : Nat → Option Pg) (m : Nat) : List Nat := (List.range m).filter fun n => (f n).isSome
theorem freshL_sorted (f : Nat → Option Pg) (m : Nat) : (freshL f m).Pairwise (· < ·) := List.Pairwise.filter _ List.pairwise_lt_range
theorem mem_freshL {f : Nat → Option Pg} {m n : Nat} : n ∈ freshL f m ↔ n < m ∧ (f n).isSome = true := by simp [freshL]
theorem sorted_eq : ∀ (a b : List Nat), a.Pairwise (· < ·) → b.Pairwise (· < ·) → (∀ n, n ∈ a ↔ n ∈ b) → a = b
  | [], [], _, _, _ => rfl
  | [], y :: b, _, _, h => absurd ((h y).2 (.head _)) (by simp)
  | x :: a, [], _, _, h => absurd ((h x).1 (.head _)) (by simp)
  | x :: a, y :: b, ha, hb, h => by
    have ha' := List.pairwise_cons.1 ha
    have hb' := List.pairwise_cons.1 hb
    have e : x = y := by
      rcases List.mem_cons.1 ((h x).1 (.head _)) with e | h1
      · exact e
      · rcases List.mem_cons.1 ((h y).2 (.head _)) with e | h2
        · exact e.symm
        · have := hb'.1 x h1
          have := ha'.1 y h2
          omega
    subst e
    congr 1
    refine sorted_eq a b ha'.2 hb'.2 fun n => ⟨fun hn => ?_, fun hn => ?_⟩
    · rcases List.mem_cons.1 ((h n).1 (.tail _ hn)) with e | h1
      · have := ha'.1 n hn; omega
      · exact h1
    · rcases List.mem_cons.1 ((h n).2 (.tail _ hn)) with e | h1
      · have := hb'.1 n hn; omega
      · exact h1
theorem freshL_eq {f : Nat → Option Pg} {m : Nat} {xs ys : List Nat} (hp : ys.Perm xs) (hs : ys.Pairwise (· ≤ ·)) (hn : xs.Nodup) (hx : ∀ n, n ∈ xs ↔ n < m ∧ (f n).isSome = true) : ys = freshL f m := by
  refine sorted_eq _ _ ?_ (freshL_sorted f m) fun n => (hp.mem_iff.trans (hx n)).trans mem_freshL.symm
  have hn2 : ys.Nodup := hp.nodup_iff.2 hn
  exact (hs.and hn2).imp fun {a b} ⟨h1, h2⟩ => Nat.lt_of_le_of_ne h1 h2
abbrev pgF (f : Nat → Option Pg) : Int → Option Pg := fun x => if 0 ≤ x then f x.toNat else none
theorem pgF_nat (f : Nat → Option Pg) (n : Nat) : pgF f n = f n := by simp [pgF]
/-- The numbers that are collected. -/
structure Coll (w : World) (m r : Nat) (f : Nat → Option Pg) (c : Nat) (v : Value) (xs : List Nat) (left : Int → Bool) (cnt : Nat) (W : World) : Prop where
  rng : RangeF PK W m r (pgF f) c left cnt
  new : New w W
  own : W.ownsRow 0 3 1 v xs.length (ints xs)
  shape : (v = .slice none 0 0 ∧ xs = []) ∨ ∃ g cap, v = .slice (some ⟨g, 0, none⟩) xs.length cap ∧ r < g
  all : ∀ k : Nat, (f k).isSome = true → k ∈ xs ∨ left k = true
  dom : ∀ k ∈ xs, (f k).isSome = true ∧ left (k : Int) = false
  nodup : xs.Nodup
  few : xs.length + cnt ≤ c
theorem New.turn {w a b : World} {r : Nat} (h : New w a) (k : Kept (fun i => i = r) a b) (hr : w.heap.size ≤ r) : New w b := h.trans' k fun x hx e => by omega
theorem Coll.turn {w : World} {m r : Nat} {f : Nat → Option Pg} {c : Nat} {v : Value} {xs : List Nat} {left : Int → Bool} {cnt : Nat} {W W1 : World} {x : Int} {cnt' : Nat} (h : Coll w m r f c v xs left cnt W) (hr : w.heap.size ≤ r) (hrg : RangeF PK W1 m r (pgF f) c (fun x' => left x' && !decide (x' = x)) cnt') (hk : Kept (fun i => i = r) W W1) (hlt : cnt' < cnt) :
    RangeF PK W1 m r (pgF f) c (fun x' => left x' && !decide (x' = x)) cnt' ∧ New w W1 ∧ W1.ownsRow 0 3 1 v xs.length (ints xs) ∧ xs.length + 1 + cnt' ≤ c := by
  refine ⟨hrg, h.new.turn hk hr, owns_kept hk h.own fun k e e1 => ?_, by have := h.few; omega⟩
  rcases h.shape with ⟨rfl, _⟩ | ⟨g, cap, rfl, hg⟩
  · cases e
  · have : g = k := by simpa [Value.ownBlock] using e
    omega
theorem Coll.app {w : World} {m r : Nat} {f : Nat → Option Pg} {c : Nat} {v : Value} {xs : List Nat} {left : Int → Bool} {cnt : Nat} {W W1 W2 : World} {x : Nat} {cnt' g1 cap1 : Nat} {o : Obj} (hr : w.heap.size ≤ r) (hm : m < w.heap.size)
    (h0 : Coll w m r f c v xs left cnt W) (hx : (f x).isSome = true) (hl : left (x : Int) = true)
    (h : RangeF PK W1 m r (pgF f) c (fun x' => left x' && !decide (x' = (x : Int))) cnt' ∧ New w W1 ∧ W1.ownsRow 0 3 1 v xs.length (ints xs) ∧ xs.length + 1 + cnt' ≤ c)
    (hown : W2.ownsRow 0 3 1 (.slice (some ⟨g1, 0, none⟩) (xs.length + 1) cap1) (xs.length + 1) (ints xs ++ [.int .i64 (x : Int)])) (hgrow : (W1.alloc o).grownBy W2 v.ownBlock) (hat : v.ownBlock = some g1 ∨ g1 = (W1.alloc o).heap.size) :
    Coll w m r f c (.slice (some ⟨g1, 0, none⟩) (xs.length + 1) cap1) (xs ++ [x]) (fun x' => left x' && !decide (x' = (x : Int))) cnt' W2 := by
  obtain ⟨h1, h2, h3, h4⟩ := h
  have hrl := h1.lt
  have hob : ∀ k, v.ownBlock = some k → r < k := fun k e => by
    rcases h0.shape with ⟨rfl, _⟩ | ⟨g, cap, rfl, hg⟩
    · cases e
    · have : g = k := by simpa [Value.ownBlock] using e
      omega
  have hk : Kept (fun i => v.ownBlock = some i) W1 W2 := ((Kept.refl (fun i => v.ownBlock = some i) _).alloc o).grown hgrow fun k e => .inl e
  refine ⟨h1.kept hk (fun e => ?_) (fun e => ?_), h2.trans' hk (fun b hb e => ?_), ?_, .inr ⟨g1, cap1, by rw [List.length_append]; rfl, ?_⟩, fun k hk' => ?_, fun k hk' => ?_, ?_, by rw [List.length_append]; simpa using h4⟩
  · have := hob m e; omega
  · have := hob r e; omega
  · have := hob b e; omega
  · rw [List.length_append]
    simpa [ints] using hown
  · rcases hat with e | e
    · exact hob _ e
    · have e2 : (W1.alloc o).heap.size = W1.heap.size + 1 := by simp
      omega
  · by_cases e : k = x
    · exact .inl (by simp [e])
    · rcases h0.all k hk' with h | h
      · exact .inl (by simp [h])
      · exact .inr (by simp [h]; omega)
  · rcases List.mem_append.1 hk' with h | h
    · exact ⟨(h0.dom k h).1, by simp [(h0.dom k h).2]⟩
    · simp at h; subst h; exact ⟨hx, by simp⟩
  · refine List.nodup_append.2 ⟨h0.nodup, by simp, fun a ha b hb e => ?_⟩
    simp at hb
    have := (h0.dom a ha).2
    rw [e, hb, hl] at this
    cases this
theorem puts_cons (D : DS) (x : Nat × ByteArray) (l : List (Nat × ByteArray)) : D.puts (x :: l) = if (D.write x.1 x.2).2 ≠ 0 then D.write x.1 x.2 else (D.write x.1 x.2).1.puts l := rfl
end Go.Proofs.YtolifmpjbmekdaaDoor
