/-
What a disk says for good, with or without a power cut to come, in plain Lean; conditions: those that each theorem names.
-/
import Derived.Test.YtolifmpjbmekdaaDoorBegun
namespace Go.Proofs.YtolifmpjbmekdaaDoor
open Go.RowKit
/-- What a sector says for good; a torn one says nothing. -/
def DS.tell (D : DS) (i : Nat) : ByteArray := if D.torn i = true then ⟨#[]⟩ else if D.data i = ⟨#[]⟩ then zeros 256 else D.data i
/-- A disk that goes: what waits, in how many acts the power fails (never, or there), how often it failed. -/
structure Run (m : Nat) (l : List (Nat × ByteArray)) (o : Option Nat) (fates : List Int) (fl : Int) (D : DS) : Prop where
  dead : D.dead = false
  wait : D.wait = l
  n : D.n = m
  fails : D.fails = fl
  none_ : o = none → D.cuts = []
  some_ : ∀ b, o = some b → ∃ c : Nat, D.cuts = [((c : Int), fates)] ∧ D.acts + b = c ∧ 0 ≤ D.acts ∧ c < 1000000
variable {m : Nat} {l : List (Nat × ByteArray)} {o : Option Nat} {fates : List Int} {fl : Int} {D : DS}
def dec : Option Nat → Option Nat
  | none => none
  | some b => some (b - 1)
theorem run_act (h : Run m l o fates fl D) (ho : o ≠ some 0) : D.act = (D.tick, false) ∧ Run m l (dec o) fates fl D.tick := by
  cases o with
  | none => exact ⟨act_calm (h.none_ rfl), h.dead, h.wait, h.n, h.fails, fun _ => h.none_ rfl, fun b e => by cases e⟩
  | some b =>
    cases b with
    | zero => exact absurd rfl ho
    | succ b =>
      obtain ⟨c, h1, h2, h3, h4⟩ := h.some_ _ rfl
      have hw : wrap64 (D.acts + 1) = D.acts + 1 := by
        unfold wrap64; omega
      refine ⟨?_, h.dead, h.wait, h.n, h.fails, (fun e => by cases e), fun b' e => ?_⟩
      · unfold DS.act
        rw [h1]
        simp only
        rw [if_pos]
        show wrap64 (D.acts + 1) ≤ _
        rw [hw, if_neg (by omega)]
        omega
      · cases e
        refine ⟨c, h1, ?_, ?_, h4⟩
        · show wrap64 (D.acts + 1) + ((b + 1 - 1 : Nat) : Int) = c
          rw [hw]; omega
        · show 0 ≤ wrap64 (D.acts + 1)
          rw [hw]; omega
theorem fail_act (h : Run m l (some 0) fates fl D) : D.act = ({ D.tick.settles fates 0 l with wait := [], cuts := [], dead := true, fails := wrap64 (fl + 1) }, true) := by
  obtain ⟨c, h1, h2, h3, h4⟩ := h.some_ _ rfl
  have hw : wrap64 (D.acts + 1) = D.acts + 1 := by
    unfold wrap64; omega
  unfold DS.act
  rw [h1]
  simp only
  rw [if_neg]
  · rw [← h.wait, ← h.fails]
  · show ¬ wrap64 (D.acts + 1) ≤ _
    rw [hw, if_neg (by omega)]
    omega
theorem run_write (h : Run m l o fates fl D) (ho : o ≠ some 0) {i : Nat} (hi : i < m) {s : ByteArray} (hs : s.size ≤ 256) : ∃ D', D.write i s = (D', 0) ∧ Run m (l ++ [(i, pad s)]) (dec o) fates fl D' ∧ D'.tell = D.tell := by
  have hn := h.n
  have h' : Run m (l ++ [(i, pad s)]) o fates fl (D.push i s) := ⟨h.dead, by show D.wait ++ _ = _; rw [h.wait], h.n, h.fails, h.none_, h.some_⟩
  obtain ⟨e, h2⟩ := run_act h' ho
  refine ⟨_, ?_, h2, rfl⟩
  unfold DS.write
  rw [if_neg (by simp [h.dead]), if_neg (by omega), if_neg (by omega)]
  simp [e]
theorem settle_tell (D : DS) (x : Nat × ByteArray) (c : Nat) (hx : x.2 ≠ ⟨#[]⟩) (i : Nat) : (D.settle x c).tell i = D.tell i ∨ (i = x.1 ∧ ((D.settle x c).tell i = ⟨#[]⟩ ∨ (D.settle x c).tell i = x.2)) := by
  unfold DS.settle
  split
  · by_cases e : i = x.1
    · subst e; right; exact ⟨rfl, .inr (by simp [DS.tell, upd, hx])⟩
    · left; simp [DS.tell, upd, e]
  · split
    · by_cases e : i = x.1
      · subst e; right; exact ⟨rfl, .inl (by simp [DS.tell, upd])⟩
      · left; simp [DS.tell, upd, e]
    · exact .inl rfl
theorem keep_tell (D : DS) (x : Nat × ByteArray) (hx : x.2 ≠ ⟨#[]⟩) : (D.settle x 1).tell = upd D.tell x.1 x.2 := by
  funext i
  unfold DS.settle upd
  simp only [if_true]
  by_cases e : i = x.1
  · subst e; simp [DS.tell, hx]
  · simp [DS.tell, e]
theorem keeps_tell : ∀ (l : List (Nat × ByteArray)) (D : DS), (∀ x ∈ l, x.2 ≠ ⟨#[]⟩) → (D.keeps l).tell = l.foldl (fun f x => upd f x.1 x.2) D.tell
  | [], _, _ => rfl
  | x :: l, D, h => by
    show ((D.settle x 1).keeps l).tell = _
    rw [keeps_tell l _ fun y hy => h y (.tail _ hy), keep_tell D x (h x (.head _))]
    rfl
theorem run_flush (h : Run m l o fates fl D) (ho : o ≠ some 0) (hl : ∀ x ∈ l, x.2 ≠ ⟨#[]⟩) : ∃ D', D.flush = (D', 0) ∧ Run m [] (dec o) fates fl D' ∧ D'.tell = l.foldl (fun f x => upd f x.1 x.2) D.tell := by
  obtain ⟨e, h2⟩ := run_act h ho
  have hk := keeps_same D.tick.wait D.tick
  refine ⟨{ D.tick.keeps D.tick.wait with wait := [] }, ?_, ⟨hk.2.2.2.2.2.2.trans h2.dead, rfl, hk.1.trans h2.n, hk.2.2.2.2.2.1.trans h2.fails, fun e => hk.2.2.1.trans (h2.none_ e), fun b e => ?_⟩, ?_⟩
  · unfold DS.flush
    rw [if_neg (by simp [h.dead]), e, if_neg (by simp)]
  · obtain ⟨c, a1, a2, a3, a4⟩ := h2.some_ b e
    exact ⟨c, hk.2.2.1.trans a1, by rw [show ({ D.tick.keeps D.tick.wait with wait := [] } : DS).acts = _ from hk.2.2.2.1]; exact a2, by rw [show ({ D.tick.keeps D.tick.wait with wait := [] } : DS).acts = _ from hk.2.2.2.1]; exact a3, a4⟩
  · show (D.tick.keeps D.tick.wait).tell = _
    rw [h2.wait, keeps_tell l _ hl]
    rfl
/-- What sectors say is of P. -/
abbrev SaysP (P : Nat → ByteArray → Prop) (f : Nat → ByteArray) : Prop := ∀ i, P i (f i)
theorem settles_says {P : Nat → ByteArray → Prop} : ∀ (l : List (Nat × ByteArray)) (D : DS) (f : List Int) (j : Nat), (∀ x ∈ l, P x.1 x.2 ∧ P x.1 ⟨#[]⟩ ∧ x.2 ≠ ⟨#[]⟩) → SaysP P D.tell → SaysP P (D.settles f j l).tell
  | [], _, _, _, _, h => h
  | x :: l, D, f, j, hl, h => by
    show SaysP P ((D.settle x (fateOf f j)).settles f (j + 1) l).tell
    refine settles_says l _ f (j + 1) (fun y hy => hl y (.tail _ hy)) fun i => ?_
    obtain ⟨p1, p2, p3⟩ := hl x (.head _)
    rcases settle_tell D x (fateOf f j) p3 i with e | ⟨rfl, e | e⟩
    · rw [e]; exact h i
    · rw [e]; exact p2
    · rw [e]; exact p1
/-- What is left when the power has failed. -/
structure Dead (m : Nat) (fl : Int) (D : DS) : Prop where
  dead : D.dead = true
  wait : D.wait = []
  cuts : D.cuts = []
  n : D.n = m
  fails : D.fails = fl
theorem dead_up (h : Dead m fl D) : Run m [] none fates fl D.up ∧ D.up.tell = D.tell := by
  have e : D.up = { D with dead := false, acts := 0 } := by unfold DS.up; rw [if_pos h.dead]
  rw [e]
  exact ⟨⟨rfl, h.wait, h.n, h.fails, fun _ => h.cuts, fun b e => by cases e⟩, rfl⟩
theorem live_up (h : Run m l o fates fl D) : D.up = D := by unfold DS.up; rw [if_neg (by simp [h.dead])]
theorem fail_dead {P : Nat → ByteArray → Prop} (h : Run m l (some 0) fates fl D) (hl : ∀ x ∈ l, P x.1 x.2 ∧ P x.1 ⟨#[]⟩ ∧ x.2 ≠ ⟨#[]⟩) (hs : SaysP P D.tell) : ∃ D', D.act = (D', true) ∧ Dead m (wrap64 (fl + 1)) D' ∧ SaysP P D'.tell := by
  refine ⟨_, fail_act h, ⟨rfl, rfl, rfl, ?_, rfl⟩, ?_⟩
  · exact (settles_same l D.tick fates 0).1.trans h.n
  · exact settles_says l D.tick fates 0 hl hs
theorem fail_write {P : Nat → ByteArray → Prop} (h : Run m l (some 0) fates fl D) {i : Nat} (hi : i < m) {s : ByteArray} (hs : s.size ≤ 256) (hl : ∀ x ∈ l ++ [(i, pad s)], P x.1 x.2 ∧ P x.1 ⟨#[]⟩ ∧ x.2 ≠ ⟨#[]⟩) (hP : SaysP P D.tell) : ∃ D', D.write i s = (D', 40) ∧ Dead m (wrap64 (fl + 1)) D' ∧ SaysP P D'.tell := by
  have hn := h.n
  have h' : Run m (l ++ [(i, pad s)]) (some 0) fates fl (D.push i s) := ⟨h.dead, by show D.wait ++ _ = _; rw [h.wait], h.n, h.fails, h.none_, h.some_⟩
  obtain ⟨D', e, h2, h3⟩ := fail_dead h' hl hP
  refine ⟨D', ?_, h2, h3⟩
  unfold DS.write
  rw [if_neg (by simp [h.dead]), if_neg (by omega), if_neg (by omega)]
  simp [e]
theorem fail_flush {P : Nat → ByteArray → Prop} (h : Run m l (some 0) fates fl D) (hl : ∀ x ∈ l, P x.1 x.2 ∧ P x.1 ⟨#[]⟩ ∧ x.2 ≠ ⟨#[]⟩) (hP : SaysP P D.tell) : ∃ D', D.flush = (D', 40) ∧ Dead m (wrap64 (fl + 1)) D' ∧ SaysP P D'.tell := by
  obtain ⟨D', e, h2, h3⟩ := fail_dead h hl hP
  refine ⟨D', ?_, h2, h3⟩
  unfold DS.flush
  rw [if_neg (by simp [h.dead]), e]
  simp
theorem run_read (h : Run m [] o fates fl D) (ho : o ≠ some 0) {i : Nat} (hi : i < m) : D.read i = (D.tick, if D.torn i = true then (⟨#[]⟩, 41) else (D.tell i, 0)) ∧ Run m [] (dec o) fates fl D.tick := by
  obtain ⟨e, h2⟩ := run_act h ho
  have hn := h.n
  refine ⟨?_, h2⟩
  unfold DS.read
  rw [if_neg (by simp [h.dead]), if_neg (by omega), e, if_neg (by simp)]
  simp only [Int.toNat_natCast]
  congr 1
  unfold DS.at DS.tell
  rw [h2.wait]
  simp only [lastW]
  show (if D.torn i = true then _ else if D.data i = _ then _ else _) = _
  split
  · rfl
  · split
    · rfl
    · rfl
theorem run_sector (h : Run m [] o fates fl D) (ho : o ≠ some 0) {i : Nat} (hi : i < m) : D.sector i = (D.tick, D.tell i, 0) ∧ Run m [] (dec o) fates fl D.tick := by
  obtain ⟨e, h2⟩ := run_read h ho hi
  refine ⟨?_, h2⟩
  unfold DS.sector
  rw [e]
  by_cases ht : D.torn i = true
  · simp [ht, DS.tell]
  · simp [ht]
theorem fail_sector (h : Run m [] (some 0) fates fl D) {i : Nat} (hi : i < m) : ∃ D', D.sector i = (D', ⟨#[]⟩, 40) ∧ Dead m (wrap64 (fl + 1)) D' ∧ D'.tell = D.tell := by
  have hn := h.n
  have e := fail_act h
  refine ⟨{ D.tick.settles fates 0 [] with wait := [], cuts := [], dead := true, fails := wrap64 (fl + 1) }, ?_, ⟨rfl, rfl, rfl, h.n, rfl⟩, rfl⟩
  · unfold DS.sector
    have e2 : D.read i = ({ D.tick.settles fates 0 [] with wait := [], cuts := [], dead := true, fails := wrap64 (fl + 1) }, ⟨#[]⟩, 40) := by
      unfold DS.read
      rw [if_neg (by simp [h.dead]), if_neg (by omega), e, if_pos rfl]
    rw [e2]
    rfl
end Go.Proofs.YtolifmpjbmekdaaDoor
