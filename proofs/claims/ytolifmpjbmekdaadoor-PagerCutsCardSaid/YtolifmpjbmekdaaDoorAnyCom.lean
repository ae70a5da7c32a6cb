/-
A commit on a disk with a power cut to come, in plain Lean: it goes well, or what was committed ahead is there, or what was to be; conditions: nothing waits.
-/
import Derived.Test.YtolifmpjbmekdaaDoorPBlank
namespace Go.Proofs.YtolifmpjbmekdaaDoor
open Go.RowKit
variable {m : Nat} {l : List (Nat × ByteArray)} {o : Option Nat} {fates : List Int} {fl : Int} {D : DS}
/-- So many acts are done. -/
def Off (o : Option Nat) (n : Nat) (o' : Option Nat) : Prop := (o = none ∧ o' = none) ∨ ∃ b, o = some b ∧ n ≤ b ∧ o' = some (b - n)
theorem off_zero (o : Option Nat) : Off o 0 o := by
  cases o with
  | none => exact .inl ⟨rfl, rfl⟩
  | some b => exact .inr ⟨b, rfl, Nat.zero_le _, rfl⟩
theorem off_dec {o o1 : Option Nat} {n : Nat} (h : Off o n o1) (h1 : o1 ≠ some 0) : Off o (n + 1) (dec o1) := by
  rcases h with ⟨h2, rfl⟩ | ⟨b, h2, h3, rfl⟩
  · exact .inl ⟨h2, rfl⟩
  · refine .inr ⟨b, h2, ?_, by simp only [dec]; congr 1⟩
    have : b - n ≠ 0 := fun e => h1 (by rw [e])
    omega
theorem full_ne {s : ByteArray} (h : s.size = 256) : s ≠ ⟨#[]⟩ := fun e => by rw [e] at h; cases h
theorem any_puts {P : Nat → ByteArray → Prop} {o0 : Option Nat} : ∀ (p : List (Nat × ByteArray)) {l : List (Nat × ByteArray)} {o : Option Nat} {D : DS} (n : Nat), Off o0 n o → Run m l o fates fl D → (∀ x ∈ p, x.1 < m ∧ x.2.size = 256 ∧ P x.1 x.2 ∧ P x.1 ⟨#[]⟩) → (∀ x ∈ l, P x.1 x.2 ∧ P x.1 ⟨#[]⟩ ∧ x.2 ≠ ⟨#[]⟩) → SaysP P D.tell →
    (∃ D' o', D.puts p = (D', 0) ∧ Run m (l ++ p) o' fates fl D' ∧ D'.tell = D.tell ∧ Off o0 (n + p.length) o') ∨ ∃ D', D.puts p = (D', 40) ∧ Dead m (wrap64 (fl + 1)) D' ∧ SaysP P D'.tell
  | [], l, o, D, n, hO, h, _, _, _ => .inl ⟨D, o, rfl, by simpa using h, rfl, hO⟩
  | x :: p, l, o, D, n, hO, h, hp, hl, hP => by
    obtain ⟨x1, x2, x3, x4⟩ := hp x (.head _)
    have hl' : ∀ y ∈ l ++ [(x.1, pad x.2)], P y.1 y.2 ∧ P y.1 ⟨#[]⟩ ∧ y.2 ≠ ⟨#[]⟩ := fun y hy => by
      rcases List.mem_append.1 hy with h1 | h1
      · exact hl y h1
      · simp at h1; subst h1
        rw [pad_full x2]
        exact ⟨x3, x4, full_ne x2⟩
    by_cases ho : o = some 0
    · subst ho
      obtain ⟨D1, e1, h1, t1⟩ := fail_write h x1 (s := x.2) (by omega) hl' hP
      right
      exact ⟨D1, by rw [puts_cons, e1, if_pos (by simp)], h1, t1⟩
    · obtain ⟨D1, e1, h1, t1⟩ := run_write h ho x1 (s := x.2) (by omega)
      rcases any_puts p (n + 1) (off_dec hO ho) h1 (fun y hy => hp y (.tail _ hy)) hl' (by rw [t1]; exact hP) with ⟨D2, o2, e2, h2, t2, f2⟩ | ⟨D2, e2, h2, t2⟩
      · left
        refine ⟨D2, o2, by rw [puts_cons, e1, if_neg (by simp), e2], ?_, t2.trans t1, by rw [List.length_cons, show n + (p.length + 1) = n + 1 + p.length by omega]; exact f2⟩
        rw [pad_full x2] at h2
        simpa using h2
      · right
        exact ⟨D2, by rw [puts_cons, e1, if_neg (by simp), e2], h2, t2⟩
abbrev over (p : List (Nat × ByteArray)) (f : Nat → ByteArray) : Nat → ByteArray := p.foldl (fun f x => upd f x.1 x.2) f
theorem any_commit (h : Run m [] o fates fl D) (hm : 2 ≤ m) {p : List (Nat × ByteArray)} (hp : ∀ x ∈ p, x.1 < m ∧ x.2.size = 256) (gen : Nat) (root : Int) :
    (∃ D' o', D.commit p gen root = (D', 0) ∧ Run m [] o' fates fl D' ∧ D'.tell = upd (over p D.tell) (gen % 2) (supS gen root) ∧ Off o (p.length + 3) o') ∨
    ∃ D', D.commit p gen root = (D', 40) ∧ Dead m (wrap64 (fl + 1)) D' ∧ ((∀ j, (∀ x ∈ p, x.1 ≠ j) → D'.tell j = D.tell j) ∨
      ((∀ j, j ≠ gen % 2 → D'.tell j = over p D.tell j) ∧ (D'.tell (gen % 2) = over p D.tell (gen % 2) ∨ D'.tell (gen % 2) = ⟨#[]⟩ ∨ D'.tell (gen % 2) = supS gen root))) := by
  have hg : gen % 2 < m := by omega
  have hss : (supS gen root).size ≤ 256 := by rw [supS_size]; decide
  have hold : ∀ D' : DS, SaysP (fun j z => (∃ x ∈ p, x.1 = j) ∨ z = D.tell j) D'.tell → ∀ j, (∀ x ∈ p, x.1 ≠ j) → D'.tell j = D.tell j := fun D' hs j hj => (hs j).elim (fun ⟨x, hx, e⟩ => absurd e (hj x hx)) id
  rcases any_puts (P := fun j z => (∃ x ∈ p, x.1 = j) ∨ z = D.tell j) p 0 (off_zero o) h (fun x hx => ⟨(hp x hx).1, (hp x hx).2, .inl ⟨x, hx, rfl⟩, .inl ⟨x, hx, rfl⟩⟩) (fun x hx => by cases hx) (fun j => .inr rfl) with ⟨D1, o1, e1, h1, t1, f1⟩ | ⟨D1, e1, h1, t1⟩
  · rw [List.nil_append] at h1
    rw [Nat.zero_add] at f1
    by_cases n1 : o1 = some 0
    · subst n1
      obtain ⟨D2, e2, h2, t2⟩ := fail_flush (P := fun j z => (∃ x ∈ p, x.1 = j) ∨ z = D.tell j) h1 (fun x hx => ⟨.inl ⟨x, hx, rfl⟩, .inl ⟨x, hx, rfl⟩, full_ne (hp x hx).2⟩) (fun j => .inr (by rw [t1]))
      exact .inr ⟨D2, (DS.commit_flush e1 (by rw [e2]; simp)).trans e2, h2, .inl (hold D2 t2)⟩
    obtain ⟨D2, e2, h2, t2⟩ := run_flush h1 n1 fun x hx => full_ne (hp x hx).2
    rw [t1] at t2
    have hw : ∀ x ∈ ([] : List (Nat × ByteArray)) ++ [(gen % 2, pad (supS gen root))], ((x.2 = over p D.tell x.1 ∨ x.1 = gen % 2 ∧ (x.2 = ⟨#[]⟩ ∨ x.2 = supS gen root)) ∧ ((⟨#[]⟩ : ByteArray) = over p D.tell x.1 ∨ x.1 = gen % 2 ∧ ((⟨#[]⟩ : ByteArray) = ⟨#[]⟩ ∨ (⟨#[]⟩ : ByteArray) = supS gen root)) ∧ x.2 ≠ ⟨#[]⟩) := fun x hx => by
      simp at hx; subst hx
      rw [pad_full (supS_size _ _)]
      exact ⟨.inr ⟨rfl, .inr rfl⟩, .inr ⟨rfl, .inl rfl⟩, supS_ne _ _⟩
    have hnew : ∀ D' : DS, SaysP (fun j z => z = over p D.tell j ∨ j = gen % 2 ∧ (z = ⟨#[]⟩ ∨ z = supS gen root)) D'.tell → (∀ j, j ≠ gen % 2 → D'.tell j = over p D.tell j) ∧ (D'.tell (gen % 2) = over p D.tell (gen % 2) ∨ D'.tell (gen % 2) = ⟨#[]⟩ ∨ D'.tell (gen % 2) = supS gen root) := fun D' hs =>
      ⟨fun j hj => (hs j).elim id fun e => absurd e.1 hj, (hs (gen % 2)).imp id fun e => e.2⟩
    by_cases n2 : dec o1 = some 0
    · rw [n2] at h2
      obtain ⟨D3, e3, h3, t3⟩ := fail_write (P := fun j z => z = over p D.tell j ∨ j = gen % 2 ∧ (z = ⟨#[]⟩ ∨ z = supS gen root)) h2 hg hss hw (fun j => .inl (by rw [t2]))
      exact .inr ⟨D3, (DS.commit_write e1 e2 (by rw [e3]; simp)).trans e3, h3, .inr (hnew D3 t3)⟩
    obtain ⟨D3, e3, h3, t3⟩ := run_write h2 n2 hg hss
    by_cases n3 : dec (dec o1) = some 0
    · rw [n3] at h3
      obtain ⟨D4, e4, h4, t4⟩ := fail_flush (P := fun j z => z = over p D.tell j ∨ j = gen % 2 ∧ (z = ⟨#[]⟩ ∨ z = supS gen root)) h3 hw (fun j => .inl (by rw [t3, t2]))
      exact .inr ⟨D4, (DS.commit_all e1 e2 e3).trans e4, h4, .inr (hnew D4 t4)⟩
    obtain ⟨D4, e4, h4, t4⟩ := run_flush h3 n3 fun x hx => (hw x hx).2.2
    refine .inl ⟨D4, _, (DS.commit_all e1 e2 e3).trans e4, h4, ?_, off_dec (off_dec (off_dec f1 n1) n2) n3⟩
    rw [t4, t3, t2, pad_full (supS_size _ _)]
    rfl
  · exact .inr ⟨D1, DS.commit_puts e1 (by simp), h1, .inl (hold D1 t1)⟩
/-- A commit of one page, ahead of the cut. -/
theorem run_commit1 (h : Run m [] o fates fl D) (hm : 2 ≤ m) (ho : ∀ b, o = some b → 4 ≤ b) {i : Nat} {s : ByteArray} (hi : i < m) (hs : s.size = 256) (gen : Nat) (root : Int) :
    ∃ D', D.commit [(i, s)] gen root = (D', 0) ∧ Run m [] (dec (dec (dec (dec o)))) fates fl D' ∧ D'.tell = upd (upd D.tell i s) (gen % 2) (supS gen root) := by
  have n0 : o ≠ some 0 := fun e => by have := ho 0 e; omega
  have n1 : dec o ≠ some 0 := fun e => by
    cases o with
    | none => cases e
    | some b => have := ho b rfl; simp [dec] at e; omega
  have n2 : dec (dec o) ≠ some 0 := fun e => by
    cases o with
    | none => cases e
    | some b => have := ho b rfl; simp [dec] at e; omega
  have n3 : dec (dec (dec o)) ≠ some 0 := fun e => by
    cases o with
    | none => cases e
    | some b => have := ho b rfl; simp [dec] at e; omega
  obtain ⟨D1, e1, h1, t1⟩ := run_write h n0 hi (s := s) (by omega)
  rw [pad_full hs, List.nil_append] at h1
  have e1' : D.puts [(i, s)] = (D1, 0) := by rw [puts_cons, e1, if_neg (by simp)]; rfl
  obtain ⟨D2, e2, h2, t2⟩ := run_flush h1 n1 fun x hx => by simp at hx; subst hx; exact full_ne hs
  obtain ⟨D3, e3, h3, t3⟩ := run_write h2 n2 (i := gen % 2) (by omega) (s := supS gen root) (by rw [supS_size]; decide)
  obtain ⟨D4, e4, h4, t4⟩ := run_flush h3 n3 fun x hx => by simp at hx; subst hx; rw [pad_full (supS_size _ _)]; exact supS_ne _ _
  refine ⟨D4, (DS.commit_all e1' e2 e3).trans e4, h4, ?_⟩
  rw [t4, t3, t2, t1, pad_full (supS_size _ _)]
  rfl
end Go.Proofs.YtolifmpjbmekdaaDoor
