/-
PagerBlank: what a disk says of which the power fails while it is formatted, and what is opened then; conditions: those that each theorem names.
-/
import Derived.Test.YtolifmpjbmekdaaDoorLive
namespace Go.Proofs.YtolifmpjbmekdaaDoor
open Go.RowKit
open Go.Lib (hid)
theorem and_range_i (t m : Int) (k : Nat) (hk : m = (k : Int)) (hk2 : k < 9223372036854775808) : ∃ n : Nat, Go.bits .and .i64 t m = (n : Int) ∧ n ≤ k := by
  subst hk
  have hlt : ((BitVec.ofInt 64 t) &&& (BitVec.ofInt 64 (k : Int))).toNat ≤ k := by
    rw [BitVec.toNat_and]
    refine Nat.le_trans Nat.and_le_right ?_
    simp
    exact Nat.le_trans (Nat.mod_le _ _) (Nat.le_refl _)
  have e : Go.bits .and .i64 t k = IntKind.i64.wrap ((((BitVec.ofInt 64 t) &&& (BitVec.ofInt 64 (k : Int))).toNat : Nat) : Int) := rfl
  rw [e, IntKind.wrap_i64]
  generalize ((BitVec.ofInt 64 t) &&& (BitVec.ofInt 64 (k : Int))).toNat = c at *
  exact ⟨c, by omega, hlt⟩
variable {m : Nat} {l : List (Nat × ByteArray)} {o : Option Nat} {fates : List Int} {fl : Int} {D : DS}
theorem new_run {k : Nat} (hk : k < 1000000) (m : Nat) (fates : List Int) : Run m [] (some k) fates 0 (DS.new m [((k : Int), fates)]) ∧ (DS.new m [((k : Int), fates)]).tell = fun _ => zeros 256 :=
  ⟨⟨rfl, rfl, rfl, rfl, (fun e => by cases e), fun b e => by cases e; exact ⟨k, rfl, by show (0 : Int) + (k : Int) = (k : Int); omega, Int.le_refl _, hk⟩⟩, by funext i; simp [DS.tell, DS.new]⟩
/-- What there may be while a disk is formatted. -/
def Early (i : Nat) (s : ByteArray) : Prop := s = ⟨#[]⟩ ∨ s = zeros 256 ∨ (i = 1 ∧ s = supS 1 (-1))
theorem zeros_ne : zeros 256 ≠ ⟨#[]⟩ := fun e => by have := congrArg ByteArray.size e; rw [zeros_size] at this; cases this
theorem supS_ne (g : Nat) (r : Int) : supS g r ≠ ⟨#[]⟩ := fun e => by have := congrArg ByteArray.size e; rw [supS_size] at this; cases this
theorem early_z (i : Nat) : Early i (zeros 256) ∧ Early i ⟨#[]⟩ ∧ zeros 256 ≠ ⟨#[]⟩ := ⟨.inr (.inl rfl), .inl rfl, zeros_ne⟩
theorem early_s : Early 1 (supS 1 (-1)) ∧ Early 1 ⟨#[]⟩ ∧ supS 1 (-1) ≠ ⟨#[]⟩ := ⟨.inr (.inr ⟨rfl, rfl⟩), .inl rfl, supS_ne _ _⟩
theorem no_short : NoPage ⟨#[]⟩ := fun W => get_short (by decide) W
theorem early0 {s : ByteArray} (h : Early 0 s) : SupTells s 0 none := by
  rcases h with rfl | rfl | ⟨e, _⟩
  · exact no_short
  · exact no_zeros
  · cases e
theorem early1 {s : ByteArray} (h : Early 1 s) : SupTells s 1 none ∨ SupTells s 1 (some (1, -1)) := by
  rcases h with rfl | rfl | ⟨_, rfl⟩
  · exact .inl no_short
  · exact .inl no_zeros
  · exact .inr tells_first
theorem fmt_steps (D : DS) {D1 D2 D3 D4 : DS} {e5 : DS × Int} (h1 : D.write 0 ⟨#[]⟩ = (D1, 0)) (h2 : D1.write 1 ⟨#[]⟩ = (D2, 0)) (h3 : D2.flush = (D3, 0)) (h4 : D3.write 1 (supS 1 (-1)) = (D4, 0)) (h5 : D4.flush = e5) : D.format = e5 := by
  unfold DS.format
  simp only [h1, h2, h3, h4, h5, ne_eq, not_true_eq_false, if_false]
def fmtT (f : Nat → ByteArray) : Nat → ByteArray := upd (upd (upd f 0 (zeros 256)) 1 (zeros 256)) 1 (supS 1 (-1))
theorem run_format (h : Run m [] o fates fl D) (hm : 2 ≤ m) (ho : ∀ b, o = some b → 5 ≤ b) : ∃ D', D.format = (D', 0) ∧ Run m [] (dec (dec (dec (dec (dec o))))) fates fl D' ∧ D'.tell = fmtT D.tell := by
  have n0 : o ≠ some 0 := fun e => by have := ho 0 e; omega
  have n1 : dec o ≠ some 0 := fun e => by
    cases o with
    | none => cases e
    | some b => have := ho b rfl; simp [dec] at e; omega
  have n2 : dec (dec o) ≠ some 0 := fun e => by
    cases o with
    | none => cases e
    | some b => have := ho b rfl; simp [dec] at e; omega
  have n3 : dec (dec (dec o)) ≠ some 0 := fun e => by
    cases o with
    | none => cases e
    | some b => have := ho b rfl; simp [dec] at e; omega
  have n4 : dec (dec (dec (dec o))) ≠ some 0 := fun e => by
    cases o with
    | none => cases e
    | some b => have := ho b rfl; simp [dec] at e; omega
  obtain ⟨D1, e1, h1, t1⟩ := run_write h n0 (i := 0) (by omega) (s := ⟨#[]⟩) (by decide)
  obtain ⟨D2, e2, h2, t2⟩ := run_write h1 n1 (i := 1) (by omega) (s := ⟨#[]⟩) (by decide)
  obtain ⟨D3, e3, h3, t3⟩ := run_flush h2 n2 fun x hx => by
    simp at hx
    rcases hx with rfl | rfl
    · exact pad_ne _ (by decide)
    · exact pad_ne _ (by decide)
  obtain ⟨D4, e4, h4, t4⟩ := run_write h3 n3 (i := 1) (by omega) (s := supS 1 (-1)) (by rw [supS_size]; decide)
  obtain ⟨D5, e5, h5, t5⟩ := run_flush h4 n4 fun x hx => by
    simp at hx
    subst hx
    exact pad_ne _ (by rw [supS_size]; decide)
  refine ⟨D5, fmt_steps D e1 e2 e3 e4 e5, h5, ?_⟩
  rw [t5, t4, t3, t2, t1, pad_nil, pad_full (supS_size 1 (-1))]
  rfl
theorem fail_format {b : Nat} (h : Run m [] (some b) fates fl D) (hm : 2 ≤ m) (hb : b < 5) (hP : SaysP Early D.tell) : ∃ D', D.format = (D', 40) ∧ Dead m (wrap64 (fl + 1)) D' ∧ SaysP Early D'.tell := by
  have w1 : ∀ x ∈ ([] : List (Nat × ByteArray)) ++ [(0, pad ⟨#[]⟩)], Early x.1 x.2 ∧ Early x.1 ⟨#[]⟩ ∧ x.2 ≠ ⟨#[]⟩ := fun x hx => by
    simp at hx; subst hx; rw [pad_nil]; exact early_z 0
  have w2 : ∀ x ∈ (([] : List (Nat × ByteArray)) ++ [(0, pad ⟨#[]⟩)]) ++ [(1, pad ⟨#[]⟩)], Early x.1 x.2 ∧ Early x.1 ⟨#[]⟩ ∧ x.2 ≠ ⟨#[]⟩ := fun x hx => by
    simp at hx
    rcases hx with rfl | rfl
    · rw [pad_nil]; exact early_z 0
    · rw [pad_nil]; exact early_z 1
  have w3 : ∀ x ∈ ([] : List (Nat × ByteArray)) ++ [(1, pad (supS 1 (-1)))], Early x.1 x.2 ∧ Early x.1 ⟨#[]⟩ ∧ x.2 ≠ ⟨#[]⟩ := fun x hx => by
    simp at hx; subst hx; rw [pad_full (supS_size _ _)]; exact early_s
  have i0 : 0 < m := by omega
  have i1 : 1 < m := by omega
  have s0 : (⟨#[]⟩ : ByteArray).size ≤ 256 := by decide
  have s1 : (supS 1 (-1)).size ≤ 256 := by rw [supS_size]; decide
  by_cases b0 : b = 0
  · subst b0
    obtain ⟨D1, e1, h1, t1⟩ := fail_write h i0 s0 w1 hP
    refine ⟨D1, ?_, h1, t1⟩
    have e1 : D.write 0 ⟨#[]⟩ = (D1, 40) := e1
    unfold DS.format
    simp only [e1, ne_eq]
    rw [if_pos (by decide)]
  obtain ⟨D1, e1, h1, t1⟩ := run_write h (fun e => b0 (Option.some.inj e)) i0 s0
  have e1 : D.write 0 ⟨#[]⟩ = (D1, 0) := e1
  by_cases b1 : b = 1
  · subst b1
    obtain ⟨D2, e2, h2, t2⟩ := fail_write h1 i1 s0 w2 (t1 ▸ hP)
    refine ⟨D2, ?_, h2, t2⟩
    have e2 : D1.write 1 ⟨#[]⟩ = (D2, 40) := e2
    unfold DS.format
    simp only [e1, e2, ne_eq, not_true_eq_false, if_false]
    rw [if_pos (by decide)]
  obtain ⟨D2, e2, h2, t2⟩ := run_write h1 (fun e => by simp [dec] at e; omega) i1 s0
  have e2 : D1.write 1 ⟨#[]⟩ = (D2, 0) := e2
  by_cases b2 : b = 2
  · subst b2
    obtain ⟨D3, e3, h3, t3⟩ := fail_flush h2 w2 (t2 ▸ t1 ▸ hP)
    refine ⟨D3, ?_, h3, t3⟩
    unfold DS.format
    simp only [e1, e2, e3, ne_eq, not_true_eq_false, if_false]
    rw [if_pos (by decide)]
  obtain ⟨D3, e3, h3, t3⟩ := run_flush h2 (fun e => by simp [dec] at e; omega) fun x hx => (w2 x hx).2.2
  have hP3 : SaysP Early D3.tell := fun i => by
    rw [t3, t2, t1]
    show Early i (upd (upd D.tell 0 (pad ⟨#[]⟩)) 1 (pad ⟨#[]⟩) i)
    unfold upd
    split
    · rw [pad_nil]; exact (early_z i).1
    · split
      · rw [pad_nil]; exact (early_z i).1
      · exact hP i
  by_cases b3 : b = 3
  · subst b3
    obtain ⟨D4, e4, h4, t4⟩ := fail_write h3 i1 s1 w3 hP3
    refine ⟨D4, ?_, h4, t4⟩
    have e4 : D3.write 1 (supS 1 (-1)) = (D4, 40) := e4
    unfold DS.format
    simp only [e1, e2, e3, e4, ne_eq, not_true_eq_false, if_false]
    rw [if_pos (by decide)]
  obtain ⟨D4, e4, h4, t4⟩ := run_write h3 (fun e => by simp [dec] at e; omega) i1 s1
  have e4 : D3.write 1 (supS 1 (-1)) = (D4, 0) := e4
  obtain rfl : b = 4 := by omega
  obtain ⟨D5, e5, h5, t5⟩ := fail_flush h4 w3 (t4 ▸ hP3)
  exact ⟨D5, fmt_steps D e1 e2 e3 e4 e5, h5, t5⟩
variable {q : Nat} {G : Nat → Prop} {W : World}
theorem open_fail0 (h : Disk q D G W) (hm : 2 ≤ D.n) {D1 : DS} {s : ByteArray} (h0 : D.sector 0 = (D1, s, 40)) : Calls Tryd.prog 11 #[ptr q] W fun e w' => e = .returned (.tuple #[.pointer none, .int .i64 40]) ∧ Disk q D1 G w' ∧ Kept G W w' := by
  refine (open_calls h hm (A := none) (B := none) (fun e => by rw [h0] at e; cases e) (fun _ _ e => by cases e)).mono fun e w' he => ?_
  rw [h0] at he
  rcases he.2 with ⟨_, h2, h3⟩ | ⟨h2, _⟩ | ⟨h2, _⟩ | ⟨h2, _⟩
  · exact ⟨h2, h3, he.1⟩
  · cases h2
  · cases h2
  · cases h2
theorem open_fail1 (h : Disk q D G W) (hm : 2 ≤ D.n) {D1 D2 : DS} {s0 s : ByteArray} (h0 : D.sector 0 = (D1, s0, 0)) (h1 : D1.sector 1 = (D2, s, 40)) : Calls Tryd.prog 11 #[ptr q] W fun e w' => e = .returned (.tuple #[.pointer none, .int .i64 40]) ∧ Disk q D2 G w' ∧ Kept G W w' := by
  refine (open_calls h hm (A := none) (B := none) (fun _ e => by rw [h0] at e; simp only at e; rw [h1] at e; cases e) (fun _ _ e => by cases e)).mono fun e w' he => ?_
  rw [h0] at he
  simp only at he
  rw [h1] at he
  rcases he.2 with ⟨h2, _⟩ | ⟨_, _, h2, h3⟩ | ⟨_, h2, _⟩ | ⟨_, h2, _⟩
  · exact absurd rfl h2
  · exact ⟨h2, h3, he.1⟩
  · cases h2
  · cases h2
theorem open_blank (h : Disk q D G W) (hm : 2 ≤ D.n) {D1 D2 : DS} {s0 s1 : ByteArray} (h0 : D.sector 0 = (D1, s0, 0)) (h1 : D1.sector 1 = (D2, s1, 0)) {A B : Option (Nat × Int)} (hA : SupTells s0 0 A) (hB : SupTells s1 1 B) (hl : later A B = none) : Calls Tryd.prog 11 #[ptr q] W fun e w' => e = .returned (.tuple #[.pointer none, .int .i64 81]) ∧ Disk q D2 G w' ∧ Kept G W w' := by
  refine (open_calls h hm (A := A) (B := B) (fun _ _ => by rw [h0]; simp only; rw [h1]; exact ⟨hA, hB⟩) (fun _ _ e => by rw [hl] at e; cases e)).mono fun e w' he => ?_
  rw [h0] at he
  simp only at he
  rw [h1] at he
  rcases he.2 with ⟨h2, _⟩ | ⟨_, h2, _⟩ | ⟨_, _, _, h2, h3⟩ | ⟨_, _, g, r, h2, _⟩
  · exact absurd rfl h2
  · exact absurd rfl h2
  · exact ⟨h2, h3, he.1⟩
  · rw [hl] at h2; cases h2
def OpenOk (G : Nat → Prop) (q : Nat) (W : World) (e : Ending) (w' : World) : Prop := (∃ p D2, e = .returned (.tuple #[ptr p, .int .i64 0]) ∧ Pgr G p q (PS.opened 1 (-1) 4) D2 w') ∧ Kept G W w'
theorem first_open (h : Disk q D G W) (hn : D.n = 4) {D1 D2 : DS} {s0 : ByteArray} (h0 : D.sector 0 = (D1, s0, 0)) (hA : SupTells s0 0 none) (h1 : D1.sector 1 = (D2, supS 1 (-1), 0)) : Calls Tryd.prog 11 #[ptr q] W (OpenOk G q W) := by
  refine (g_open h (by omega) h0 h1 hA tells_first (gen := 1) (root := -1) rfl (by decide)).mono fun e w' ⟨⟨p, h1, h2, _⟩, h4⟩ => ⟨⟨p, D2, h1, ?_⟩, h4⟩
  rw [hn] at h2
  exact h2
theorem fmtT0 (f : Nat → ByteArray) : fmtT f 0 = zeros 256 := rfl
theorem fmtT1 (f : Nat → ByteArray) : fmtT f 1 = supS 1 (-1) := rfl
/-- Formatted once more, all is fine. -/
theorem again (h : Run 4 [] none fates fl D) : ∃ D', D.format = (D', 0) ∧ ∀ (q : Nat) (G : Nat → Prop) (W : World), Disk q D' G W → Calls Tryd.prog 11 #[ptr q] W (OpenOk G q W) := by
  obtain ⟨D1, e1, h1, t1⟩ := run_format h (by decide) (fun b e => by cases e)
  refine ⟨D1, e1, fun q G W hW => ?_⟩
  obtain ⟨e2, h2⟩ := run_sector h1 (fun e => by cases e) (i := 0) (by decide)
  obtain ⟨e3, h3⟩ := run_sector h2 (fun e => by cases e) (i := 1) (by decide)
  refine first_open hW h1.n e2 (by rw [t1, fmtT0]; exact no_zeros) (D2 := D1.tick.tick) ?_
  refine e3.trans ?_
  rw [show D1.tick.tell = D1.tell from rfl, t1, fmtT1]
/-- What comes of a disk whose power fails at an act. -/
theorem blank_one {k : Nat} (hk : k ≤ 7) (fates : List Int) : ∃ (f : Int) (D1 : DS), (DS.new 4 [((k : Int), fates)]).format = (D1, f) ∧ (k < 5 → f = 40) ∧
    ((∀ (q : Nat) (G : Nat → Prop) (W : World), Disk q D1.up G W → Calls Tryd.prog 11 #[ptr q] W (OpenOk G q W)) ∨
      ∃ (g : Int) (D2 : DS) (fl : Int), (g = 81 ∨ g = 40) ∧ Run 4 [] none fates fl D2.up ∧ ∀ (q : Nat) (G : Nat → Prop) (W : World), Disk q D1.up G W → Calls Tryd.prog 11 #[ptr q] W fun e w' => e = .returned (.tuple #[.pointer none, .int .i64 g]) ∧ Disk q D2 G w' ∧ Kept G W w') := by
  obtain ⟨h0, t0⟩ := new_run (k := k) (by omega) 4 fates
  by_cases h5 : k < 5
  · obtain ⟨D1, e1, h1, t1⟩ := fail_format h0 (by decide) h5 (by rw [t0]; exact fun i => (early_z i).1)
    refine ⟨40, D1, e1, fun _ => rfl, ?_⟩
    obtain ⟨h2, t2⟩ := dead_up (fates := fates) h1
    obtain ⟨e3, h3⟩ := run_sector h2 (fun e => by cases e) (i := 0) (by decide)
    obtain ⟨e4, h4⟩ := run_sector h3 (fun e => by cases e) (i := 1) (by decide)
    have a0 : SupTells (D1.up.tell 0) 0 none := early0 (by rw [t2]; exact t1 0)
    have e1' : Early 1 (D1.up.tell 1) := by rw [t2]; exact t1 1
    rcases early1 e1' with a1 | a1
    · refine .inr ⟨81, _, _, .inl rfl, by rw [live_up h4]; exact h4, fun q G W hW => open_blank hW (by rw [h2.n]; decide) e3 e4 a0 a1 rfl⟩
    · refine .inl fun q G W hW => first_open hW h2.n e3 a0 (D2 := D1.up.tick.tick) (e4.trans ?_)
      rw [show D1.up.tick.tell 1 = D1.up.tell 1 from rfl, a1.2.1]
  · obtain ⟨D1, e1, h1, t1⟩ := run_format h0 (by decide) (fun b e => by cases e; omega)
    refine ⟨0, D1, e1, fun e => absurd e h5, ?_⟩
    have hd : dec (dec (dec (dec (dec (some k))))) = some (k - 5) := rfl
    rw [hd] at h1
    rw [live_up h1]
    have a0 : SupTells (D1.tell 0) 0 none := by rw [t1, fmtT0]; exact no_zeros
    by_cases k5 : k = 5
    · subst k5
      obtain ⟨D2, e2, h2, _⟩ := fail_sector h1 (i := 0) (by decide)
      exact .inr ⟨40, D2, _, .inr rfl, (dead_up h2).1, fun q G W hW => open_fail0 hW (by rw [h1.n]; decide) e2⟩
    obtain ⟨e3, h3⟩ := run_sector h1 (fun e => by simp at e; omega) (i := 0) (by decide)
    by_cases k6 : k = 6
    · subst k6
      obtain ⟨D2, e4, h4, _⟩ := fail_sector h3 (i := 1) (by decide)
      exact .inr ⟨40, D2, _, .inr rfl, (dead_up h4).1, fun q G W hW => open_fail1 hW (by rw [h1.n]; decide) e3 e4⟩
    obtain ⟨e4, h4⟩ := run_sector h3 (fun e => by simp [dec] at e; omega) (i := 1) (by decide)
    refine .inl fun q G W hW => first_open hW h1.n e3 a0 (D2 := D1.tick.tick) (e4.trans ?_)
    rw [show D1.tick.tell 1 = D1.tell 1 from rfl, t1, fmtT1]
end Go.Proofs.YtolifmpjbmekdaaDoor
