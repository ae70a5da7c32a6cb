/-
SuperGets: for every page and place the law's Lean function answers true, and so does the Go call; conditions: the numbers are of their kinds, the text fits a string.
-/
import Derived.Test.YtlimgnpkbelmcaaSuper
import Derived.Test.YtlimgnpkbelmcaaGetRef
import Derived.Test.YtlimgnpkbelmcaaNumRef
import Derived.Test.YtlimgnpkbelmcaaF18
import Derived.Test.YtlimgnpkbelmcaaF19
namespace Go.Proofs.Ytlimgnpkbelmcaa.Pure
open Go.RowKit Go.Proofs.Ytlimgnpkbelmcaa.F Go.Proofs.YtlimgnpkbelmcaaW.PrintWords Go.Proofs.YtlimgnpkbelmcaaW.PrintLast Go.Proofs.YtlimgnpkbelmcaaW.PrintMore Go.Proofs.Ytlimgnpkbelmcaa.Math
/-! ### The document's get -/
theorem ref_end_tells (l : List UInt8) (e : Nat) : keywayref03_R_End.f (str l) (e : Int) = some (if e = 0 ∧ l ≠ [] then 5 else (e : Int)) := by
  unfold keywayref03_R_End.f
  by_cases h0 : e = 0
  · subst h0
    cases l with
    | nil => rfl
    | cons b l =>
      have hs : ((str (b :: l)).size : Int) > 0 := by rw [str_size]; simp
      have h0 : ((0 : Nat) : Int) = 0 := rfl
      rw [if_pos h0, if_pos hs, if_pos ⟨rfl, by simp⟩]
  · rw [if_neg (by omega), if_neg (fun h => h0 h.1)]
theorem law_get_tells (s : ByteArray) (at_ : Int) : ∃ r : Int × Int × Bool, Ev (fun k => keywaylaw07_get.f k s at_) r ∧ ((∃ g q, Tells s at_ g q ∧ r = (g, q, true)) ∨ ((¬ ∃ g q, Tells s at_ g q) ∧ r = (0, 0, false))) := by
  have none_ : (¬ ∃ g q, Tells s at_ g q) → Ev (fun k => keywaylaw07_get.f k s at_) (0, 0, false) → ∃ r : Int × Int × Bool, Ev (fun k => keywaylaw07_get.f k s at_) r ∧ ((∃ g q, Tells s at_ g q ∧ r = (g, q, true)) ∨ ((¬ ∃ g q, Tells s at_ g q) ∧ r = (0, 0, false))) := fun h e => ⟨_, e, .inr ⟨h, rfl⟩⟩
  have no : ∀ a b c (d : ByteArray), Ev (fun k => keywaylaw07_get.j0 k s at_ true a b c d) (0, 0, false) := fun a b c d => Ev.step (f := fun _ => some (0, 0, false)) (fun k => by simp only [keywaylaw07_get.j0, if_true]) (Ev.now _)
  have hg := ref_get_tells s
  by_cases hb : isB s = true
  · have hb' := hb
    unfold isB at hb'
    simp only [Bool.and_eq_true, decide_eq_true_eq] at hb'
    rw [if_pos ⟨hb'.1.1, hb'.1.2⟩] at hg
    by_cases hk : (kindOf s.data.toList : Int) = 1
    · have hgen : genOf s.data.toList < 18446744073709551616 := by unfold genOf; exact unle_take _ 5 8
      have hr := ref_reader_Num_tells 16384 (dataOf s.data.toList)
      have begin_ : ∀ r : Int × Int × Bool, Ev (fun k => (keywayref03_R_Num.f k (str (dataOf s.data.toList)) 0 16384).bind fun bt361 => ((keywayref03_R_End.f bt361.1 bt361.2.1).bind fun t366 => (if t366 = 0 then ((keywaylaw07_put.f k (genOf s.data.toList) (wrap64 ((wrap64 (bt361.2.2)) - 1))).bind fun t367 => (if t367.toList = s.toList then (if (wrap64 (Int.tmod (genOf s.data.toList) 2)) = at_ then (some ((genOf s.data.toList : Int), wrap64 ((wrap64 (bt361.2.2)) - 1), true)) else (some (0, 0, false))) else (some (0, 0, false)))) else (some (0, 0, false))))) r → Ev (fun k => keywaylaw07_get.f k s at_) r := by
        intro r h
        unfold keywaylaw07_get.f
        refine Ev.bind hg (few_rows hb (Ev.step (fun k => ?_) h))
        simp only [keywaylaw07_get.j0, hk]
        rw [if_neg (by decide)]
      cases hd : dec 16384 (dataOf s.data.toList) 10 0 0 with
      | err e =>
        rw [hd] at hr
        have he : e ≠ 0 := by
          have : ∀ d i acc e, dec 16384 (dataOf s.data.toList) d i acc = .err e → e ≠ 0 := by
            intro d
            induction d with
            | zero => intro i acc e h; simp [dec] at h; omega
            | succ d ih =>
              intro i acc e h
              simp only [dec] at h
              split at h
              · split at h
                · injection h with h; omega
                · split at h
                  · split at h
                    · injection h with h; omega
                    · exact absurd h (by simp)
                  · exact ih _ _ _ h
              · injection h with h; omega
          exact this _ _ _ _ hd
        refine none_ ?_ (begin_ _ ?_)
        · rintro ⟨g, q, m, e1, _⟩
          obtain ⟨_, _, _, _, k5⟩ := parts_sput m
          rw [← e1] at k5
          have h2 := dec_of_num 16384 (q + 1).toNat [] (by unfold smay at m; omega) (by unfold smay at m; omega)
          rw [List.append_nil, ← k5, hd] at h2
          exact absurd h2 (by simp)
        · refine Ev.bind hr ?_
          have hen := ref_end_tells (dataOf s.data.toList) e
          rw [if_neg (fun h => he h.1)] at hen
          simp only [ref_told, hen, Option.bind_some]
          exact not_rows (by omega) (Ev.now _)
      | got n j =>
        rw [hd] at hr
        by_cases hj : (dataOf s.data.toList).drop j = []
        · obtain ⟨ed, hn16⟩ := dec_all 16384 _ n j hd hj
          have ew : wrap64 ((wrap64 ((n : Int))) - 1) = (n : Int) - 1 := by unfold wrap64; omega
          have e2 : wrap64 (Int.tmod (genOf s.data.toList : Int) 2) = (genOf s.data.toList : Int) % 2 := by rw [Int.tmod_eq_emod_of_nonneg (by omega)]; unfold wrap64; omega
          have hp := law_put_tells (genOf s.data.toList) ((n : Int) - 1) (by omega) (by omega)
          have start : ∀ r : Int × Int × Bool, Ev (fun _ => if (if smay (genOf s.data.toList) ((n : Int) - 1) then sputB (genOf s.data.toList) ((n : Int) - 1) else ⟨#[]⟩).toList = s.toList then (if (genOf s.data.toList : Int) % 2 = at_ then (some ((genOf s.data.toList : Int), (n : Int) - 1, true)) else (some (0, 0, false))) else (some (0, 0, false))) r → Ev (fun k => keywaylaw07_get.f k s at_) r := by
            intro r h
            refine begin_ r (Ev.bind hr ?_)
            have hen := ref_end_tells ((dataOf s.data.toList).drop j) 0
            rw [if_neg (fun h => h.2 hj)] at hen
            have hen2 : keywayref03_R_End.f (str ((dataOf s.data.toList).drop j)) 0 = some 0 := hen
            simp only [ref_told, hen2, Option.bind_some, if_true, ew, e2]
            exact Ev.bind hp h
          have same : ∀ t : ByteArray, t.toList = s.toList → t = s := fun t h => by
            rw [toList_data, toList_data] at h
            rw [← str_of t, h, str_of]
          by_cases hm : smay (genOf s.data.toList) ((n : Int) - 1)
          · by_cases hs : sputB (genOf s.data.toList) ((n : Int) - 1) = s
            · by_cases ha : (genOf s.data.toList : Int) % 2 = at_
              · refine ⟨_, start _ ?_, .inl ⟨_, _, ⟨hm, hs.symm, ha⟩, rfl⟩⟩
                rw [if_pos hm, hs, if_pos rfl, if_pos ha]
                exact Ev.now _
              · refine none_ ?_ (start _ ?_)
                · rintro ⟨g, q, m, e1, e3⟩
                  obtain ⟨_, _, _, k4, _⟩ := parts_sput m
                  rw [← e1] at k4
                  exact ha (by rw [k4]; exact e3)
                · rw [if_pos hm, hs, if_pos rfl, if_neg ha]
                  exact Ev.now _
            · refine none_ ?_ (start _ ?_)
              · rintro ⟨g, q, m, e1, e3⟩
                obtain ⟨_, _, _, k4, k5⟩ := parts_sput m
                rw [← e1] at k4 k5
                have h2 := dec_of_num 16384 (q + 1).toNat [] (by unfold smay at m; omega) (by unfold smay at m; omega)
                rw [List.append_nil, ← k5, hd] at h2
                injection h2 with h3 h4
                have hq : (n : Int) - 1 = q := by unfold smay at m; omega
                rw [k4, hq] at hs
                exact hs e1.symm
              · rw [if_pos hm, if_neg (fun h => hs (same _ h))]
                exact Ev.now _
          · refine none_ ?_ (start _ ?_)
            · rintro ⟨g, q, m, e1, e3⟩
              obtain ⟨_, _, _, k4, k5⟩ := parts_sput m
              rw [← e1] at k4 k5
              have h2 := dec_of_num 16384 (q + 1).toNat [] (by unfold smay at m; omega) (by unfold smay at m; omega)
              rw [List.append_nil, ← k5, hd] at h2
              injection h2 with h3 h4
              have hq : (n : Int) - 1 = q := by unfold smay at m; omega
              rw [k4, hq] at hm
              exact hm m
            · rw [if_neg hm, if_neg (fun h => ?_)]
              · exact Ev.now _
              · have h1 := same _ h
                have h2 := hb'.1.1
                rw [← h1] at h2
                exact absurd h2 (by decide)
        · refine none_ ?_ (begin_ _ ?_)
          · rintro ⟨g, q, m, e1, _⟩
            obtain ⟨_, _, _, _, k5⟩ := parts_sput m
            rw [← e1] at k5
            have h2 := dec_of_num 16384 (q + 1).toNat [] (by unfold smay at m; omega) (by unfold smay at m; omega)
            rw [List.append_nil, ← k5, hd] at h2
            injection h2 with h3 h4
            rw [h4] at hj
            exact hj (List.drop_length)
          · refine Ev.bind hr ?_
            have hen := ref_end_tells ((dataOf s.data.toList).drop j) 0
            rw [if_pos ⟨rfl, hj⟩] at hen
            have hen2 : keywayref03_R_End.f (str ((dataOf s.data.toList).drop j)) 0 = some 5 := hen
            simp only [ref_told, hen2, Option.bind_some]
            exact Ev.congr (f := fun _ => some (0, 0, false)) (fun k => by simp) (Ev.now _)
    · refine none_ ?_ ?_
      · rintro ⟨g, q, m, e1, e2⟩
        obtain ⟨_, k2, _, _, _⟩ := parts_sput m
        rw [← e1] at k2
        exact hk k2
      · unfold keywaylaw07_get.f
        refine Ev.bind hg (few_rows hb ?_)
        have : ((kindOf s.data.toList : Int) != 1) = true := bne_iff_ne.2 hk
        simp only [this]
        exact no _ _ _ _
  · refine none_ ?_ ?_
    · rintro ⟨g, q, m, e1, e2⟩
      obtain ⟨k1, _⟩ := parts_sput m
      rw [← e1] at k1
      exact hb k1
    · unfold keywaylaw07_get.f
      refine Ev.bind hg (not_rows ?_ (no _ _ _ _))
      split
      · exact hb
      · simp
theorem law_get_yes {s : ByteArray} {at_ g q : Int} (h : Tells s at_ g q) : Ev (fun k => keywaylaw07_get.f k s at_) (g, q, true) := by
  obtain ⟨r, e, ⟨g', q', h', rfl⟩ | ⟨hn, _⟩⟩ := law_get_tells s at_
  · obtain ⟨rfl, rfl⟩ := tells_unique h h'
    exact e
  · exact absurd ⟨g, q, h⟩ hn
theorem law_get_no {s : ByteArray} {at_ : Int} (h : ¬ ∃ g q, Tells s at_ g q) : Ev (fun k => keywaylaw07_get.f k s at_) (0, 0, false) := by
  obtain ⟨r, e, ⟨g', q', h', rfl⟩ | ⟨_, rfl⟩⟩ := law_get_tells s at_
  · exact absurd ⟨g', q', h'⟩ h
  · exact e

theorem super_gets (kind number gen : Int) (data : ByteArray) (a : Int) (h0 : 0 ≤ gen) (h1 : gen < 18446744073709551616) : ∃ k, keywaylaw07_SuperGets.f k kind number gen data a = some true := by
  have h2 : 0 ≤ mn (data.size : Int) 20 := by unfold mn; split <;> omega
  have h3 : mn (data.size : Int) 20 ≤ data.size := by unfold mn; split <;> omega
  refine Ev.rounds ?_
  unfold keywaylaw07_SuperGets.f
  generalize data.extract 0 (mn (data.size : Int) 20 : Int).toNat = x
  generalize Go.bits .and .i64 a 1 = at_
  refine few_rows h2 (few_rows h3 (Ev.bind (ref_Put_tells _ _ gen x h0 h1) ?_))
  generalize putB (Go.bits .and .i64 kind 3) (Go.bits .and .i64 number 3) gen x = s
  by_cases h : ∃ g q, Tells s at_ g q
  · obtain ⟨g, q, h⟩ := h
    refine Ev.bind (super_get_yes h) (Ev.bind (law_get_yes h) (Ev.bind super_awake (few_rows rfl ?_)))
    exact Ev.congr (f := fun _ => some true) (fun k => by simp) (Ev.now _)
  · refine Ev.bind (super_get_no h) (Ev.bind (law_get_no h) (Ev.bind super_awake (few_rows rfl ?_)))
    exact Ev.congr (f := fun _ => some true) (fun k => by simp) (Ev.now _)
theorem superGets_walk (a0_0 a0_1 a0_2 : Int) (a0_3 : ByteArray) (a1 : Int) (w : World) (_ : (Lit.int .i64 a0_0).wf = true) (_ : (Lit.int .i64 a0_1).wf = true) (h2 : (Lit.int .u64 a0_2).wf = true) (_ : a0_3.size ≤ maxLen) (_ : (Lit.int .i64 a1).wf = true) :
    Calls Try.prog 11 #[.agg #[.int .i64 a0_0, .int .i64 a0_1, .int .u64 a0_2, .string a0_3], .int .i64 a1] w fun e w' => e = .returned (.bool true) ∧ Below w.heap.size w w' := by
  obtain ⟨k, h⟩ := super_gets a0_0 a0_1 a0_2 a0_3 a1 (u64_range h2).1 (u64_range h2).2
  exact keywaylaw07_SuperGets.calls k a0_0 a0_1 a0_2 a0_3 a1 true ⟨rfl⟩ w h
end Go.Proofs.Ytlimgnpkbelmcaa.Pure
