/-
What super.Put, super.Get and super.Choose come to, and the document's put: a state has one sector, and is told by it alone; conditions: the numbers are of their kinds.
-/
import Derived.Test.YtlimgnpkbelmcaaNum
import Derived.Test.YtlimgnpkbelmcaaRound
import Derived.Test.YtlimgnpkbelmcaaF14
import Derived.Test.YtlimgnpkbelmcaaF15
namespace Go.Proofs.Ytlimgnpkbelmcaa.Pure
open Go.RowKit Go.Proofs.Ytlimgnpkbelmcaa.F Go.Proofs.YtlimgnpkbelmcaaW.PrintWords Go.Proofs.YtlimgnpkbelmcaaW.PrintLast Go.Proofs.YtlimgnpkbelmcaaW.PrintMore Go.Proofs.Ytlimgnpkbelmcaa.Math
def smay (gen root : Int) : Prop := 1 ≤ gen ∧ gen < 4611686018427387904 ∧ -1 ≤ root ∧ root < 16384
instance (gen root : Int) : Decidable (smay gen root) := by unfold smay; exact inferInstance
def sputB (gen root : Int) : ByteArray := putB 1 (gen % 2) gen (str (num (root + 1).toNat))
theorem and_one (gen : Int) (h0 : 0 ≤ gen) (h1 : gen < 18446744073709551616) : Go.bits .and .u64 gen 1 = gen % 2 := by
  have wr : ∀ n : Int, 0 ≤ n → n < 2 ^ 64 → IntKind.u64.wrap n = n := fun n h0 h1 => wrap_u64 h0 (by simpa using h1)
  have h := bits_mask .u64 64 (by decide) wr 1 (by decide) gen h0 (by simpa using h1)
  simpa using h
theorem where_tells (gen : Int) (h0 : 0 ≤ gen) (h1 : gen < 18446744073709551616) : super_Where.f gen = some (gen % 2) := by
  unfold super_Where.f
  rw [and_one gen h0 h1]
  congr 1
  unfold wrap64
  omega
theorem super_may_tells (gen root : Int) : super_May.f gen root = some (decide (smay gen root)) := by
  unfold super_May.f smay
  by_cases h1 : 1 ≤ gen <;> by_cases h2 : gen < 4611686018427387904 <;> by_cases h3 : -1 ≤ root <;> simp [h1, h2, h3] <;> omega
theorem num_short {n : Nat} (h : n ≤ 16384) : (num n).length ≤ 3 := by
  have := num_length 2 n (by omega)
  omega
theorem smay_page {gen root : Int} (h : smay gen root) : mayB 1 (gen % 2) (str (num (root + 1).toNat)) = true := by
  obtain ⟨h1, h2, h3, h4⟩ := h
  have := num_short (n := (root + 1).toNat) (by omega)
  refine may_iff.2 ⟨by omega, by omega, by omega, by omega, ?_⟩
  rw [str_size]
  omega
theorem super_put_tells (gen root : Int) (h0 : 0 ≤ gen) (h1 : gen < 18446744073709551616) : Ev (fun k => super_Put.f k gen root) (if smay gen root then sputB gen root else ⟨#[]⟩) := by
  unfold super_Put.f
  simp only [super_may_tells, where_tells gen h0 h1, Option.bind_some]
  by_cases h : smay gen root
  · have h' := h
    obtain ⟨_, _, h3, h4⟩ := h'
    rw [if_pos h]
    refine few_rows (decide_eq_true h) ?_
    have e : IntKind.u64.wrap (wrap64 (root + 1)) = (((root + 1).toNat : Nat) : Int) := by
      rw [show wrap64 (root + 1) = root + 1 by unfold wrap64; omega, wrap_u64 (by omega) (by omega)]; omega
    rw [e]
    exact Ev.bind (wire_Num_tells _ (by omega)) (Ev.bind (put_tells 1 (gen % 2) gen _ h0 h1) (Ev.now _))
  · rw [if_neg h]
    exact not_rows (by simp [h]) (Ev.now _)
theorem law_put_tells (gen root : Int) (h0 : 0 ≤ gen) (h1 : gen < 18446744073709551616) : Ev (fun k => keywaylaw07_put.f k gen root) (if smay gen root then sputB gen root else ⟨#[]⟩) := by
  have yes : ∀ r : ByteArray, Ev (fun k => keywaylaw07_put.j0 k true gen root) ⟨#[]⟩ := fun r => Ev.step (f := fun _ => some ⟨#[]⟩) (fun k => by simp only [keywaylaw07_put.j0, if_true]) (Ev.now _)
  unfold keywaylaw07_put.f
  by_cases h : smay gen root
  · have h' := h
    obtain ⟨g1, g2, h3, h4⟩ := h'
    rw [if_pos h]
    refine not_rows (by omega) (not_rows (by omega) (not_rows (by omega) ?_))
    have e : IntKind.u64.wrap (wrap64 (root + 1)) = (((root + 1).toNat : Nat) : Int) := by
      rw [show wrap64 (root + 1) = root + 1 by unfold wrap64; omega, wrap_u64 (by omega) (by omega)]; omega
    have e2 : wrap64 (Int.tmod gen 2) = gen % 2 := by rw [Int.tmod_eq_emod_of_nonneg h0]; unfold wrap64; omega
    refine Ev.step (f := fun k => (keywayref03_Num.f k (((root + 1).toNat : Nat) : Int)).bind fun t327 => ((keywayref05_Put.f k 1 (gen % 2) gen t327).bind fun t328 => (some t328))) (fun k => ?_) ?_
    · simp only [keywaylaw07_put.j0]
      rw [if_neg (by simp; omega), e, e2]
    · exact Ev.bind (ref_Num_tells _ (by omega)) (Ev.bind (ref_Put_tells 1 (gen % 2) gen _ h0 h1) (Ev.now _))
  · rw [if_neg h]
    unfold smay at h
    by_cases c1 : gen < 1
    · exact few_rows c1 (yes ⟨#[]⟩)
    · by_cases c2 : gen ≥ 4611686018427387904
      · exact not_rows c1 (few_rows c2 (yes ⟨#[]⟩))
      · by_cases c3 : root < -1
        · exact not_rows c1 (not_rows c2 (few_rows c3 (yes ⟨#[]⟩)))
        · refine not_rows c1 (not_rows c2 (not_rows c3 ?_))
          rw [decide_eq_true (show root ≥ 16384 by omega)]
          exact yes ⟨#[]⟩

/-! ### Get -/
/-- The state that a sector tells, that stands at a place. -/
def Tells (s : ByteArray) (at_ gen root : Int) : Prop := smay gen root ∧ s = sputB gen root ∧ gen % 2 = at_
theorem parts_sput {gen root : Int} (h : smay gen root) : isB (sputB gen root) = true ∧ (kindOf (sputB gen root).data.toList : Int) = 1 ∧ (numberOf (sputB gen root).data.toList : Int) = gen % 2 ∧ (genOf (sputB gen root).data.toList : Int) = gen ∧ dataOf (sputB gen root).data.toList = num (root + 1).toNat := by
  have h' := h
  obtain ⟨g1, g2, _, _⟩ := h'
  obtain ⟨k1, k2, k3, k4, k5⟩ := isB_put (smay_page h) (show 0 ≤ gen by omega) (by omega)
  refine ⟨k1, k2, k3, k4, ?_⟩
  have := congrArg (fun z => z.data.toList) k5
  simp only [str_toList] at this
  exact this
theorem tells_unique {s : ByteArray} {at_ gen root gen' root' : Int} (h : Tells s at_ gen root) (h' : Tells s at_ gen' root') : gen = gen' ∧ root = root' := by
  obtain ⟨m, e, _⟩ := h
  obtain ⟨m', e', _⟩ := h'
  obtain ⟨_, _, _, k4, k5⟩ := parts_sput m
  obtain ⟨_, _, _, k4', k5'⟩ := parts_sput m'
  rw [← e] at k4 k5
  rw [← e'] at k4' k5'
  have hd : dec 16384 (num (root + 1).toNat ++ []) 10 0 0 = dec 16384 (num (root' + 1).toNat ++ []) 10 0 0 := by rw [← k5, ← k5']
  obtain ⟨_, _, m3, m4⟩ := m
  obtain ⟨_, _, m3', m4'⟩ := m'
  rw [dec_of_num 16384 (root + 1).toNat [] (by omega) (by omega), dec_of_num 16384 (root' + 1).toNat [] (by omega) (by omega)] at hd
  injection hd with h1 h2
  omega
theorem tells_of {s : ByteArray} {at_ : Int} {n j : Nat} (hb : isB s = true) (hk : (kindOf s.data.toList : Int) = 1) (hn : (numberOf s.data.toList : Int) = at_) (hd : dec 16384 (dataOf s.data.toList) 10 0 0 = .got n j) (hj : (dataOf s.data.toList).drop j = []) (hm : smay (genOf s.data.toList) ((n : Int) - 1)) (ha : (genOf s.data.toList : Int) % 2 = at_) : Tells s at_ (genOf s.data.toList) ((n : Int) - 1) := by
  obtain ⟨e, _⟩ := dec_all 16384 _ n j hd hj
  refine ⟨hm, ?_, ha⟩
  unfold isB at hb
  simp only [Bool.and_eq_true, decide_eq_true_eq] at hb
  have h3 := hb.2
  unfold sputB
  rw [show ((n : Int) - 1 + 1).toNat = n by omega, ← e, ha, ← hn, ← hk, h3]
theorem end_tells (l : List UInt8) (e : Nat) : Ev (fun k => wire_Reader_End.f k (str l) (e : Int)) (if e = 0 ∧ l ≠ [] then (5, str l, 5) else ((e : Int), str l, (e : Int))) := by
  unfold wire_Reader_End.f wire_Reader_Err.f
  simp only [Option.bind_some]
  by_cases h0 : e = 0
  · subst h0
    refine few_rows rfl ?_
    cases l with
    | nil =>
      refine Ev.step (f := fun _ => some (0, str [], 0)) (fun k => ?_) (Ev.now _)
      simp only [wire_Reader_End.j0]
      rw [if_neg (by decide)]
      rfl
    | cons b l =>
      refine Ev.step (f := fun _ => some (5, str (b :: l), 5)) (fun k => ?_) ?_
      · simp only [wire_Reader_End.j0]
        rw [if_pos (by rw [str_size]; simp)]
        unfold wire_Reader_Fail.f wire_Reader_Err.f
        rfl
      · rw [if_pos ⟨rfl, by simp⟩]
        exact Ev.now _
  · refine not_rows (by omega) ?_
    refine Ev.step (f := fun _ => some ((e : Int), str l, (e : Int))) (fun k => ?_) ?_
    · simp only [wire_Reader_End.j0]
      rw [if_neg (by decide)]
      rfl
    · rw [if_neg (fun h => h0 h.1)]
      exact Ev.now _
/-- What behind the page's own tests is told. -/
theorem super_get_tells (s : ByteArray) (at_ : Int) : ∃ r : Int × Int × Bool, Ev (fun k => super_Get.f k s at_) r ∧ ((∃ g q, Tells s at_ g q ∧ r = (g, q, true)) ∨ ((¬ ∃ g q, Tells s at_ g q) ∧ r = (0, 0, false))) := by
  have none_ : (¬ ∃ g q, Tells s at_ g q) → Ev (fun k => super_Get.f k s at_) (0, 0, false) → ∃ r : Int × Int × Bool, Ev (fun k => super_Get.f k s at_) r ∧ ((∃ g q, Tells s at_ g q ∧ r = (g, q, true)) ∨ ((¬ ∃ g q, Tells s at_ g q) ∧ r = (0, 0, false))) := fun h e => ⟨_, e, .inr ⟨h, rfl⟩⟩
  have hg := get_tells s
  by_cases hb : isB s = true
  · rw [if_pos hb] at hg
    by_cases hk : (kindOf s.data.toList : Int) = 1
    · by_cases hn : (numberOf s.data.toList : Int) = at_
      · -- the number
        have hgen : genOf s.data.toList < 18446744073709551616 := by unfold genOf; exact unle_take _ 5 8
        have hr := reader_Num_tells 16384 (dataOf s.data.toList)
        cases hd : dec 16384 (dataOf s.data.toList) 10 0 0 with
        | err e =>
          rw [hd] at hr
          have he : e ≠ 0 := by
            have : ∀ d i acc e, dec 16384 (dataOf s.data.toList) d i acc = .err e → e ≠ 0 := by
              intro d
              induction d with
              | zero => intro i acc e h; simp [dec] at h; omega
              | succ d ih =>
                intro i acc e h
                simp only [dec] at h
                split at h
                · split at h
                  · injection h with h; omega
                  · split at h
                    · split at h
                      · injection h with h; omega
                      · exact absurd h (by simp)
                    · exact ih _ _ _ h
                · injection h with h; omega
            exact this _ _ _ _ hd
          have hen := end_tells (dataOf s.data.toList) e
          rw [if_neg (fun h => he h.1)] at hen
          refine none_ ?_ ?_
          · rintro ⟨g, q, m, e1, _⟩
            obtain ⟨_, _, _, _, k5⟩ := parts_sput m
            rw [← e1] at k5
            have h2 := dec_of_num 16384 (q + 1).toNat [] (by unfold smay at m; omega) (by unfold smay at m; omega)
            rw [List.append_nil, ← k5, hd] at h2
            exact absurd h2 (by simp)
          · unfold super_Get.f
            refine Ev.bind hg (few_rows rfl (few_rows hk (few_rows hn ?_)))
            unfold wire_New.f
            simp only [Option.bind_some]
            refine Ev.bind hr ?_
            refine Ev.bind hen (not_rows (by simp; omega) (Ev.now _))
        | got n j =>
          rw [hd] at hr
          have hen := end_tells ((dataOf s.data.toList).drop j) 0
          by_cases hj : (dataOf s.data.toList).drop j = []
          · rw [if_neg (fun h => h.2 hj)] at hen
            have hn16 := (dec_all 16384 _ n j hd hj).2
            have ew : wrap64 ((wrap64 ((n : Int))) - 1) = (n : Int) - 1 := by unfold wrap64; omega
            have start : ∀ r : Int × Int × Bool, Ev (fun k => (super_May.f (genOf s.data.toList) ((n : Int) - 1)).bind fun t302 => (if t302 = true then ((super_Where.f (genOf s.data.toList)).bind fun t303 => (if t303 = at_ then (some ((genOf s.data.toList : Int), (n : Int) - 1, true)) else (some (0, 0, false)))) else (some (0, 0, false)))) r → Ev (fun k => super_Get.f k s at_) r := by
              intro r h
              unfold super_Get.f
              refine Ev.bind hg (few_rows rfl (few_rows hk (few_rows hn ?_)))
              unfold wire_New.f
              simp only [Option.bind_some]
              refine Ev.bind hr (Ev.bind hen (few_rows rfl ?_))
              simp only [told, ew]
              exact h
            by_cases hm : smay (genOf s.data.toList) ((n : Int) - 1)
            · by_cases ha : (genOf s.data.toList : Int) % 2 = at_
              · refine ⟨_, start _ ?_, .inl ⟨_, _, tells_of hb hk hn hd hj hm ha, rfl⟩⟩
                simp only [super_may_tells, where_tells _ (show 0 ≤ ((genOf s.data.toList : Nat) : Int) by omega) (by omega), Option.bind_some, hm, ha, decide_true, if_true]
                exact Ev.now _
              · refine none_ ?_ (start _ ?_)
                · rintro ⟨g, q, m, e1, e2⟩
                  obtain ⟨_, _, _, k4, _⟩ := parts_sput m
                  rw [← e1] at k4
                  exact ha (by rw [k4]; exact e2)
                · simp only [super_may_tells, where_tells _ (show 0 ≤ ((genOf s.data.toList : Nat) : Int) by omega) (by omega), Option.bind_some, hm, decide_true, if_true, if_neg ha]
                  exact Ev.now _
            · refine none_ ?_ (start _ ?_)
              · rintro ⟨g, q, m, e1, e2⟩
                obtain ⟨_, _, _, k4, k5⟩ := parts_sput m
                rw [← e1] at k4 k5
                have h2 := dec_of_num 16384 (q + 1).toNat [] (by unfold smay at m; omega) (by unfold smay at m; omega)
                rw [List.append_nil, ← k5, hd] at h2
                injection h2 with h3 h4
                have : (n : Int) - 1 = q := by unfold smay at m; omega
                rw [k4, this] at hm
                exact hm m
              · simp only [super_may_tells, Option.bind_some, decide_eq_false hm]
                exact Ev.now _
          · rw [if_pos ⟨rfl, hj⟩] at hen
            refine none_ ?_ ?_
            · rintro ⟨g, q, m, e1, _⟩
              obtain ⟨_, _, _, _, k5⟩ := parts_sput m
              rw [← e1] at k5
              have h2 := dec_of_num 16384 (q + 1).toNat [] (by unfold smay at m; omega) (by unfold smay at m; omega)
              rw [List.append_nil, ← k5, hd] at h2
              injection h2 with h3 h4
              rw [h4] at hj
              exact hj (List.drop_length)
            · unfold super_Get.f
              refine Ev.bind hg (few_rows rfl (few_rows hk (few_rows hn ?_)))
              unfold wire_New.f
              simp only [Option.bind_some]
              refine Ev.bind hr (Ev.bind hen (not_rows (by simp) (Ev.now _)))
      · refine none_ ?_ ?_
        · rintro ⟨g, q, m, e1, e2⟩
          obtain ⟨_, _, k3, _, _⟩ := parts_sput m
          rw [← e1] at k3
          exact hn (k3.trans e2)
        · unfold super_Get.f
          exact Ev.bind hg (few_rows rfl (few_rows hk (not_rows hn (Ev.now _))))
    · refine none_ ?_ ?_
      · rintro ⟨g, q, m, e1, e2⟩
        obtain ⟨_, k2, _, _, _⟩ := parts_sput m
        rw [← e1] at k2
        exact hk k2
      · unfold super_Get.f
        exact Ev.bind hg (few_rows rfl (not_rows hk (Ev.now _)))
  · rw [if_neg hb] at hg
    refine none_ ?_ ?_
    · rintro ⟨g, q, m, e1, e2⟩
      obtain ⟨k1, _⟩ := parts_sput m
      rw [← e1] at k1
      exact hb k1
    · unfold super_Get.f
      exact Ev.bind hg (not_rows (by simp) (Ev.now _))
theorem super_get_yes {s : ByteArray} {at_ g q : Int} (h : Tells s at_ g q) : Ev (fun k => super_Get.f k s at_) (g, q, true) := by
  obtain ⟨r, e, ⟨g', q', h', rfl⟩ | ⟨hn, _⟩⟩ := super_get_tells s at_
  · obtain ⟨rfl, rfl⟩ := tells_unique h h'
    exact e
  · exact absurd ⟨g, q, h⟩ hn
theorem super_get_no {s : ByteArray} {at_ : Int} (h : ¬ ∃ g q, Tells s at_ g q) : Ev (fun k => super_Get.f k s at_) (0, 0, false) := by
  obtain ⟨r, e, ⟨g', q', h', rfl⟩ | ⟨_, rfl⟩⟩ := super_get_tells s at_
  · exact absurd ⟨g', q', h'⟩ h
  · exact e

/-! ### Choose -/
theorem choose_tells {s t : ByteArray} {r q : Int × Int × Bool} (hr : Ev (fun k => super_Get.f k s 0) r) (hq : Ev (fun k => super_Get.f k t 1) q) :
    Ev (fun k => super_Choose.f k s t) (if q.2.2 = true ∧ (r.2.2 = true → r.1 < q.1) then (q.1, q.2.1, true) else if r.2.2 = true then (r.1, r.2.1, true) else (0, 0, false)) := by
  obtain ⟨a, b, c⟩ := r
  obtain ⟨x, y, z⟩ := q
  have j1 : ∀ u v : Bool, Ev (fun k => super_Choose.j1 k u v a b x y) (if v = true then (x, y, true) else if u = true then (a, b, true) else (0, 0, false)) := fun u v =>
    Ev.step (f := fun _ => some (if v = true then (x, y, true) else if u = true then (a, b, true) else (0, 0, false))) (fun k => by cases u <;> cases v <;> simp [super_Choose.j1]) (Ev.now _)
  have j0 : ∀ u v w : Bool, Ev (fun k => super_Choose.j0 k u v w a b x y) (if (if w = true then w else if u = true then false else v) = true then (x, y, true) else if u = true then (a, b, true) else (0, 0, false)) := fun u v w =>
    Ev.step (fun k => by cases u <;> cases w <;> simp [super_Choose.j0]) (j1 u (if w = true then w else if u = true then false else v))
  unfold super_Choose.f
  refine Ev.bind hr (Ev.bind hq ?_)
  cases c with
  | false =>
    refine not_rows (by simp) ?_
    have h := j0 false z false
    cases z <;> simpa using h
  | true =>
    refine few_rows rfl ?_
    cases z with
    | false =>
      refine not_rows (by simp) ?_
      have h := j0 true false false
      simpa using h
    | true =>
      refine few_rows rfl ?_
      have h := j0 true true (decide (a < x))
      by_cases hlt : a < x
      · simpa [hlt] using h
      · simpa [hlt] using h
theorem super_awake : Ev (fun k => keywaylaw07_awake.f k) true := by
  have m4 : smay 4 7 := by decide
  have m5 : smay 5 9 := by decide
  have p4 := super_put_tells 4 7 (by decide) (by decide)
  have p5 := super_put_tells 5 9 (by decide) (by decide)
  rw [if_pos m4] at p4
  rw [if_pos m5] at p5
  have g4 := super_get_yes (s := sputB 4 7) (at_ := 0) ⟨m4, rfl, by decide⟩
  have g5 := super_get_yes (s := sputB 5 9) (at_ := 1) ⟨m5, rfl, by decide⟩
  have c := choose_tells g4 g5
  simp only [true_and, show (4 : Int) < 5 by decide, if_true] at c
  unfold keywaylaw07_awake.f
  refine Ev.bind p4 (Ev.bind p5 (Ev.bind c ?_))
  exact Ev.congr (f := fun _ => some true) (fun k => by simp) (Ev.now _)

/-! ### The laws -/
theorem sput_ne {gen root : Int} (h : smay gen root) : ¬ (sputB gen root).toList = ([] : List UInt8) := toList_ne (put_size (smay_page h))
end Go.Proofs.Ytlimgnpkbelmcaa.Pure
