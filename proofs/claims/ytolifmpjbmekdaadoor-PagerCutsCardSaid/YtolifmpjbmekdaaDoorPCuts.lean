/-
PagerCuts: each step's contract, and what is there behind the cut; conditions: those that each theorem names.
-/
import Derived.Test.YtolifmpjbmekdaaDoorAnyCom
import Derived.Test.YtolifmpjbmekdaaDoorPBlankW
namespace Go.Proofs.YtolifmpjbmekdaaDoor
open Go.RowKit
open Go.Lib (hid)
variable {m : Nat} {l : List (Nat × ByteArray)} {o : Option Nat} {fates : List Int} {fl : Int} {D : DS} {w W : World} {p q : Nat} {G : Nat → Prop}
theorem run_read_ok (h : Run m [] o fates fl D) (ho : o ≠ some 0) {i : Nat} (hi : i < m) (hn : D.tell i ≠ ⟨#[]⟩) : D.read i = (D.tick, D.tell i, 0) ∧ Run m [] (dec o) fates fl D.tick := by
  obtain ⟨e, h2⟩ := run_read h ho hi
  refine ⟨?_, h2⟩
  rw [e]
  by_cases ht : D.torn i = true
  · exact absurd (by unfold DS.tell; rw [if_pos ht]) hn
  · rw [if_neg ht]
def dec7 (o : Option Nat) : Option Nat := dec (dec (dec (dec (dec (dec (dec o))))))
theorem begun_run (m : Nat) (hm : 2 ≤ m) (hm2 : m ≤ 16384) {S0 : Nat → Prop} {v : Value} {l : List (Int × List Int)} (hv : CutsAt S0 v l w) (hl : l.length ≤ 1000000) (h : Run m [] o fates 0 (DS.new m l)) (ho : ∀ b, o = some b → 7 ≤ b) :
    Calls Tryd.prog 13 #[.int .i64 m, v] w fun e w' => (∃ q p D, e = .returned (.tuple #[ptr q, ptr p, .int .i64 0]) ∧ Pgr (Over w) p q (PS.opened 1 (-1) m) D w' ∧ Run m [] (dec7 o) fates 0 D ∧ D.tell = fmtT (DS.new m l).tell) ∧ New w w' := by
  obtain ⟨D1, e1, h1, t1⟩ := run_format h hm (fun b e => by have := ho b e; omega)
  have n5 : dec (dec (dec (dec (dec o)))) ≠ some 0 := fun e => by
    cases o with
    | none => cases e
    | some b => have := ho b rfl; simp [dec] at e; omega
  have n6 : dec (dec (dec (dec (dec (dec o))))) ≠ some 0 := fun e => by
    cases o with
    | none => cases e
    | some b => have := ho b rfl; simp [dec] at e; omega
  obtain ⟨e2, h2⟩ := run_sector h1 n5 (i := 0) (by omega)
  obtain ⟨e3, h3⟩ := run_sector h2 n6 (i := 1) (by omega)
  refine (begun_calls hm2 hm hv hl e1 e2 e3 h1.n (by rw [t1, fmtT0]; exact no_zeros) (by rw [show D1.tick.tell 1 = D1.tell 1 from rfl, t1, fmtT1]; exact tells_first)).mono fun e w' ⟨⟨q, p, he, hp⟩, hk⟩ => ⟨⟨q, p, _, he, hp, h3, t1⟩, hk⟩
/-- The pages. -/
abbrev pgX (s : ByteArray) : Pg := ⟨2, 2, 2, s⟩
abbrev pgY (t : ByteArray) : Pg := ⟨3, 3, 3, t⟩
abbrev secX (s : ByteArray) : ByteArray := sector 2 2 2 s
abbrev secY (t : ByteArray) : ByteArray := sector 3 3 3 t
theorem mayX {s : ByteArray} (h : s.size ≤ 100) : mayB ((2 : Nat) : Int) ((2 : Nat) : Int) s = true := mayB_iff.2 ⟨by decide, by decide, by decide, by decide, by omega⟩
theorem mayY {s : ByteArray} (h : s.size ≤ 100) : mayB ((3 : Nat) : Int) ((3 : Nat) : Int) s = true := mayB_iff.2 ⟨by decide, by decide, by decide, by decide, by omega⟩
def cS0 : PS := PS.opened 1 (-1) 9
def cS1 (s : ByteArray) : PS := { cS0 with U := setU cS0.U 2 true, fresh := updF cS0.fresh 2 (some (pgX s)) }
def cS2 (s : ByteArray) : PS := (cS1 s).committed 2
def cS3 (s t : ByteArray) : PS := { cS2 s with U := setU (cS2 s).U 3 true, fresh := updF (cS2 s).fresh 3 (some (pgY t)) }
def cS4 (s t : ByteArray) : PS := { cS3 s t with free := (cS3 s t).free ++ [2] }
variable {s t : ByteArray}
theorem cut_add1 (hs : s.size ≤ 100) (h : Pgr G p q cS0 D W) (ht : Tabs W) : Calls Tryd.prog 14 #[ptr p, .int .i64 2, .string s] W fun e w' => e = .returned (.tuple #[.int .i64 2, .int .i64 0]) ∧ Pgr G p q (cS1 s) D w' ∧ Kept G W w' :=
  g_add_yes h ht (n := 2) ⟨Nat.le_refl _, rfl, fun k h1 h2 => absurd h2 (by omega)⟩ (show 2 < 9 by decide) (kind := 2) (s := s) (mayX hs)
theorem cut_commit1 (hs : s.size ≤ 100) (h : Pgr G p q (cS1 s) D W) (hr : Run 9 [] o fates fl D) (ho : ∀ b, o = some b → 4 ≤ b) : Calls Tryd.prog 15 #[ptr p, .int .i64 2] W fun e w' => (∃ D', e = .returned (.int .i64 0) ∧ Pgr G p q (cS2 s) D' w' ∧ Run 9 [] (dec (dec (dec (dec o)))) fates fl D' ∧ D'.tell = upd (upd D.tell 2 (secX s)) 0 (supS 2 2)) ∧ Kept G W w' := by
  obtain ⟨D', e1, h1, t1⟩ := run_commit1 hr (by decide) ho (i := 2) (s := secX s) (by decide) (sector_size _ _ _ (by omega)) 2 2
  have hl : freshL (cS1 s).fresh (cS1 s).many = [2] := freshL_one (show 2 < 9 by decide) fun k => by
    show (updF cS0.fresh 2 (some (pgX s)) k).isSome = true ↔ k = 2
    unfold updF
    split
    · simp [*]
    · simp [*]; rfl
  refine (g_commit h (txt := fun _ => secX s) (fun n x hx => ?_) (by rw [hr.wait]; simp) (root := 2) (show smayB ((1 + 1 : Nat) : Int) 2 = true by decide) (fun n hn => by cases hn) (show 1 + 1 < 1000000 by decide) (r := (D', 0)) (by rw [hl]; exact e1)).mono fun e w' he => ⟨⟨D', he.1, he.2.1, h1, t1⟩, he.2.2⟩
  have hx : updF cS0.fresh 2 (some (pgX s)) n = some x := hx
  unfold updF at hx
  split at hx
  · cases hx; exact pputs (K := 2) (N := 2) (gen := 2) (mayX hs) (by decide)
  · cases hx
theorem cut_add2 (hs : t.size ≤ 100) (h : Pgr G p q (cS2 s) D W) (ht : Tabs W) : Calls Tryd.prog 14 #[ptr p, .int .i64 3, .string t] W fun e w' => e = .returned (.tuple #[.int .i64 3, .int .i64 0]) ∧ Pgr G p q (cS3 s t) D w' ∧ Kept G W w' :=
  g_add_yes h ht (n := 3) ⟨by decide, rfl, fun k h1 h2 => by
    obtain rfl : k = 2 := by omega
    rfl⟩ (show 3 < 9 by decide) (kind := 3) (s := t) (mayY hs)
theorem cut_drop (h : Pgr G p q (cS3 s t) D W) : Calls Tryd.prog 16 #[ptr p, .int .i64 2] W fun e w' => e = .returned (.tuple #[]) ∧ Pgr G p q (cS4 s t) D w' ∧ Kept G W w' :=
  g_drop_kept h (n := 2) (by decide) (show 2 < 9 by decide) rfl rfl rfl (by show ¬ 2 ∈ ([] : List Nat); simp) (show 0 + 1 ≤ 1000000 by decide)
/-- What is there behind the second commit: the state ahead, or the new one. -/
inductive Behind (s t : ByteArray) (fates : List Int) : Int → Int → DS → Prop
  | old {D : DS} {fl : Int} : Run 9 [] none fates fl D.up → D.up.tell 0 = supS 2 2 → (D.up.tell 1 = supS 1 (-1) ∨ D.up.tell 1 = ⟨#[]⟩) → D.up.tell 2 = secX s → Behind s t fates 40 2 D
  | new {D : DS} {f fl : Int} : Run 9 [] none fates fl D.up → D.up.tell 0 = supS 2 2 → D.up.tell 1 = supS 3 3 → D.up.tell 2 = secX s → D.up.tell 3 = secY t → (f = 0 ∨ (f = 40 ∧ fl = 1)) → Behind s t fates f 3 D
theorem cut_commit2 (ht : t.size ≤ 100) {f0 : Nat → ByteArray} (h : Pgr G p q (cS4 s t) D W) (hr : Run 9 [] o fates 0 D) (hD : D.tell = upd (upd (fmtT f0) 2 (secX s)) 0 (supS 2 2)) (ho : ∀ b, o = some b → b < 4) :
    ∃ (f root : Int) (D' : DS), Behind s t fates f root D' ∧ Calls Tryd.prog 15 #[ptr p, .int .i64 3] W fun e w' => e = .returned (.int .i64 f) ∧ Disk q D' G w' ∧ Kept G W w' := by
  have hl : freshL (cS4 s t).fresh (cS4 s t).many = [3] := freshL_one (show 3 < 9 by decide) fun k => by
    show (updF (cS2 s).fresh 3 (some (pgY t)) k).isSome = true ↔ k = 3
    unfold updF
    split
    · simp [*]
    · simp [*]; rfl
  have hP : ∀ n x, (cS4 s t).fresh n = some x → PPuts x ((fun _ => secY t) n) := fun n x hx => by
    have hx : updF (cS2 s).fresh 3 (some (pgY t)) n = some x := hx
    unfold updF at hx
    split at hx
    · cases hx; exact pputs (K := 3) (N := 3) (gen := 3) (mayY ht) (by decide)
    · cases hx
  have hf : ∀ n ∈ (cS4 s t).free, n < (cS4 s t).many := fun n hn => by
    have hn : n ∈ [2] := hn
    simp at hn; subst hn
    show 2 < 9
    decide
  have go : ∀ r : DS × Int, D.commit [(3, secY t)] 3 3 = r → Calls Tryd.prog 15 #[ptr p, .int .i64 3] W fun e w' => e = .returned (.int .i64 r.2) ∧ Disk q r.1 G w' ∧ Kept G W w' := fun r hc =>
    (g_commit h (txt := fun _ => secY t) hP (by rw [hr.wait]; simp) (root := 3) (show smayB ((2 + 1 : Nat) : Int) 3 = true by decide) hf (show 2 + 1 < 1000000 by decide) (r := r) (by rw [hl]; exact hc)).mono fun e w' he => ⟨he.1, he.2.1.disk, he.2.2⟩
  have t0 : D.tell 0 = supS 2 2 := by rw [hD]; rfl
  have t1 : D.tell 1 = supS 1 (-1) := by rw [hD]; rfl
  have t2 : D.tell 2 = secX s := by rw [hD]; rfl
  have sz : (secY t).size = 256 := sector_size _ _ _ (by omega)
  have v0 : over [(3, secY t)] D.tell 0 = supS 2 2 := t0
  have v1 : over [(3, secY t)] D.tell 1 = supS 1 (-1) := t1
  have v2 : over [(3, secY t)] D.tell 2 = secX s := t2
  have v3 : over [(3, secY t)] D.tell 3 = secY t := rfl
  rcases any_commit hr (by decide) (p := [(3, secY t)]) (fun x hx => by simp at hx; subst hx; exact ⟨show 3 < 9 by decide, sz⟩) 3 3 with ⟨D', o', e1, h1, k1, f1⟩ | ⟨D', e1, h1, k1 | ⟨k1, k2⟩⟩
  · rcases f1 with ⟨rfl, rfl⟩ | ⟨b, hb, h2, _⟩
    · refine ⟨0, 3, D', .new (by rw [live_up h1]; exact h1) ?_ ?_ ?_ ?_ (.inl rfl), go _ e1⟩
      all_goals rw [live_up h1, k1]
      · exact v0
      · rfl
      · exact v2
      · exact v3
    · have := ho b hb
      simp at h2
      omega
  · obtain ⟨h2, t⟩ := dead_up (fates := fates) h1
    refine ⟨40, 2, D', .old h2 ?_ (.inl ?_) ?_, go _ e1⟩
    all_goals rw [t]
    · rw [k1 0 (fun x hx => by simp at hx; subst hx; exact (show 3 ≠ 0 by decide))]; exact t0
    · rw [k1 1 (fun x hx => by simp at hx; subst hx; exact (show 3 ≠ 1 by decide))]; exact t1
    · rw [k1 2 (fun x hx => by simp at hx; subst hx; exact (show 3 ≠ 2 by decide))]; exact t2
  · obtain ⟨h2, t⟩ := dead_up (fates := fates) h1
    have a0 : D'.up.tell 0 = supS 2 2 := by rw [t, k1 0 (by decide)]; exact v0
    have a2 : D'.up.tell 2 = secX s := by rw [t, k1 2 (by decide)]; exact v2
    have a3 := (congrFun t 3).trans ((k1 3 (by decide)).trans v3)
    have k2 : D'.tell 1 = supS 1 (-1) ∨ D'.tell 1 = ⟨#[]⟩ ∨ D'.tell 1 = supS 3 3 := k2.imp (fun e => e.trans v1) id
    rcases k2 with e | e | e
    · exact ⟨40, 2, D', .old h2 a0 (.inl (by rw [t]; exact e)) a2, go _ e1⟩
    · exact ⟨40, 2, D', .old h2 a0 (.inr (by rw [t]; exact e)) a2, go _ e1⟩
    · exact ⟨40, 3, D', .new h2 a0 (by rw [t]; exact e) a2 a3 (.inr ⟨rfl, by unfold wrap64; decide⟩), go _ e1⟩
def cutS (gen root : Nat) : PS := { PS.opened gen root 9 with K := setU (PS.opened gen root 9).K root true, U := setU (PS.opened gen root 9).U root true }
theorem cut_open {gen root : Nat} (h : Disk q D G W) (hr : Run 9 [] none fates fl D) (hg : gen < 1000000) {A B : Option (Nat × Int)} (hA : SupTells (D.tell 0) 0 A) (hB : SupTells (D.tell 1) 1 B) (hl : later A B = some (gen, (root : Int))) : Calls Tryd.prog 11 #[ptr q] W fun e w' => (∃ p D', e = .returned (.tuple #[ptr p, .int .i64 0]) ∧ Pgr G p q (PS.opened gen root 9) D' w' ∧ Run 9 [] none fates fl D' ∧ D'.tell = D.tell) ∧ Kept G W w' := by
  obtain ⟨e2, h2⟩ := run_sector hr (fun e => by cases e) (i := 0) (by decide)
  obtain ⟨e3, h3⟩ := run_sector h2 (fun e => by cases e) (i := 1) (by decide)
  refine (g_open h (by rw [hr.n]; decide) e2 e3 hA hB hl hg).mono fun e w' ⟨⟨p, h1, h4, _⟩, h5⟩ => ⟨⟨p, _, h1, ?_, h3, rfl⟩, h5⟩
  rw [hr.n] at h4
  exact h4
theorem cut_mark {gen root : Nat} (h2 : 2 ≤ root) (h9 : root < 9) (h : Pgr G p q (PS.opened gen root 9) D W) : Calls Tryd.prog 17 #[ptr p, .int .i64 root] W fun e w' => e = .returned (.bool true) ∧ Pgr G p q (cutS gen root) D w' ∧ Kept G W w' :=
  g_mark_new h (n := root) h9 (decide_eq_false (by omega)) (decide_eq_false (by omega))
theorem cut_read {S : PS} {W0 : World} (h : Pgr G p q S D W0) (hk : New W0 W) (hr : Run 9 [] none fates fl D) (hm : S.many = 9) {K n g : Nat} {d : ByteArray} (hmay : mayB K n d = true) (hg : g < 18446744073709551616) (hn : n < 9) (ht : D.tell n = sector K n g d) (hf : S.fresh n = none) (hc : S.clean n = none) {u : Value} (hu : IntsAt (fun b => W0.heap.size ≤ b) u [(K : Int)] W) :
    Calls Tryd.prog 18 #[ptr p, .int .i64 n, u] W fun e w' => e = .returned (.tuple #[pageV K n g d, .int .i64 0]) ∧ (∃ D', Pgr G p q { S with clean := updF S.clean n (some ⟨K, n, g, d⟩) } D' w' ∧ Run 9 [] none fates fl D' ∧ D'.tell = D.tell) ∧ Kept G W w' := by
  have hne : D.tell n ≠ ⟨#[]⟩ := by rw [ht]; exact full_ne (sector_size _ _ _ (mayB_iff.1 hmay).2.2.2.2)
  obtain ⟨e1, h1⟩ := run_read_ok hr (fun e => by cases e) hn hne
  rw [ht] at e1
  refine (g_read h hk (n := n) (by omega) (.read hf hc e1 (psays hmay hg)) rfl hu).mono fun e w' he => ⟨?_, ⟨_, he.2.1, h1, rfl⟩, he.2.2.mono fun _ _ e => e.1⟩
  rw [he.1, if_pos rfl]
theorem cut_state22 {S : PS} (h : Pgr G p q S D W) (h1 : S.gen = 2) (h2 : S.root = 2) : Calls Tryd.prog 12 #[ptr p] W fun e w' => e = .returned (.agg #[.int .u64 2, .int .i64 2]) ∧ New W w' := by
  have := g_state h
  rw [h1, h2] at this
  exact this
theorem cut_state33 {S : PS} (h : Pgr G p q S D W) (h1 : S.gen = 3) (h2 : S.root = 3) : Calls Tryd.prog 12 #[ptr p] W fun e w' => e = .returned (.agg #[.int .u64 3, .int .i64 3]) ∧ New W w' := by
  have := g_state h
  rw [h1, h2] at this
  exact this
theorem cut_open22 (h : Disk q D G W) (hr : Run 9 [] none fates fl D) (h0 : D.tell 0 = supS 2 2) (h1 : D.tell 1 = supS 1 (-1) ∨ D.tell 1 = ⟨#[]⟩) : Calls Tryd.prog 11 #[ptr q] W fun e w' => (∃ p D', e = .returned (.tuple #[ptr p, .int .i64 0]) ∧ Pgr G p q (PS.opened 2 2 9) D' w' ∧ Run 9 [] none fates fl D' ∧ D'.tell = D.tell) ∧ Kept G W w' := by
  rcases h1 with h1 | h1
  · exact cut_open (gen := 2) (root := 2) h hr (by decide) (A := some (2, 2)) (B := some (1, -1)) (by rw [h0]; exact ⟨by decide, rfl, rfl⟩) (by rw [h1]; exact tells_first) rfl
  · exact cut_open (gen := 2) (root := 2) h hr (by decide) (A := some (2, 2)) (B := none) (by rw [h0]; exact ⟨by decide, rfl, rfl⟩) (by rw [h1]; exact no_short) rfl
theorem cut_open33 (h : Disk q D G W) (hr : Run 9 [] none fates fl D) (h0 : D.tell 0 = supS 2 2) (h1 : D.tell 1 = supS 3 3) : Calls Tryd.prog 11 #[ptr q] W fun e w' => (∃ p D', e = .returned (.tuple #[ptr p, .int .i64 0]) ∧ Pgr G p q (PS.opened 3 3 9) D' w' ∧ Run 9 [] none fates fl D' ∧ D'.tell = D.tell) ∧ Kept G W w' :=
  cut_open (gen := 3) (root := 3) h hr (by decide) (A := some (2, 2)) (B := some (3, 3)) (by rw [h0]; exact ⟨by decide, rfl, rfl⟩) (by rw [h1]; exact ⟨by decide, rfl, rfl⟩) rfl
theorem cut_mark2 (h : Pgr G p q (PS.opened 2 2 9) D W) : Calls Tryd.prog 17 #[ptr p, .int .i64 2] W fun e w' => e = .returned (.bool true) ∧ Pgr G p q (cutS 2 2) D w' ∧ Kept G W w' := cut_mark (gen := 2) (root := 2) (by decide) (by decide) h
theorem cut_mark3 (h : Pgr G p q (PS.opened 3 3 9) D W) : Calls Tryd.prog 17 #[ptr p, .int .i64 3] W fun e w' => e = .returned (.bool true) ∧ Pgr G p q (cutS 3 3) D w' ∧ Kept G W w' := cut_mark (gen := 3) (root := 3) (by decide) (by decide) h
def cutR (gen root : Nat) (s : ByteArray) : PS := { cutS gen root with clean := updF (cutS gen root).clean 2 (some (pgX s)) }
theorem cut_read2 {gen root : Nat} {W0 : World} (h : Pgr G p q (cutS gen root) D W0) (hk : New W0 W) (hr : Run 9 [] none fates fl D) (hs : s.size ≤ 100) (ht : D.tell 2 = secX s) {u : Value} (hu : IntsAt (fun b => W0.heap.size ≤ b) u [2] W) :
    Calls Tryd.prog 18 #[ptr p, .int .i64 2, u] W fun e w' => e = .returned (.tuple #[pageV 2 2 2 s, .int .i64 0]) ∧ (∃ D', Pgr G p q (cutR gen root s) D' w' ∧ Run 9 [] none fates fl D' ∧ D'.tell = D.tell) ∧ Kept G W w' :=
  cut_read h hk hr rfl (K := 2) (n := 2) (g := 2) (mayX hs) (by decide) (by decide) ht rfl rfl hu
theorem cut_read3 {W0 : World} (h : Pgr G p q (cutR 3 3 s) D W0) (hk : New W0 W) (hr : Run 9 [] none fates fl D) (hs : t.size ≤ 100) (ht : D.tell 3 = secY t) {u : Value} (hu : IntsAt (fun b => W0.heap.size ≤ b) u [3] W) :
    Calls Tryd.prog 18 #[ptr p, .int .i64 3, u] W fun e w' => e = .returned (.tuple #[pageV 3 3 3 t, .int .i64 0]) ∧ (∃ S' D', Pgr G p q S' D' w' ∧ S'.gen = 3 ∧ S'.root = 3 ∧ D'.fails = fl) ∧ Kept G W w' :=
  (cut_read h hk hr rfl (K := 3) (n := 3) (g := 3) (mayY hs) (by decide) (by decide) ht rfl rfl hu).mono fun e w' ⟨h1, ⟨D', h2, h3, _⟩, h4⟩ => ⟨h1, ⟨_, D', h2, rfl, rfl, h3.fails⟩, h4⟩
theorem cut_fails {S : PS} (h : Pgr G p q S D W) (hf : D.fails = fl) : Calls Tryd.prog 19 #[ptr q] W fun e w' => e = .returned (.int .i64 fl) ∧ W = w' := by
  have := fails_calls h.disk
  rw [hf] at this
  exact this
theorem later_old {A : Option (Nat × Int)} (h : A = some (1, -1) ∨ A = none) : later (some (2, 2)) A = some (2, ((2 : Nat) : Int)) := by
  rcases h with rfl | rfl <;> rfl
end Go.Proofs.YtolifmpjbmekdaaDoor
