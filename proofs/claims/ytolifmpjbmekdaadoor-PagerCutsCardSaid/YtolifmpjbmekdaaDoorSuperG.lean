/-
super.Get and Choose; conditions: each sector says nothing, or is that of a state at its place.
-/
import Derived.Test.YtolifmpjbmekdaaDoorSuper
import Derived.Deep.DeepCutAuto
namespace Go.Proofs.YtolifmpjbmekdaaDoor
open Go.RowKit
open Go.Lib (hid)
/-- page.Get tells nothing of s. -/
def NoPage (s : ByteArray) : Prop := ∀ W, Calls Tryd.prog 59 #[.string s] W fun e w' => e = .returned (.tuple #[pageV 0 0 0 ⟨#[]⟩, .int .i64 3]) ∧ New W w'
/-- What a sector says at its place: a state, or nothing. -/
def SupTells (s : ByteArray) (at_ : Nat) : Option (Nat × Int) → Prop
  | none => NoPage s
  | some x => smayB x.1 x.2 = true ∧ s = supS x.1 x.2 ∧ x.1 % 2 = at_
def supO : Option (Nat × Int) → Value
  | none => supV 0 0
  | some x => supV x.1 x.2
theorem two_cells0 {w : World} {k : Nat} {a b : Value} {t : TypeId} (h : w.heap[k]? = some (.cells #[a, b] t (0, 0))) : w.cell? ⟨k, 0, none⟩ = some a ∧ w.cell? ⟨k, 1, none⟩ = some b ∧ w.frozen? ⟨k, 0, none⟩ = false ∧ w.frozen? ⟨k, 1, none⟩ = false :=
  ⟨(cell_at h 0).trans rfl, (cell_at h 1).trans rfl, frozen_at h 0, frozen_at h 1⟩
theorem two_cells {w : World} {k : Nat} {a b : Value} {t : TypeId} (h : w.heap[k]? = some (.cells #[a, b] t (0, 0))) : ∀ o, (w.alloc o).cell? ⟨k, 0, none⟩ = some a ∧ (w.alloc o).cell? ⟨k, 1, none⟩ = some b ∧ (w.alloc o).frozen? ⟨k, 0, none⟩ = false ∧ (w.alloc o).frozen? ⟨k, 1, none⟩ = false := fun o =>
  ⟨(cell_at (blk_alloc h o) 0).trans rfl, (cell_at (blk_alloc h o) 1).trans rfl, frozen_at (blk_alloc h o) 0, frozen_at (blk_alloc h o) 1⟩
set_option maxHeartbeats 1600000 in
set_option maxRecDepth 100000 in
theorem sget_none {s : ByteArray} (h : NoPage s) (a : Int) (w : World) : Calls Tryd.prog 51 #[.string s, .int .i64 a] w fun e w' => e = .returned (.tuple #[supV 0 0, .bool false]) ∧ New w w' := by
  unfold NoPage at h
  have HG := hid h
  clear h
  go_enter Tryd.func51, Tryd.ntmps51
  go_wp2_with (first | (go_at_call 59; (with_reducible refine (HG.out _).mono ?_); rintro e w1 ⟨rfl, hn1⟩; have hb := hn1.at (blk_new w _) id; have x0 := two_cells hb; have HB := hid hb; have HN := hid (((Kept.refl _ _).alloc _).trans hn1); clear hb hn1))
  have hb9 := heap_setCell_same (i := 1) (u := .int .i64 0) (heap_setCell_same (i := 0) (u := .int .u64 0) (blk_alloc HB.out (pageBlk 0 0 0 ⟨#[]⟩)))
  have g0 := (cell_at hb9 0).trans rfl
  have g1 := (cell_at hb9 1).trans rfl
  exact bodyPost_ret (v := .tuple #[supV 0 0, .bool false]) (by simp [results, Tryd.results51, go_sem, g0, g1]) rfl ⟨rfl, (((HN.out.alloc _).setCell (p := ⟨w.heap.size, 0, none⟩) (.inr (Nat.le_refl _)) (.int .u64 0)).setCell (p := ⟨w.heap.size, 1, none⟩) (.inr (Nat.le_refl _)) (.int .i64 0))⟩
/-- Behind the state that was read. -/
structure AftG (w : World) (p q gen : Nat) (root : Int) (W : World) : Prop where
  blk : W.heap[p]? = some (.cells #[.int .u64 gen, .int .i64 root] 37 (0, 0))
  res : W.heap[w.heap.size]? = some (.cells #[.int .u64 0, .int .i64 0] 37 (0, 0))
  rd : Rd q ⟨#[]⟩ 0 W
  new : New w W
  lt : w.heap.size < p
theorem aft_a {w w2 w3 : World} {q gen : Nat} {root : Int} (hb : w2.heap[w.heap.size]? = some (.cells #[.int .u64 0, .int .i64 0] 37 (0, 0))) (hn : New w w2) (hr : Rd q ⟨#[]⟩ 0 w3) (hk : Kept (fun b => b = q) w2 w3) (hq0 : w.heap.size < q) : AftG w w3.heap.size q gen root (w3.alloc (.cells #[.int .u64 gen, .int .i64 root] 37)) := by
  have h1 := hk.size
  have h2 := hk.atne hb (by omega)
  exact ⟨blk_new _ _, blk_alloc h2 _, Rd.kept hr ((Kept.refl (fun _ => False) _).alloc _) id, (New.one hn hk (by omega)).alloc _, blk_lt h2⟩
theorem aft_b {w w2 w3 : World} {q gen : Nat} {root : Int} (hb : w2.heap[w.heap.size]? = some (.cells #[.int .u64 0, .int .i64 0] 37 (0, 0))) (hn : New w w2) (hr : Rd q ⟨#[]⟩ 0 w3) (hk : Kept (fun b => b = q) (w2.alloc (.cells #[.int .u64 0, .int .i64 0] 37)).drew w3) (hq : q < w2.heap.size) (hq0 : w.heap.size < q) : AftG w w2.heap.size q gen root ((w3.setCell ⟨w2.heap.size, 0, none⟩ (.int .u64 gen)).setCell ⟨w2.heap.size, 1, none⟩ (.int .i64 root)) := by
  have h1 := hn.size
  have h2 := hk.atne (blk_drew (blk_alloc hb _)) (by omega)
  have h3 := hk.atne (blk_drew (blk_new w2 _)) (by omega)
  have k2 : Kept (fun b => b = w2.heap.size) w3 ((w3.setCell ⟨w2.heap.size, 0, none⟩ (.int .u64 gen)).setCell ⟨w2.heap.size, 1, none⟩ (.int .i64 root)) := (keptq' w3 () 0 _).trans (keptq' _ () 1 _)
  have hlt := blk_lt hb
  refine ⟨(heap_setCell_same (heap_setCell_same h3)).trans (by simp), k2.atne h2 (by omega), Rd.kept hr k2 (by omega), ?_, hlt⟩
  exact New.one (New.one (hn.alloc _).drew hk (by omega)) k2 (by omega)
set_option maxHeartbeats 3200000 in
set_option maxRecDepth 100000 in
theorem sget_some {gen : Nat} {root : Int} (h : smayB gen root = true) (w : World) : Calls Tryd.prog 51 #[.string (supS gen root), .int .i64 ((gen % 2 : Nat) : Int)] w fun e w' => e = .returned (.tuple #[supV gen root, .bool true]) ∧ New w w' := by
  obtain ⟨m1, m2, m3, m4⟩ := smayB_iff.1 h
  obtain ⟨n, hn⟩ : ∃ n : Nat, (root + 1).toNat = n := ⟨_, rfl⟩
  have hr : root = (n : Int) - 1 := by omega
  have hnl : n ≤ 16384 := by omega
  have HG : ∀ W, Calls Tryd.prog 59 #[.string (supS gen root)] W fun e w' => e = .returned (.tuple #[.agg #[.int .i64 1, .int .i64 ((gen % 2 : Nat) : Int), .int .u64 gen, .string (str (numB n))], .int .i64 0]) ∧ New W w' := fun W => by
    have := get_sector (gen := gen) (sup_may gen root) (by omega) W
    rw [hn] at this
    unfold supS
    rw [hn]
    exact this
  have HR : ∀ q W, Rd q (str (numB n)) 0 W → Calls Tryd.prog 63 #[.pointer (some ⟨q, 0, none⟩), .int .u64 16384] W fun e w' => e = .returned (.int .u64 n) ∧ Rd q ⟨#[]⟩ 0 w' ∧ Kept (fun b => b = q) W w' := fun q W hq => rd_num (n := n) (most := 16384) (rest := []) (by rw [List.append_nil]; exact hq) hnl (by decide) (by decide)
  have HM : ∀ W, Calls Tryd.prog 37 #[.agg #[.int .u64 gen, .int .i64 root]] W fun e w' => e = .returned (.bool true) ∧ New W w' := fun W => by
    have := smay_calls gen root W
    rw [h] at this
    exact this
  have HM := hid HM
  have HR := hid HR
  have HG := hid HG
  have HW := hid (fun W => where_calls (gen := gen) (by omega) W)
  have HNW := hid (fun (q : Nat) (W : World) (hq : W.heap.size = q) => rd_new_at (str (numB n)) hq)
  have HE := hid (fun q W (hq : Rd q ⟨#[]⟩ 0 W) => rd_end hq)
  have e1 : IntKind.i64.wrap (n : Int) = (n : Int) := by rw [IntKind.wrap_i64]; omega
  have e2 : IntKind.i64.wrap ((n : Int) - 1) = root := by rw [IntKind.wrap_i64]; omega
  have e3 : (n : Int) - 1 = root := hr.symm
  have e4 : IntKind.i64.wrap root = root := by rw [IntKind.wrap_i64]; omega
  have hg2 : (((gen % 2 : Nat) : Int) != ((gen % 2 : Nat) : Int)) = false := by simp
  clear h hn hr m2 m3 m4
  generalize supS gen root = sec at *
  generalize str (numB n) = dat at *
  generalize gen % 2 = g2 at *
  go_enter Tryd.func51, Tryd.ntmps51
  go_wp2_with (first
    | (go_at_call 59; (with_reducible refine (HG.out _).mono ?_); rintro e w1 ⟨rfl, hn1⟩; have hb := hn1.at (blk_new w _) id; have HB1 := hid hb; have HN1 := hid (((Kept.refl _ _).alloc _).trans hn1); clear hb hn1)
    | (go_at_call 62; (with_reducible refine (HNW.out (w1.heap.size + 1) _ (by simp)).mono ?_); rintro e w2 ⟨rfl, hr2, hn2⟩; have HP2 := hid (hn2.at (blk_new w1 _) id); have HB2 := hid (hn2.at (blk_alloc HB1.out _) id); have HN2 := hid ((HN1.out.alloc _).trans hn2); have R2 := hid hr2; clear hr2 hn2))
  have hq2 := blk_lt R2.out
  have hq0 : w.heap.size < w1.heap.size + 1 := by have := blk_lt HB1.out; omega
  have hp2 := blk_lt HP2.out
  have hkeep : ∀ W, Kept (fun b => b = w1.heap.size + 1) w2 W → Kept (fun b => b = w1.heap.size + 1) w2 W ∧ W.cell? ⟨w1.heap.size, 2, none⟩ = some (.int .u64 (gen : Int)) := fun W hN => ⟨hN, (cell_at (hN.atne HP2.out (by omega)) 2).trans rfl⟩
  have HKP := hid hkeep
  clear hkeep
  have n0 : Kept (fun b => b = w1.heap.size + 1) w2 w2.drew := (Kept.refl _ _).drew
  have n1 : ∀ o, Kept (fun b => b = w1.heap.size + 1) w2 (w2.alloc o).drew := fun o => ((Kept.refl _ _).alloc _).drew
  go_upto_region 5 with fail
  go_cut [9] (fun v wc => Hid (∃ p, v = .pointer (some ⟨p, 0, none⟩) ∧ AftG w p (w1.heap.size + 1) gen root wc))
  case first =>
    go_region_held3 (fun W => Kept (fun b => b = w1.heap.size + 1) w2 W ∧ W.cell? ⟨w1.heap.size, 2, none⟩ = some (.int .u64 (gen : Int))) (exact HKP.out _ (by first | assumption | (apply n1) | (apply Kept.alloc; assumption) | exact Kept.setCell (p := ⟨w2.heap.size, 1, none⟩) (Kept.setCell (p := ⟨w2.heap.size, 0, none⟩) (by assumption) (.inr (Nat.le_refl _)) _) (.inr (Nat.le_refl _)) _))
      (first
        | (go_at_call 63; (with_reducible refine (HR.out _ _ (Rd.kept R2.out (Kept.refl (fun _ => False) w2).drew id)).mono ?_); rintro e w3 ⟨rfl, hr3, hk3⟩; have n3 := n0.trans hk3; have A3 := hid (aft_a (gen := gen) (root := root) HB2.out HN2.out hr3 n3 hq0); clear hk3 hr3)
        | (go_at_call 63; (with_reducible refine (HR.out _ _ (Rd.kept R2.out ((Kept.refl (fun _ => False) w2).alloc _).drew id)).mono ?_); rintro e w3 ⟨rfl, hr3, hk3⟩; have n3 := (n1 _).trans hk3; have zz := two_cells0 (hk3.atne (blk_drew (blk_new w2 (.cells #[.int .u64 0, .int .i64 0] 37))) (by omega)); obtain ⟨z0, z1, z2, z3⟩ := zz; have A3 := hid (aft_b (gen := gen) (root := root) HB2.out HN2.out hr3 hk3 hq2 hq0); clear hk3 hr3))
    all_goals go_wp2_with fail
    all_goals go_meet
    all_goals exact hid ⟨_, rfl, A3.out⟩
  case rest =>
    obtain ⟨p, rfl, hA⟩ := hcut.out
    obtain ⟨c0, c1, -, -⟩ := two_cells0 hA.blk
    have HA := hid hA
    have HEE := hid (HE.out _ _ hA.rd)
    clear hA hcut HKP n0 n1 HR HNW HG HE R2 HP2 HB2 HN2 HB1 HN1
    go_wp2_with (first
      | (go_at_call 64; (with_reducible refine HEE.out.mono ?_); rintro e w4 ⟨rfl, rfl⟩)
      | (go_at_call 37; (with_reducible refine (HM.out _).mono ?_); rintro e w5 ⟨rfl, hn5⟩; have d := two_cells0 (hn5.at HA.out.blk id); obtain ⟨d0, d1, -, -⟩ := d; have f := two_cells0 (hn5.at HA.out.res id); obtain ⟨f0, f1, f2, f3⟩ := f; have HB5 := hid (hn5.at HA.out.res id); have HN5 := hid (HA.out.new.trans hn5); clear hn5)
      | (go_at_call 28; (with_reducible refine (HW.out _).mono ?_); rintro e w6 ⟨rfl, rfl⟩))
    have hb9 := heap_setCell_same (i := 1) (u := .int .i64 root) (heap_setCell_same (i := 0) (u := .int .u64 gen) HB5.out)
    have g0 := (cell_at hb9 0).trans rfl
    have g1 := (cell_at hb9 1).trans rfl
    exact bodyPost_ret (v := .tuple #[supV gen root, .bool true]) (by simp [results, Tryd.results51, go_sem, g0, g1]) rfl ⟨rfl, ((HN5.out.setCell (p := ⟨w.heap.size, 0, none⟩) (.inr (Nat.le_refl _)) (.int .u64 gen)).setCell (p := ⟨w.heap.size, 1, none⟩) (.inr (Nat.le_refl _)) (.int .i64 root))⟩
/-- What a call of super.Get answers. -/
def SGets (s : ByteArray) (at_ : Int) (g r : Int) (b : Bool) : Prop := ∀ W, Calls Tryd.prog 51 #[.string s, .int .i64 at_] W fun e w' => e = .returned (.tuple #[.agg #[.int .u64 g, .int .i64 r], .bool b]) ∧ New W w'
set_option maxHeartbeats 3200000 in
set_option maxRecDepth 100000 in
theorem choose_core {a b : ByteArray} {ga ra gb rb : Int} {sa sb : Bool} (hA : SGets a 0 ga ra sa) (hB : SGets b 1 gb rb sb) (w : World) {g r : Int} {c : Bool}
    (h : (if sa = true ∧ sb = true ∧ ga < gb ∨ sa = false ∧ sb = true then (gb, rb, true) else if sa = true then (ga, ra, true) else ((0 : Int), (0 : Int), false)) = (g, r, c)) :
    Calls Tryd.prog 31 #[.string a, .string b] w fun e w' => e = .returned (.tuple #[supV g r, .bool c]) ∧ New w w' := by
  unfold SGets at hA hB
  have HA := hid hA
  have HB := hid hB
  clear hA hB
  cases sa <;> cases sb
  case false.false =>
    simp at h
    obtain ⟨rfl, rfl, rfl⟩ := h
    go_enter Tryd.func31, Tryd.ntmps31
    go_wp2_with (first
      | (go_at_call 51; (with_reducible refine (HA.out _).mono ?_); rintro e w1 ⟨rfl, hn1⟩; have HB1 := hid (hn1.at (blk_new w _) id); have HN1 := hid (((Kept.refl _ _).alloc _).trans hn1); clear hn1)
      | (go_at_call 51; (with_reducible refine (HB.out _).mono ?_); rintro e w2 ⟨rfl, hn2⟩; have HB2 := hid (hn2.at (blk_alloc HB1.out _) id); have HP2 := hid (hn2.at (blk_new w1 _) id); have HN2 := hid ((HN1.out.alloc _).trans hn2); have f := two_cells HB2.out; have f6 := two_cells HP2.out; clear hn2))
    have hb9 := heap_setCell_same (i := 1) (u := .int .i64 0) (heap_setCell_same (i := 0) (u := .int .u64 0) (blk_alloc HB2.out (.cells #[.int .u64 gb, .int .i64 rb] 37)))
    have g0 := (cell_at hb9 0).trans rfl
    have g1 := (cell_at hb9 1).trans rfl
    exact bodyPost_ret (v := .tuple #[supV 0 0, .bool false]) (by simp [results, Tryd.results31, go_sem, g0, g1]) rfl ⟨rfl, (((HN2.out.alloc _).setCell (p := ⟨w.heap.size, 0, none⟩) (.inr (Nat.le_refl _)) (.int .u64 0)).setCell (p := ⟨w.heap.size, 1, none⟩) (.inr (Nat.le_refl _)) (.int .i64 0))⟩
  case false.true =>
    simp at h
    obtain ⟨rfl, rfl, rfl⟩ := h
    go_enter Tryd.func31, Tryd.ntmps31
    go_wp2_with (first
      | (go_at_call 51; (with_reducible refine (HA.out _).mono ?_); rintro e w1 ⟨rfl, hn1⟩; have HB1 := hid (hn1.at (blk_new w _) id); have HN1 := hid (((Kept.refl _ _).alloc _).trans hn1); clear hn1)
      | (go_at_call 51; (with_reducible refine (HB.out _).mono ?_); rintro e w2 ⟨rfl, hn2⟩; have HB2 := hid (hn2.at (blk_alloc HB1.out _) id); have HP2 := hid (hn2.at (blk_new w1 _) id); have HN2 := hid ((HN1.out.alloc _).trans hn2); have f := two_cells HB2.out; have f6 := two_cells HP2.out; clear hn2))
    have hb9 := heap_setCell_same (i := 1) (u := .int .i64 rb) (heap_setCell_same (i := 0) (u := .int .u64 gb) (blk_alloc HB2.out (.cells #[.int .u64 gb, .int .i64 rb] 37)))
    have g0 := (cell_at hb9 0).trans rfl
    have g1 := (cell_at hb9 1).trans rfl
    exact bodyPost_ret (v := .tuple #[supV gb rb, .bool true]) (by simp [results, Tryd.results31, go_sem, g0, g1]) rfl ⟨rfl, (((HN2.out.alloc _).setCell (p := ⟨w.heap.size, 0, none⟩) (.inr (Nat.le_refl _)) (.int .u64 gb)).setCell (p := ⟨w.heap.size, 1, none⟩) (.inr (Nat.le_refl _)) (.int .i64 rb))⟩
  case true.false =>
    simp at h
    obtain ⟨rfl, rfl, rfl⟩ := h
    go_enter Tryd.func31, Tryd.ntmps31
    go_wp2_with (first
      | (go_at_call 51; (with_reducible refine (HA.out _).mono ?_); rintro e w1 ⟨rfl, hn1⟩; have HB1 := hid (hn1.at (blk_new w _) id); have HN1 := hid (((Kept.refl _ _).alloc _).trans hn1); clear hn1)
      | (go_at_call 51; (with_reducible refine (HB.out _).mono ?_); rintro e w2 ⟨rfl, hn2⟩; have HB2 := hid (hn2.at (blk_alloc HB1.out _) id); have HP2 := hid (hn2.at (blk_new w1 _) id); have HN2 := hid ((HN1.out.alloc _).trans hn2); have f := two_cells HB2.out; have f6 := two_cells HP2.out; clear hn2))
    have hb9 := heap_setCell_same (i := 1) (u := .int .i64 ra) (heap_setCell_same (i := 0) (u := .int .u64 ga) (blk_alloc HB2.out (.cells #[.int .u64 gb, .int .i64 rb] 37)))
    have g0 := (cell_at hb9 0).trans rfl
    have g1 := (cell_at hb9 1).trans rfl
    exact bodyPost_ret (v := .tuple #[supV ga ra, .bool true]) (by simp [results, Tryd.results31, go_sem, g0, g1]) rfl ⟨rfl, (((HN2.out.alloc _).setCell (p := ⟨w.heap.size, 0, none⟩) (.inr (Nat.le_refl _)) (.int .u64 ga)).setCell (p := ⟨w.heap.size, 1, none⟩) (.inr (Nat.le_refl _)) (.int .i64 ra))⟩
  case true.true =>
    by_cases hlt : ga < gb
    · have hd : decide (ga < gb) = true := decide_eq_true hlt
      simp [hlt] at h
      obtain ⟨rfl, rfl, rfl⟩ := h
      go_enter Tryd.func31, Tryd.ntmps31
      go_wp2_with (first
        | (go_at_call 51; (with_reducible refine (HA.out _).mono ?_); rintro e w1 ⟨rfl, hn1⟩; have HB1 := hid (hn1.at (blk_new w _) id); have HN1 := hid (((Kept.refl _ _).alloc _).trans hn1); clear hn1)
        | (go_at_call 51; (with_reducible refine (HB.out _).mono ?_); rintro e w2 ⟨rfl, hn2⟩; have HB2 := hid (hn2.at (blk_alloc HB1.out _) id); have HP2 := hid (hn2.at (blk_new w1 _) id); have HN2 := hid ((HN1.out.alloc _).trans hn2); have f := two_cells HB2.out; have f6 := two_cells HP2.out; clear hn2))
      have hb9 := heap_setCell_same (i := 1) (u := .int .i64 rb) (heap_setCell_same (i := 0) (u := .int .u64 gb) (blk_alloc HB2.out (.cells #[.int .u64 gb, .int .i64 rb] 37)))
      have g0 := (cell_at hb9 0).trans rfl
      have g1 := (cell_at hb9 1).trans rfl
      exact bodyPost_ret (v := .tuple #[supV gb rb, .bool true]) (by simp [results, Tryd.results31, go_sem, g0, g1]) rfl ⟨rfl, (((HN2.out.alloc _).setCell (p := ⟨w.heap.size, 0, none⟩) (.inr (Nat.le_refl _)) (.int .u64 gb)).setCell (p := ⟨w.heap.size, 1, none⟩) (.inr (Nat.le_refl _)) (.int .i64 rb))⟩
    · have hd : decide (ga < gb) = false := decide_eq_false hlt
      simp [hlt] at h
      obtain ⟨rfl, rfl, rfl⟩ := h
      go_enter Tryd.func31, Tryd.ntmps31
      go_wp2_with (first
        | (go_at_call 51; (with_reducible refine (HA.out _).mono ?_); rintro e w1 ⟨rfl, hn1⟩; have HB1 := hid (hn1.at (blk_new w _) id); have HN1 := hid (((Kept.refl _ _).alloc _).trans hn1); clear hn1)
        | (go_at_call 51; (with_reducible refine (HB.out _).mono ?_); rintro e w2 ⟨rfl, hn2⟩; have HB2 := hid (hn2.at (blk_alloc HB1.out _) id); have HP2 := hid (hn2.at (blk_new w1 _) id); have HN2 := hid ((HN1.out.alloc _).trans hn2); have f := two_cells HB2.out; have f6 := two_cells HP2.out; clear hn2))
      have hb9 := heap_setCell_same (i := 1) (u := .int .i64 ra) (heap_setCell_same (i := 0) (u := .int .u64 ga) (blk_alloc HB2.out (.cells #[.int .u64 gb, .int .i64 rb] 37)))
      have g0 := (cell_at hb9 0).trans rfl
      have g1 := (cell_at hb9 1).trans rfl
      exact bodyPost_ret (v := .tuple #[supV ga ra, .bool true]) (by simp [results, Tryd.results31, go_sem, g0, g1]) rfl ⟨rfl, (((HN2.out.alloc _).setCell (p := ⟨w.heap.size, 0, none⟩) (.inr (Nat.le_refl _)) (.int .u64 ga)).setCell (p := ⟨w.heap.size, 1, none⟩) (.inr (Nat.le_refl _)) (.int .i64 ra))⟩
/-- The later one of two states. -/
def later : Option (Nat × Int) → Option (Nat × Int) → Option (Nat × Int)
  | some x, some y => if x.1 < y.1 then some y else some x
  | none, some y => some y
  | some x, none => some x
  | none, none => none
theorem sget_tells {s : ByteArray} {a : Nat} {A : Option (Nat × Int)} (h : SupTells s a A) : ∃ (g : Nat) (r : Int) (b : Bool), SGets s a g r b ∧ b = A.isSome ∧ (∀ x, A = some x → x = (g, r)) ∧ (A = none → g = 0 ∧ r = 0) := by
  cases A with
  | none => exact ⟨0, 0, false, fun W => sget_none h _ W, rfl, fun x e => (by cases e), fun _ => ⟨rfl, rfl⟩⟩
  | some x =>
    obtain ⟨h1, rfl, h3⟩ := h
    refine ⟨x.1, x.2, true, fun W => ?_, rfl, fun y e => (by cases e; rfl), fun e => (by cases e)⟩
    rw [← h3]
    exact sget_some h1 W
theorem choose_calls {a b : ByteArray} {A B : Option (Nat × Int)} (hA : SupTells a 0 A) (hB : SupTells b 1 B) (w : World) :
    Calls Tryd.prog 31 #[.string a, .string b] w fun e w' => e = .returned (.tuple #[supO (later A B), .bool (later A B).isSome]) ∧ New w w' := by
  obtain ⟨ga, ra, sa, h1, rfl, h3, h4⟩ := sget_tells hA
  obtain ⟨gb, rb, sb, k1, rfl, k3, k4⟩ := sget_tells hB
  cases A with
  | none =>
    cases B with
    | none => exact choose_core h1 k1 w (by simp [later])
    | some y =>
      obtain rfl := k3 y rfl
      exact choose_core h1 k1 w (by simp [later])
  | some x =>
    obtain rfl := h3 x rfl
    cases B with
    | none => exact choose_core h1 k1 w (by simp [later])
    | some y =>
      obtain rfl := k3 y rfl
      simp only [later]
      by_cases hlt : ga < gb
      · rw [if_pos hlt]
        exact choose_core h1 k1 w (by simp; omega)
      · rw [if_neg hlt]
        exact choose_core h1 k1 w (by simp; omega)
end Go.Proofs.YtolifmpjbmekdaaDoor
