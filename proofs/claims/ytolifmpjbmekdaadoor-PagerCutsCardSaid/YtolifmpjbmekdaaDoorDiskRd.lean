/-
The disk's Read: what a sector says; conditions: the disk lies in memory as told.
-/
import Derived.Test.YtolifmpjbmekdaaDoorDiskR
namespace Go.Proofs.YtolifmpjbmekdaaDoor
open Go.RowKit Go.Lib
/-- What was written last in a sector, of what waits. -/
def lastW : List (Nat × ByteArray) → Nat → Option ByteArray
  | [], _ => none
  | x :: l, n => match lastW l n with
    | some s => some s
    | none => if x.1 = n then some x.2 else none
theorem lastW_none : ∀ (l : List (Nat × ByteArray)) (n : Nat), (∀ x ∈ l, x.1 ≠ n) → lastW l n = none
  | [], _, _ => rfl
  | x :: l, n, h => by
    simp only [lastW, lastW_none l n fun y hy => h y (List.mem_cons_of_mem _ hy)]
    rw [if_neg (h x List.mem_cons_self)]
theorem lastW_hit : ∀ (l : List (Nat × ByteArray)) (n i : Nat) (hi : i < l.length), l[i].1 = n → (∀ j (hj : j < l.length), i < j → l[j].1 ≠ n) → lastW l n = some l[i].2
  | [], _, _, hi, _, _ => by simp at hi
  | x :: l, n, 0, _, h, hn => by
    have : lastW l n = none := lastW_none l n fun y hy => by
      obtain ⟨j, hj, rfl⟩ := List.getElem_of_mem hy
      exact hn (j + 1) (by simpa using hj) (by omega)
    simp only [List.getElem_cons_zero] at h
    simp only [lastW, this, if_pos h, List.getElem_cons_zero]
  | x :: l, n, i + 1, hi, h, hn => by
    have := lastW_hit l n i (by simpa using hi) (by simpa using h) fun j hj hij => by
      have := hn (j + 1) (by simpa using hj) (by omega)
      simpa using this
    simp only [lastW, this, List.getElem_cons_succ]
theorem lastW_snoc : ∀ (l : List (Nat × ByteArray)) (x : Nat × ByteArray) (n : Nat), lastW (l ++ [x]) n = if x.1 = n then some x.2 else lastW l n
  | [], x, n => by simp [lastW]
  | y :: l, x, n => by
    simp only [List.cons_append, lastW, lastW_snoc l x n]
    split
    · rename_i h
      split at h
      · simp_all
      · simp_all
    · rename_i h
      split at h
      · cases h
      · simp_all
/-- What a sector says, and the error's number. -/
def DS.at (D : DS) (n : Nat) : ByteArray × Int := match lastW D.wait n with
  | some s => (s, 0)
  | none => if D.torn n then (⟨#[]⟩, 41) else if D.data n = ⟨#[]⟩ then (zeros 256, 0) else (D.data n, 0)
def DS.read (D : DS) (n : Int) : DS × ByteArray × Int :=
  if D.dead then (D, ⟨#[]⟩, 40) else if n < 0 ∨ (D.n : Int) ≤ n then (D, ⟨#[]⟩, 42) else if D.act.2 then (D.act.1, ⟨#[]⟩, 40) else (D.act.1, D.act.1.at n.toNat)
variable {q : Nat} {D : DS} {F : Nat → Prop} {w : World}
structure RdF (q n : Nat) (D' : DS) (F : Nat → Prop) (w w1 : World) (bd bt : Nat) (A : Option Addr) (cap : Nat) : Prop where
  c0 : w1.cell? ⟨q, 0, none⟩ = some (.slice (some ⟨bd, 0, none⟩) D'.n D'.n)
  c1 : w1.cell? ⟨q, 1, none⟩ = some (.slice (some ⟨bt, 0, none⟩) D'.n D'.n)
  c2 : w1.cell? ⟨q, 2, none⟩ = some (.slice A D'.wait.length cap)
  dn : w1.cell? ⟨bd, n, none⟩ = some (.string (D'.data n))
  tn : w1.cell? ⟨bt, n, none⟩ = some (.bool (D'.torn n))
  few : D'.wait.length ≤ 9223372036854775807
  wt : ∀ i x, D'.wait[i]? = some x → ∃ b, A = some ⟨b, 0, none⟩ ∧ w1.cell? ⟨b, i * 2, none⟩ = some (.int .i64 (x.1 : Int)) ∧ w1.cell? ⟨b, i * 2 + 1, none⟩ = some (.string x.2)
  disk : Disk q D' F w1
  kept : Kept F w w1
theorem act_same (D : DS) : D.act.1.n = D.n := by
  unfold DS.act
  cases D.cuts with
  | nil => rfl
  | cons c r =>
    simp only
    by_cases hle : D.tick.acts ≤ (if c.1 < 0 then 0 else c.1)
    · rw [if_pos hle]
      rfl
    · rw [if_neg hle]
      exact (settles_same _ _ _ _).1
theorem act_facts (h : Disk q D F w) {n : Nat} (hn : n < D.n) (ha : D.act.2 = false) :
    Calls Tryd.prog 47 #[.pointer (some ⟨q, 0, none⟩)] w fun e w' => e = .returned (.bool false) ∧ ∃ bd bt A cap, RdF q n D.act.1 F w w' bd bt A cap := by
  refine (act_disk h).mono ?_
  rintro e w' ⟨rfl, hd, hk⟩
  refine ⟨by rw [ha], ?_⟩
  obtain ⟨S, bd, bt, vw, vc, h1, h2, h3, h4, h5, h6, h7⟩ := hd
  obtain ⟨A, cap, rfl, hl, hw⟩ := h1.waits
  have hr := h1.reads (i := n) (by rw [act_same]; exact hn)
  refine ⟨bd, bt, A, cap, h1.cell 0, h1.cell 1, h1.cell 2, hr.2.2.1, hr.2.2.2.2.1, hl, fun i x hx => ?_, ⟨S, bd, bt, _, vc, h1, h2, h3, h4, h5, h6, h7⟩, hk⟩
  obtain ⟨b, rfl, _, _, x1, x2, _⟩ := h1.waitAt hx
  exact ⟨b, rfl, x1, x2⟩
theorem read_dead (h : Disk q D F w) (hd : D.dead = true) (n : Int) : Calls Tryd.prog 50 #[.pointer (some ⟨q, 0, none⟩), .int .i64 n] w fun e w' => e = .returned (.tuple #[.string ⟨#[]⟩, .int .i64 40]) ∧ w = w' := by
  have HD := dead_calls h
  rw [hd] at HD
  have HD := hid HD
  clear h hd
  go_enter Tryd.func50, Tryd.ntmps50
  go_wp2_with (first | (go_at_call 46; (with_reducible refine HD.out.mono ?_); rintro e w1 ⟨rfl, rfl⟩))
  go_ret2
  exact ⟨rfl, rfl⟩
theorem read_out (h : Disk q D F w) (hd : D.dead = false) {n : Int} (hn : n < 0 ∨ (D.n : Int) ≤ n) : Calls Tryd.prog 50 #[.pointer (some ⟨q, 0, none⟩), .int .i64 n] w fun e w' => e = .returned (.tuple #[.string ⟨#[]⟩, .int .i64 42]) ∧ w = w' := by
  have HD := dead_calls h
  rw [hd] at HD
  have HD := hid HD
  obtain ⟨bd, bt, vw, vc, hc⟩ := h.cells
  have c0 : w.cell? ⟨q, 0, none⟩ = some (.slice (some ⟨bd, 0, none⟩) D.n D.n) := (hc 0).1
  clear h hd hc
  rcases (by omega : n < 0 ∨ ¬ n < 0 ∧ (D.n : Int) ≤ n) with hn | ⟨hn, hn2⟩
  all_goals
    go_enter Tryd.func50, Tryd.ntmps50
    go_wp2_with (first | (go_at_call 46; (with_reducible refine HD.out.mono ?_); rintro e w1 ⟨rfl, rfl⟩))
    go_ret2
    exact ⟨rfl, rfl⟩
theorem read_fails (h : Disk q D F w) (hd : D.dead = false) {n : Nat} (hn : n < D.n) (ha : D.act.2 = true) : Calls Tryd.prog 50 #[.pointer (some ⟨q, 0, none⟩), .int .i64 n] w fun e w' => e = .returned (.tuple #[.string ⟨#[]⟩, .int .i64 40]) ∧ Disk q D.act.1 F w' ∧ Kept F w w' := by
  have HD := dead_calls h
  rw [hd] at HD
  have HD := hid HD
  have HA := act_disk h
  rw [ha] at HA
  have HA := hid HA
  obtain ⟨bd, bt, vw, vc, hc⟩ := h.cells
  have c0 : w.cell? ⟨q, 0, none⟩ = some (.slice (some ⟨bd, 0, none⟩) D.n D.n) := (hc 0).1
  clear h hd hc
  have h1 : ¬ (n : Int) < 0 := by omega
  have h2 : ¬ D.n ≤ n := by omega
  go_enter Tryd.func50, Tryd.ntmps50
  go_wp2_with (first | (go_at_call 46; (with_reducible refine HD.out.mono ?_); rintro e w1 ⟨rfl, rfl⟩) | (go_at_call 47; (with_reducible refine HA.out.mono ?_); rintro e w1 ⟨rfl, hp, hk⟩; have HP := hid hp; have HK := hid hk; clear hp hk))
  go_ret2
  exact ⟨rfl, HP.out, HK.out⟩
set_option maxHeartbeats 1600000 in
set_option maxRecDepth 100000 in
theorem read_ok (h : Disk q D F w) (hd : D.dead = false) {n : Nat} (hn : n < D.n) (ha : D.act.2 = false) : Calls Tryd.prog 50 #[.pointer (some ⟨q, 0, none⟩), .int .i64 n] w fun e w' => e = .returned (.tuple #[.string (D.act.1.at n).1, .int .i64 (D.act.1.at n).2]) ∧ Disk q D.act.1 F w' ∧ Kept F w w' := by
  have HD := dead_calls h
  rw [hd] at HD
  have HD := hid HD
  have HA := hid (act_facts h hn ha)
  obtain ⟨bd, bt, vw, vc, hc⟩ := h.cells
  have c0 : w.cell? ⟨q, 0, none⟩ = some (.slice (some ⟨bd, 0, none⟩) D.n D.n) := (hc 0).1
  have hsame := act_same D
  have hn' : n < D.act.1.n := by omega
  clear h hd hc
  have h1 : ¬ (n : Int) < 0 := by omega
  have h2 : ¬ D.n ≤ n := by omega
  clear hsame ha
  generalize hE : D.act.1 = E at *
  clear hE
  obtain ⟨r, hr⟩ : ∃ r, E.at n = r := ⟨_, rfl⟩
  rw [hr]
  have HR := hid hr
  clear hr
  obtain ⟨rs, re⟩ := r
  go_enter Tryd.func50, Tryd.ntmps50
  go_wp2_with (first | (go_at_call 46; (with_reducible refine HD.out.mono ?_); rintro e w1 ⟨rfl, rfl⟩) | (go_at_call 47; (with_reducible refine HA.out.mono ?_); rintro e w1 ⟨rfl, bd1, bt1, A, cap, hf⟩; have HF := hid hf; obtain ⟨d0, d1, d2, dn, tn, few, -, -, -⟩ := hf))
  clear HA HD c0
  go_loop [6] (fun v => ∃ i : Nat, v = .int .i64 ((i : Int) - 1) ∧ i ≤ E.wait.length ∧ Hid (∀ j (hj : j < E.wait.length), i ≤ j → E.wait[j].1 ≠ n)) (fun v => (intOf v + 1).toNat)
  case atStart => exact ⟨E.wait.length, by go_num, Nat.le_refl _, hid fun j hj hij => absurd hj (by omega)⟩
  case round =>
    obtain ⟨i, rfl, hi, HN⟩ := hrel
    by_cases h0 : 0 < i
    · as_aux_lemma =>
      obtain ⟨k, rfl⟩ : ∃ k, i = k + 1 := ⟨i - 1, by omega⟩
      have hk : k < E.wait.length := by omega
      obtain ⟨b, rfl, x1, x2⟩ := HF.out.wt k E.wait[k] (by simp [hk])
      have e : (((k + 1 : Nat) : Int) - 1) = (k : Int) := by omega
      rw [e]
      by_cases hx : E.wait[k].1 = n
      · have hz : (E.wait[k].2, 0) = (rs, re) := by
          rw [← HR.out]
          unfold DS.at
          rw [lastW_hit E.wait n k hk hx fun j hj hij => HN.out j hj (by omega)]
        rw [hx] at x1
        obtain ⟨e1, e2⟩ := Prod.mk.inj hz
        rw [e1] at x2
        subst e2
        clear hz e1 hx HN HR e
        go_wp2
        go_ret2
        exact ⟨rfl, HF.out.disk, HF.out.kept⟩
      · have hx' : ¬ ((E.wait[k].1 : Int) = (n : Int)) := by omega
        have hx2 : ((E.wait[k].1 : Int) == (n : Int)) = false := beq_eq_false_iff_ne.2 hx'
        have HN' : Hid (∀ j (hj : j < E.wait.length), k ≤ j → E.wait[j].1 ≠ n) := hid fun j hj hij => by
          rcases Nat.lt_or_ge k j with h | h
          · exact HN.out j hj h
          · obtain rfl : j = k := by omega
            exact hx
        clear hx e HN
        generalize E.wait[k] = y at *
        clear hx'
        go_wp2
        go_round
        case rel => exact ⟨k, rfl, by omega, HN'⟩
        case measure => simp [intOf]
    · as_aux_lemma =>
      obtain rfl : i = 0 := by omega
      have hz : (if E.torn n then (⟨#[]⟩, 41) else if E.data n = ⟨#[]⟩ then (zeros 256, 0) else (E.data n, 0)) = (rs, re) := by
        rw [← HR.out]
        unfold DS.at
        rw [lastW_none E.wait n fun x hx => by
          obtain ⟨j, hj, rfl⟩ := List.getElem_of_mem hx
          exact HN.out j hj (Nat.zero_le _)]
      clear HR HN
      cases ht : E.torn n with
      | true =>
        rw [ht] at hz tn
        cases hz
        go_wp2
        go_ret2
        exact ⟨rfl, HF.out.disk, HF.out.kept⟩
      | false =>
        rw [ht] at hz tn
        rw [if_neg (by decide)] at hz
        by_cases h0 : E.data n = ⟨#[]⟩
        · rw [if_pos h0] at hz
          rw [h0] at dn
          cases hz
          have hm : ∀ w : World, (Instr.makeSlice 63 (.int .i64 256) (.int .i64 256)).run Tryd.prog w = .ok (.slice (some ⟨w.heap.size, 0, none⟩) 256 256) (w.alloc (.cells (Array.replicate 256 (.int .u8 0)) 5)) := fun w => mk_bytes w (n := 256) (by decide)
          have hc := fun w => conv_zeros w 256
          clear h0
          go_wp2
          go_ret2
          exact ⟨rfl, HF.out.disk.new ((Kept.refl _ _).alloc _), HF.out.kept.alloc _⟩
        · rw [if_neg h0] at hz
          cases hz
          have h3 := str_ne h0
          have h4 : ¬ (E.data n).toList = [] := fun e => h0 (by
            rw [ByteArray.toList_eq] at e
            exact ByteArray.ext (Array.ext' e))
          have h5 : (E.data n).toList.isEmpty = false := by simpa using h4
          clear h0 h3
          go_wp2
          go_ret2
          exact ⟨rfl, HF.out.disk, HF.out.kept⟩
theorem read_calls (h : Disk q D F w) (n : Int) : Calls Tryd.prog 50 #[.pointer (some ⟨q, 0, none⟩), .int .i64 n] w fun e w' => e = .returned (.tuple #[.string (D.read n).2.1, .int .i64 (D.read n).2.2]) ∧ Disk q (D.read n).1 F w' ∧ Kept F w w' := by
  unfold DS.read
  cases hd : D.dead with
  | true =>
    refine (read_dead h hd n).mono ?_
    rintro e w' ⟨rfl, rfl⟩
    exact ⟨rfl, h, Kept.refl _ _⟩
  | false =>
    rw [if_neg (by decide)]
    by_cases hn : n < 0 ∨ (D.n : Int) ≤ n
    · rw [if_pos hn]
      refine (read_out h hd hn).mono ?_
      rintro e w' ⟨rfl, rfl⟩
      exact ⟨rfl, h, Kept.refl _ _⟩
    · rw [if_neg hn]
      obtain ⟨k, rfl⟩ := Int.eq_ofNat_of_zero_le (show 0 ≤ n by omega)
      cases ha : D.act.2 with
      | true => exact read_fails h hd (by omega) ha
      | false => exact read_ok h hd (by omega) ha
end Go.Proofs.YtolifmpjbmekdaaDoor
