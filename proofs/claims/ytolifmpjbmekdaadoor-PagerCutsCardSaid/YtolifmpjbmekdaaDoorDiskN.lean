/-
disk.New: a disk of so many sectors; conditions: the cuts lie in memory as told, and are few.
-/
import Derived.Test.YtolifmpjbmekdaaDoorDiskW
import Derived.Deep.RegionHeldLaw
import Derived.Deep.RegionLaw
import Derived.Laws.AppendOwnNone
import Derived.Deep.DeepCutAuto
namespace Go.Proofs.YtolifmpjbmekdaaDoor
open Go.RowKit Go.Lib
def DS.new (n : Nat) (l : List (Int × List Int)) : DS := ⟨n, fun _ => ⟨#[]⟩, fun _ => false, [], l, 0, 0, 0, false⟩
theorem info_string : (Tryd.prog.info? 9).map (fun i => (i.zero, i.size, i.bytes)) = some (some (.string ⟨#[]⟩), 1, 16) := by kernel_rfl
theorem info_bool : (Tryd.prog.info? 4).map (fun i => (i.zero, i.size, i.bytes)) = some (some (.bool false), 1, 1) := by kernel_rfl
theorem info_int : (Tryd.prog.info? 3).map (fun i => (i.zero, i.size, i.bytes)) = some (some (.int .i64 0), 1, 8) := by kernel_rfl
theorem info_cut : (Tryd.prog.info? 24).map (fun i => (i.zero, i.size, i.bytes)) = some (some (.agg #[.int .i64 0, .slice none 0 0]), 2, 32) := by kernel_rfl
theorem mk_strings (w : World) {n : Nat} (hn : n ≤ 1000000) : (Instr.makeSlice 65 (.int .i64 n) (.int .i64 n)).run Tryd.prog w = .ok (.slice (some ⟨w.heap.size, 0, none⟩) n n) (w.alloc (.cells (Array.replicate n (.string ⟨#[]⟩)) 9)) := by
  obtain ⟨i, hi, hz, hs, hb⟩ := info_parts info_string
  have h := run_make (P := Tryd.prog) w 65 9 i (.string ⟨#[]⟩) Tryd.underlying65 hi hz .i64 .i64 n n (by omega) (by omega) (by rw [hb]; omega) (by omega)
  rw [hs, Int.toNat_natCast, made_one _ rfl] at h
  exact h
theorem mk_bools (w : World) {n : Nat} (hn : n ≤ 1000000) : (Instr.makeSlice 66 (.int .i64 n) (.int .i64 n)).run Tryd.prog w = .ok (.slice (some ⟨w.heap.size, 0, none⟩) n n) (w.alloc (.cells (Array.replicate n (.bool false)) 4)) := by
  obtain ⟨i, hi, hz, hs, hb⟩ := info_parts info_bool
  have h := run_make (P := Tryd.prog) w 66 4 i (.bool false) Tryd.underlying66 hi hz .i64 .i64 n n (by omega) (by omega) (by rw [hb]; omega) (by omega)
  rw [hs, Int.toNat_natCast, made_one _ rfl] at h
  exact h
theorem new_bad {w : World} {n : Int} (hn : n < 0 ∨ 16384 < n) (v : Value) : Calls Tryd.prog 7 #[.int .i64 n, v] w fun e w' => e = .returned (.tuple #[.pointer none, .int .i64 1]) ∧ w = w' := by
  rcases hn with h | h
  all_goals
    go_enter Tryd.func7, Tryd.ntmps7
    go_wp2
    go_ret2
    exact ⟨rfl, rfl⟩
theorem nil_owns (w : World) (base e size : Nat) : w.ownsRow base e size (.slice none 0 0) 0 [] := ⟨by simp, .inl ⟨rfl, rfl⟩⟩
/-- append(nil, xs...) of integers. -/
theorem wpList_copy_ints (w : World) {ops : Array Oper} {rest : List Oper} {o : Oper} {a : Act} {Q : Exit → Act → World → Prop} (hgd : o.guard = none) (s x : Operand)
    (ho : o.op = .call { callee := .builtin .append, args := #[s, x], argTypes := #[22, 22] }) {S : Nat → Prop} {u : Value} {l : List Int} (hs : a.eval s = .slice none 0 0) (hx : a.eval x = u) (hu : IntsAt S u l w)
    (h : ∀ v' w', IntsAt (fun b => w.heap.size ≤ b) v' l w' → New w w' → wpList Tryd.prog ops Q rest (a.put o.dst v') w') : wpList Tryd.prog ops Q (o :: rest) a w := by
  obtain ⟨A, cap, rfl, hl, h0, hc⟩ := hu
  obtain ⟨i0, hi0, hz0, hz1, hz2⟩ := info_parts info_int
  cases A with
  | none =>
    have e : l = [] := by
      by_cases e : l = []
      · exact e
      · obtain ⟨b, off, hb, _⟩ := hc e
        cases hb
    subst e
    obtain rfl := h0 rfl
    exact wpList_append_own_none hgd s x 22 ho 0 3 i0 1 Tryd.underlying22 hi0 _ 0 [] hs (nil_owns _ _ _ _) hx (h _ _ ⟨none, 0, rfl, by simp, fun _ => rfl, fun e => absurd rfl e⟩ (Kept.refl _ _))
  | some ad =>
    refine wpList_append_own_at w hgd s x 22 ho w.heap.size 3 i0 (.int .i64 0) 1 8 Tryd.underlying22 hi0 hz0 hz1 hz2 rfl (by decide) _ 0 [] hs (nil_owns _ _ _ _) ad l.length cap (l.map (Value.int .i64)) hx (by simp) (fun j u hu => ?_) (fun u hu => ?_) (by unfold maxLen; omega) (by omega) (Nat.le_refl _) fun v' w' h2 h3 h4 h5 => h v' w' ?_ ((Kept.refl _ _).grown h3 fun k e => by cases e)
    · rw [List.getElem?_map] at hu
      cases hj : l[j]? with
      | none => rw [hj] at hu; cases hu
      | some z =>
        rw [hj] at hu
        cases hu
        obtain ⟨b, off, e, _, _, hcc⟩ := hc (by rintro rfl; simp at hj)
        cases e
        have := hcc j z hj
        have hadd : (⟨b, off, none⟩ : Addr).add j = ⟨b, off + j, none⟩ := by unfold Addr.add; split <;> simp_all
        rw [hadd]
        exact this
    · obtain ⟨z, _, rfl⟩ := List.mem_map.1 hu
      rfl
    · have h2' : w'.ownsRow w.heap.size 3 1 v' l.length (l.map (Value.int .i64)) := by simpa using h2
      obtain ⟨A', c', rfl, hle, hcm, hcells⟩ := owns_cells h2'
      refine ⟨A', c', rfl, hl, fun e => ?_, fun hne => ?_⟩
      · subst e
        rcases h2'.2 with ⟨e, _⟩ | ⟨g, cp, cur, e, _⟩
        · simp only [Value.slice.injEq] at e
          exact e.2.2
        · simp at e
      · obtain ⟨b, rfl, hb1, hb2, hb3⟩ := hcells (List.length_pos_iff.2 hne)
        refine ⟨b, 0, rfl, ?_, hb2, fun i z hz => ?_⟩
        · rcases h2'.2 with ⟨e, _⟩ | ⟨g, cp, cur, e, hb, _⟩
          · simp at e
          · simp at e
            exact e.1 ▸ hb
        · rw [Nat.zero_add]
          exact (hb3 i (.int .i64 z) (by rw [List.getElem?_map, hz]; rfl)).1
def ccells (zs : List ((Int × List Int) × Value)) : List Value := zs.flatMap fun p => [.int .i64 p.1.1, p.2]
theorem ccells_append (l m : List ((Int × List Int) × Value)) : ccells (l ++ m) = ccells l ++ ccells m := by simp [ccells]
theorem ccells_length (l : List ((Int × List Int) × Value)) : (ccells l).length = l.length * 2 := by
  induction l with
  | nil => rfl
  | cons p l ih => simp [ccells] at ih ⊢; omega
theorem ccells_at : ∀ (l : List ((Int × List Int) × Value)) (i : Nat) (p : (Int × List Int) × Value), l[i]? = some p → (ccells l)[i * 2]? = some (.int .i64 p.1.1) ∧ (ccells l)[i * 2 + 1]? = some p.2
  | [], i, p, h => by simp at h
  | q :: l, 0, p, h => by
    simp at h
    subst h
    exact ⟨rfl, rfl⟩
  | q :: l, i + 1, p, h => by
    have := ccells_at l i p (by simpa using h)
    have e : ccells (q :: l) = .int .i64 q.1.1 :: q.2 :: ccells l := rfl
    rw [e, show (i + 1) * 2 = i * 2 + 1 + 1 by omega, show i * 2 + 1 + 1 + 1 = (i * 2 + 1) + 1 + 1 by omega]
    simpa using this
/-- A disk under way: its cuts are taken one by one. -/
structure NewS (w : World) (q bd bt n : Nat) (l : List (Int × List Int)) (i : Nat) (vc : Value) (zs : List ((Int × List Int) × Value)) (wr : World) : Prop where
  fst : zs.map Prod.fst = l.take i
  blk : wr.heap[q]? = some (.cells #[.slice (some ⟨bd, 0, none⟩) n n, .slice (some ⟨bt, 0, none⟩) n n, .slice none 0 0, vc, .int .i64 0, .int .i64 0, .int .i64 0, .bool false] 69 (0, 0))
  data : wr.heap[bd]? = some (.cells (Array.replicate n (.string ⟨#[]⟩)) 9 (0, 0))
  torn : wr.heap[bt]? = some (.cells (Array.replicate n (.bool false)) 4 (0, 0))
  own : wr.ownsRow 0 24 2 vc zs.length (ccells zs)
  fates : ∀ z ∈ zs, IntsAt (fun b => w.heap.size ≤ b ∧ b ≠ q ∧ b ≠ bd ∧ b ≠ bt ∧ vc.ownBlock ≠ some b) z.2 z.1.2 wr
  one : ∀ z ∈ zs, z.2.oneCell' = true
  vq : ∀ b, vc.ownBlock = some b → w.heap.size ≤ b ∧ b ≠ q ∧ b ≠ bd ∧ b ≠ bt
  old : w.heap.size ≤ q ∧ w.heap.size ≤ bd ∧ w.heap.size ≤ bt
  ne : q ≠ bd ∧ q ≠ bt ∧ bd ≠ bt
  new : New w wr
theorem NewS.done {w wr : World} {q bd bt n : Nat} {l : List (Int × List Int)} {vc : Value} {zs : List ((Int × List Int) × Value)} (h : NewS w q bd bt n l l.length vc zs wr) (hn : n ≤ 16384) : Disk q (DS.new n l) (fun b => w.heap.size ≤ b) wr := by
  have hz : zs.map Prod.fst = l := by rw [h.fst, List.take_length]
  have hlen : zs.length = l.length := by rw [← hz]; simp
  have hq := blk_lt h.blk
  refine ⟨fun b => w.heap.size ≤ b ∧ b ≠ q ∧ b ≠ bd ∧ b ≠ bt, bd, bt, .slice none 0 0, vc, ⟨h.blk, ⟨_, h.data, fun i hi => (by have h9 : i < n := hi; simp [DS.new, h9])⟩, ⟨_, h.torn, fun i hi => (by have h9 : i < n := hi; simp [DS.new, h9])⟩, nil_owns _ _ _ _, ?_, fun x hx => (by simp [DS.new] at hx), hn, h.ne.1, h.ne.2.1, h.ne.2.2, fun b hb => (by cases hb), fun b hb => ⟨hb.2.1, hb.2.2.1, hb.2.2.2, by simp [Value.ownBlock]⟩⟩, fun b hb => hb.1, h.old.1, h.old.2.1, h.old.2.2, fun b hb => (by cases hb), fun b hb => Nat.le_trans h.new.size hb⟩
  rcases h.own.2 with ⟨e, h0⟩ | ⟨g, cap, cur, e, hb, hg, h1, h2, h3, h4⟩
  · have : zs = [] := by
      have := ccells_length zs
      rw [h0] at this
      simp at this
      exact List.length_eq_zero_iff.1 (by omega)
    rw [this] at hz
    subst e
    rw [← hz]
    exact ⟨none, 0, rfl, Nat.le_refl _, Nat.zero_le _, fun e => absurd rfl e⟩
  · subst e
    have hv := h.vq g rfl
    refine ⟨_, cap, by rw [hlen]; rfl, by simp only [DS.new]; omega, h2, fun _ => ⟨g, 0, rfl, hv, blk_lt hg, fun i c hi => ?_⟩⟩
    have hi' : (zs.map Prod.fst)[i]? = some c := by rw [hz]; exact hi
    rw [List.getElem?_map] at hi'
    obtain ⟨z, hzi, rfl⟩ := Option.map_eq_some_iff.1 hi'
    have hil : i < zs.length := (List.getElem?_eq_some_iff.1 hzi).1
    obtain ⟨w1, w2⟩ := ccells_at zs i z hzi
    rw [← h4, List.getElem?_take, if_pos (by omega)] at w1
    rw [← h4, List.getElem?_take, if_pos (by omega)] at w2
    rw [Nat.zero_add]
    exact ⟨(cell_at hg _).trans (by simpa using w1), z.2, (cell_at hg _).trans (by simpa using w2), (h.fates z (List.mem_of_getElem? hzi)).mono fun b _ hb => ⟨hb.1, hb.2.1, hb.2.2.1, hb.2.2.2.1⟩⟩
theorem NewS.kept {w wr W : World} {q bd bt n i : Nat} {l : List (Int × List Int)} {vc : Value} {zs : List ((Int × List Int) × Value)} (h : NewS w q bd bt n l i vc zs wr) (hk : New wr W) : NewS w q bd bt n l i vc zs W :=
  ⟨h.fst, hk.at h.blk id, hk.at h.data id, hk.at h.torn id, owns_kept hk h.own fun _ _ => id, fun z hz => (h.fates z hz).kept hk fun _ _ _ => id, h.one, h.vq, h.old, h.ne, h.new.trans hk⟩
theorem NewS.step {w W3 W w4 : World} {q bd bt n i m g cap H : Nat} {l : List (Int × List Int)} {vc v : Value} {zs : List ((Int × List Int) × Value)} {c : Int × List Int} (h : NewS w q bd bt n l i vc zs W3) (hc : l[i]? = some c) (hm : w.heap.size ≤ m ∧ q < m ∧ bd < m ∧ bt < m ∧ ∀ b, vc.ownBlock = some b → b < m) (hv : IntsAt (fun b => m < b) v c.2 W3) (hone : v.oneCell' = true)
    (hN : New W3 W) (hown : w4.ownsRow 0 24 2 (.slice (some ⟨g, 0, none⟩) (zs.length + 1) cap) (zs.length + 1) (ccells zs ++ [.int .i64 c.1, v])) (hgrow : W.grownBy w4 vc.ownBlock) (hat : vc.ownBlock = some g ∨ g = H) (hH : W.heap.size = H) :
    w4.cell? ⟨q, 3, none⟩ = some vc ∧ w4.frozen? ⟨q, 3, none⟩ = false ∧ Hid (NewS w q bd bt n l (i + 1) (.slice (some ⟨g, 0, none⟩) (zs.length + 1) cap) (zs ++ [(c, v)]) (w4.setCell ⟨q, 3, none⟩ (.slice (some ⟨g, 0, none⟩) (zs.length + 1) cap))) := by
  have k3 : Kept (fun b => vc.ownBlock = some b) W3 w4 := (hN.mono fun _ _ e => e.elim).grown hgrow fun k e => .inl e
  have kq : Kept (fun b => b = q) w4 (w4.setCell ⟨q, 3, none⟩ (.slice (some ⟨g, 0, none⟩) (zs.length + 1) cap)) := keptq w4 3 _
  have kk : Kept (fun b => b = q ∨ vc.ownBlock = some b) W3 (w4.setCell ⟨q, 3, none⟩ (.slice (some ⟨g, 0, none⟩) (zs.length + 1) cap)) := (k3.mono fun _ _ e => .inr e).trans (kq.mono fun _ _ e => .inl e)
  have bq : w4.heap[q]? = _ := k3.at h.blk fun e => (h.vq q e).2.1 rfl
  have hsz := hN.size
  have hq3 := blk_lt h.blk
  have hd3 := blk_lt h.data
  have ht3 := blk_lt h.torn
  have hw3 := h.new.size
  have gn : vc.ownBlock = some g ∨ W3.heap.size ≤ g := hat.imp id fun e => by omega
  have gq : w.heap.size ≤ g ∧ g ≠ q ∧ g ≠ bd ∧ g ≠ bt := by
    rcases gn with e | e
    · exact h.vq g e
    · omega
  have hil : i < l.length := (List.getElem?_eq_some_iff.1 hc).1
  refine ⟨(cell_at bq 3).trans rfl, frozen_at bq 3, hid ⟨?_, (heap_setCell_same bq).trans (by simp), kk.at h.data ?_, kk.at h.torn ?_, ?_, fun z hz => ?_, fun z hz => ?_, fun b hb => ?_, h.old, h.ne, ?_⟩⟩
  · rw [List.map_append, h.fst, List.take_add_one, hc]
    rfl
  · rintro (e | e)
    · exact h.ne.1 e.symm
    · exact (h.vq _ e).2.2.1 rfl
  · rintro (e | e)
    · exact h.ne.2.1 e.symm
    · exact (h.vq _ e).2.2.2 rfl
  · have e1 : ccells (zs ++ [(c, v)]) = ccells zs ++ [.int .i64 c.1, v] := ccells_append _ _
    rw [e1, List.length_append]
    exact own_set_other hown (p := ⟨q, 3, none⟩) (by simp [Value.ownBlock, gq.2.1]) _
  · rcases List.mem_append.1 hz with hz | hz
    · have h1 := h.fates z hz
      refine (h1.mono (S' := fun b => (w.heap.size ≤ b ∧ b ≠ q ∧ b ≠ bd ∧ b ≠ bt ∧ vc.ownBlock ≠ some b) ∧ b < W3.heap.size) fun b hb hs => ⟨hs, hb⟩).kept kk (fun b _ hs => ?_) |>.mono fun b _ hs => ⟨hs.1.1, hs.1.2.1, hs.1.2.2.1, hs.1.2.2.2.1, fun e => ?_⟩
      · rintro (e | e)
        · exact hs.1.2.1 e
        · exact hs.1.2.2.2.2 e
      · have : g = b := by simpa [Value.ownBlock] using e
        subst this
        rcases gn with e | e
        · exact hs.1.2.2.2.2 e
        · exact absurd hs.2 (by omega)
    · obtain rfl : z = (c, v) := by simpa using hz
      refine (hv.mono (S' := fun b => m < b ∧ b < W3.heap.size) fun b hb hs => ⟨hs, hb⟩).kept kk (fun b _ hs => ?_) |>.mono fun b _ hs => ⟨by omega, by omega, by omega, by omega, fun e => ?_⟩
      · rintro (e | e)
        · omega
        · have := hm.2.2.2.2 b e; omega
      · have : g = b := by simpa [Value.ownBlock] using e
        subst this
        rcases gn with e | e
        · have := hm.2.2.2.2 g e; omega
        · omega
  · rcases List.mem_append.1 hz with hz | hz
    · exact h.one z hz
    · obtain rfl : z = (c, v) := by simpa using hz
      exact hone
  · have : g = b := by simpa [Value.ownBlock] using hb
    exact this ▸ gq
  · exact h.new.trans' kk fun x hx e => by
      rcases e with e | e
      · have := h.old.1; omega
      · have := (h.vq x e).1; omega
set_option maxHeartbeats 1600000 in
set_option maxRecDepth 100000 in
theorem new_calls {S0 : Nat → Prop} {w : World} {n : Nat} (hn : n ≤ 16384) {v : Value} {l : List (Int × List Int)} (hv : CutsAt S0 v l w) (hl : l.length ≤ 1000000) : Calls Tryd.prog 7 #[.int .i64 n, v] w fun e w' => ∃ q, e = .returned (.tuple #[.pointer (some ⟨q, 0, none⟩), .int .i64 0]) ∧ w.heap.size ≤ q ∧ Disk q (DS.new n l) (fun b => w.heap.size ≤ b) w' ∧ New w w' := by
  obtain ⟨A, cap, rfl, hc1, hc2, hc3⟩ := hv
  have hm1 := fun w : World => mk_strings w (n := n) (by omega)
  have hm2 := fun w : World => mk_bools w (n := n) (by omega)
  have HC := hid hc3
  have HS : Hid (∀ W, (∃ bd bt, NewS w (w.heap.size + 1 + 1) bd bt n l 0 (.slice none 0 0) [] W) → True) := hid fun _ _ => trivial
  have h1 : ∃ bd bt, NewS w (w.heap.size + 1 + 1) bd bt n l 0 (.slice none 0 0) [] (((w.alloc (.cells (Array.replicate n (.string ⟨#[]⟩)) 9)).alloc (.cells (Array.replicate n (.bool false)) 4)).alloc (.cells #[.slice (some ⟨w.heap.size, 0, none⟩) n n, .slice (some ⟨w.heap.size + 1, 0, none⟩) n n, .slice none 0 0, .slice none 0 0, .int .i64 0, .int .i64 0, .int .i64 0, .bool false] 69)).drew := by
    refine ⟨w.heap.size, w.heap.size + 1, rfl, blk_drew (blk_at _ _ (by simp)), blk_drew (blk_alloc (blk_alloc (blk_new _ _) _) _), blk_drew (blk_alloc (blk_at _ _ (by simp)) _), nil_owns _ _ _ _, fun z hz => (by simp at hz), fun z hz => (by simp at hz), fun b hb => (by cases hb), by omega, by omega, ((((Kept.refl _ _).alloc _).alloc _).alloc _).drew⟩
  have h2 : ∃ bd bt, NewS w (w.heap.size + 1 + 1) bd bt n l 0 (.slice none 0 0) [] (((w.alloc (.cells (Array.replicate n (.bool false)) 4)).alloc (.cells (Array.replicate n (.string ⟨#[]⟩)) 9)).alloc (.cells #[.slice (some ⟨w.heap.size + 1, 0, none⟩) n n, .slice (some ⟨w.heap.size, 0, none⟩) n n, .slice none 0 0, .slice none 0 0, .int .i64 0, .int .i64 0, .int .i64 0, .bool false] 69)).drew := by
    refine ⟨w.heap.size + 1, w.heap.size, rfl, blk_drew (blk_at _ _ (by simp)), blk_drew (blk_alloc (blk_at _ _ (by simp)) _), blk_drew (blk_alloc (blk_alloc (blk_new _ _) _) _), nil_owns _ _ _ _, fun z hz => (by simp at hz), fun z hz => (by simp at hz), fun b hb => (by cases hb), by omega, by omega, ((((Kept.refl _ _).alloc _).alloc _).alloc _).drew⟩
  have H1 := hid h1
  have H2 := hid h2
  clear hc3 h1 h2 HS
  go_enter Tryd.func7, Tryd.ntmps7
  go_upto_region 3 with fail
  go_cut [6] (fun v wc => v = .pointer (some ⟨w.heap.size + 1 + 1, 0, none⟩) ∧ Hid (∃ bd bt, NewS w (w.heap.size + 1 + 1) bd bt n l 0 (.slice none 0 0) [] wc))
  case first =>
    go_region
    all_goals
      go_wp2_with fail
      go_meet
      first | exact ⟨rfl, H1⟩ | exact ⟨rfl, H2⟩
  case rest =>
    obtain ⟨rfl, HN⟩ := hcut
    obtain ⟨bd, bt, hS⟩ := HN.out
    clear H1 H2 HN
    have HS := hid hS
    clear hS
    go_wp2
    go_loopw [23] (fun v23 wr => ∃ (i : Nat), v23 = .int .i64 i ∧ i ≤ l.length ∧ Hid (∃ vc zs, NewS w (w.heap.size + 1 + 1) bd bt n l i vc zs wr)) (fun v _ => l.length - (intOf v).toNat)
    case atStart => exact ⟨0, rfl, Nat.zero_le _, hid ⟨_, _, HS.out⟩⟩
    case round =>
      obtain ⟨i, rfl, hi, HR⟩ := hrel
      obtain ⟨vc, zs, hR⟩ := HR.out
      by_cases hlt : i < l.length
      · as_aux_lemma =>
        obtain ⟨b, off, rfl, hSb, hbl, hcc⟩ := HC.out (by rintro rfl; simp at hlt)
        obtain ⟨c1, u, c2, hu⟩ := hcc i l[i] (by simp [hlt])
        have hN := hR.new
        have x1 := (cell_kept hN hbl id (off + i * 2)).trans c1
        have x2 := (cell_kept hN hbl id (off + i * 2 + 1)).trans c2
        have HU := hid (hu.kept hN fun _ _ _ => id)
        obtain ⟨A2, cap2, hA2, -⟩ := hu
        subst hA2
        have HR := hid hR
        have hzi : zs.length = i := by
          have := congrArg List.length hR.fst
          simp at this
          omega
        have hci : l[i]? = some l[i] := by simp [hlt]
        have HCI := hid hci
        clear hcc c1 c2 hN hR HC HS hci
        generalize l[i] = c at *
        obtain ⟨cat, cf⟩ := c
        simp only at x1 x2 HU
        have hlq := blk_lt HR.out.blk
        have hld := blk_lt HR.out.data
        have hlt2 := blk_lt HR.out.torn
        have hlv : ∀ b, vc.ownBlock = some b → b < wr.heap.size := fun b hb => own_lt HR.out.own hb
        have HLV := hid hlv
        clear hlv
        obtain ⟨i0, hi0, hz0, hz1, hz2⟩ := info_parts info_cut
        have hw0 := HR.out.new.size
        go_wp2_with (first
          | (at_builtin; refine wpList_copy_ints _ rfl (.const (.slice none 0 0)) (.tmp 28) rfl rfl rfl (HU.out.kept ((Kept.refl (fun _ => False) wr).alloc _) fun _ _ _ => id) ?_; intro v2 w2 hv2 hn2; have HV2 := hid hv2; have HN2 := hid hn2; have e1 : w2.cell? ⟨wr.heap.size, 1, none⟩ = some _ := (cell_at (hn2.at (blk_new _ _) id) 1).trans rfl; have e2 := frozen_at (hn2.at (blk_new _ _) id) 1; obtain ⟨A3, cap3, hA3, -⟩ := hv2; subst hA3; clear hn2))
        have HB := hid (heap_setCell_same (HN2.out.at (blk_new wr _) id) (i := 1) (u := .slice A3 cf.length cap3))
        have hN3 : New wr (w2.setCell ⟨wr.heap.size, 1, none⟩ (.slice A3 cf.length cap3)) := ((((Kept.refl _ _).alloc _).trans HN2.out).setCell (.inr (Nat.le_refl _)) _)
        have HR3 := hid (HR.out.kept hN3)
        have HV3 : Hid (IntsAt (fun b => wr.heap.size < b) (.slice A3 cf.length cap3) cf (w2.setCell ⟨wr.heap.size, 1, none⟩ (.slice A3 cf.length cap3))) := hid ((HV2.out.mono (S' := fun b => wr.heap.size < b) fun b _ hb => by simp at hb; omega).kept (keptq w2 1 _) fun b _ hs e => by omega)
        generalize hW3 : w2.setCell ⟨wr.heap.size, 1, none⟩ (.slice A3 cf.length cap3) = W3 at *
        have y0 : W3.cell? ⟨wr.heap.size, 0, none⟩ = some (.int .i64 cat) := (cell_at HB.out 0).trans rfl
        have y1 : W3.cell? ⟨wr.heap.size, 1, none⟩ = some (.slice A3 cf.length cap3) := (cell_at HB.out 1).trans rfl
        have y3 : W3.cell? ⟨w.heap.size + 1 + 1, 3, none⟩ = some vc := (cell_at HR3.out.blk 3).trans rfl
        have y3' : ∀ o, (W3.alloc o).cell? ⟨w.heap.size + 1 + 1, 3, none⟩ = some vc := fun o => (cell_at (blk_alloc HR3.out.blk o) 3).trans rfl
        clear HV2 HN2 HB HR HU e1 e2 x1 x2 hW3 hN3
        go_region_law (first
          | (refine step_append_lies _ rfl (.tmp 35) (.tmp 37) 29 rfl 0 24 i0 (.agg #[.int .i64 0, .slice none 0 0]) 2 32 Tryd.underlying29 hi0 hz0 hz1 hz2 rfl (by decide) vc zs.length (ccells zs) rfl (World.ownsRow.alloc HR3.out.own _) _ 1 1 [.int .i64 cat, .slice A3 cf.length cap3] rfl rfl (by first | exact World.news_of_block (blk_drew (blk_at _ _ (by simp))) | exact World.news_of_block (blk_at _ _ (by simp))) (by intro u hu; simp at hu; rcases hu with rfl | rfl <;> rfl) (by decide) (by unfold maxLen; omega) (by omega) (Nat.zero_le _) _ rfl ?_; intro g capg w4 hown hgrow hat hlt4; obtain ⟨z1, z2, HS4⟩ := HR3.out.step (c := (cat, cf)) (v := .slice A3 cf.length cap3) HCI.out ⟨hw0, hlq, hld, hlt2, HLV.out⟩ HV3.out rfl ((Kept.refl _ _).alloc _).drew hown hgrow hat rfl; clear hown hgrow hat hlt4))
        all_goals
          go_wp2
          go_roundw
          case rel => exact ⟨i + 1, by go_num, by omega, hid ⟨_, _, by have h := HS4.out; rw [hzi] at h; exact h⟩⟩
          case measure => simp [intOf]; omega
      · as_aux_lemma =>
        obtain rfl : i = l.length := by omega
        have HD := hid (hR.done hn)
        have HNw := hid hR.new
        clear HC HS HR hR
        go_wp2
        go_ret2
        exact ⟨_, rfl, by omega, HD.out, HNw.out⟩
end Go.Proofs.YtolifmpjbmekdaaDoor
