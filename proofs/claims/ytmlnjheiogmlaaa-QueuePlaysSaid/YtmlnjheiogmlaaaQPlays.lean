/-
QueuePlays: numbers wait each once and come in their order, two queues do not meet, and the Go call of the law answers true; conditions: the acts lie in memory as told.
-/
import Derived.Test.YtmlnjheiogmlaaaPlays
namespace Go.Proofs.Ytmlnjheiogmlaaa
open Go.RowKit Go.Lib Go.Proofs.Ytmlnjheiogmlaaa.F Go.Proofs.Ytmlnjheiogmlaaa.Pure Go.Proofs.YtmlnjheiogmlaaaW.PrintWords
/-- Acts that came in. -/
def Acts (A : Option Addr) (zs : List (Int × Int × Bool)) (w : World) : Prop :=
  zs ≠ [] → ∃ b off, A = some ⟨b, off, none⟩ ∧ b < w.heap.size ∧ ∀ (i : Nat) v, zs[i]? = some v → w.cell? ⟨b, off + i * 3, none⟩ = some (.int .i64 v.1) ∧ w.cell? ⟨b, off + i * 3 + 1, none⟩ = some (.int .u64 v.2.1) ∧ w.cell? ⟨b, off + i * 3 + 2, none⟩ = some (.bool v.2.2)
/-- Two queues over the same keys, and the lists of what waits. -/
structure Two (w0 : World) (q1 q2 g a b : Nat) (l m : List Nat) (A B : Addr) (F : Nat → Prop) (kv : List (ByteArray × ByteArray)) (W : World) : Prop where
  one : QS 97 q1 g a l F kv W
  two : QS 98 q2 g b m F kv W
  x : NumRow F (some A) l W
  y : NumRow F (some B) m W
  only : ∀ k, ¬ IsKey 97 k → ¬ IsKey 98 k → kvGet kv k = nothing
  base : ∀ b, F b → w0.heap.size ≤ b
  below : Below w0.heap.size w0 W
theorem Two.new {w0 : World} {q1 q2 g a b : Nat} {l m : List Nat} {A B : Addr} {F : Nat → Prop} {kv : List (ByteArray × ByteArray)} {W W' : World} (h : Two w0 q1 q2 g a b l m A B F kv W) (hn : New W W') : Two w0 q1 q2 g a b l m A B F kv W' :=
  ⟨h.one.new hn, h.two.new hn, h.x.new hn, h.y.new hn, h.only, h.base, h.below.trans (hn.below h.below.size fun _ e => e.elim)⟩
theorem QI.beside {c d : UInt8} {a : Nat} {l : List Nat} {kv kv' : List (ByteArray × ByteArray)} (h : QI d a l (kvGet kv)) (hcd : c ≠ d) (ha : Apart c kv kv') : QI d a l (kvGet kv') :=
  h.apart fun k hk => ha k fun e => isKey_apart hcd e hk rfl
theorem Two.act1 {w0 : World} {q1 q2 g a b a' : Nat} {l m l' : List Nat} {A B A' : Addr} {F F' : Nat → Prop} {kv kv' : List (ByteArray × ByteArray)} {W W' : World} (h : Two w0 q1 q2 g a b l m A B F kv W)
    (hq : QS 97 q1 g a' l' F' kv' W') (hn : NumRow F' (some A') l' W') (hap : Apart 97 kv kv') (hF : ∀ b, F' b → F b) (hK : Kept F W W') : Two w0 q1 q2 g a' b l' m A' B F' kv' W' :=
  ⟨hq, ⟨h.two.que.kept hK h.two.out, hq.kvs, hq.once, h.two.qi.beside (by decide) hap, fun e => h.two.out (hF _ e), hq.few, h.two.low⟩, hn, (h.y.kept hK).less hF, fun k h1 h2 => (hap k h1).trans (h.only k h1 h2), fun b e => h.base b (hF b e), h.below.trans (hK.below h.below.size h.base)⟩
theorem Two.act2 {w0 : World} {q1 q2 g a b b' : Nat} {l m m' : List Nat} {A B B' : Addr} {F F' : Nat → Prop} {kv kv' : List (ByteArray × ByteArray)} {W W' : World} (h : Two w0 q1 q2 g a b l m A B F kv W)
    (hq : QS 98 q2 g b' m' F' kv' W') (hn : NumRow F' (some B') m' W') (hap : Apart 98 kv kv') (hF : ∀ b, F' b → F b) (hK : Kept F W W') : Two w0 q1 q2 g a b' l m' A B' F' kv' W' :=
  ⟨⟨h.one.que.kept hK h.one.out, hq.kvs, hq.once, h.one.qi.beside (by decide) hap, fun e => h.one.out (hF _ e), hq.few, h.one.low⟩, hq, (h.x.kept hK).less hF, hn, fun k h1 h2 => (hap k h2).trans (h.only k h1 h2), fun b e => h.base b (hF b e), h.below.trans (hK.below h.below.size h.base)⟩
theorem Two.empty {w0 : World} {q1 q2 g a b : Nat} {A B : Addr} {F : Nat → Prop} {kv : List (ByteArray × ByteArray)} {W : World} (h : Two w0 q1 q2 g a b [] [] A B F kv W) : kv = [] :=
  empty_of fun k => by
    by_cases h1 : IsKey 97 k
    · exact h.one.qi.empty h1
    · by_cases h2 : IsKey 98 k
      · exact h.two.qi.empty h2
      · exact h.only k h1 h2
set_option maxHeartbeats 3200000 in
set_option maxRecDepth 100000 in
theorem queuePlays_walk (A : Option Addr) (cap : Nat) (zs : List (Int × Int × Bool)) (w : World) (hA : Acts A zs w) :
    Calls Try.prog 4 #[.slice A zs.length cap] w fun e w' => e = .returned (.bool true) ∧ Below w.heap.size w w' := by
  have HA := hid hA
  clear hA
  go_enter Try.func4, Try.ntmps4
  go_wp2_with (first | (go_at_call 8; (with_reducible refine (que_new (nm := ⟨#[97]⟩)).mono ?_); rintro e w1 ⟨q1, rfl, hq1, hle1, hb1⟩) | (go_at_call 8; (with_reducible refine (que_new (nm := ⟨#[98]⟩)).mono ?_); rintro e w2 ⟨q2, rfl, hq2, hle2, hb2⟩) | (go_at_call 12; (with_reducible refine (queue_awake _).mono ?_); rintro e w3 ⟨rfl, hb3⟩))
  have N1 := new_of_below hb1
  have N2 := new_of_below hb2
  have N3 : New w2 w3 := ((((Kept.refl _ w2).alloc _).alloc _).trans (new_of_below hb3))
  have l1 := que_lt hq1
  have l2 := que_lt hq2
  have z1 := N1.size
  have z2 := N2.size
  have z3 := N3.size
  simp at hle1 z1
  have hT : ∃ F, Two w q1 q2 w.heap.size 0 0 [] [] ⟨w2.heap.size, 0, none⟩ ⟨w2.heap.size + 1, 0, none⟩ F [] w3 := by
    have hk : KVs w.heap.size (fun b => w.heap.size ≤ b ∧ b ≠ q1 ∧ b ≠ q2) [] w3 := KVs.start rfl ((N1.trans N2).trans N3) ⟨Nat.le_refl _, by omega, by omega⟩ (fun b hb => ⟨by omega, by omega, by omega⟩)
    refine ⟨_, ⟨(hq1.new N2).new N3, hk, List.nodup_nil, QI.start _, fun e => e.2.1 rfl, by decide, by decide⟩, ⟨hq2.new N3, hk, List.nodup_nil, QI.start _, fun e => e.2.2 rfl, by decide, by decide⟩, NumRow.nil _ _ _, NumRow.nil _ _ _, fun _ _ _ => rfl, fun b e => e.1, ?_⟩
    exact below_step (below_step (below_alloc (Below.refl _ _) _) hb1) ((below_step hb2 (below_step (below_alloc (below_alloc (Below.refl _ _) _) _) hb3)))
  have HT := hid hT
  clear hT N1 N2 N3 l1 l2 z1 z2 z3 hle1 hle2 hq1 hq2 hb1 hb2 hb3
  generalize (⟨w2.heap.size, 0, none⟩ : Addr) = A0 at *
  generalize (⟨w2.heap.size + 1, 0, none⟩ : Addr) = B0 at *
  go_loopw [6, 7, 8] (fun v6 v7 v8 wr => ∃ (i : Nat) (l m : List Nat) (C D : Addr) (cx cy : Nat), v6 = .slice (some C) l.length cx ∧ v7 = .slice (some D) m.length cy ∧ v8 = .int .i64 (i : Int) ∧ i ≤ 80 ∧ i ≤ zs.length ∧ l.length ≤ i ∧ m.length ≤ i ∧ l.length ≤ cx ∧ m.length ≤ cy ∧ Hid (∃ F kv a b, Two w q1 q2 w.heap.size a b l m C D F kv wr ∧ kv.length ≤ 6 * i ∧ a + l.length ≤ i ∧ b + m.length ≤ i)) (fun _ _ v8 _ => 80 - (intOf v8).toNat)
  case atStart =>
    obtain ⟨F, h⟩ := HT.out
    exact ⟨0, [], [], A0, B0, 0, 0, rfl, rfl, rfl, by omega, by omega, by simp, by simp, by simp, by simp, hid ⟨F, [], 0, 0, h, by simp, by simp, by simp⟩⟩
  case round =>
    obtain ⟨i, l, m, C, D, cx, cy, rfl, rfl, rfl, hi1, hi2, hl, hm, hcx, hcy, HR⟩ := hrel
    clear HT
    obtain ⟨F, kv, a, b, hT, hkl, hal, hbm⟩ := HR.out
    clear HR
    by_cases hgo : i < zs.length ∧ i < 80
    · obtain ⟨hlt, hlt2⟩ := hgo
      obtain ⟨bk, off, rfl, hbl, hz⟩ := HA.out (by intro e; subst e; simp at hlt)
      obtain ⟨c0, c1, c2⟩ := hz i zs[i] (List.getElem?_eq_getElem hlt)
      have d0 := (hT.below.cell (p := ⟨bk, off + i * 3, none⟩) hbl).trans c0
      have d1 := (hT.below.cell (p := ⟨bk, off + i * 3 + 1, none⟩) hbl).trans c1
      have d2 := (hT.below.cell (p := ⟨bk, off + i * 3 + 2, none⟩) hbl).trans c2
      generalize zs[i] = z at d0 d1 d2
      obtain ⟨t, N, ot⟩ := z
      simp only at d0 d1 d2
      clear c0 c1 c2 hz
      have hu := Try.underlying41
      have hme : Hid (80 - ((i : Int) + 1).toNat < 80 - (i : Int).toNat) := by unfold Hid; omega
      cases ot
      · have hP := hid (plays_any t N false hT.one hT.x hcx (by omega) (by omega))
        have HT := hid hT
        clear hT
        go_wp2_with (first | (go_at_call 14; (with_reducible refine hP.out.mono ?_); rintro e w4 ⟨A', cv', l', a', F', kv', rfl, hq, hn, hc, hap, hk, ha, hF, hK⟩; have T4 := hid (HT.out.act1 hq hn hap hF hK); clear hq hn hap hF hK) | (go_at_call 13; (with_reducible refine T4.out.one.kvs.len.mono ?_); rintro e w5 ⟨rfl, rfl⟩))
        all_goals first
          | exact ⟨⟨i + 1, l', m, A', D, cv', cy, rfl, rfl, by go_num, by omega, by omega, by omega, by omega, hc, hcy, hid ⟨F', kv', a', b, T4.out, by omega, by omega, by omega⟩⟩, hme.out⟩
          | (exfalso
             have e1 : (l'.length : Int) + (m.length : Int) = 0 := by assumption
             have e2 : 0 < kv'.length := by assumption
             have h1 : l' = [] := List.length_eq_zero_iff.1 (by omega)
             have h2 : m = [] := List.length_eq_zero_iff.1 (by omega)
             have h3 := T4.out
             rw [h1, h2] at h3
             rw [h3.empty] at e2
             exact absurd e2 (by simp))
      · have hP := hid (plays_any t N true hT.two hT.y hcy (by omega) (by omega))
        have HT := hid hT
        clear hT
        go_wp2_with (first | (go_at_call 14; (with_reducible refine hP.out.mono ?_); rintro e w4 ⟨A', cv', l', a', F', kv', rfl, hq, hn, hc, hap, hk, ha, hF, hK⟩; have T4 := hid (HT.out.act2 hq hn hap hF hK); clear hq hn hap hF hK) | (go_at_call 13; (with_reducible refine T4.out.one.kvs.len.mono ?_); rintro e w5 ⟨rfl, rfl⟩))
        all_goals first
          | exact ⟨⟨i + 1, l, l', C, A', cx, cv', rfl, rfl, by go_num, by omega, by omega, by omega, by omega, hcx, hc, hid ⟨F', kv', a, a', T4.out, by omega, by omega, by omega⟩⟩, hme.out⟩
          | (exfalso
             have e1 : (l.length : Int) + (l'.length : Int) = 0 := by assumption
             have e2 : 0 < kv'.length := by assumption
             have h1 : l = [] := List.length_eq_zero_iff.1 (by omega)
             have h2 : l' = [] := List.length_eq_zero_iff.1 (by omega)
             have h3 := T4.out
             rw [h1, h2] at h3
             rw [h3.empty] at e2
             exact absurd e2 (by simp))
    · have HB := hid hT.below
      clear hT hkl hal hbm
      rcases (by omega : ¬ i < zs.length ∨ (i < zs.length ∧ ¬ i < 80)) with hgo1 | ⟨hgo1, hgo2⟩
      all_goals
        clear hgo
        go_wp2
        go_ret
        exact ⟨rfl, HB.out⟩
end Go.Proofs.Ytmlnjheiogmlaaa
