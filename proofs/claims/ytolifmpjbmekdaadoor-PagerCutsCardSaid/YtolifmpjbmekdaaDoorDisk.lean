/-
The disk's acts: settle, fate, act; conditions: the disk lies in memory as told.
-/
import Derived.Test.YtolifmpjbmekdaaDoorDs
import Derived.Deep.RegionHeld3
namespace Go.Proofs.YtolifmpjbmekdaaDoor
open Go.RowKit Go.Lib
theorem fate_calls {S : Nat → Prop} {v : Value} {l : List Int} {w : World} (h : IntsAt S v l w) (i : Nat) :
    Calls Tryd.prog 61 #[v, .int .i64 i] w fun e w' => e = .returned (.int .i64 (fateOf l i)) ∧ w = w' := by
  obtain ⟨A, cap, rfl, hl, -, h⟩ := h
  have hl : l.length ≤ 9223372036854775807 := by omega
  by_cases hlt : i < l.length
  · obtain ⟨b, off, rfl, _, _, hc⟩ := h (by rintro rfl; simp at hlt)
    have c := hc i l[i] (by simp [hlt])
    have hf : Hid (fateOf l i = ((l[i].tmod 3 + 3).tmod 3).toNat) := by
      unfold Hid fateOf
      rw [List.getElem?_eq_getElem hlt]
    have ht := tmod_range l[i]
    have h1 := Int.lt_tmod_of_pos l[i] (show (0 : Int) < 3 by decide)
    have h2 := Int.tmod_lt_of_pos l[i] (show (0 : Int) < 3 by decide)
    have e : IntKind.i64.wrap (l[i].tmod 3 + 3) = l[i].tmod 3 + 3 := by rw [IntKind.wrap_i64]; omega
    have HT := hid ht
    clear ht h hc
    generalize l[i] = z at *
    go_enter Tryd.func61, Tryd.ntmps61
    go_wp2
    go_ret
    have e2 : (z.tmod 3 + 3) % 3 = (z.tmod 3 + 3).tmod 3 := (Int.tmod_eq_emod_of_nonneg (by omega)).symm
    rw [hf.out, e2, ← HT.out.1]
    exact ⟨rfl, rfl⟩
  · have hf : fateOf l i = 0 := by
      unfold fateOf
      rw [List.getElem?_eq_none (by omega)]
    rw [hf]
    clear h hf
    go_enter Tryd.func61, Tryd.ntmps61
    go_wp2
    go_ret
    exact ⟨rfl, rfl⟩
theorem DiskAt.reads {S : Nat → Prop} {q bd bt : Nat} {vw vc : Value} {D : DS} {w : World} (h : DiskAt S q bd bt vw vc D w) {i : Nat} (hi : i < D.n) :
    w.cell? ⟨q, 0, none⟩ = some (.slice (some ⟨bd, 0, none⟩) D.n D.n) ∧ w.cell? ⟨q, 1, none⟩ = some (.slice (some ⟨bt, 0, none⟩) D.n D.n) ∧ w.cell? ⟨bd, i, none⟩ = some (.string (D.data i)) ∧ w.frozen? ⟨bd, i, none⟩ = false ∧ w.cell? ⟨bt, i, none⟩ = some (.bool (D.torn i)) ∧ w.frozen? ⟨bt, i, none⟩ = false := by
  obtain ⟨ad, had, had2⟩ := h.data
  obtain ⟨at_, hat, hat2⟩ := h.torn
  exact ⟨h.cell 0, h.cell 1, (cell_at had i).trans (had2 i hi), frozen_at had i, (cell_at hat i).trans (hat2 i hi), frozen_at hat i⟩
theorem DiskAt.drew {S : Nat → Prop} {q bd bt : Nat} {vw vc : Value} {D : DS} {w : World} (h : DiskAt S q bd bt vw vc D w) : DiskAt S q bd bt vw vc D w.drew := h.new (Kept.refl _ _).drew
theorem settle_calls {S : Nat → Prop} {q bd bt : Nat} {vw vc : Value} {D : DS} {w : World} (h : DiskAt S q bd bt vw vc D w) {x : Nat × ByteArray} (hx : x.1 < D.n) {f : Nat} (hf : f ≤ 2) :
    Calls Tryd.prog 48 #[.pointer (some ⟨q, 0, none⟩), .agg #[.int .i64 x.1, .string x.2], .int .i64 f] w fun e w' => e = .returned (.tuple #[]) ∧ DiskAt S q bd bt vw vc (D.settle x f) w' ∧ Kept (fun b => b = bd ∨ b = bt) w w' := by
  have hq := h.lt
  have hn := h.few
  have H := hid h
  obtain ⟨i, s⟩ := x
  simp only at hx
  obtain ⟨c0, c1, d1, d2, t1, t2⟩ := h.reads hx
  rcases (by omega : f = 0 ∨ f = 1 ∨ f = 2) with rfl | rfl | rfl
  · clear h
    go_enter Tryd.func48, Tryd.ntmps48
    go_wp2
    go_end0
    exact ⟨rfl, H.out.new ((Kept.refl _ _).alloc _), (Kept.refl _ _).alloc _⟩
  · obtain ⟨c0', c1', d1', d2', t1', t2'⟩ := (h.setData hx s).reads hx
    have HS := hid (((h.setData hx s).setTorn hx false))
    simp only at c0' c1' d1' d2' t1' t2'
    clear h
    go_enter Tryd.func48, Tryd.ntmps48
    go_wp2
    go_region
    go_wp2
    go_region
    go_wp2
    go_end0
    exact ⟨rfl, (HS.out.new ((Kept.refl _ _).alloc _)).drew.drew, ((((Kept.refl _ _).setCell (.inl (.inl rfl)) _).setCell (.inl (.inr rfl)) _).alloc _).drew.drew⟩
  · obtain ⟨c0', c1', d1', d2', t1', t2'⟩ := (h.setTorn hx true).reads hx
    have HS := hid (((h.setTorn hx true).setData hx s))
    simp only at c0' c1' d1' d2' t1' t2'
    clear h
    go_enter Tryd.func48, Tryd.ntmps48
    go_wp2
    go_region
    go_wp2
    go_region
    go_wp2
    go_end0
    exact ⟨rfl, (HS.out.new ((Kept.refl _ _).alloc _)).drew.drew, ((((Kept.refl _ _).setCell (.inl (.inr rfl)) _).setCell (.inl (.inl rfl)) _).alloc _).drew.drew⟩
end Go.Proofs.YtolifmpjbmekdaaDoor
