/-
The key of a cache that was asked for longest ago is one that is held; conditions: the cache lies in memory as told, and holds something.
-/
import Derived.Test.YtmlnjheiogmlaaaCWrite
import Derived.BigRegion
namespace Go.Proofs.Ytmlnjheiogmlaaa
open Go.RowKit Go.Lib Go.Maps
theorem New.turn {w a b : World} {r : Nat} (h : New w a) (k : Kept (fun i => i = r) a b) (hr : w.heap.size ≤ r) : New w b := h.trans' k fun x hx e => by omega
set_option maxHeartbeats 1600000 in
set_option maxRecDepth 100000 in
theorem cache_oldest {q m g : Nat} {F : Nat → Prop} {most now N c : Nat} {f : ByteArray → Option Ent} {l : List (ByteArray × ByteArray)} {w : World} (h : Cach q m g F most now N c f l w) (hN : N < 100000) (hc : 0 < c) :
    Calls Try.prog 53 #[.pointer (some ⟨q, 0, none⟩)] w fun e w' => ∃ k x, e = .returned (.string k) ∧ f k = some x ∧ New w w' := by
  obtain ⟨r, p, hr, hp, hb⟩ := h.blk
  have hn := h.nowN
  have c2 : w.drew.cell? ⟨q, 2, none⟩ = some (.map (some m)) := (cell_at hb 2).trans rfl
  have c3 : w.cell? ⟨q, 3, none⟩ = some (.int .u64 now) := (cell_at hb 3).trans rfl
  have s1 : IntKind.u64.wrap ((now : Int) + 1) = (now : Int) + 1 := by rw [IntKind.wrap_u64]; omega
  have hm := hid h.map.drew
  have hml := h.map.lt
  have old := hid h.fits.old
  clear h hb
  go_enter Try.func53, Try.ntmps53
  go_wp2
  go_region
  go_wp2_with (first | (at_range; refine wpList_mapF_range (B := CK) _ rfl (.tmp 15) rfl hm.out rfl ?_; intro w0 hrg0 hg0 hs0))
  go_frame
  go_loopw [3, 4] (fun b a wr => ∃ (s : ByteArray) (t : Nat) (left : ByteArray → Bool) (cnt : Nat), b = .string s ∧ a = .int .u64 t ∧ Hid (RangeF CK wr m w.heap.size f c left cnt) ∧ Hid (New w wr) ∧ t ≤ now + 1 ∧ Hid ((∃ x, f s = some x) ∨ (cnt = c ∧ t = now + 1))) (fun _ _ wr => wr.rangeLeft m w.heap.size)
  case atStart => exact ⟨⟨#[]⟩, now + 1, _, c, rfl, by simp, hid hrg0, hid ((Kept.refl _ _).drew.trans hg0), Nat.le_refl _, hid (.inr ⟨rfl, rfl⟩)⟩
  case round =>
    obtain ⟨s, t, left, cnt, rfl, rfl, HR, HN, ht, HP⟩ := hrel
    go_wp2_with (first | (at_next; refine wpList_mapF_next (B := CK) _ rfl (.tmp 16) rfl rfl HR.out ?_ ?_))
    · intro hc0 _
      have HK : ∃ x, f s = some x := by
        rcases HP.out with h | ⟨h, _⟩
        · exact h
        · omega
      obtain ⟨x, hx⟩ := HK
      go_wp2
      go_ret
      exact ⟨s, x, rfl, hx, HN.out⟩
    · intro x y w' cnt' _ _ hfx hrg' hlt hkp hsz hen
      have hyo := old.out x y hfx
      have HN' : Hid (New w w') := hid (HN.out.turn hkp (Nat.le_refl _))
      have HR' := hid hrg'
      have hw' := HN'.out.size
      have hle1 := HR.out.left_eq
      obtain ⟨text, is, dirty, t'⟩ := y
      change (Instr.entry (.pointer (some ⟨w.heap.size, 0, none⟩))).run Try.prog w' = Result.ok (.tuple #[.string x, entV ⟨text, is, dirty, t'⟩]) w' at hen
      change t' ≤ now at hyo
      have HX : Hid (∃ x', f x = some x') := hid ⟨_, hfx⟩
      clear hrg' hfx hkp
      go_wp2
      · go_region
        have HR2 := HR'.out.kept ((Kept.refl (fun _ => False) _).alloc (entBlk ⟨text, is, dirty, t'⟩)).drew id id
        have HN2 := (HN'.out.alloc (entBlk ⟨text, is, dirty, t'⟩)).drew
        have hm2 := HR2.left_eq
        go_roundw
        case rel =>
          (repeat apply Exists.intro)
          exact ⟨⟨x, t', _, cnt', rfl, rfl, hid HR2, hid HN2, by omega, hid (.inl HX.out)⟩, rfl⟩
        case measure => rw [hle1]; exact hm2 ▸ hlt
      · have HR2 := HR'.out.kept ((Kept.refl (fun _ => False) _).alloc (entBlk ⟨text, is, dirty, t'⟩)) id id
        have HN2 := (HN'.out.alloc (entBlk ⟨text, is, dirty, t'⟩))
        have hm2 := HR2.left_eq
        have HK : ∃ x, f s = some x := by
          rcases HP.out with h | ⟨_, h⟩
          · exact h
          · omega
        go_roundw
        case rel =>
          (repeat apply Exists.intro)
          exact ⟨⟨s, t, _, cnt', rfl, rfl, hid HR2, hid HN2, ht, hid (.inl HK)⟩, rfl⟩
        case measure => rw [hle1]; exact hm2 ▸ hlt
end Go.Proofs.Ytmlnjheiogmlaaa
