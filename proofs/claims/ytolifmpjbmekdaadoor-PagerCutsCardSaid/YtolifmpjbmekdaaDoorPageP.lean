/-
What page.Get tells of a page's own sector, and of one of noughts; conditions: the page may be.
-/
import Derived.Test.YtolifmpjbmekdaaDoorPageG
namespace Go.Proofs.YtolifmpjbmekdaaDoor
open Go.RowKit
open Go.Lib (hid)
theorem str_extract (l : List UInt8) (a b : Nat) : (str l).extract a b = str ((l.take b).drop a) := by
  apply ByteArray.ext
  simp [str, List.drop_take]
theorem str_zeros (n : Nat) : zeros n = str (List.replicate n 0) := rfl
/-- A sector, as bytes. -/
def secL (K N gen : Nat) (data : ByteArray) : List UInt8 := le 1 K ++ (le 4 N ++ (le 8 gen ++ (le 2 data.size ++ (data.data.toList ++ (List.replicate (237 - data.size) 0 ++ le 4 (crcN (body K N gen data)))))))
theorem sector_L (K N gen : Nat) (data : ByteArray) : sector K N gen data = str (secL K N gen data) := by
  have hd : data = str data.data.toList := (str_of data).symm
  unfold sector
  have hb : body K N gen data = str (le 1 K ++ (le 4 N ++ (le 8 gen ++ (le 2 data.size ++ (data.data.toList ++ List.replicate (237 - data.size) 0))))) := by
    unfold body
    rw [str_zeros]
    have : ∀ x : ByteArray, x ++ data = x ++ str data.data.toList := fun x => by rw [str_of]
    rw [this]
    simp only [str_append, List.append_assoc]
  rw [hb, str_append]
  unfold secL
  rw [hb]
  simp only [List.append_assoc]
theorem take_drop_mid {α : Type} (p m r : List α) (a b : Nat) (ha : p.length = a) (hb : a + m.length = b) : ((p ++ (m ++ r)).take b).drop a = m := by
  subst ha hb
  rw [List.take_append, List.drop_append]
  simp
theorem numAt_mid {L p m r : List UInt8} {a b : Nat} (hL : L = p ++ (m ++ r)) (ha : p.length = a) (hb : a + m.length = b) : numAt (str L) a b = unle m := by
  unfold numAt
  rw [str_extract, str_toList, hL, take_drop_mid p m r a b ha hb]
theorem sector_says {K N gen : Nat} {data : ByteArray} (h : mayB K N data = true) (hg : gen < 18446744073709551616) : pgK (sector K N gen data) = K ∧ pgN (sector K N gen data) = N ∧ pgG (sector K N gen data) = gen ∧ pgL (sector K N gen data) = data.size ∧ pgD (sector K N gen data) = data := by
  obtain ⟨m1, m2, m3, m4, m5⟩ := mayB_iff.1 h
  rw [sector_L]
  have hl : data.data.toList.length = data.size := by simp
  have e1 : pgK (str (secL K N gen data)) = K := by
    refine (numAt_mid (p := []) (m := le 1 K) rfl rfl (by simp [le_length])).trans (unle_small (by omega))
  have e2 : pgN (str (secL K N gen data)) = N := by
    refine (numAt_mid (p := le 1 K) (m := le 4 N) rfl (le_length _ _) (by simp [le_length])).trans (unle_small (by omega))
  have e3 : pgG (str (secL K N gen data)) = gen := by
    refine (numAt_mid (p := le 1 K ++ le 4 N) (m := le 8 gen) (by unfold secL; rw [List.append_assoc]) (by simp [le_length]) (by simp [le_length])).trans (unle_small (by omega))
  have e4 : pgL (str (secL K N gen data)) = data.size := by
    refine (numAt_mid (p := le 1 K ++ (le 4 N ++ le 8 gen)) (m := le 2 data.size) (by unfold secL; rw [List.append_assoc, List.append_assoc]) (by simp [le_length]) (by simp [le_length])).trans (unle_small (by omega))
  refine ⟨e1, e2, e3, e4, ?_⟩
  unfold pgD
  rw [e4, str_extract]
  have e5 : secL K N gen data = (le 1 K ++ (le 4 N ++ (le 8 gen ++ le 2 data.size))) ++ (data.data.toList ++ (List.replicate (237 - data.size) 0 ++ le 4 (crcN (body K N gen data)))) := by
    unfold secL
    simp only [List.append_assoc]
  rw [e5, take_drop_mid _ _ _ 15 (15 + data.size) (by simp [le_length]) (by rw [hl])]
  exact str_of data
theorem unle_zeros : ∀ n, unle (List.replicate n 0) = 0
  | 0 => rfl
  | n + 1 => by
    rw [List.replicate_succ]
    simp only [unle, unle_zeros n]
    rfl
theorem zeros_num (n a b : Nat) : numAt (zeros n) a b = 0 := by
  unfold numAt
  rw [str_zeros, str_extract, str_toList, List.take_replicate, List.drop_replicate, unle_zeros]
/-- page.Get at a page's own sector. -/
theorem get_sector {K N gen : Nat} {data : ByteArray} (h : mayB K N data = true) (hg : gen < 18446744073709551616) (w : World) : Calls Tryd.prog 59 #[.string (sector K N gen data)] w fun e w' => e = .returned (.tuple #[pageV K N gen data, .int .i64 0]) ∧ New w w' := by
  obtain ⟨e1, e2, e3, e4, e5⟩ := sector_says h hg
  obtain ⟨m1, m2, m3, m4, m5⟩ := mayB_iff.1 h
  have hp : putB (K : Int) (N : Int) gen data = sector K N gen data := by unfold putB; rw [if_pos h]; rfl
  have := get_full (s := sector K N gen data) (sector_size K N gen m5) (by omega) w
  rw [e1, e2, e3, e5, if_pos hp] at this
  exact this
/-- page.Get at a sector that was never written. -/
theorem get_zeros (w : World) : Calls Tryd.prog 59 #[.string (zeros 256)] w fun e w' => e = .returned (.tuple #[pageV 0 0 0 ⟨#[]⟩, .int .i64 3]) ∧ New w w' := by
  have hl : pgL (zeros 256) = 0 := zeros_num _ _ _
  have := get_full (s := zeros 256) (zeros_size 256) (by omega) w
  have hk : pgK (zeros 256) = 0 := zeros_num _ _ _
  have hp : ¬ putB (pgK (zeros 256)) (pgN (zeros 256)) (pgG (zeros 256)) (pgD (zeros 256)) = zeros 256 := by
    rw [hk]
    have hm : ¬ mayB ((0 : Nat) : Int) (pgN (zeros 256)) (pgD (zeros 256)) = true := fun e => by have := (mayB_iff.1 e).1; omega
    unfold putB
    rw [if_neg hm]
    intro e
    have := congrArg ByteArray.size e
    rw [zeros_size] at this
    cases this
  rw [if_neg hp] at this
  exact this
end Go.Proofs.YtolifmpjbmekdaaDoor
