/-
What was put in a sector is got out of it, and the check of layer 5 that is awake; conditions: the numbers are of their kinds.
-/
import Derived.Test.YtlimgnpkbelmcaaGet
import Derived.Test.YtlimgnpkbelmcaaF9
namespace Go.Proofs.Ytlimgnpkbelmcaa.Pure
open Go.RowKit Go.Proofs.Ytlimgnpkbelmcaa.F Go.Proofs.YtlimgnpkbelmcaaW.PrintWords Go.Proofs.YtlimgnpkbelmcaaW.PrintLast Go.Proofs.YtlimgnpkbelmcaaW.PrintMore Go.Proofs.Ytlimgnpkbelmcaa.Math
/-- A sector's parts are read again. -/
theorem parts_sector (K N G : Nat) (l : List UInt8) (hK : K < 256) (hN : N < 4294967296) (hG : G < 18446744073709551616) (hl : l.length ≤ 237) :
    kindOf (sector K N G l) = K ∧ numberOf (sector K N G l) = N ∧ genOf (sector K N G l) = G ∧ manyOf (sector K N G l) = l.length ∧ dataOf (sector K N G l) = l := by
  have e : ∃ t, sector K N G l = le 1 K ++ (le 4 N ++ (le 8 G ++ (le 2 l.length ++ (l ++ t)))) := by
    refine ⟨List.replicate (237 - l.length) 0 ++ le 4 (check (body K N G l)), ?_⟩
    simp only [sector, body, List.append_assoc]
  obtain ⟨t, e⟩ := e
  have d1 : (sector K N G l).drop 1 = le 4 N ++ (le 8 G ++ (le 2 l.length ++ (l ++ t))) := by rw [e]; exact List.drop_left' (le_length 1 K)
  have d5 : (sector K N G l).drop 5 = le 8 G ++ (le 2 l.length ++ (l ++ t)) := by
    rw [show 5 = 1 + 4 from rfl, ← List.drop_drop, d1]; exact List.drop_left' (le_length 4 N)
  have d13 : (sector K N G l).drop 13 = le 2 l.length ++ (l ++ t) := by
    rw [show 13 = 5 + 8 from rfl, ← List.drop_drop, d5]; exact List.drop_left' (le_length 8 G)
  have d15 : (sector K N G l).drop 15 = l ++ t := by
    rw [show 15 = 13 + 2 from rfl, ← List.drop_drop, d13]; exact List.drop_left' (le_length 2 _)
  have hm : manyOf (sector K N G l) = l.length := by
    unfold manyOf; rw [d13, List.take_left' (le_length 2 _), le_append_mod]; omega
  refine ⟨?_, ?_, ?_, hm, ?_⟩
  · unfold kindOf; rw [e, List.take_left' (le_length 1 K), le_append_mod]; omega
  · unfold numberOf; rw [d1, List.take_left' (le_length 4 N), le_append_mod]; omega
  · unfold genOf; rw [d5, List.take_left' (le_length 8 G), le_append_mod]; omega
  · unfold dataOf; rw [d15, hm, List.take_left' rfl]
/-- What was put is got. -/
theorem isB_put {kind number gen : Int} {data : ByteArray} (hm : mayB kind number data = true) (hg0 : 0 ≤ gen) (hg1 : gen < 18446744073709551616) :
    isB (putB kind number gen data) = true ∧ (kindOf (putB kind number gen data).data.toList : Int) = kind ∧ (numberOf (putB kind number gen data).data.toList : Int) = number ∧ (genOf (putB kind number gen data).data.toList : Int) = gen ∧ str (dataOf (putB kind number gen data).data.toList) = data := by
  obtain ⟨h1, h2, h3, h4, h5⟩ := may_iff.1 hm
  have hl : data.data.toList.length = data.size := by simp
  obtain ⟨k1, k2, k3, k4, k5⟩ := parts_sector kind.toNat number.toNat gen.toNat data.data.toList (by omega) (by omega) (by omega) (by omega)
  have e : putB kind number gen data = str (sector kind.toNat number.toNat gen.toNat data.data.toList) := by unfold putB; rw [if_pos hm]
  have hs : (putB kind number gen data).size = 256 := by rw [e, str_size, sector_length _ _ _ _ (by omega)]
  have es : (putB kind number gen data).data.toList = sector kind.toNat number.toNat gen.toNat data.data.toList := by rw [e, str_toList]
  unfold isB
  rw [es, k1, k2, k3, k4, k5, str_of, hs]
  have c1 : ((kind.toNat : Nat) : Int) = kind := by omega
  have c2 : ((number.toNat : Nat) : Int) = number := by omega
  have c3 : ((gen.toNat : Nat) : Int) = gen := by omega
  rw [c1, c2, c3]
  refine ⟨?_, rfl, rfl, rfl, rfl⟩
  rw [decide_eq_true (by omega), decide_eq_true rfl]
  simp; omega
theorem putB_not {kind number gen : Int} {data : ByteArray} (hm : ¬ mayB kind number data = true) : putB kind number gen data = ⟨#[]⟩ := by unfold putB; rw [if_neg hm]
theorem page_awake : Ev (fun k => keywaylaw05_awake.f k) true := by
  have hm : mayB 2 3 (⟨#[120]⟩ : ByteArray) = true := by decide
  obtain ⟨k1, k2, k3, k4, k5⟩ := isB_put (gen := 4) hm (by decide) (by decide)
  unfold keywaylaw05_awake.f
  refine Ev.bind (put_tells 2 3 4 (⟨#[120]⟩ : ByteArray) (by decide) (by decide)) (Ev.bind (get_tells _) ?_)
  rw [if_pos k1, k2, k3, k4, k5]
  exact Ev.congr (f := fun _ => some true) (fun k => by simp [toList_data]) (Ev.now _)
theorem put_size {kind number gen : Int} {data : ByteArray} (hm : mayB kind number data = true) : (putB kind number gen data).size = 256 := by
  obtain ⟨h1, h2, h3, h4, h5⟩ := may_iff.1 hm
  unfold putB
  rw [if_pos hm, str_size, sector_length _ _ _ _ (by simp; omega)]
theorem toList_ne {s : ByteArray} (h : s.size = 256) : ¬ s.toList = ([] : List UInt8) := by
  rw [toList_data]
  intro e
  have : s.data.toList.length = 0 := by rw [e]; rfl
  simp at this
  have hz : s.size = 0 := by simp [ByteArray.size, this]
  omega
theorem u64_range {a : Int} (h : (Lit.int .u64 a).wf = true) : 0 ≤ a ∧ a < 18446744073709551616 := by
  simp only [Lit.wf, Bool.and_eq_true, decide_eq_true_eq] at h
  have h1 : IntKind.u64.min = 0 := rfl
  have h2 : IntKind.u64.max = 18446744073709551615 := rfl
  omega
end Go.Proofs.Ytlimgnpkbelmcaa.Pure
