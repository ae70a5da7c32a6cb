/-
The pager's maps: from numbers to pages; a map's count is bound by where its keys lie; 'clear'; conditions: the map's block as told.
-/
import Derived.Test.YtolifmpjbmekdaaDoorPageP
import Derived.Test.YtolifmpjbmekdaaDoorMapF
import Derived.Maps.Keyed
namespace Go.Proofs.YtolifmpjbmekdaaDoor
open Go.RowKit Go.ChangeMaps Go.MapKept
open Go.Lib (hid)
theorem nats_few : ∀ (m : Nat) (l : List Nat), l.Nodup → (∀ x ∈ l, x < m) → l.length ≤ m
  | 0, l, _, h => by
    cases l with
    | nil => exact Nat.le_refl _
    | cons a r => exact absurd (h a (.head _)) (Nat.not_lt_zero _)
  | m + 1, l, hn, h => by
    by_cases hm : m ∈ l
    · have h1 := nats_few m (l.erase m) (hn.erase m) fun x hx => by
        have hx1 := List.mem_of_mem_erase hx
        have := h x hx1
        have hne : x ≠ m := fun e => by subst e; exact hn.not_mem_erase hx
        omega
      rw [List.length_erase_of_mem hm] at h1
      omega
    · have h1 := nats_few m l hn fun x hx => by
        have := h x hx
        have hne : x ≠ m := fun e => by subst e; exact hm hx
        omega
      omega
section
variable {P : Program} {t k e : TypeId} {α β : Type} {B : Kind P t k e α β} {w : World} {b c : Nat} {g : α → Option β}
theorem MapF.count_le (h : MapF B w b g c) (f : α → Nat) {m : Nat} (hf : ∀ x, (g x).isSome = true → f x < m) (hi : ∀ x y, (g x).isSome = true → (g y).isSome = true → f x = f y → x = y) : c ≤ m := by
  obtain ⟨D, ho, hs, T⟩ := h
  obtain ⟨es, rfl, hp, hk⟩ := ho.entries B.K
  have hx : ∀ p ∈ es, ∃ a, keyOf P k (B.mkK a) = some p.1 ∧ (g a).isSome = true := fun p hp' => by
    obtain ⟨esA, clock, _, F, _, hD⟩ := ho
    have he : es = (esA.toList.map (WideElems.rg P k (selfRead B.mkV))).foldr DataW.insert [] := by injection hD
    obtain ⟨x, hx, hxp⟩ := List.mem_map.1 (mem_sorted.1 (he ▸ hp'))
    obtain ⟨y, hy⟩ := F.reads x hx
    rw [WideElems.rg_of hy] at hxp
    subst hxp
    have hkey := WideElems.rd_key hy
    obtain ⟨a, ha, hg⟩ := B.inv _ _ hkey
    rw [ha] at hkey
    refine ⟨a, hkey, ?_⟩
    rw [← T.has a _ hkey, Maps.has_eq, List.any_eq_true]
    exact ⟨y, hp', WideAt.sameKey_self (B.K.key hkey)⟩
  clear ho T
  have hφ : ∃ φ : Lit × DataW Value → Nat, ∀ p ∈ es, ∃ a, keyOf P k (B.mkK a) = some p.1 ∧ (g a).isSome = true ∧ φ p = f a := by
    classical
    refine ⟨fun p => if h : ∃ a, keyOf P k (B.mkK a) = some p.1 ∧ (g a).isSome = true then f h.choose else 0, fun p hp' => ?_⟩
    have hh := hx p hp'
    exact ⟨hh.choose, hh.choose_spec.1, hh.choose_spec.2, by simp only [dif_pos hh]⟩
  obtain ⟨φ, hφ⟩ := hφ
  have h1 := nats_few m (es.map φ) ?_ ?_
  · rw [List.length_map] at h1
    rw [← hs]; exact h1
  · refine List.pairwise_map.2 (hp.imp_of_mem fun {p q} hp' hq' hne e => hne ?_)
    obtain ⟨a, a1, a2, a3⟩ := hφ p hp'
    obtain ⟨b', b1, b2, b3⟩ := hφ q hq'
    have := hi a b' a2 b2 (by rw [← a3, ← b3]; exact e)
    subst this
    rw [a1] at b1
    exact Option.some.inj b1
  · intro x hx'
    obtain ⟨p, hp', rfl⟩ := List.mem_map.1 hx'
    obtain ⟨a, a1, a2, a3⟩ := hφ p hp'
    rw [a3]; exact hf a a2
/-- 'clear(m)'. -/
theorem MapF.clear (h : MapF B w b g c) (ty : TypeId) : ∃ w', (Builtin.clear_ #[t] ty #[.map (some b)]).run P w = .ok (.tuple #[]) w' ∧ MapF B w' b (fun _ => none) 0 ∧ Kept (fun i => i = b) w w' ∧ w'.heap.size = w.heap.size := by
  obtain ⟨D, ⟨es, clock, hb, F, hs, hD⟩, h2, T⟩ := h
  refine ⟨setBlock w b (.map #[] clock), ?_, ⟨.map [], ⟨#[], clock, heap_setBlock_same hb _, ⟨by simp, MapKept.stamped_empty clock, by simp⟩, Nat.le_refl _, rfl⟩, rfl, fun _ _ _ => rfl, fun _ _ _ _ h => by cases h⟩, kept_of_turned ⟨es, clock, #[], clock, hb, rfl⟩, by simp [setBlock]⟩
  simp [Builtin.clear_, run_underlying B.ht, MapKept.run_getObj_map hb, MapKept.run_setObj_map _ hb, Result.andThen]
  rfl
end
section
variable {P : Program} {t k e : TypeId} {α β : Type} {B : Kind P t k e α β} (w : World) {ops : Array Oper} {rest : List Oper} {o : Oper} {a : Act} {Q : Exit → Act → World → Prop}
/-- 'clear(m)' at the operation. -/
theorem wpList_mapF_clear (hg : o.guard = none) (m : Operand) (hop : o.op = Op.call { callee := Callee.builtin Builtin.clear, args := #[m], argTypes := #[t] }) {b c : Nat} {g : α → Option β} (h : MapF B w b g c) (hm : a.eval m = .map (some b))
    (hK : ∀ w', MapF B w' b (fun _ => none) 0 → Kept (fun i => i = b) w w' → w'.heap.size = w.heap.size → wpList P ops Q rest (a.put o.dst (.tuple #[])) w') :
    wpList P ops Q (o :: rest) a w := by
  refine wpList_plain hg fun K' hK' => ?_
  obtain ⟨w', hrun, r1, r2, r3⟩ := h.clear o.type
  unfold Oper.wp
  simp [execOp, hop, resolve, invoke, builtin, hm, hrun, Result.andThen]
  exact hK' _ _ (hK w' r1 r2 r3)
end
/-- A page: its kind, its number, its generation, what it says. -/
structure Pg where
  kind : Int
  num : Int
  gen : Int
  data : ByteArray
abbrev pgV (x : Pg) : Value := pageV x.kind x.num x.gen x.data
def pg0 : Pg := ⟨0, 0, 0, ⟨#[]⟩⟩
theorem zeroPage (w : World) : (zeroValue 48).run Tryd.prog w = .ok (pgV pg0) w := by kernel_rfl
theorem keyOf_int_inv {P : Program} {k : TypeId} {q : IntKind} (hk : P.underlying k = some (.int q)) {v : Value} {kl : Lit} (h : keyOf P k v = some kl) : ∃ x, v = .int q x ∧ (Lit.int q x).wf = true := by
  cases v <;> simp [keyOf, hk, mapKey] at h
  obtain ⟨⟨rfl, h1⟩, _⟩ := h
  exact ⟨_, rfl, h1⟩
def PK : Kind Tryd.prog 81 3 48 Int Pg where
  mkK := .int .i64
  mkV := pgV
  good x := (Lit.int .i64 x).wf = true
  z := pg0
  K := Maps.int_keyed Tryd.underlying3
  ht := Tryd.underlying81
  key x hx := ⟨_, Maps.keyOf_int_mk Tryd.underlying3 hx⟩
  inv v kl h := keyOf_int_inv Tryd.underlying3 h
  injK x y h := by cases h; rfl
  injV x y h := by
    obtain ⟨a, b, c, d⟩ := x
    obtain ⟨a', b', c', d'⟩ := y
    simp at h
    obtain ⟨rfl, rfl, rfl, rfl⟩ := h
    rfl
  zero := zeroPage
theorem wf_nat {n : Nat} (h : n < 1000000) : PK.good (n : Int) := by
  show (Lit.int .i64 (n : Int)).wf = true
  have e : IntKind.i64.min = -9223372036854775808 := by decide
  simp [Lit.wf]
  omega
/-- A map of pages whose numbers lie below a bound. -/
def Pages (w : World) (b m : Nat) (g : Nat → Option Pg) : Prop := ∃ c, MapF PK w b (fun x => if 0 ≤ x then g x.toNat else none) c ∧ ∀ n, (g n).isSome = true → n < m
end Go.Proofs.YtolifmpjbmekdaaDoor
