/-
A cache over keys and texts: how it lies in memory; its small functions; conditions: the cache lies in memory as told.
-/
import Derived.Test.YtmlnjheiogmlaaaMapF
import Derived.Test.YtmlnjheiogmlaaaStays
import Derived.StillTailTactics
namespace Go.Proofs.Ytmlnjheiogmlaaa
open Go.RowKit Go.Lib Go.Maps
structure Ent where
  text : ByteArray
  is : Bool
  dirty : Bool
  at_ : Nat
abbrev entV (x : Ent) : Value := .agg #[.string x.text, .bool x.is, .bool x.dirty, .int .u64 x.at_]
theorem keyOf_string_inv {P : Program} {k : TypeId} (hk : P.underlying k = some .string) {v : Value} {kl : Lit} (h : keyOf P k v = some kl) : ∃ x, v = .string x ∧ x.size ≤ maxLen := by
  cases v <;> simp [keyOf, hk, mapKey] at h
  exact ⟨_, rfl, by first | exact h.1 | exact h⟩
theorem zero92 (w : World) : (zeroValue 92).run Try.prog w = .ok (entV ⟨⟨#[]⟩, false, false, 0⟩) w := by kernel_rfl
def CK : Kind Try.prog 86 9 92 ByteArray Ent where
  mkK := .string
  mkV := entV
  good x := x.size ≤ maxLen
  z := ⟨⟨#[]⟩, false, false, 0⟩
  K := string_keyed Try.underlying9
  ht := Try.underlying86
  key x hx := ⟨_, WideMaps.keyOf_string_mk Try.underlying9 hx⟩
  inv v kl h := keyOf_string_inv Try.underlying9 h
  injK x y h := by cases h; rfl
  injV x y h := by
    obtain ⟨a, b, c, d⟩ := x
    obtain ⟨a', b', c', d'⟩ := y
    simp at h
    obtain ⟨rfl, rfl, rfl, h⟩ := h
    have : d = d' := by omega
    rw [this]
  zero := zero92
/-- What keys have: what is held goes first. -/
def eff (f : ByteArray → Option Ent) (l : List (ByteArray × ByteArray)) (k : ByteArray) : ByteArray × Bool := match f k with
  | some x => (x.text, x.is)
  | none => kvGet l k
/-- What is held fits to what lies below. -/
structure Fits (f : ByteArray → Option Ent) (l : List (ByteArray × ByteArray)) (now : Nat) : Prop where
  old : ∀ k x, f k = some x → x.at_ ≤ now
  clean : ∀ k x, f k = some x → x.dirty = false → kvGet l k = (x.text, x.is)
  no : ∀ k x, f k = some x → x.is = false → x.text = ⟨#[]⟩
  once : (l.map Prod.fst).Nodup
  short : ∀ k x, f k = some x → k.size ≤ 1000000
/-- A cache lies in block q, its map in block m. -/
structure Cach (q m g : Nat) (F : Nat → Prop) (most now N c : Nat) (f : ByteArray → Option Ent) (l : List (ByteArray × ByteArray)) (w : World) : Prop where
  blk : ∃ reads puts : Nat, reads ≤ N ∧ puts ≤ N ∧ w.heap[q]? = some (.cells #[.iface 23 (.pointer (some ⟨g, 0, none⟩)), .int .i64 most, .map (some m), .int .u64 now, .int .i64 reads, .int .i64 puts] 88 (0, 0))
  map : MapF CK w m f c
  kv : KVs g F l w
  nq : ¬ F q
  nm : ¬ F m
  ne : q ≠ m
  room : c ≤ most
  small : most ≤ 1000
  len : l.length ≤ N
  nowN : now ≤ N
  fits : Fits f l now
theorem Cach.new {q m g : Nat} {F : Nat → Prop} {most now N c : Nat} {f : ByteArray → Option Ent} {l : List (ByteArray × ByteArray)} {w w' : World} (h : Cach q m g F most now N c f l w) (hn : New w w') : Cach q m g F most now N c f l w' := by
  obtain ⟨r, p, h1, h2, h3⟩ := h.blk
  exact ⟨⟨r, p, h1, h2, hn.at h3 id⟩, h.map.new hn, h.kv.new hn, h.nq, h.nm, h.ne, h.room, h.small, h.len, h.nowN, h.fits⟩
/-- There is no cache. -/
theorem cache_bad_nil {w : World} : Calls Try.prog 43 #[.pointer none] w fun e w' => e = .returned (.bool true) ∧ w = w' := by
  go_enter Try.func43, Try.ntmps43
  go_wp2
  go_ret
  exact ⟨rfl, rfl⟩
theorem cache_bad_none {q : Nat} {rest : List Value} {w : World} (h : w.heap[q]? = some (.cells (Value.nilIface :: rest).toArray 88 (0, 0))) : Calls Try.prog 43 #[.pointer (some ⟨q, 0, none⟩)] w fun e w' => e = .returned (.bool true) ∧ w = w' := by
  have c0 : w.cell? ⟨q, 0, none⟩ = some .nilIface := (cell_at h 0).trans rfl
  clear h
  go_enter Try.func43, Try.ntmps43
  go_wp2
  go_ret
  exact ⟨rfl, rfl⟩
theorem cache_bad {q m g : Nat} {F : Nat → Prop} {most now N c : Nat} {f : ByteArray → Option Ent} {l : List (ByteArray × ByteArray)} {w : World} (h : Cach q m g F most now N c f l w) : Calls Try.prog 43 #[.pointer (some ⟨q, 0, none⟩)] w fun e w' => e = .returned (.bool false) ∧ w = w' := by
  obtain ⟨r, p, _, _, hb⟩ := h.blk
  have c0 : w.cell? ⟨q, 0, none⟩ = some (.iface 23 (.pointer (some ⟨g, 0, none⟩))) := (cell_at hb 0).trans rfl
  clear h hb
  go_enter Try.func43, Try.ntmps43
  go_wp2
  go_ret
  exact ⟨rfl, rfl⟩
theorem cache_held {q m g : Nat} {F : Nat → Prop} {most now N c : Nat} {f : ByteArray → Option Ent} {l : List (ByteArray × ByteArray)} {w : World} (h : Cach q m g F most now N c f l w) : Calls Try.prog 29 #[.pointer (some ⟨q, 0, none⟩)] w fun e w' => e = .returned (.int .i64 c) ∧ w = w' := by
  obtain ⟨r, p, _, _, hb⟩ := h.blk
  have c2 : w.cell? ⟨q, 2, none⟩ = some (.map (some m)) := (cell_at hb 2).trans rfl
  have hl := fun ty => h.map.len ty
  clear h hb
  go_enter Try.func29, Try.ntmps29
  go_wp2
  go_ret
  exact ⟨rfl, rfl⟩
theorem cache_new {most g : Nat} {w : World} (hm : most ≤ 1000) :
    Calls Try.prog 19 #[.iface 23 (.pointer (some ⟨g, 0, none⟩)), .int .i64 most] w fun e w' => e = .returned (.pointer (some ⟨w.heap.size + 1, 0, none⟩)) ∧ w' = (w.alloc (.map #[] 0)).alloc (.cells #[.iface 23 (.pointer (some ⟨g, 0, none⟩)), .int .i64 (max most 1 : Nat), .map (some w.heap.size), .int .u64 0, .int .i64 0, .int .i64 0] 88 (0, 0)) := by
  have hmm := @run_makeMap Try.prog
  obtain ⟨n, hn⟩ : ∃ n, max most 1 = n := ⟨_, rfl⟩
  rw [hn]
  go_enter Try.func19, Try.ntmps19
  go_wp2
  all_goals
    go_ret
    refine ⟨rfl, ?_⟩
    congr 6
    omega
theorem cache_new_none {w : World} :
    Calls Try.prog 19 #[.nilIface, .int .i64 5] w fun e w' => e = .returned (.pointer (some ⟨w.heap.size + 1, 0, none⟩)) ∧ w' = (w.alloc (.map #[] 0)).alloc (.cells #[.nilIface, .int .i64 5, .map (some w.heap.size), .int .u64 0, .int .i64 0, .int .i64 0] 88 (0, 0)) := by
  have hmm := @run_makeMap Try.prog
  go_enter Try.func19, Try.ntmps19
  go_wp2
  go_ret
  exact ⟨rfl, rfl⟩
end Go.Proofs.Ytmlnjheiogmlaaa
