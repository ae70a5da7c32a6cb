/-
Maps as functions: a block that is a map, told by a function from keys to what they have; conditions: those that each theorem names.
-/
import Derived.Test.YtolifmpjbmekdaaDoorMem
import Derived.Maps.RangeWalk
namespace Go.Proofs.YtolifmpjbmekdaaDoor
open Go.RowKit Go.Maps
/-- An element that is one of a kind stands for itself. -/
noncomputable def selfRead {β : Type} (mkV : β → Value) (v : Value) : Option (DataW Value × List MemPlace) :=
  open Classical in if ∃ y, v = mkV y then some (.held v, []) else none
theorem selfRead_mk {β : Type} (mkV : β → Value) (y : β) : selfRead mkV (mkV y) = some (.held (mkV y), []) := by
  unfold selfRead; rw [if_pos ⟨y, rfl⟩]
theorem selfRead_inv {β : Type} {mkV : β → Value} {v : Value} {z : DataW Value × List MemPlace} (h : selfRead mkV v = some z) : ∃ y, v = mkV y ∧ z = (.held (mkV y), []) := by
  unfold selfRead at h
  split at h
  · rename_i hx; obtain ⟨y, rfl⟩ := hx; exact ⟨y, rfl, by cases h; rfl⟩
  · cases h
/-- How keys and elements are told. -/
structure Kind (P : Program) (t k e : TypeId) (α β : Type) where
  mkK : α → Value
  mkV : β → Value
  good : α → Prop
  z : β
  K : Keyed P k
  ht : P.underlying t = some (.map k e)
  key : ∀ x, good x → ∃ kl, keyOf P k (mkK x) = some kl
  inv : ∀ v kl, keyOf P k v = some kl → ∃ x, v = mkK x ∧ good x
  injK : ∀ x y, mkK x = mkK y → x = y
  injV : ∀ x y, mkV x = mkV y → x = y
  zero : ∀ w, (zeroValue e).run P w = .ok (mkV z) w
section
variable {P : Program} {t k e : TypeId} {α β : Type} (B : Kind P t k e α β)
/-- A datum that is a function. -/
structure Tells (g : α → Option β) (D : DataW Value) : Prop where
  has : ∀ x kl, keyOf P k (B.mkK x) = some kl → Maps.has D kl = (g x).isSome
  at_ : ∀ x kl y, keyOf P k (B.mkK x) = some kl → g x = some y → ∀ z, D.atKey kl z = .held (B.mkV y)
/-- Block b is a map of c entries, told by g. -/
def MapF (w : World) (b : Nat) (g : α → Option β) (c : Nat) : Prop :=
  ∃ D, w.ownsMap P k (selfRead B.mkV) b c D ∧ Maps.size D = c ∧ Tells B g D
variable {B} {w : World} {b c : Nat} {g : α → Option β}
theorem MapF.lt (h : MapF B w b g c) : b < w.heap.size := by obtain ⟨D, h, _⟩ := h; exact h.lt
theorem MapF.drew (h : MapF B w b g c) : MapF B w.drew b g c := h
theorem MapF.kept {F : Nat → Prop} {w' : World} (h : MapF B w b g c) (hk : Kept F w w') (hF : ¬ F b) : MapF B w' b g c := by
  obtain ⟨D, ⟨es, clock, hb, r⟩, h2⟩ := h
  exact ⟨D, ⟨es, clock, hk.at hb hF, r⟩, h2⟩
theorem MapF.new {w' : World} (h : MapF B w b g c) (hk : New w w') : MapF B w' b g c := h.kept hk id
theorem kept_of_turned {w' : World} (h : w.mapTurned w' b) : Kept (fun i => i = b) w w' :=
  (Kept.refl _ _).grown h.grown fun k e => .inl (by cases e; rfl)
theorem mapF_made (w : World) (B : Kind P t k e α β) : MapF B (w.alloc (.map #[] 0)) w.heap.size (fun _ => none) 0 :=
  ⟨.map [], World.ownsMap_made w P k _, rfl, fun _ _ _ => rfl, fun _ _ _ _ h => by cases h⟩
theorem Tells.val {D : DataW Value} (T : Tells B g D) {x : α} {kl : Lit} (hk : keyOf P k (B.mkK x) = some kl) : D.atKey kl (.held (B.mkV B.z)) = .held (B.mkV ((g x).getD B.z)) := by
  cases hg : g x with
  | none =>
    have := T.has x kl hk
    rw [hg] at this
    simpa using Maps.atKey_of_not_has this _
  | some y => simpa using T.at_ x kl y hk hg _
/-- 'm[k]'. -/
theorem MapF.look (h : MapF B w b g c) {x : α} (hx : B.good x) : (Instr.lookup t (.map (some b)) (B.mkK x) false).run P w = .ok (B.mkV ((g x).getD B.z)) w := by
  obtain ⟨D, ho, _, T⟩ := h
  obtain ⟨kl, hk⟩ := B.key x hx
  obtain ⟨v, ps, hr, hv⟩ := ho.lookup B.K B.ht (B.zero w) (selfRead_mk _ _) hk
  obtain ⟨y, rfl, hy⟩ := selfRead_inv hv
  rw [T.val hk] at hy
  have e1 : B.mkV ((g x).getD B.z) = B.mkV y := by simpa using congrArg Prod.fst hy
  rw [e1]; exact hr
/-- 'v, ok := m[k]'. -/
theorem MapF.look2 (h : MapF B w b g c) {x : α} (hx : B.good x) : (Instr.lookup t (.map (some b)) (B.mkK x) true).run P w = .ok (.tuple #[B.mkV ((g x).getD B.z), .bool (g x).isSome]) w := by
  obtain ⟨D, ho, _, T⟩ := h
  obtain ⟨kl, hk⟩ := B.key x hx
  obtain ⟨v, ps, hr, hv⟩ := ho.look_ok B.K B.ht (B.zero w) (selfRead_mk _ _) hk
  obtain ⟨y, rfl, hy⟩ := selfRead_inv hv
  rw [T.val hk] at hy
  have e1 : B.mkV ((g x).getD B.z) = B.mkV y := by simpa using congrArg Prod.fst hy
  rw [e1, ← T.has x kl hk]; exact hr
theorem MapF.len (h : MapF B w b g c) (ty : TypeId) : (Builtin.len_ #[t] ty #[.map (some b)]).run P w = .ok (.int .i64 c) w := by
  obtain ⟨D, ho, hs, _⟩ := h
  rw [ho.len B.ht ty, hs]
theorem Kind.lit_inj {x y : α} {kl : Lit} (hx : keyOf P k (B.mkK x) = some kl) (hy : keyOf P k (B.mkK y) = some kl) : x = y := B.injK _ _ (B.K.inj hx hy)
theorem Kind.lit_ne {x y : α} {kx ky : Lit} (h : y ≠ x) (hx : keyOf P k (B.mkK x) = some kx) (hy : keyOf P k (B.mkK y) = some ky) : ky ≠ kx := fun e => h (Kind.lit_inj (B := B) hy (by rw [e]; exact hx))
variable [DecidableEq α]
def updF (g : α → Option β) (x : α) (y : Option β) : α → Option β := fun x' => if x' = x then y else g x'
/-- 'm[k] = v'. -/
theorem MapF.store (h : MapF B w b g c) {x : α} (hx : B.good x) (y : β) (hc : c < maxLen) :
    ∃ w', (Instr.mapUpdate t (.map (some b)) (B.mkK x) (B.mkV y)).run P w = .ok () w' ∧ MapF B w' b (updF g x (some y)) (if (g x).isSome then c else c + 1) ∧ Kept (fun i => i = b) w w' ∧ w'.heap.size = w.heap.size := by
  obtain ⟨D, ho, hs, T⟩ := h
  obtain ⟨kl, hk⟩ := B.key x hx
  obtain ⟨w', hr, ho', ht⟩ := ho.store B.K B.ht hc hk (selfRead_mk B.mkV y)
  have hsz : Maps.size (D.put kl (.held (B.mkV y))) = if (g x).isSome then c else c + 1 := by
    rw [Maps.size_put (ho.tidy B.K), T.has x kl hk, hs]
  refine ⟨w', hr, ⟨D.put kl (.held (B.mkV y)), ?_, hsz, fun x' kl' hk' => ?_, fun x' kl' y' hk' hg' z => ?_⟩, kept_of_turned ht, ?_⟩
  · obtain ⟨es, clock, hb, F, _, hD⟩ := ho'
    refine ⟨es, clock, hb, F, ?_, hD⟩
    rw [← hsz, hD]; simp [Maps.size, length_sorted]
  · by_cases e : x' = x
    · subst e
      rw [hk] at hk'; cases hk'
      simp [updF, Maps.has_put_same ho.isMap (B.K.key hk)]
    · rw [Maps.has_put_other (Kind.lit_ne e hk hk'), T.has x' kl' hk']
      simp [updF, e]
  · by_cases e : x' = x
    · subst e
      rw [hk] at hk'; cases hk'
      simp [updF] at hg'
      rw [Maps.atKey_put_same ho.isMap (B.K.key hk), hg']
    · rw [Maps.atKey_put_other (Kind.lit_ne e hk hk')]
      exact T.at_ x' kl' y' hk' (by simpa [updF, e] using hg') z
  · obtain ⟨es, clock, es', clock', hb, rfl⟩ := ht
    simp [ChangeMaps.setBlock]
/-- 'delete(m, k)'. -/
theorem MapF.drop (h : MapF B w b g c) {x : α} (hx : B.good x) (ty : TypeId) :
    ∃ w', (Builtin.delete_ #[t, k] ty #[.map (some b), B.mkK x]).run P w = .ok (.tuple #[]) w' ∧ MapF B w' b (updF g x none) (if (g x).isSome then c - 1 else c) ∧ Kept (fun i => i = b) w w' ∧ w'.heap.size = w.heap.size := by
  obtain ⟨D, ho, hs, T⟩ := h
  obtain ⟨kl, hk⟩ := B.key x hx
  obtain ⟨w', hr, ho', ht⟩ := ho.drop B.K B.ht hk ty
  have hsz : Maps.size (D.del kl) = if (g x).isSome then c - 1 else c := by
    have := Maps.size_del (ho.tidy B.K) (k := kl)
    rw [T.has x kl hk, hs] at this
    split at this <;> simp_all <;> omega
  refine ⟨w', hr, ⟨D.del kl, ?_, hsz, fun x' kl' hk' => ?_, fun x' kl' y' hk' hg' z => ?_⟩, kept_of_turned ht, ?_⟩
  · obtain ⟨es, clock, hb, F, _, hD⟩ := ho'
    refine ⟨es, clock, hb, F, ?_, hD⟩
    rw [← hsz, hD]; simp [Maps.size, length_sorted]
  · by_cases e : x' = x
    · subst e
      rw [hk] at hk'; cases hk'
      simp [updF, Maps.has_del_same]
    · rw [Maps.has_del_other (Kind.lit_ne e hk hk'), T.has x' kl' hk']
      simp [updF, e]
  · by_cases e : x' = x
    · subst e
      simp [updF] at hg'
    · rw [Maps.atKey_del_other (Kind.lit_ne e hk hk')]
      exact T.at_ x' kl' y' hk' (by simpa [updF, e] using hg') z
  · obtain ⟨es, clock, es', clock', hb, rfl⟩ := ht
    simp [ChangeMaps.setBlock]
end
section
variable {P : Program} {t k e : TypeId} {α β : Type} {B : Kind P t k e α β} [DecidableEq α] (w : World) {ops : Array Oper} {rest : List Oper} {o : Oper} {a : Act} {Q : Exit → Act → World → Prop}
/-- 'm[k] = v' at the operation. -/
theorem wpList_mapF_store (hg : o.guard = none) (m x v : Operand) (hop : o.op = Op.mapUpdate t m x v) {b c : Nat} {g : α → Option β} (h : MapF B w b g c) (hc : c < maxLen) (hm : a.eval m = .map (some b)) (kx : α) (hgood : B.good kx) (y : β) (hx : a.eval x = B.mkK kx) (hv : a.eval v = B.mkV y)
    (hK : ∀ w', MapF B w' b (updF g kx (some y)) (if (g kx).isSome then c else c + 1) → Kept (fun i => i = b) w w' → w'.heap.size = w.heap.size → wpList P ops Q rest (a.put o.dst undef) w') :
    wpList P ops Q (o :: rest) a w := by
  refine wpList_plain hg fun K' hK' => ?_
  obtain ⟨w', hrun, r1, r2, r3⟩ := h.store hgood y hc
  unfold Oper.wp
  simp [execOp, hop, hm, hx, hv, hrun, Result.andThen]
  exact hK' _ _ (hK w' r1 r2 r3)
/-- .. at a step of a region that draws its order. -/
theorem step_mapF_store {K : Act → World → Prop} {E : Prop} (hg : o.guard = none) (m x v : Operand) (hop : o.op = Op.mapUpdate t m x v) {b c : Nat} {g : α → Option β} (h : MapF B w b g c) (hc : c < maxLen) (hm : a.eval m = .map (some b)) (kx : α) (hgood : B.good kx) (y : β) (hx : a.eval x = B.mkK kx) (hv : a.eval v = B.mkV y)
    (hK : ∀ w', MapF B w' b (updF g kx (some y)) (if (g kx).isSome then c else c + 1) → Kept (fun i => i = b) w w' → w'.heap.size = w.heap.size → K (a.put o.dst undef) w') :
    if Region.wanted o (yielded ops a.tmps) = true then Oper.wp P o a w K Q else E := by
  have hw : Region.wanted o (yielded ops a.tmps) = true := by simp [Region.wanted, hg]
  rw [if_pos hw]
  obtain ⟨w', hrun, r1, r2, r3⟩ := h.store hgood y hc
  unfold Oper.wp
  simp only [execOp, hop, hm, hx, hv, Sem.run_bind, hrun, Result.andThen, Sem.run_pure]
  exact hK w' r1 r2 r3
/-- 'delete(m, k)' at the operation. -/
theorem wpList_mapF_drop (hg : o.guard = none) (m x : Operand) (hop : o.op = Op.call { callee := Callee.builtin Builtin.delete, args := #[m, x], argTypes := #[t, k] }) {b c : Nat} {g : α → Option β} (h : MapF B w b g c) (hm : a.eval m = .map (some b)) (kx : α) (hgood : B.good kx) (hx : a.eval x = B.mkK kx)
    (hK : ∀ w', MapF B w' b (updF g kx none) (if (g kx).isSome then c - 1 else c) → Kept (fun i => i = b) w w' → w'.heap.size = w.heap.size → wpList P ops Q rest (a.put o.dst (.tuple #[])) w') :
    wpList P ops Q (o :: rest) a w := by
  refine wpList_plain hg fun K' hK' => ?_
  obtain ⟨w', hrun, r1, r2, r3⟩ := h.drop hgood o.type
  unfold Oper.wp
  simp [execOp, hop, resolve, invoke, builtin, hm, hx, hrun, Result.andThen]
  exact hK' _ _ (hK w' r1 r2 r3)
end
section
variable {P : Program} {t k e : TypeId} {α β : Type} (B : Kind P t k e α β)
/-- A loop over a map is under way: whose turn is still to come. -/
def RangeF (w : World) (b r : Nat) (g : α → Option β) (c : Nat) (left : α → Bool) (cnt : Nat) : Prop :=
  ∃ D lf, w.ranges P k (selfRead B.mkV) b r c D lf cnt ∧ Maps.size D = c ∧ Tells B g D ∧ ∀ x kl, keyOf P k (B.mkK x) = some kl → left x = lf kl
variable {B} {w : World} {b r c cnt : Nat} {g : α → Option β} {left : α → Bool}
theorem RangeF.map (h : RangeF B w b r g c left cnt) : MapF B w b g c := by
  obtain ⟨D, lf, h1, h2, h3, _⟩ := h
  exact ⟨D, h1.owns, h2, h3⟩
theorem RangeF.ne (h : RangeF B w b r g c left cnt) : r ≠ b := by obtain ⟨D, lf, h1, _⟩ := h; exact h1.ne
theorem RangeF.lt (h : RangeF B w b r g c left cnt) : r < w.heap.size := by obtain ⟨D, lf, h1, _⟩ := h; exact h1.lt
theorem RangeF.left_eq (h : RangeF B w b r g c left cnt) : w.rangeLeft b r = cnt := by obtain ⟨D, lf, h1, _⟩ := h; exact h1.left_eq
theorem RangeF.kept {F : Nat → Prop} {w' : World} (h : RangeF B w b r g c left cnt) (hk : Kept F w w') (hb : ¬ F b) (hr : ¬ F r) : RangeF B w' b r g c left cnt := by
  obtain ⟨D, lf, ⟨es, clock, since, seen, c0, h1, h2, h3, h4, h5, h6⟩, rest⟩ := h
  exact ⟨D, lf, ⟨es, clock, since, seen, c0, hk.at h1 hb, h2, h3, h4, hk.at h5 hr, h6⟩, rest⟩
theorem kept_of_grown {w' : World} {row : Option Nat} (h : w.grownBy w' row) : Kept (fun i => row = some i) w w' := (Kept.refl _ _).grown h fun _ e => .inl e
end
section
variable {P : Program} {t k e : TypeId} {α β : Type} {B : Kind P t k e α β} [DecidableEq α] (w : World) {ops : Array Oper} {rest : List Oper} {o : Oper} {a : Act} {Q : Exit → Act → World → Prop}
omit [DecidableEq α] in
/-- 'range m' at the operation. -/
theorem wpList_mapF_range (hg : o.guard = none) (m : Operand) (hop : o.op = Op.range t m) {b c : Nat} {g : α → Option β} (h : MapF B w b g c) (hm : a.eval m = .map (some b))
    (hK : ∀ w', RangeF B w' b w.heap.size g c (fun x => (g x).isSome) c → New w w' → w'.heap.size = w.heap.size + 1 → wpList P ops Q rest (a.put o.dst (.pointer (some ⟨w.heap.size, 0, none⟩))) w') :
    wpList P ops Q (o :: rest) a w := by
  refine wpList_plain hg fun K' hK' => ?_
  obtain ⟨D, ho, hs, T⟩ := h
  obtain ⟨w', hrun, r1, r2, r3⟩ := ho.range B.K B.ht
  unfold Oper.wp
  simp [execOp, hop, hm, hrun, Result.andThen]
  exact hK' _ _ (hK w' ⟨D, _, hs ▸ r1, hs, T, fun x kl hk => (T.has x kl hk).symm⟩ ((Kept.refl _ _).grown r2 fun _ e => by cases e) r3)
/-- The step. -/
theorem wpList_mapF_next (hg : o.guard = none) (it : Operand) (hop : o.op = Op.next it false) {b r c cnt : Nat} {g : α → Option β} {left : α → Bool} (hit : a.eval it = .pointer (some ⟨r, 0, none⟩)) (h : RangeF B w b r g c left cnt)
    (hDone : cnt = 0 → (∀ x, B.good x → left x = false) → wpList P ops Q rest (a.put o.dst (.tuple #[.bool false])) w)
    (hMore : ∀ (x : α) (y : β) (w' : World) (cnt' : Nat), B.good x → left x = true → g x = some y → RangeF B w' b r g c (fun x' => left x' && !decide (x' = x)) cnt' → cnt' < cnt →
      Kept (fun i => i = r) w w' → w'.heap.size = w.heap.size → (Instr.entry (.pointer (some ⟨r, 0, none⟩))).run P w' = .ok (.tuple #[B.mkK x, B.mkV y]) w' → wpList P ops Q rest (a.put o.dst (.tuple #[.bool true, B.mkK x, B.mkV y])) w') :
    wpList P ops Q (o :: rest) a w := by
  obtain ⟨D, lf, h1, hs, T, hl⟩ := h
  refine wpList_next_ranges w hg it hop k B.K (selfRead B.mkV) B.mkK B.mkV (fun key kl hk => (B.inv key kl hk).imp fun _ h => h.1) (fun v y hv => (selfRead_inv hv).imp fun _ h => h.1) b r c D lf cnt hit h1 (fun h0 h => hDone h0 fun x hx => ?_) ?_
  · obtain ⟨kl, hk⟩ := B.key x hx
    rw [hl x kl hk]; exact h kl
  · intro x y kl z w' cnt' hk hlk hv hat hrg hlt hgr hsz hen
    have hgood : B.good x := by
      obtain ⟨x', e1, e2⟩ := B.inv _ _ hk
      rw [B.injK _ _ e1]; exact e2
    have hgx : g x = some y := by
      have hh := T.has x kl hk
      cases hg0 : g x with
      | none =>
        rw [hg0] at hh
        have e1 := (hat .nil).symm.trans (Maps.atKey_of_not_has hh .nil)
        have e2 := (hat (.lit (.bool true))).symm.trans (Maps.atKey_of_not_has hh _)
        rw [e1] at e2; cases e2
      | some y' =>
        have e1 := (T.at_ x kl y' hk hg0 .nil).symm.trans (hat .nil)
        obtain ⟨y2, e2, e3⟩ := selfRead_inv hv
        rw [e3] at e1
        have : B.mkV y' = B.mkV y2 := by simpa using e1
        rw [B.injV _ _ (this.trans e2.symm)]
    refine hMore x y w' cnt' hgood (by rw [hl x kl hk]; exact hlk) hgx ⟨D, _, hrg, hs, T, fun x' kl' hk' => ?_⟩ hlt ((kept_of_grown hgr).mono fun _ _ e => by cases e; rfl) hsz hen
    show (left x' && !decide (x' = x)) = (lf kl' && !kl'.sameKey kl)
    rw [hl x' kl' hk']
    congr 2
    by_cases e : x' = x
    · subst e
      rw [hk] at hk'; cases hk'
      simp [WideAt.sameKey_self (B.K.key hk)]
    · rw [Maps.sameKey_ne (Kind.lit_ne e hk hk')]
      simp [e]
end
end Go.Proofs.YtolifmpjbmekdaaDoor
