/-
What keys say of a queue, and what becomes of it when a number is pushed or popped; conditions: numbers are below 2^62.
-/
import Derived.Test.YtmlnjheiogmlaaaPush
namespace Go.Proofs.Ytmlnjheiogmlaaa
open Go.Proofs.Ytmlnjheiogmlaaa.Pure
abbrev Look := ByteArray → ByteArray × Bool
def nothing : ByteArray × Bool := (⟨#[]⟩, false)
def upd (f : Look) (k : ByteArray) (x : ByteArray × Bool) : Look := fun k' => if k' = k then x else f k'
theorem upd_same (f : Look) (k : ByteArray) (x : ByteArray × Bool) : upd f k x k = x := if_pos rfl
theorem upd_other (f : Look) {k k' : ByteArray} (x : ByteArray × Bool) (h : k' ≠ k) : upd f k x k' = f k' := if_neg h
/-- Each key stands once. -/
def Once (l : List (ByteArray × ByteArray)) : Prop := (l.map Prod.fst).Nodup
theorem get_put (l : List (ByteArray × ByteArray)) (k t : ByteArray) : kvGet (kvPut l k t) = upd (kvGet l) k (t, true) := by
  funext k'
  induction l with
  | nil =>
    by_cases h : k' = k
    · subst h; simp [kvPut, kvGet, upd]
    · simp [kvPut, kvGet, upd, h, Ne.symm h]
  | cons p l ih =>
    simp only [kvPut]
    by_cases h : p.1 = k
    · rw [if_pos h]
      by_cases h' : k' = k
      · subst h'; simp [kvGet, upd, h]
      · simp [kvGet, upd, h, h', Ne.symm h']
    · rw [if_neg h]
      by_cases h' : p.1 = k'
      · subst h'; simp [kvGet, upd, h]
      · simp only [kvGet, if_neg h', ih, upd]
theorem get_absent {l : List (ByteArray × ByteArray)} {k : ByteArray} (h : k ∉ l.map Prod.fst) : kvGet l k = nothing := by
  induction l with
  | nil => rfl
  | cons p l ih =>
    simp only [List.map_cons, List.mem_cons, not_or] at h
    rw [kvGet, if_neg (Ne.symm h.1)]
    exact ih h.2
theorem get_del {l : List (ByteArray × ByteArray)} (k : ByteArray) (ho : Once l) : kvGet (kvDel l k) = upd (kvGet l) k nothing := by
  funext k'
  induction l with
  | nil => simp [kvDel, kvGet, upd, nothing]
  | cons p l ih =>
    obtain ⟨h1, h2⟩ := List.nodup_cons.1 ho
    simp only [kvDel]
    by_cases h : p.1 = k
    · rw [if_pos h]
      subst h
      by_cases h' : k' = p.1
      · subst h'
        rw [upd_same, get_absent h1]
      · rw [upd_other _ _ h', kvGet, if_neg (Ne.symm h')]
    · rw [if_neg h]
      by_cases h' : p.1 = k'
      · subst h'; simp [kvGet, upd, h]
      · simp only [kvGet, if_neg h', ih h2, upd]
theorem put_keys (l : List (ByteArray × ByteArray)) (k t : ByteArray) : ∀ x ∈ (kvPut l k t).map Prod.fst, x = k ∨ x ∈ l.map Prod.fst := by
  induction l with
  | nil => intro x hx; simp [kvPut] at hx; exact .inl hx
  | cons p l ih =>
    intro x hx
    simp only [kvPut] at hx
    split at hx
    · exact .inr (by simpa using hx)
    · simp only [List.map_cons, List.mem_cons] at hx ⊢
      rcases hx with hx | hx
      · exact .inr (.inl hx)
      · exact (ih x hx).imp id .inr
theorem once_put {l : List (ByteArray × ByteArray)} (k t : ByteArray) (ho : Once l) : Once (kvPut l k t) := by
  induction l with
  | nil => simp [kvPut, Once]
  | cons p l ih =>
    obtain ⟨h1, h2⟩ := List.nodup_cons.1 ho
    simp only [kvPut]
    split
    · exact ho
    · rename_i h
      refine List.nodup_cons.2 ⟨fun hx => ?_, ih h2⟩
      rcases put_keys l k t _ hx with e | e
      · exact h e
      · exact h1 e
theorem del_sub (l : List (ByteArray × ByteArray)) (k : ByteArray) : ((kvDel l k).map Prod.fst).Sublist (l.map Prod.fst) := by
  induction l with
  | nil => exact List.Sublist.refl _
  | cons p l ih =>
    simp only [kvDel]
    split
    · exact List.sublist_cons_self _ _
    · exact ih.cons_cons _
theorem once_del {l : List (ByteArray × ByteArray)} (k : ByteArray) (ho : Once l) : Once (kvDel l k) := (del_sub l k).nodup ho
theorem empty_of {l : List (ByteArray × ByteArray)} (h : ∀ k, kvGet l k = nothing) : l = [] := by
  match l with
  | [] => rfl
  | p :: l =>
    have := h p.1
    simp [kvGet, nothing] at this
/-! ### Keys of a queue -/
abbrev nmOf (c : UInt8) : ByteArray := ⟨#[c]⟩
def plK (c : UInt8) (n : Nat) : ByteArray := nmOf c ++ ⟨#[112]⟩ ++ str (key n)
def meK (c : UInt8) (n : Nat) : ByteArray := nmOf c ++ ⟨#[109]⟩ ++ str (key n)
def enK (c d : UInt8) : ByteArray := nmOf c ++ ⟨#[101]⟩ ++ ⟨#[d]⟩
theorem plK_eq (c : UInt8) (n : Nat) : plK c n = str (c :: 112 :: key n) := by apply ByteArray.ext; simp [plK, nmOf, str]
theorem meK_eq (c : UInt8) (n : Nat) : meK c n = str (c :: 109 :: key n) := by apply ByteArray.ext; simp [meK, nmOf, str]
theorem enK_eq (c d : UInt8) : enK c d = str [c, 101, d] := by apply ByteArray.ext; simp [enK, nmOf, str]
/-- A key of the queue of a name. -/
inductive IsKey (c : UInt8) : ByteArray → Prop where
  | pl (n : Nat) : IsKey c (plK c n)
  | me (n : Nat) : IsKey c (meK c n)
  | en (d : UInt8) : IsKey c (enK c d)
theorem isKey_head {c : UInt8} {k : ByteArray} (h : IsKey c k) : ∃ r, k = str (c :: r) := by
  cases h with
  | pl n => exact ⟨_, plK_eq c n⟩
  | me n => exact ⟨_, meK_eq c n⟩
  | en d => exact ⟨_, enK_eq c d⟩
theorem isKey_apart {c d : UInt8} (h : c ≠ d) {k k' : ByteArray} (hk : IsKey c k) (hk' : IsKey d k') : k ≠ k' := by
  obtain ⟨r, rfl⟩ := isKey_head hk
  obtain ⟨s, rfl⟩ := isKey_head hk'
  intro e
  exact h (List.cons.inj (str_inj e)).1
theorem pl_inj {c : UInt8} {n m : Nat} (h : plK c n = plK c m) : n = m := by
  rw [plK_eq, plK_eq] at h
  exact key_inj (List.cons.inj (List.cons.inj (str_inj h)).2).2
theorem me_inj {c : UInt8} {n m : Nat} (h : meK c n = meK c m) : n = m := by
  rw [meK_eq, meK_eq] at h
  exact key_inj (List.cons.inj (List.cons.inj (str_inj h)).2).2
theorem pl_me {c : UInt8} {n m : Nat} : plK c n ≠ meK c m := by
  rw [plK_eq, meK_eq]
  intro h
  have := (List.cons.inj (List.cons.inj (str_inj h)).2).1
  exact absurd this (by decide)
theorem pl_en {c d : UInt8} {n : Nat} : plK c n ≠ enK c d := by
  rw [plK_eq, enK_eq]
  intro h
  have := (List.cons.inj (List.cons.inj (str_inj h)).2).1
  exact absurd this (by decide)
theorem me_en {c d : UInt8} {n : Nat} : meK c n ≠ enK c d := by
  rw [meK_eq, enK_eq]
  intro h
  have := (List.cons.inj (List.cons.inj (str_inj h)).2).1
  exact absurd this (by decide)
theorem en_inj {c d e : UInt8} (h : enK c d = enK c e) : d = e := by
  rw [enK_eq, enK_eq] at h
  have := str_inj h
  simpa using this
/-- What keys say of a queue: the place of the first one, and the numbers that wait. -/
structure QI (c : UInt8) (a : Nat) (l : List Nat) (f : Look) : Prop where
  once : l.Nodup
  small : ∀ v ∈ l, v < 4611686018427387904
  zero : l = [] → a = 0
  ea : f (enK c 97) = if a = 0 then nothing else (str (num a), true)
  eb : f (enK c 98) = if l = [] then nothing else (str (num (a + l.length)), true)
  pl : ∀ i, f (plK c i) = match (if a ≤ i then l[i - a]? else none) with | some v => (str (num v), true) | none => nothing
  me : ∀ v, f (meK c v) = if v ∈ l then (⟨#[]⟩, true) else nothing
  other : ∀ d, d ≠ 97 → d ≠ 98 → f (enK c d) = nothing
theorem QI.start (c : UInt8) : QI c 0 [] (fun _ => nothing) := ⟨List.nodup_nil, by simp, fun _ => rfl, rfl, rfl, fun i => by simp, fun v => by simp, fun _ _ _ => rfl⟩
theorem QI.apart {c : UInt8} {a : Nat} {l : List Nat} {f g : Look} (h : QI c a l f) (hg : ∀ k, IsKey c k → g k = f k) : QI c a l g :=
  ⟨h.once, h.small, h.zero, (hg _ (.en _)).trans h.ea, (hg _ (.en _)).trans h.eb, fun i => (hg _ (.pl i)).trans (h.pl i), fun v => (hg _ (.me v)).trans (h.me v), fun d h1 h2 => (hg _ (.en d)).trans (h.other d h1 h2)⟩
theorem QI.empty {c : UInt8} {a : Nat} {f : Look} (h : QI c a [] f) {k : ByteArray} (hk : IsKey c k) : f k = nothing := by
  have ha := h.zero rfl
  subst ha
  cases hk with
  | pl n => rw [h.pl]; simp
  | me n => rw [h.me]; simp
  | en d =>
    by_cases h1 : d = 97
    · rw [h1, h.ea, if_pos rfl]
    · by_cases h2 : d = 98
      · rw [h2, h.eb, if_pos rfl]
      · exact h.other d h1 h2
/-- What the keys say behind a push. -/
def pushF (f : Look) (c : UInt8) (n b : Nat) : Look := upd (upd (upd f (plK c b) (str (num n), true)) (meK c n) (⟨#[]⟩, true)) (enK c 98) (str (num (b + 1)), true)
theorem QI.push {c : UInt8} {a : Nat} {l : List Nat} {f : Look} (h : QI c a l f) {n : Nat} (hn : n ∉ l) (hs : n < 4611686018427387904) : QI c a (l ++ [n]) (pushF f c n (a + l.length)) := by
  unfold pushF
  refine ⟨?_, ?_, by simp, ?_, ?_, fun i => ?_, fun v => ?_, fun d h1 h2 => ?_⟩
  · rw [List.nodup_append]
    exact ⟨h.once, by simp, fun x hx y hy e => hn (List.mem_singleton.1 hy ▸ e ▸ hx)⟩
  · intro v hv
    rcases List.mem_append.1 hv with hv | hv
    · exact h.small v hv
    · rw [List.mem_singleton.1 hv]; exact hs
  · rw [upd_other _ _ (fun e => absurd (en_inj e) (by decide)), upd_other _ _ (Ne.symm me_en), upd_other _ _ (Ne.symm pl_en)]
    exact h.ea
  · rw [upd_same, if_neg (by simp)]
    simp [Nat.add_assoc]
  · rw [upd_other _ _ pl_en, upd_other _ _ pl_me]
    by_cases hi : i = a + l.length
    · subst hi
      rw [upd_same, if_pos (by omega), show a + l.length - a = l.length by omega]
      simp
    · rw [upd_other _ _ (fun e => hi (pl_inj e)), h.pl]
      by_cases ha : a ≤ i
      · rw [if_pos ha, if_pos ha]
        congr 1
        rw [List.getElem?_append]
        split
        · rfl
        · rw [List.getElem?_eq_none (by omega), List.getElem?_eq_none (by simp; omega)]
      · rw [if_neg ha, if_neg ha]
  · rw [upd_other _ _ me_en]
    by_cases hv : v = n
    · subst hv; rw [upd_same, if_pos (by simp)]
    · rw [upd_other _ _ (fun e => hv (me_inj e)), upd_other _ _ (Ne.symm pl_me), h.me]
      simp [hv]
  · rw [upd_other _ _ (fun e => h2 (en_inj e)), upd_other _ _ (Ne.symm me_en), upd_other _ _ (Ne.symm pl_en)]
    exact h.other d h1 h2
/-- What the keys say behind a pop, if more wait. -/
def popF (f : Look) (c : UInt8) (v a : Nat) : Look := upd (upd (upd f (plK c a) nothing) (meK c v) nothing) (enK c 97) (str (num (a + 1)), true)
def lastF (f : Look) (c : UInt8) (v a : Nat) : Look := upd (upd (upd (upd f (plK c a) nothing) (meK c v) nothing) (enK c 97) nothing) (enK c 98) nothing
theorem QI.pop {c : UInt8} {a v : Nat} {r : List Nat} {f : Look} (h : QI c a (v :: r) f) (hr : r ≠ []) : QI c (a + 1) r (popF f c v a) := by
  obtain ⟨h1, h2⟩ := List.nodup_cons.1 h.once
  unfold popF
  refine ⟨h2, fun x hx => h.small x (List.mem_cons_of_mem _ hx), fun e => absurd e hr, ?_, ?_, fun i => ?_, fun x => ?_, fun d d1 d2 => ?_⟩
  · rw [upd_same, if_neg (by omega)]
  · rw [upd_other _ _ (fun e => absurd (en_inj e) (by decide)), upd_other _ _ (Ne.symm me_en), upd_other _ _ (Ne.symm pl_en), h.eb, if_neg (by simp), if_neg hr, show a + (v :: r).length = a + 1 + r.length by simp; omega]
  · rw [upd_other _ _ pl_en, upd_other _ _ pl_me]
    by_cases hi : i = a
    · subst hi
      rw [upd_same, if_neg (by omega)]
    · rw [upd_other _ _ (fun e => hi (pl_inj e)), h.pl]
      by_cases ha : a + 1 ≤ i
      · rw [if_pos ha, if_pos (by omega), show i - a = (i - (a + 1)) + 1 by omega, List.getElem?_cons_succ]
      · rw [if_neg ha, if_neg (by omega)]
  · rw [upd_other _ _ me_en]
    by_cases hv : x = v
    · subst hv; rw [upd_same, if_neg h1]
    · rw [upd_other _ _ (fun e => hv (me_inj e)), upd_other _ _ (Ne.symm pl_me), h.me]
      simp [hv]
  · rw [upd_other _ _ (fun e => d1 (en_inj e)), upd_other _ _ (Ne.symm me_en), upd_other _ _ (Ne.symm pl_en)]
    exact h.other d d1 d2
theorem QI.last {c : UInt8} {a v : Nat} {f : Look} (h : QI c a [v] f) : QI c 0 [] (lastF f c v a) := by
  unfold lastF
  refine ⟨List.nodup_nil, by simp, fun _ => rfl, ?_, ?_, fun i => ?_, fun x => ?_, fun d d1 d2 => ?_⟩
  · rw [upd_other _ _ (fun e => absurd (en_inj e) (by decide)), upd_same]; rfl
  · rw [upd_same]; rfl
  · rw [upd_other _ _ pl_en, upd_other _ _ pl_en, upd_other _ _ pl_me]
    by_cases hi : i = a
    · subst hi; rw [upd_same]; simp
    · rw [upd_other _ _ (fun e => hi (pl_inj e)), h.pl]
      by_cases ha : a ≤ i
      · rw [if_pos ha, List.getElem?_eq_none (by simp; omega)]; simp
      · rw [if_neg ha]; simp
  · rw [upd_other _ _ me_en, upd_other _ _ me_en]
    by_cases hv : x = v
    · subst hv; rw [upd_same]; simp
    · rw [upd_other _ _ (fun e => hv (me_inj e)), upd_other _ _ (Ne.symm pl_me), h.me]
      simp [hv]
  · rw [upd_other _ _ (fun e => d2 (en_inj e)), upd_other _ _ (fun e => d1 (en_inj e)), upd_other _ _ (Ne.symm me_en), upd_other _ _ (Ne.symm pl_en)]
    exact h.other d d1 d2
end Go.Proofs.Ytmlnjheiogmlaaa
