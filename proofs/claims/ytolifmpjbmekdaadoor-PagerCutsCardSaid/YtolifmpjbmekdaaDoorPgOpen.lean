/-
The pager's Open; conditions: the disk lies in memory as told, what the first sectors say is known.
-/
import Derived.Test.YtolifmpjbmekdaaDoorCalm
import Derived.BigRegion
namespace Go.Proofs.YtolifmpjbmekdaaDoor
open Go.RowKit
open Go.Lib (hid)
variable {F : Nat → Prop} {q : Nat} {D : DS} {w : World}
/-- What a pager has when it is opened. -/
def PS.opened (gen : Nat) (root : Int) (many : Nat) : PS := ⟨gen, root, many, fun n => decide (n < 2), fun n => decide (n < 2), fun _ => none, fun _ => none, []⟩
theorem Disk.few (h : Disk q D F w) : D.n ≤ 16384 := by
  obtain ⟨S, bd, bt, vw, vc, h1, _⟩ := h
  exact h1.few
theorem Disk.at_lt (h : Disk q D F w) : q < w.heap.size := by
  obtain ⟨S, bd, bt, vw, vc, h1, _⟩ := h
  exact h1.lt.1
/-- A pager that is made, but for the pages that are used. -/
structure Half (F : Nat → Prop) (p q pk bk mf mc gen : Nat) (root : Int) (many : Nat) (K : Nat → Bool) (D : DS) (w : World) : Prop where
  blk : w.heap[p]? = some (.cells #[ptr q, .int .u64 gen, .int .i64 root, ptr pk, .pointer none, .map (some mf), .map (some mc), .slice none 0 0] 83 (0, 0))
  disk : Disk q D F w
  kept : Spc pk bk many K w
  fresh : Pages w mf many fun _ => none
  clean : Pages w mc many fun _ => none
  same : D.n = many
  ne : mf ≠ mc
  np : ¬ F p
  npk : ¬ F pk
  nbk : ¬ F bk
  nmf : ¬ F mf
  nmc : ¬ F mc
theorem Half.apart {p pk bk mf mc gen many : Nat} {root : Int} {K : Nat → Bool} (h : Half F p q pk bk mf mc gen root many K D w) : (p ≠ pk ∧ p ≠ bk ∧ p ≠ mf ∧ p ≠ mc) ∧ (bk ≠ pk ∧ bk ≠ mf ∧ bk ≠ mc) := by
  have t1 := tag_cells h.blk
  have t2 := tag_cells h.kept.blk
  obtain ⟨c1, k1, _⟩ := h.kept.words
  obtain ⟨e1, l1, m1⟩ := h.fresh.blk
  obtain ⟨e2, l2, m2⟩ := h.clean.blk
  have t4 := tag_cells k1
  have t6 := tag_map m1
  have t7 := tag_map m2
  have ne : ∀ {a b x y : Nat}, tagOf w a = x → tagOf w b = y → x ≠ y → a ≠ b := fun ha hb hxy e => by subst e; exact hxy (ha.symm.trans hb)
  exact ⟨⟨ne t1 t2 (by decide), ne t1 t4 (by decide), ne t1 t6 (by decide), ne t1 t7 (by decide)⟩, ⟨ne t4 t2 (by decide), ne t4 t6 (by decide), ne t4 t7 (by decide)⟩⟩
theorem Half.setK {p pk bk mf mc gen many : Nat} {root : Int} {K K' : Nat → Bool} (h : Half F p q pk bk mf mc gen root many K D w) {w' : World} (hs : Spc pk bk many K' w') (hk : Kept (fun b => b = bk) w w') : Half F p q pk bk mf mc gen root many K' D w' := by
  obtain ⟨a, b⟩ := h.apart
  exact ⟨hk.at h.blk (by omega), h.disk.kept hk (notAt h.nbk), hs, h.fresh.kept hk (by omega), h.clean.kept hk (by omega), h.same, h.ne, h.np, h.npk, h.nbk, h.nmf, h.nmc⟩
theorem Half.new {p pk bk mf mc gen many : Nat} {root : Int} {K : Nat → Bool} (h : Half F p q pk bk mf mc gen root many K D w) {w' : World} (hk : New w w') : Half F p q pk bk mf mc gen root many K D w' :=
  ⟨hk.at h.blk id, h.disk.new hk, h.kept.new hk, h.fresh.kept hk id, h.clean.kept hk id, h.same, h.ne, h.np, h.npk, h.nbk, h.nmf, h.nmc⟩
/-- The pages that are used are a copy of those that are kept. -/
theorem Half.whole {p pk bk mf mc gen many : Nat} {root : Int} {K : Nat → Bool} (h : Half F p q pk bk mf mc gen root many K D w) {w9 : World} (hs : Spc (w.heap.size + 1) w.heap.size many K w9) (hn : New w w9) (hsz : w9.heap.size = w.heap.size + 2) (hg : gen < 1000000) :
    PgrAt (fun b => F b ∧ ¬ (w.heap.size ≤ b ∧ b < w9.heap.size)) p q pk bk (w.heap.size + 1) w.heap.size mf mc (.slice none 0 0) ⟨gen, root, many, K, K, fun _ => none, fun _ => none, []⟩ D (w9.setCell ⟨p, 4, none⟩ (ptr (w.heap.size + 1))) := by
  obtain ⟨a, b⟩ := h.apart
  have l1 := blk_lt h.blk
  have l2 := h.kept.lt
  have l3 := h.fresh.lt
  have l4 := h.clean.lt
  have hk : Kept (fun b => b = p) w9 (w9.setCell ⟨p, 4, none⟩ (ptr (w.heap.size + 1))) := keptc w9 4 _
  have hb := heap_setCell_same (i := 4) (u := ptr (w.heap.size + 1)) (hn.at h.blk id)
  have h9 := h.new hn
  refine ⟨hb.trans (by simp), (h.disk.less hn fun _ e => e).kept hk (notAt fun e => h.np e.1), h9.kept.kept hk (by omega) (by omega), hs.kept hk (by omega) (by omega), h9.fresh.kept hk (by omega), h9.clean.kept hk (by omega), nil_owns _ _ _ _, hg, by simp, h.same, ?_, ?_, h.ne, fun e => h.np e.1, fun e => h.npk e.1, fun e => h.nbk e.1, fun e => e.2 ⟨by omega, by omega⟩, fun e => e.2 ⟨by omega, by omega⟩, fun e => h.nmf e.1, fun e => h.nmc e.1, fun b hb => by cases hb⟩
  · show bk ≠ w.heap.size; omega
  · show pk ≠ w.heap.size + 1; omega
def OpenYes (F : Nat → Prop) (q : Nat) (D : DS) (gen : Nat) (root : Int) (w : World) (e : Ending) (w' : World) : Prop :=
  ∃ F' p pk bk pu bu mf mc, e = .returned (.tuple #[ptr p, .int .i64 0]) ∧ PgrAt F' p q pk bk pu bu mf mc (.slice none 0 0) (PS.opened gen root D.n) D w' ∧ (∀ b, F' b → F b) ∧ w.heap.size ≤ p ∧ w.heap.size ≤ pk ∧ w.heap.size ≤ bk ∧ w.heap.size ≤ pu ∧ w.heap.size ≤ bu ∧ w.heap.size ≤ mf ∧ w.heap.size ≤ mc
def OpenPost (F : Nat → Prop) (q : Nat) (a b : DS × ByteArray × Int) (c : Option (Nat × Int)) (w : World) (e : Ending) (w' : World) : Prop :=
  Kept F w w' ∧ ((a.2.2 ≠ 0 ∧ e = .returned (.tuple #[.pointer none, .int .i64 a.2.2]) ∧ Disk q a.1 F w') ∨
  (a.2.2 = 0 ∧ b.2.2 ≠ 0 ∧ e = .returned (.tuple #[.pointer none, .int .i64 b.2.2]) ∧ Disk q b.1 F w') ∨
  (a.2.2 = 0 ∧ b.2.2 = 0 ∧ c = none ∧ e = .returned (.tuple #[.pointer none, .int .i64 81]) ∧ Disk q b.1 F w') ∨
  (a.2.2 = 0 ∧ b.2.2 = 0 ∧ ∃ gen root, c = some (gen, root) ∧ OpenYes F q b.1 gen root w e w'))
theorem pages_empty {W : World} {b : Nat} (m : Nat) (hb : W.heap[b]? = some (.map #[] 0)) : Pages W b m fun _ => none := by
  refine ⟨0, ⟨.map [], ⟨#[], 0, hb, ⟨by simp, Go.MapKept.stamped_empty 0, by simp⟩, Nat.le_refl _, rfl⟩, rfl, fun _ _ _ => by simp; rfl, fun _ _ _ _ h => by simp at h⟩, fun n hn => by cases hn⟩
/-- The pager's block is made. -/
theorem half_make {W V : World} (hd : Disk q D F W) (hn : New W V) {pk bk mf mc gen many : Nat} {root : Int} {K : Nat → Bool} (sp : Spc pk bk many K V) (m1 : V.heap[mf]? = some (.map #[] 0)) (m2 : V.heap[mc]? = some (.map #[] 0)) (ne : mf ≠ mc) (s1 : W.heap.size ≤ pk) (s2 : W.heap.size ≤ bk) (s3 : W.heap.size ≤ mf) (s4 : W.heap.size ≤ mc) (hm : D.n = many) {p : Nat} (hp : V.heap.size = p) :
    Half (fun b => F b ∧ ¬ (W.heap.size ≤ b ∧ b < p + 1)) p q pk bk mf mc gen root many K D (V.alloc (.cells #[ptr q, .int .u64 gen, .int .i64 root, ptr pk, .pointer none, .map (some mf), .map (some mc), .slice none 0 0] 83)) := by
  subst hp
  have l1 := sp.lt
  have l3 := blk_lt m1
  have l4 := blk_lt m2
  have l5 := hn.size
  have na : New V (V.alloc (.cells #[ptr q, .int .u64 gen, .int .i64 root, ptr pk, .pointer none, .map (some mf), .map (some mc), .slice none 0 0] 83)) := (Kept.refl _ _).alloc _
  exact ⟨blk_new _ _, hd.less (hn.trans na) (fun b e => ⟨e.1, by simpa using e.2⟩), sp.new na, pages_empty many (na.at m1 id), pages_empty many (na.at m2 id), hm, ne, fun e => e.2 ⟨l5, by omega⟩, fun e => e.2 ⟨s1, by omega⟩, fun e => e.2 ⟨s2, by omega⟩, fun e => e.2 ⟨s3, by omega⟩, fun e => e.2 ⟨s4, by omega⟩⟩
theorem sector_n (D : DS) (n : Int) : (D.sector n).1.n = D.n := by
  unfold DS.sector
  split
  · exact read_n D n
  · exact read_n D n
/-- Sectors that are read lie in the row. -/
structure Secs (F : Nat → Prop) (q : Nat) (D' : DS) (w : World) (s t : ByteArray) (W : World) : Prop where
  disk : Disk q D' (fun b => F b ∧ ¬ (w.heap.size ≤ b ∧ b < w.heap.size + 1)) W
  kept : Kept F w W
  row : W.heap[w.heap.size]? = some (.cells #[.string s, .string t] 74 (0, 0))
theorem Secs.step {D' : DS} {s t : ByteArray} {W W2 : World} (h : Secs F q D' w s t W) {D2 : DS} (hd : Disk q D2 (fun b => F b ∧ ¬ (w.heap.size ≤ b ∧ b < w.heap.size + 1)) W2) (hk : Kept (fun b => F b ∧ ¬ (w.heap.size ≤ b ∧ b < w.heap.size + 1)) W W2) : Secs F q D2 w s t W2 :=
  ⟨hd, h.kept.trans (hk.mono fun _ _ e => e.1), hk.at h.row fun e => e.2 ⟨Nat.le_refl _, Nat.lt_succ_self _⟩⟩
theorem Secs.set0 {D' : DS} {s t : ByteArray} {W : World} (h : Secs F q D' w s t W) (hup : ∀ b, w.heap.size ≤ b → F b) (u : ByteArray) : Secs F q D' w u t (W.setCell ⟨w.heap.size, 0, none⟩ (.string u)) :=
  ⟨h.disk.kept (keptc W 0 _) (fun b _ hb e => hb.2 (by have e : b = w.heap.size := e; omega)), h.kept.trans ((keptc W 0 _).mono fun b _ e => hup b (by have e : b = w.heap.size := e; omega)), (heap_setCell_same h.row).trans (by simp)⟩
theorem Secs.set1 {D' : DS} {s t : ByteArray} {W : World} (h : Secs F q D' w s t W) (hup : ∀ b, w.heap.size ≤ b → F b) (u : ByteArray) : Secs F q D' w s u (W.setCell ⟨w.heap.size, 1, none⟩ (.string u)) :=
  ⟨h.disk.kept (keptc W 1 _) (fun b _ hb e => hb.2 (by have e : b = w.heap.size := e; omega)), h.kept.trans ((keptc W 1 _).mono fun b _ e => hup b (by have e : b = w.heap.size := e; omega)), (heap_setCell_same h.row).trans (by simp)⟩
theorem Secs.wide {D' : DS} {s t : ByteArray} {W : World} (h : Secs F q D' w s t W) : Disk q D' F W := h.disk.wider fun _ e => e.1
set_option maxHeartbeats 3200000 in
set_option maxRecDepth 100000 in
theorem open_calls (h : Disk q D F w) (hm : 2 ≤ D.n) {A B : Option (Nat × Int)} (hA : (D.sector 0).2.2 = 0 → ((D.sector 0).1.sector 1).2.2 = 0 → SupTells (D.sector 0).2.1 0 A ∧ SupTells ((D.sector 0).1.sector 1).2.1 1 B) (hg : ∀ gen root, later A B = some (gen, root) → gen < 1000000) :
    Calls Tryd.prog 11 #[.pointer (some ⟨q, 0, none⟩)] w (OpenPost F q (D.sector 0) ((D.sector 0).1.sector 1) (later A B) w) := by
  have n1 := sector_n D 0
  have n2 := sector_n (D.sector 0).1 1
  have hup := hid h.up
  have HS : Hid (∀ (E : DS) (i : Int) (W : World), Disk q E (fun b => F b ∧ ¬ (w.heap.size ≤ b ∧ b < w.heap.size + 1)) W → Calls Tryd.prog 30 #[.pointer (some ⟨q, 0, none⟩), .int .i64 i] W fun e w' => e = .returned (.tuple #[.string (E.sector i).2.1, .int .i64 (E.sector i).2.2]) ∧ Disk q (E.sector i).1 (fun b => F b ∧ ¬ (w.heap.size ≤ b ∧ b < w.heap.size + 1)) w' ∧ Kept (fun b => F b ∧ ¬ (w.heap.size ≤ b ∧ b < w.heap.size + 1)) W w') := hid fun E i W hW => sector_calls hW i
  have X0 : Hid (Secs F q D w ⟨#[]⟩ ⟨#[]⟩ (w.alloc (.cells #[.string ⟨#[]⟩, .string ⟨#[]⟩] 74))) := hid ⟨h.less ((Kept.refl _ _).alloc _) (fun b e => ⟨e.1, by simpa using e.2⟩), (Kept.refl _ _).alloc _, blk_new _ _⟩
  have HS0 := hid (fun W hW => HS.out D 0 W hW)
  have HS1 := hid (fun W hW => HS.out (D.sector 0).1 1 W hW)
  clear h HS
  generalize D.sector 0 = a at *
  generalize a.1.sector 1 = b at *
  generalize hc : later A B = c at *
  obtain ⟨a1, a2, a3⟩ := a
  obtain ⟨b1, b2, b3⟩ := b
  simp only at n1 n2 hA HS0 HS1
  have hn1 := hid (n2.trans n1)
  clear n1 n2
  go_enter Tryd.func11, Tryd.ntmps11
  go_wp2
  go_loopw [12] (fun v wr => (v = .int .i64 0 ∧ Hid (Secs F q D w ⟨#[]⟩ ⟨#[]⟩ wr)) ∨ (v = .int .i64 1 ∧ Hid (a3 = 0 ∧ Secs F q a1 w a2 ⟨#[]⟩ wr)) ∨ (v = .int .i64 2 ∧ Hid (a3 = 0 ∧ b3 = 0 ∧ Secs F q b1 w a2 b2 wr))) (fun v _ => 2 - (intOf v).toNat)
  case atStart => exact .inl ⟨rfl, X0⟩
  case round =>
    rcases hrel with ⟨rfl, h0⟩ | ⟨rfl, h1⟩ | ⟨rfl, h2⟩
    · as_aux_lemma =>
      by_cases he : a3 = 0
      · have hb : (a3 != 0) = false := by rw [he]; rfl
        have HE := hid he
        clear he
        go_wp2_with (first | (go_at_call 30; (with_reducible refine (HS0.out _ h0.out.disk).mono ?_); rintro e w1 ⟨rfl, x1, x2⟩; have X1 := hid (h0.out.step x1 x2); clear x1 x2; have k0 : w1.cell? ⟨w.heap.size, 0, none⟩ = some (.string ⟨#[]⟩) := cell_at X1.out.row 0; have f0 : w1.frozen? ⟨w.heap.size, 0, none⟩ = false := frozen_at X1.out.row 0))
        exact ⟨.inr (.inl ⟨rfl, hid ⟨HE.out, X1.out.set0 hup.out a2⟩⟩), by simp [intOf]⟩
      · have hb : (a3 != 0) = true := by simpa using he
        have HE := hid he
        clear he
        go_wp2_with (first | (go_at_call 30; (with_reducible refine (HS0.out _ h0.out.disk).mono ?_); rintro e w1 ⟨rfl, x1, x2⟩; have X1 := hid (h0.out.step x1 x2); clear x1 x2))
        go_ret2
        exact ⟨X1.out.kept, .inl ⟨HE.out, rfl, X1.out.wide⟩⟩
    · as_aux_lemma =>
      by_cases he : b3 = 0
      · have hb : (b3 != 0) = false := by rw [he]; rfl
        have HE := hid he
        clear he
        go_wp2_with (first | (go_at_call 30; (with_reducible refine (HS1.out _ h1.out.2.disk).mono ?_); rintro e w1 ⟨rfl, x1, x2⟩; have X1 := hid (h1.out.2.step x1 x2); clear x1 x2; have k0 : w1.cell? ⟨w.heap.size, 1, none⟩ = some (.string ⟨#[]⟩) := cell_at X1.out.row 1; have f0 : w1.frozen? ⟨w.heap.size, 1, none⟩ = false := frozen_at X1.out.row 1))
        exact ⟨.inr (.inr ⟨rfl, hid ⟨h1.out.1, HE.out, X1.out.set1 hup.out b2⟩⟩), by simp [intOf]⟩
      · have hb : (b3 != 0) = true := by simpa using he
        have HE := hid he
        clear he
        go_wp2_with (first | (go_at_call 30; (with_reducible refine (HS1.out _ h1.out.2.disk).mono ?_); rintro e w1 ⟨rfl, x1, x2⟩; have X1 := hid (h1.out.2.step x1 x2); clear x1 x2))
        go_ret2
        exact ⟨X1.out.kept, .inr (.inl ⟨h1.out.1, HE.out, rfl, X1.out.wide⟩)⟩
    · have k0 : wr.cell? ⟨w.heap.size, 0, none⟩ = some (.string a2) := cell_at h2.out.2.2.row 0
      have k1 : wr.cell? ⟨w.heap.size, 1, none⟩ = some (.string b2) := cell_at h2.out.2.2.row 1
      obtain ⟨hA1, hB1⟩ := hA h2.out.1 h2.out.2.1
      have HCh := hid (choose_calls hA1 hB1 wr)
      rw [hc] at HCh
      clear hA hA1 hB1 HS0 HS1
      cases c with
      | none =>
        as_aux_lemma =>
        change Hid (Calls _ _ _ _ fun e w' => e = Ending.returned (.tuple #[.agg #[.int .u64 0, .int .i64 0], .bool false]) ∧ New wr w') at HCh
        go_wp2_with (first | (go_at_call 31; (with_reducible refine HCh.out.mono ?_); rintro e w1 ⟨rfl, x1⟩; have X1 := hid x1; clear x1))
        go_ret2
        exact ⟨h2.out.2.2.kept.trans ((X1.out.mono fun _ _ e => e.elim).alloc _), .inr (.inr (.inl ⟨h2.out.1, h2.out.2.1, rfl, rfl, h2.out.2.2.wide.new (X1.out.alloc _)⟩))⟩
      | some x =>
        obtain ⟨gen, root⟩ := x
        change Hid (Calls _ _ _ _ fun e w' => e = Ending.returned (.tuple #[.agg #[.int .u64 gen, .int .i64 root], .bool true]) ∧ New wr w') at HCh
        have hg := hg gen root rfl
        go_upto_region 13 with (first | (go_at_call 31; (with_reducible refine HCh.out.mono ?_); rintro e w1 ⟨rfl, x1⟩; have X1 := hid x1; clear x1))
        have hgl : w.heap.size < wr.heap.size := blk_lt h2.out.2.2.row
        have hw1 := X1.out.size
        have B8 := hid (blk_new w1 (.cells #[.int .u64 gen, .int .i64 root] 37))
        have D1 := hid (h2.out.2.2.wide.new (X1.out.alloc (.cells #[.int .u64 gen, .int .i64 root] 37)))
        have K1 := hid (h2.out.2.2.kept.trans ((X1.out.mono fun _ _ e => e.elim).alloc (.cells #[.int .u64 gen, .int .i64 root] 37)))
        have hl1 : w1.heap.size < (w1.alloc (.cells #[.int .u64 gen, .int .i64 root] 37)).heap.size := by simp
        generalize hW : w1.alloc (.cells #[.int .u64 gen, .int .i64 root] 37) = W at *
        generalize hb8 : w1.heap.size = b8 at *
        have HSe := hid (fun (V : World) (hV : New W V) => sectors_calls (D1.out.new hV))
        have HNw := hid (fun (V : World) => space_new D1.out.few V)
        have hkeep := hid (fun (V : World) (hV : New W V) => (⟨hV, cell_at (hV.at B8.out id) 0, cell_at (hV.at B8.out id) 1⟩ : New W V ∧ V.cell? ⟨b8, 0, none⟩ = some (.int .u64 gen) ∧ V.cell? ⟨b8, 1, none⟩ = some (.int .i64 root)))
        have n0 : New W W.drew := (Kept.refl _ _).drew
        go_cut [10] (fun v wx => Hid (∃ G p pk bk mf mc, v = ptr p ∧ Half G p q pk bk mf mc gen root D.n (fun _ => false) b1 wx ∧ (∀ b, G b → F b) ∧ w.heap.size ≤ p ∧ w.heap.size ≤ pk ∧ w.heap.size ≤ bk ∧ w.heap.size ≤ mf ∧ w.heap.size ≤ mc ∧ Kept F w wx))
        case first =>
          have hmm := @run_makeMap Tryd.prog
          go_region_held3 (fun V => New W V ∧ V.cell? ⟨b8, 0, none⟩ = some (.int .u64 gen) ∧ V.cell? ⟨b8, 1, none⟩ = some (.int .i64 root)) (exact hkeep.out _ (by repeat (first | assumption | exact Kept.refl _ _ | apply Kept.drew | apply Kept.alloc)))
            (first
              | (go_at_call 25; (with_reducible refine (HSe.out _ (by repeat (first | assumption | exact Kept.refl _ _ | apply Kept.drew | apply Kept.alloc))).mono ?_); rintro e w3 ⟨rfl, rfl⟩)
              | (go_at_call 32; (with_reducible refine (HNw.out _).mono ?_); rintro e w4 ⟨rfl, x1, x2, x3⟩; have n4 : New W w4 := (by refine Kept.trans ?_ x2; repeat (first | assumption | exact Kept.refl _ _ | apply Kept.drew | apply Kept.alloc)); have X4 := hid x1; rw [hn1.out] at X4; have Y4 := hid x2; have Z4 := hid x3; clear x1 x2 x3))
          all_goals
            have z4 := Z4.out
            have N2 : New w4 w4 := Kept.refl _ _
            have hww := K1.out.size
            simp at z4
            go_wp2_with fail
            go_meet
            have X5 := X4.out
            (try rw [show (W.alloc (.map #[] 0)).drew.heap.size = W.heap.size + 1 from by simp] at X5)
            (try rw [show ((W.alloc (.map #[] 0)).alloc (.map #[] 0)).drew.heap.size = W.heap.size + 1 + 1 from by simp] at X5)
            first
              | exact hid ⟨_, _, W.heap.size + 1, W.heap.size, w4.heap.size, w4.heap.size + 1, rfl, half_make (V := (w4.alloc (.map #[] 0)).alloc (.map #[] 0)) (mf := w4.heap.size) (mc := w4.heap.size + 1) (pk := W.heap.size + 1) (bk := W.heap.size) (p := w4.heap.size + 1 + 1) D1.out ((n4.alloc _).alloc _) (X5.new ((N2.alloc _).alloc _)) (blk_alloc (blk_new w4 _) _) (blk_at (w4.alloc (.map #[] 0)) _ (by simp)) (by omega) (by omega) (by omega) (by omega) (by omega) hn1.out (by simp), fun b (e : _ ∧ _) => e.1, by omega, by omega, by omega, by omega, by omega, K1.out.trans ((((n4.alloc _).alloc _).alloc _).mono fun _ _ e => e.elim)⟩
              | exact hid ⟨_, _, W.heap.size + 1, W.heap.size, w4.heap.size + 1, w4.heap.size, rfl, half_make (V := (w4.alloc (.map #[] 0)).alloc (.map #[] 0)) (mf := w4.heap.size + 1) (mc := w4.heap.size) (pk := W.heap.size + 1) (bk := W.heap.size) (p := w4.heap.size + 1 + 1) D1.out ((n4.alloc _).alloc _) (X5.new ((N2.alloc _).alloc _)) (blk_at (w4.alloc (.map #[] 0)) _ (by simp)) (blk_alloc (blk_new w4 _) _) (by omega) (by omega) (by omega) (by omega) (by omega) hn1.out (by simp), fun b (e : _ ∧ _) => e.1, by omega, by omega, by omega, by omega, by omega, K1.out.trans ((((n4.alloc _).alloc _).alloc _).mono fun _ _ e => e.elim)⟩
              | exact hid ⟨_, _, W.heap.size + 1 + 1, W.heap.size + 1, W.heap.size, w4.heap.size, rfl, half_make (V := w4.alloc (.map #[] 0)) (mf := W.heap.size) (mc := w4.heap.size) (pk := W.heap.size + 1 + 1) (bk := W.heap.size + 1) (p := w4.heap.size + 1) D1.out (n4.alloc _) (X5.new (N2.alloc _)) (blk_alloc (Y4.out.at (blk_drew (blk_new W _)) id) _) (blk_new w4 _) (by omega) (by omega) (by omega) (by omega) (by omega) hn1.out (by simp), fun b (e : _ ∧ _) => e.1, by omega, by omega, by omega, by omega, by omega, K1.out.trans (((n4.alloc _).alloc _).mono fun _ _ e => e.elim)⟩
              | exact hid ⟨_, _, W.heap.size + 1 + 1, W.heap.size + 1, w4.heap.size, W.heap.size, rfl, half_make (V := w4.alloc (.map #[] 0)) (mf := w4.heap.size) (mc := W.heap.size) (pk := W.heap.size + 1 + 1) (bk := W.heap.size + 1) (p := w4.heap.size + 1) D1.out (n4.alloc _) (X5.new (N2.alloc _)) (blk_new w4 _) (blk_alloc (Y4.out.at (blk_drew (blk_new W _)) id) _) (by omega) (by omega) (by omega) (by omega) (by omega) hn1.out (by simp), fun b (e : _ ∧ _) => e.1, by omega, by omega, by omega, by omega, by omega, K1.out.trans (((n4.alloc _).alloc _).mono fun _ _ e => e.elim)⟩
              | exact hid ⟨_, _, W.heap.size + 1 + 1 + 1, W.heap.size + 1 + 1, W.heap.size, W.heap.size + 1, rfl, half_make (V := w4) (mf := W.heap.size) (mc := W.heap.size + 1) (pk := W.heap.size + 1 + 1 + 1) (bk := W.heap.size + 1 + 1) (p := w4.heap.size) D1.out n4 (X5.new N2) (Y4.out.at (blk_drew (blk_alloc (blk_new W _) _)) id) (Y4.out.at (blk_drew (blk_at (W.alloc (.map #[] 0)) _ (by simp))) id) (by omega) (by omega) (by omega) (by omega) (by omega) hn1.out (by simp), fun b (e : _ ∧ _) => e.1, by omega, by omega, by omega, by omega, by omega, K1.out.trans ((n4.alloc _).mono fun _ _ e => e.elim)⟩
              | exact hid ⟨_, _, W.heap.size + 1 + 1 + 1, W.heap.size + 1 + 1, W.heap.size + 1, W.heap.size, rfl, half_make (V := w4) (mf := W.heap.size + 1) (mc := W.heap.size) (pk := W.heap.size + 1 + 1 + 1) (bk := W.heap.size + 1 + 1) (p := w4.heap.size) D1.out n4 (X5.new N2) (Y4.out.at (blk_drew (blk_at (W.alloc (.map #[] 0)) _ (by simp))) id) (Y4.out.at (blk_drew (blk_alloc (blk_new W _) _)) id) (by omega) (by omega) (by omega) (by omega) (by omega) hn1.out (by simp), fun b (e : _ ∧ _) => e.1, by omega, by omega, by omega, by omega, by omega, K1.out.trans ((n4.alloc _).mono fun _ _ e => e.elim)⟩
        case rest => as_aux_lemma =>
          obtain ⟨G, p, pk, bk, mf, mc, rfl, hh, hG, s1, s2, s3, s4, s5, hK⟩ := hcut.out
          have HH := hid hh
          have HG := hid hG
          have HKK := hid hK
          have SS := hid (⟨s1, s2, s3, s4, s5⟩ : w.heap.size ≤ p ∧ w.heap.size ≤ pk ∧ w.heap.size ≤ bk ∧ w.heap.size ≤ mf ∧ w.heap.size ≤ mc)
          have L1 := hid h2.out.1
          have L2 := hid h2.out.2.1
          clear hcut hh hG hK s1 s2 s3 s4 s5 h2 HCh X1 D1 K1 B8 HSe HNw hkeep n0
          go_wp2
          go_loopw [47] (fun v wr => ∃ i : Nat, v = .int .i64 i ∧ i ≤ 2 ∧ Hid (Half G p q pk bk mf mc gen root D.n (fun n => decide (n < i)) b1 wr ∧ Kept F w wr)) (fun v _ => 2 - (intOf v).toNat)
          case atStart => exact ⟨0, rfl, by omega, hid ⟨by simpa using HH.out, HKK.out⟩⟩
          case round =>
            obtain ⟨i, rfl, hi, HX⟩ := hrel
            by_cases hlt : i < 2
            · as_aux_lemma =>
              have c3 : wr.cell? ⟨p, 3, none⟩ = some (ptr pk) := cell_at HX.out.1.blk 3
              have HU := hid (use_yes HX.out.1.kept (n := i) (by omega) (by simp))
              have hst : Hid (setU (fun n => decide (n < i)) i true = fun n => decide (n < i + 1)) := hid (by
                funext n
                unfold setU
                by_cases e : n = i
                · subst e; simp
                · rw [if_neg e]; exact decide_eq_decide.2 ⟨fun h => by omega, fun h => by omega⟩)
              go_wp2_with (first | (go_at_call 33; (with_reducible refine HU.out.mono ?_); rintro e w5 ⟨rfl, x1, x2⟩; have HY := hid (HX.out.1.setK x1 x2); have HZ := hid x2; clear x1 x2))
              rw [hst.out] at HY
              have hbk := SS.out.2.2.1
              go_roundw
              case rel => exact ⟨i + 1, by go_num, by omega, hid ⟨HY.out, HX.out.2.trans (HZ.out.mono fun b _ e => hup.out b (by have e : b = bk := e; omega))⟩⟩
              case measure => simp [intOf]; omega
            · as_aux_lemma =>
              obtain rfl : i = 2 := by omega
              have c3 : wr.cell? ⟨p, 3, none⟩ = some (ptr pk) := cell_at HX.out.1.blk 3
              have HC := hid (copy_calls HX.out.1.kept)
              go_wp2_with (first | (go_at_call 34; (with_reducible refine HC.out.mono ?_); rintro e w9 ⟨rfl, x1, x2, x3⟩; have Z1 := hid x1; have Z2 := hid x2; have Z3 := hid x3; clear x1 x2 x3; have k4 : w9.cell? ⟨p, 4, none⟩ = some (.pointer none) := cell_at (Z2.out.at HX.out.1.blk id) 4; have f4 : w9.frozen? ⟨p, 4, none⟩ = false := frozen_at (Z2.out.at HX.out.1.blk id) 4))
              go_ret2
              obtain ⟨s1, s2, s3, s4, s5⟩ := SS.out
              have hw := HX.out.2.size
              have PW := HX.out.1.whole Z1.out Z2.out Z3.out hg
              rw [show (⟨gen, root, D.n, fun n => decide (n < 2), fun n => decide (n < 2), fun _ => none, fun _ => none, []⟩ : PS) = PS.opened gen root b1.n from by rw [hn1.out]; rfl] at PW
              exact ⟨HX.out.2.trans ((Z2.out.mono fun _ _ e => e.elim).trans ((keptc w9 4 _).mono fun b _ e => hup.out b (by have e : b = p := e; omega))), .inr (.inr (.inr ⟨L1.out, L2.out, gen, root, rfl, _, p, pk, bk, _, _, mf, mc, rfl, PW, fun b e => HG.out b e.1, s1, s2, s3, by omega, hw, s4, s5⟩))⟩
end Go.Proofs.YtolifmpjbmekdaaDoor
