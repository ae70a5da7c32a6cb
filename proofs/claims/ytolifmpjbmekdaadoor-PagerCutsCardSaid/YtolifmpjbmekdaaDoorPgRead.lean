/-
The pager's page; conditions: the pager lies in memory as told, the page lies on the disk.
-/
import Derived.Test.YtolifmpjbmekdaaDoorPgPage
import Derived.StillTailTactics
namespace Go.Proofs.YtolifmpjbmekdaaDoor
open Go.RowKit
open Go.Lib (hid)
variable {F : Nat → Prop} {p q pk bk pu bu mf mc : Nat} {v : Value} {S : PS} {D : DS} {w : World}
theorem Pages.look2 {b m : Nat} {g : Nat → Option Pg} (h : Pages w b m g) {n : Nat} (hn : n < 1000000) : (Instr.lookup 81 (.map (some b)) (.int .i64 n) true).run Tryd.prog w = .ok (.tuple #[pgV ((g n).getD pg0), .bool (g n).isSome]) w := by
  obtain ⟨c, h1, h2⟩ := h
  have h3 := h1.look2 (x := (n : Int)) (wf_nat hn)
  have e : (if 0 ≤ (n : Int) then g (n : Int).toNat else none) = g n := by simp
  rw [e] at h3
  exact h3
theorem Pages.split {b m : Nat} {g : Nat → Option Pg} (h : Pages w b m g) (hm : m ≤ 16384) : ∃ c, MapF PK w b (fun x => if 0 ≤ x then g x.toNat else none) c ∧ c < maxLen := by
  obtain ⟨c, h1, h2⟩ := h
  have pos : ∀ {x : Int}, (if 0 ≤ x then g x.toNat else none).isSome = true → 0 ≤ x ∧ (g x.toNat).isSome = true := fun {x} hx => by
    by_cases h0 : 0 ≤ x
    · rw [if_pos h0] at hx; exact ⟨h0, hx⟩
    · rw [if_neg h0] at hx; cases hx
  refine ⟨c, h1, Nat.lt_of_le_of_lt (h1.count_le Int.toNat (m := m) (fun x hx => h2 _ (pos hx).2) fun x y hx hy e => ?_) (by unfold maxLen; omega)⟩
  have := (pos hx).1
  have := (pos hy).1
  omega
theorem Pages.put {w' : World} {b m c n : Nat} {g : Nat → Option Pg} {y : Option Pg} (h : MapF PK w' b (updF (fun x : Int => if 0 ≤ x then g x.toNat else none) (n : Int) y) c) (hg : ∀ n, (g n).isSome = true → n < m) (hn : n < m) : Pages w' b m (updF g n y) := by
  refine ⟨c, ?_, fun k hk => ?_⟩
  · have e : (updF (fun x : Int => if 0 ≤ x then g x.toNat else none) (n : Int) y) = fun x => if 0 ≤ x then updF g n y x.toNat else none := by
      funext x
      unfold updF
      by_cases h0 : 0 ≤ x
      · by_cases h1 : x = n
        · rw [if_pos h1, if_pos h0, if_pos (by omega)]
        · rw [if_neg h1]; simp only [if_pos h0]; rw [if_neg (by omega)]
      · rw [if_neg (by omega)]; simp only [if_neg h0]
    rw [← e]; exact h
  · unfold updF at hk
    by_cases h1 : k = n
    · omega
    · rw [if_neg h1] at hk; exact hg k hk
theorem Pages.low {b m : Nat} {g : Nat → Option Pg} (h : Pages w b m g) : ∀ n, (g n).isSome = true → n < m := by
  obtain ⟨c, h1, h2⟩ := h
  exact h2
theorem read_n (D : DS) (n : Int) : (D.read n).1.n = D.n := by
  unfold DS.read
  split
  · rfl
  · split
    · rfl
    · split <;> exact act_same D
set_option maxHeartbeats 1600000 in
theorem page_fresh (h : PgrAt F p q pk bk pu bu mf mc v S D w) {n : Nat} (hn : n < S.many) {x : Pg} (hx : S.fresh n = some x) : Calls Tryd.prog 44 #[ptr p, .int .i64 n] w fun e w' => e = .returned (.tuple #[pgV x, .int .i64 0]) ∧ New w w' := by
  have hm : n < 1000000 := Nat.lt_of_lt_of_le hn (Nat.le_trans h.keptS.few (by decide))
  have hnew : ∀ o, New w (w.alloc o) := fun o => (Kept.refl _ _).alloc o
  have c5 : ∀ o, (w.alloc o).cell? ⟨p, 5, none⟩ = some (.map (some mf)) := fun o => ((h.new (hnew o)).cells 5).1
  have hl : ∀ o, (Instr.lookup 81 (.map (some mf)) (.int .i64 n) true).run Tryd.prog (w.alloc o) = .ok (.tuple #[pgV x, .bool true]) (w.alloc o) := fun o => by
    have := (h.new (hnew o)).fresh.look2 hm
    rw [hx] at this
    exact this
  have hlt := blk_lt h.blk
  have hne : p ≠ w.heap.size := by omega
  clear h hnew hx hn
  obtain ⟨k1, k2, k3, k4⟩ := x
  go_enter Tryd.func44, Tryd.ntmps44
  go_wp2
  exact bodyPost_ret (v := .tuple #[pageV k1 k2 k3 k4, .int .i64 0]) (by simp [results, Tryd.results44, go_sem]) rfl ⟨rfl, ((Kept.refl _ _).alloc _).alloc _⟩
set_option maxHeartbeats 1600000 in
theorem page_clean (h : PgrAt F p q pk bk pu bu mf mc v S D w) {n : Nat} (hn : n < S.many) {x : Pg} (hf : S.fresh n = none) (hx : S.clean n = some x) (hd : D.dead = false) : Calls Tryd.prog 44 #[ptr p, .int .i64 n] w fun e w' => e = .returned (.tuple #[pgV x, .int .i64 0]) ∧ New w w' := by
  have hm : n < 1000000 := Nat.lt_of_lt_of_le hn (Nat.le_trans h.keptS.few (by decide))
  have hnew : ∀ o, New w (w.alloc o) := fun o => (Kept.refl _ _).alloc o
  have hnew2 : ∀ o o', New w ((w.alloc o).alloc o') := fun o o' => ((Kept.refl _ _).alloc o).alloc o'
  have c5 : ∀ o, (w.alloc o).cell? ⟨p, 5, none⟩ = some (.map (some mf)) := fun o => ((h.new (hnew o)).cells 5).1
  have hl : ∀ o, (Instr.lookup 81 (.map (some mf)) (.int .i64 n) true).run Tryd.prog (w.alloc o) = .ok (.tuple #[pageV 0 0 0 ⟨#[]⟩, .bool false]) (w.alloc o) := fun o => by
    have := (h.new (hnew o)).fresh.look2 hm
    rw [hf] at this
    exact this
  have c6 : ∀ o o', ((w.alloc o).alloc o').cell? ⟨p, 6, none⟩ = some (.map (some mc)) := fun o o' => ((h.new (hnew2 o o')).cells 6).1
  have hl2 : ∀ o o', (Instr.lookup 81 (.map (some mc)) (.int .i64 n) true).run Tryd.prog ((w.alloc o).alloc o') = .ok (.tuple #[pgV x, .bool true]) ((w.alloc o).alloc o') := fun o o' => by
    have := (h.new (hnew2 o o')).clean.look2 hm
    rw [hx] at this
    exact this
  have c0 : ∀ o o' o'', (((w.alloc o).alloc o').alloc o'').cell? ⟨p, 0, none⟩ = some (ptr q) := fun o o' o'' => ((h.new ((hnew2 o o').alloc o'')).cells 0).1
  have HD := hid (fun (W : World) (hN : New w W) => dead_calls (h.disk.new hN))
  have HN := hid (fun o o' o'' => (hnew2 o o').alloc o'')
  have hlt := blk_lt h.blk
  have hne : p ≠ w.heap.size := by omega
  clear h hnew hnew2 hx hn hf
  obtain ⟨k1, k2, k3, k4⟩ := x
  go_enter Tryd.func44, Tryd.ntmps44
  go_wp2_with (first | (go_at_call 46; (with_reducible refine (HD.out _ (HN.out _ _ _)).mono ?_); rintro e w1 ⟨rfl, rfl⟩))
  exact bodyPost_ret (v := .tuple #[pageV k1 k2 k3 k4, .int .i64 0]) (by simp [results, Tryd.results44, go_sem]) rfl ⟨rfl, HN.out _ _ _⟩
/-- What page.Get tells of a sector. -/
def PSays (s : ByteArray) (x : Pg) : Prop := ∀ W, Calls Tryd.prog 59 #[.string s] W fun e w' => e = .returned (.tuple #[pgV x, .int .i64 0]) ∧ New W w'
theorem PgrAt.less (h : PgrAt F p q pk bk pu bu mf mc v S D w) {w' : World} (hk : New w w') : PgrAt (fun b => F b ∧ ¬ (w.heap.size ≤ b ∧ b < w'.heap.size)) p q pk bk pu bu mf mc v S D w' :=
  { h.new hk with disk := h.disk.less hk fun _ e => e, np := fun e => h.np e.1, npk := fun e => h.npk e.1, nbk := fun e => h.nbk e.1, npu := fun e => h.npu e.1, nbu := fun e => h.nbu e.1, nmf := fun e => h.nmf e.1, nmc := fun e => h.nmc e.1, nv := fun b hb e => h.nv b hb e.1 }
theorem four_cells {w : World} {k : Nat} {a b c d : Value} {t : TypeId} (h : w.heap[k]? = some (.cells #[a, b, c, d] t (0, 0))) : w.cell? ⟨k, 0, none⟩ = some a ∧ w.cell? ⟨k, 1, none⟩ = some b ∧ w.cell? ⟨k, 2, none⟩ = some c ∧ w.cell? ⟨k, 3, none⟩ = some d ∧ w.frozen? ⟨k, 0, none⟩ = false ∧ w.frozen? ⟨k, 1, none⟩ = false ∧ w.frozen? ⟨k, 2, none⟩ = false ∧ w.frozen? ⟨k, 3, none⟩ = false :=
  ⟨cell_at h 0, cell_at h 1, cell_at h 2, cell_at h 3, frozen_at h 0, frozen_at h 1, frozen_at h 2, frozen_at h 3⟩
theorem kept_four (w : World) (b : Nat) (u0 u1 u2 u3 : Value) : Kept (fun x => x = b) w ((((w.setCell ⟨b, 0, none⟩ u0).setCell ⟨b, 1, none⟩ u1).setCell ⟨b, 2, none⟩ u2).setCell ⟨b, 3, none⟩ u3) :=
  (((keptc w 0 u0).trans (keptc _ 1 u1)).trans (keptc _ 2 u2)).trans (keptc _ 3 u3)
theorem Disk.wider {F F2 : Nat → Prop} (h : Disk q D F w) (hF : ∀ b, F b → F2 b) : Disk q D F2 w := by
  obtain ⟨S, bd, bt, vw, vc, h1, h2, h3, h4, h5, h6, h7⟩ := h
  exact ⟨S, bd, bt, vw, vc, h1, fun b hb => hF b (h2 b hb), hF _ h3, hF _ h4, hF _ h5, fun b hb => hF b (h6 b hb), fun b hb => hF b (h7 b hb)⟩
theorem PgrAt.wider {F0 : Nat → Prop} {S0 : PS} {D0 : DS} {w0 : World} (h : PgrAt F p q pk bk pu bu mf mc v S D w) (h0 : PgrAt F0 p q pk bk pu bu mf mc v S0 D0 w0) (hF : ∀ b, F b → F0 b) : PgrAt F0 p q pk bk pu bu mf mc v S D w :=
  { h with disk := h.disk.wider hF, np := h0.np, npk := h0.npk, nbk := h0.nbk, npu := h0.npu, nbu := h0.nbu, nmf := h0.nmf, nmc := h0.nmc, nv := h0.nv }
abbrev zpg : Obj := .cells #[.int .i64 0, .int .i64 0, .int .u64 0, .string ⟨#[]⟩] 48 (0, 0)
set_option maxHeartbeats 1600000 in
set_option maxRecDepth 100000 in
theorem page_read (h : PgrAt F p q pk bk pu bu mf mc v S D w) {n : Nat} (hn : n < S.many) {x : Pg} {s : ByteArray} {D' : DS} (hf : S.fresh n = none) (hx : S.clean n = none) (hr : D.read n = (D', s, 0)) (hs : PSays s x) : Calls Tryd.prog 44 #[ptr p, .int .i64 n] w fun e w' => e = .returned (.tuple #[pgV x, .int .i64 0]) ∧ PgrAt F p q pk bk pu bu mf mc v { S with clean := updF S.clean n (some x) } D' w' ∧ Kept (fun b => F b ∨ b = mc) w w' := by
  have hm : n < 1000000 := Nat.lt_of_lt_of_le hn (Nat.le_trans h.keptS.few (by decide))
  have hnew : ∀ o, New w (w.alloc o) := fun o => (Kept.refl _ _).alloc o
  have hnew2 : ∀ o o', New w ((w.alloc o).alloc o') := fun o o' => ((Kept.refl _ _).alloc o).alloc o'
  have c5 : ∀ o, (w.alloc o).cell? ⟨p, 5, none⟩ = some (.map (some mf)) := fun o => ((h.new (hnew o)).cells 5).1
  have hl : ∀ o, (Instr.lookup 81 (.map (some mf)) (.int .i64 n) true).run Tryd.prog (w.alloc o) = .ok (.tuple #[pageV 0 0 0 ⟨#[]⟩, .bool false]) (w.alloc o) := fun o => by
    have := (h.new (hnew o)).fresh.look2 hm
    rw [hf] at this
    exact this
  have c6 : ∀ o o', ((w.alloc o).alloc o').cell? ⟨p, 6, none⟩ = some (.map (some mc)) := fun o o' => ((h.new (hnew2 o o')).cells 6).1
  have hl2 : ∀ o o', (Instr.lookup 81 (.map (some mc)) (.int .i64 n) true).run Tryd.prog ((w.alloc o).alloc o') = .ok (.tuple #[pageV 0 0 0 ⟨#[]⟩, .bool false]) ((w.alloc o).alloc o') := fun o o' => by
    have := (h.new (hnew2 o o')).clean.look2 hm
    rw [hx] at this
    exact this
  have c0 : ∀ o o' o'', (((w.alloc o).alloc o').alloc o'').cell? ⟨p, 0, none⟩ = some (ptr q) := fun o o' o'' => ((h.new ((hnew2 o o').alloc o'')).cells 0).1
  have HD := hid (fun (o o' : Obj) => (read_calls (h.less ((hnew2 zpg o).alloc o')).disk n).mono fun e w1 he => (⟨by rw [hr] at he; exact he.1, hid ⟨(h.less ((hnew2 zpg o).alloc o')).acted he.2.1 (read_n D n) he.2.2, he.2.2.at (blk_alloc (blk_alloc (blk_new w zpg) o) o') (fun e => e.2 ⟨Nat.le_refl _, by simp; omega⟩), (((hnew2 zpg o).alloc o').mono fun _ _ e => e.elim).trans (he.2.2.mono fun _ _ e => e.1)⟩⟩ : e = Ending.returned (.tuple #[.string s, .int .i64 0]) ∧ Hid (PgrAt _ p q pk bk pu bu mf mc v S (D.read n).1 w1 ∧ w1.heap[w.heap.size]? = some zpg ∧ Kept F w w1)))
  unfold PSays at hs
  have HG := hid hs
  have hlt := blk_lt h.blk
  have hne : p ≠ w.heap.size := by omega
  have hD : D' = (D.read n).1 := by rw [hr]
  subst hD
  have H := hid h
  have HX := hid hn
  clear h hnew hnew2 hx hn hf hr hs
  obtain ⟨k1, k2, k3, k4⟩ := x
  go_enter Tryd.func44, Tryd.ntmps44
  go_wp2_with (first
    | (go_at_call 50; (with_reducible refine (HD.out _ _).mono ?_); rintro e w1 ⟨rfl, x1⟩; have X1 := hid x1; clear x1)
    | (go_at_call 59; (with_reducible refine (HG.out _).mono ?_); rintro e w2 ⟨rfl, x2⟩; have X2 := hid x2; clear x2))
  have Z2 := hid (X1.out.1.new X2.out)
  have b0 := X2.out.at X1.out.2.1 id
  have hlt2 := blk_lt b0
  have hmc2 := Z2.out.clean.lt
  have d6 : (w2.alloc (.cells #[.int .i64 k1, .int .i64 k2, .int .u64 k3, .string k4] 48)).cell? ⟨p, 6, none⟩ = some (.map (some mc)) := ((Z2.out.new ((Kept.refl _ _).alloc _)).cells 6).1
  have B1 := hid (blk_new w2 (.cells #[.int .i64 k1, .int .i64 k2, .int .u64 k3, .string k4] 48))
  obtain ⟨g0, g1, g2, g3, -, -, -, -⟩ := four_cells B1.out
  have B0 := hid (blk_alloc b0 (.cells #[.int .i64 k1, .int .i64 k2, .int .u64 k3, .string k4] 48))
  have KW := hid ((X1.out.2.2.trans (X2.out.mono fun _ _ e => e.elim)).alloc (.cells #[.int .i64 k1, .int .i64 k2, .int .u64 k3, .string k4] 48))
  have Z3 := hid (Z2.out.new ((Kept.refl _ _).alloc (.cells #[.int .i64 k1, .int .i64 k2, .int .u64 k3, .string k4] 48)))
  clear b0
  have l1 := blk_lt H.out.blk
  have l2 := H.out.keptS.lt
  have l3 := H.out.usedS.lt
  have l4 := H.out.fresh.lt
  have l5 := H.out.clean.lt
  generalize hW : w2.alloc (.cells #[.int .i64 k1, .int .i64 k2, .int .u64 k3, .string k4] 48) = W at *
  generalize hq : w2.heap.size = q2 at *
  clear hW hq c0 c5 c6 hl hl2 Z2 X2
  obtain ⟨c, hc1, hc2⟩ := Z3.out.clean.split Z3.out.keptS.few
  have hst := hid hc1
  clear hc1
  go_still_tail 6, (by kernel_rfl)
  change wpList _ _ _ _ _ (World.drew W)
  go_wp2_with (first | (at_mapUpdate; refine wpList_mapF_store (B := PK) _ rfl (.tmp 67) (.tmp 68) (.tmp 69) rfl hst.out.drew hc2 rfl (n : Int) (wf_nat hm) ⟨k1, k2, k3, k4⟩ rfl rfl ?_; intro w3 hm3 hk3 hs3; have HM := hid (Pages.put hm3 Z3.out.clean.low HX.out); have HK3 := hid hk3; obtain ⟨g0, g1, g2, g3, -, -, -, -⟩ := four_cells (hk3.at B1.out (fun e => by have e : q2 = mc := e; omega)); obtain ⟨y0, y1, y2, y3, z0, z1, z2, z3⟩ := four_cells (hk3.at B0.out (fun e => by have e : w.heap.size = mc := e; omega)); clear hm3 hk3))
  have P3 := (Z3.out.new (Kept.refl _ _).drew).setClean HM.out HK3.out
  have P4 := P3.kept (H := fun b => b = w.heap.size) (kept_four w3 w.heap.size (.int .i64 k1) (.int .i64 k2) (.int .u64 k3) (.string k4)) (fun b _ e hb => e.2 ⟨by omega, by rw [hb]; simp; omega⟩) (by omega) (by omega) (by omega) (by omega) (by omega) (by omega) (by omega) (fun b hb => Nat.ne_of_lt (own_lt H.out.free hb))
  refine bodyPost_ret (v := .tuple #[pageV k1 k2 k3 k4, .int .i64 0]) (by simp [results, Tryd.results44, go_sem, y0, y1, y2, y3]) rfl ⟨rfl, P4.wider H.out (fun _ e => e.1), ?_⟩
  exact ((KW.out.mono fun _ _ e => .inl e).trans ((Kept.refl _ _).drew.trans (HK3.out.mono fun _ _ e => .inr e))).trans' (kept_four w3 w.heap.size _ _ _ _) fun x hx e => absurd hx (by omega)
end Go.Proofs.YtolifmpjbmekdaaDoor
