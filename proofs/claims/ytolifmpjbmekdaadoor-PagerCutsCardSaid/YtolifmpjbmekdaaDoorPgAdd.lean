/-
The pager's Add; conditions: the pager lies in memory as told.
-/
import Derived.Test.YtolifmpjbmekdaaDoorPgR
namespace Go.Proofs.YtolifmpjbmekdaaDoor
open Go.RowKit
open Go.Lib (hid)
variable {F : Nat → Prop} {p q pk bk pu bu mf mc : Nat} {v : Value} {S : PS} {D : DS} {w : World}
theorem first_yes {many : Nat} {U : Nat → Bool} (h : Spc p bu many U w) (ht : Tabs w) {n : Nat} (hf : FirstAt U 2 n) (hn : n < many) : Calls Tryd.prog 35 #[ptr p, .int .i64 2] w fun e w' => e = .returned (.int .i64 n) ∧ w = w' :=
  (first_calls h ht 2 (by decide)).mono fun e w' he => by
    obtain ⟨⟨m, rfl, hm, a1, a2, a3⟩ | ⟨rfl, ha⟩, hw⟩ := he
    · obtain ⟨b1, b2, b3⟩ := hf
      have : m = n := by
        rcases Nat.lt_trichotomy m n with hlt | e | hlt
        · exact absurd (b3 m a1 hlt) (by rw [a2]; decide)
        · exact e
        · exact absurd (a3 n b1 hlt) (by rw [b2]; decide)
      subst this
      exact ⟨rfl, hw⟩
    · exact absurd (ha n hf.1 hn) (by rw [hf.2.1]; decide)
theorem first_full {many : Nat} {U : Nat → Bool} (h : Spc p bu many U w) (ht : Tabs w) (hf : ∀ k, 2 ≤ k → k < many → U k = true) : Calls Tryd.prog 35 #[ptr p, .int .i64 2] w fun e w' => e = .returned (.int .i64 (-1)) ∧ w = w' :=
  (first_calls h ht 2 (by decide)).mono fun e w' he => by
    obtain ⟨⟨m, rfl, hm, a1, a2, a3⟩ | ⟨rfl, ha⟩, hw⟩ := he
    · exact absurd (hf m a1 hm) (by rw [a2]; decide)
    · exact ⟨rfl, hw⟩
theorem padd_none (kind : Int) (s : ByteArray) (w : World) : Calls Tryd.prog 14 #[.pointer none, .int .i64 kind, .string s] w fun e w' => e = .returned (.tuple #[.int .i64 0, .int .i64 1]) ∧ w = w' := by
  go_enter Tryd.func14, Tryd.ntmps14
  go_wp2
  go_ret2
  exact ⟨rfl, rfl⟩
theorem padd_full (h : PgrAt F p q pk bk pu bu mf mc v S D w) (ht : Tabs w) (hf : ∀ k, 2 ≤ k → k < S.many → S.U k = true) (kind : Int) (s : ByteArray) : Calls Tryd.prog 14 #[ptr p, .int .i64 kind, .string s] w fun e w' => e = .returned (.tuple #[.int .i64 0, .int .i64 80]) ∧ w = w' := by
  have c4 : w.cell? ⟨p, 4, none⟩ = some (ptr pu) := (h.cells 4).1
  have HF := hid (first_full h.usedS ht hf)
  clear h ht hf
  go_enter Tryd.func14, Tryd.ntmps14
  go_wp2_with (first | (go_at_call 35; (with_reducible refine HF.out.mono ?_); rintro e w1 ⟨rfl, rfl⟩))
  go_ret2
  exact ⟨rfl, rfl⟩
theorem padd_no (h : PgrAt F p q pk bk pu bu mf mc v S D w) (ht : Tabs w) {n : Nat} (hf : FirstAt S.U 2 n) (hn : n < S.many) {kind : Int} {s : ByteArray} (hm : mayB kind n s = false) : Calls Tryd.prog 14 #[ptr p, .int .i64 kind, .string s] w fun e w' => e = .returned (.tuple #[.int .i64 0, .int .i64 1]) ∧ New w w' := by
  have c4 : w.cell? ⟨p, 4, none⟩ = some (ptr pu) := (h.cells 4).1
  have c1 : w.cell? ⟨p, 1, none⟩ = some (.int .u64 S.gen) := (h.cells 1).1
  have HF := hid (first_yes h.usedS ht hf hn)
  have HM := hid (fun (o : Obj) => by
    have := may_calls kind n ((S.gen : Int) + 1) s (w.alloc o)
    rw [hm] at this
    exact this)
  have hng := h.ng
  have s1 : IntKind.u64.wrap ((S.gen : Int) + 1) = (S.gen : Int) + 1 := by rw [IntKind.wrap_u64]; omega
  clear h ht hf hm
  go_enter Tryd.func14, Tryd.ntmps14
  go_wp2_with (first
    | (go_at_call 35; (with_reducible refine HF.out.mono ?_); rintro e w1 ⟨rfl, rfl⟩)
    | (go_at_call 36; have hh := HM.out (.cells #[.int .i64 kind, .int .i64 n, .int .u64 ((S.gen : Int) + 1), .string s] 48); (with_reducible refine hh.mono ?_); rintro e w2 ⟨rfl, hw⟩; clear hh; have W2 := hid hw; clear hw))
  go_ret2
  exact ⟨rfl, ((Kept.refl _ _).alloc _).trans W2.out⟩
set_option maxHeartbeats 1600000 in
set_option maxRecDepth 100000 in
theorem padd_yes (h : PgrAt F p q pk bk pu bu mf mc v S D w) (ht : Tabs w) {n : Nat} (hf : FirstAt S.U 2 n) (hn : n < S.many) {kind : Int} {s : ByteArray} (hm : mayB kind n s = true) : Calls Tryd.prog 14 #[ptr p, .int .i64 kind, .string s] w fun e w' => e = .returned (.tuple #[.int .i64 n, .int .i64 0]) ∧ PgrAt F p q pk bk pu bu mf mc v { S with U := setU S.U n true, fresh := updF S.fresh n (some ⟨kind, n, (S.gen : Int) + 1, s⟩) } D w' ∧ Kept (fun b => b = bu ∨ b = mf) w w' := by
  have hmn : n < 1000000 := Nat.lt_of_lt_of_le hn (Nat.le_trans h.keptS.few (by decide))
  have c4 : w.cell? ⟨p, 4, none⟩ = some (ptr pu) := (h.cells 4).1
  have c1 : w.cell? ⟨p, 1, none⟩ = some (.int .u64 S.gen) := (h.cells 1).1
  have HF := hid (first_yes h.usedS ht hf hn)
  have HM := hid (fun (o : Obj) => by
    have := may_calls kind n ((S.gen : Int) + 1) s (w.alloc o)
    rw [hm] at this
    exact this)
  have HU := hid (fun (W : World) (hW : Spc pu bu S.many S.U W) => use_yes hW hn hf.2.1)
  have hng := h.ng
  have H := hid h
  have HN := hid hn
  have l2 := h.usedS.lt
  have l4 := h.fresh.lt
  have s1 : IntKind.u64.wrap ((S.gen : Int) + 1) = (S.gen : Int) + 1 := by rw [IntKind.wrap_u64]; omega
  clear h ht hf hm hn
  go_enter Tryd.func14, Tryd.ntmps14
  go_wp2_with (first
    | (go_at_call 35; (with_reducible refine HF.out.mono ?_); rintro e w1 ⟨rfl, rfl⟩)
    | (go_at_call 36; have hh := HM.out (.cells #[.int .i64 kind, .int .i64 n, .int .u64 ((S.gen : Int) + 1), .string s] 48); (with_reducible refine hh.mono ?_); rintro e w2 ⟨rfl, hw⟩; clear hh; have X2 := hid (((Kept.refl (fun _ => False) _).alloc (.cells #[.int .i64 kind, .int .i64 n, .int .u64 ((S.gen : Int) + 1), .string s] 48)).trans hw); have B2 := hid (hw.at (blk_new w _) id); clear hw; have Y2 := hid (H.out.new X2.out); have d4 : w2.cell? ⟨p, 4, none⟩ = some (ptr pu) := (Y2.out.cells 4).1)
    | (go_at_call 33; (with_reducible refine (HU.out _ Y2.out.usedS).mono ?_); rintro e w3 ⟨rfl, x1, x2⟩; have X3 := hid (Y2.out.setU x1 x2); have B3 := hid (x2.at B2.out (fun e => by have e : w.heap.size = bu := e; omega)); have K3 := hid x2; clear x1 x2; have d5 : w3.cell? ⟨p, 5, none⟩ = some (.map (some mf)) := (X3.out.cells 5).1; obtain ⟨g0, g1, g2, g3, -⟩ := four_cells B3.out))
  obtain ⟨c, hc1, hc2⟩ := X3.out.fresh.split X3.out.keptS.few
  have hst := hid hc1
  clear hc1 c1 c4 d4
  go_still_tail 6, (by kernel_rfl)
  change wpList _ _ _ _ _ (World.drew w3)
  go_wp2_with (first | (at_mapUpdate; refine wpList_mapF_store (B := PK) _ rfl (.tmp 41) (.tmp 42) (.tmp 43) rfl hst.out.drew hc2 rfl (n : Int) (wf_nat hmn) ⟨kind, n, (S.gen : Int) + 1, s⟩ rfl rfl ?_; intro w4 hm3 hk3 hs3; have HM4 := hid (Pages.put hm3 X3.out.fresh.low HN.out); have HK4 := hid hk3; clear hm3 hk3))
  go_ret2
  exact ⟨rfl, (X3.out.new (Kept.refl _ _).drew).setFresh HM4.out HK4.out, ((X2.out.mono fun _ _ e => e.elim).trans (K3.out.mono fun _ _ e => .inl e)).trans ((Kept.refl _ _).drew.trans (HK4.out.mono fun _ _ e => .inr e))⟩
end Go.Proofs.YtolifmpjbmekdaaDoor
