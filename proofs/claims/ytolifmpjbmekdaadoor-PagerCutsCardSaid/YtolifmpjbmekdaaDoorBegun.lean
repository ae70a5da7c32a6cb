/-
A disk that is formatted, and its pager (begun), and a page that is committed (awake); conditions: those that each theorem names.
-/
import Derived.Test.YtolifmpjbmekdaaDoorPgG
namespace Go.Proofs.YtolifmpjbmekdaaDoor
open Go.RowKit
open Go.Lib (hid)
variable {w : World}
theorem nil_cuts (w : World) : CutsAt (fun _ => False) (.slice none 0 0) [] w := ⟨none, 0, rfl, Nat.le_refl _, by decide, fun h => absurd rfl h⟩
theorem begun_calls {n : Nat} (hn : n ≤ 16384) (hm : 2 ≤ n) {S0 : Nat → Prop} {v : Value} {l : List (Int × List Int)} (hv : CutsAt S0 v l w) (hl : l.length ≤ 1000000) {D1 D2 D3 : DS} {s0 s1 : ByteArray} (hf : (DS.new n l).format = (D1, 0)) (h0 : D1.sector 0 = (D2, s0, 0)) (h1 : D2.sector 1 = (D3, s1, 0)) (hd : D1.n = n) (hA : SupTells s0 0 none) (hB : SupTells s1 1 (some (1, -1))) :
    Calls Tryd.prog 13 #[.int .i64 n, v] w fun e w' => (∃ q p, e = .returned (.tuple #[ptr q, ptr p, .int .i64 0]) ∧ Pgr (fun b => w.heap.size ≤ b) p q (PS.opened 1 (-1) n) D3 w') ∧ New w w' := by
  have HN := hid (new_calls hn hv hl)
  have HF := hid (fun (q : Nat) (W : World) (hD : Disk q (DS.new n l) (fun b => w.heap.size ≤ b) W) => (by
    have := format_calls hD (by simp [DS.new])
    rw [hf] at this
    exact this : Calls Tryd.prog 9 #[ptr q] W fun e w' => e = .returned (.int .i64 0) ∧ Disk q D1 (fun b => w.heap.size ≤ b) w' ∧ Kept (fun b => w.heap.size ≤ b) W w'))
  have HO := hid (fun (q : Nat) (W : World) (hD : Disk q D1 (fun b => w.heap.size ≤ b) W) => (by
    have := g_open hD (by rw [hd]; exact hm) h0 h1 hA hB (gen := 1) (root := -1) rfl (by decide)
    rw [hd] at this
    exact this : Calls Tryd.prog 11 #[ptr q] W fun e w' => (∃ p, e = .returned (.tuple #[ptr p, .int .i64 0]) ∧ Pgr (fun b => w.heap.size ≤ b) p q (PS.opened 1 (-1) n) D3 w' ∧ W.heap.size ≤ p) ∧ Kept (fun b => w.heap.size ≤ b) W w'))
  clear hf h0 h1 hd hA hB hv hl hn hm
  go_enter Tryd.func13, Tryd.ntmps13
  go_wp2_with (first
    | (go_at_call 7; (with_reducible refine HN.out.mono ?_); rintro e w1 ⟨q, rfl, hq, x1, x2⟩; have X1 := hid x1; have X2 := hid x2; clear x1 x2 hq)
    | (go_at_call 9; (with_reducible refine (HF.out _ _ X1.out).mono ?_); rintro e w2 ⟨rfl, x1, x2⟩; have Y1 := hid x1; have Y2 := hid x2; clear x1 x2)
    | (go_at_call 11; (with_reducible refine (HO.out _ _ Y1.out).mono ?_); rintro e w3 ⟨⟨p, rfl, x1, x2⟩, x3⟩; have Z1 := hid x1; have Z3 := hid x3; clear x1 x2 x3))
  exact bodyPost_ret (v := .tuple #[ptr q, ptr p, .int .i64 0]) (by simp [results, Tryd.results13, go_sem]) rfl ⟨⟨q, p, rfl, Z1.out⟩, (X2.out.trans' (Y2.out.trans Z3.out) fun x hx e => absurd hx (by have e : w.heap.size ≤ x := e; omega))⟩
theorem calm_sector {m : Nat} {f : Nat → ByteArray} {D : DS} (h : Calm m f D) {i : Nat} (hi : i < m) : D.sector i = (D.tick, f i, 0) ∧ Calm m f D.tick := by
  have h1 := calm_read h hi
  refine ⟨?_, h1.2⟩
  unfold DS.sector
  rw [h1.1]
  rfl
/-- What a disk says that is formatted. -/
def fmtF : Nat → ByteArray := upd (upd (upd (fun _ => zeros 256) 0 (zeros 256)) 1 (zeros 256)) 1 (supS 1 (-1))
theorem fmtF0 : fmtF 0 = zeros 256 := rfl
theorem fmtF1 : fmtF 1 = supS 1 (-1) := rfl
theorem no_zeros : NoPage (zeros 256) := fun W => get_zeros W
theorem tells_first : SupTells (supS 1 (-1)) 1 (some (1, -1)) := ⟨by decide, rfl, rfl⟩
theorem begun_calm {n : Nat} (hn : n ≤ 16384) (hm : 2 ≤ n) (w : World) : Calls Tryd.prog 13 #[.int .i64 n, .slice none 0 0] w fun e w' => (∃ q p D, e = .returned (.tuple #[ptr q, ptr p, .int .i64 0]) ∧ Pgr (fun b => w.heap.size ≤ b) p q (PS.opened 1 (-1) n) D w' ∧ Calm n fmtF D) ∧ New w w' := by
  obtain ⟨D1, e1, h1⟩ := calm_format (calm_new n) hm
  have h1 : Calm n fmtF D1 := h1
  obtain ⟨e2, h2⟩ := calm_sector h1 (i := 0) (by omega)
  obtain ⟨e3, h3⟩ := calm_sector h2 (i := 1) (by omega)
  refine (begun_calls hn hm (nil_cuts w) (by simp) e1 e2 e3 h1.n (by rw [fmtF0]; exact no_zeros) (by rw [fmtF1]; exact tells_first)).mono fun e w' ⟨⟨q, p, he, hp⟩, hk⟩ => ⟨⟨q, p, _, he, hp, h3⟩, hk⟩
theorem psays {K N gen : Nat} {data : ByteArray} (h : mayB K N data = true) (hg : gen < 18446744073709551616) : PSays (sector K N gen data) ⟨K, N, gen, data⟩ := fun W => get_sector h hg W
theorem pputs {K N gen : Nat} {data : ByteArray} (h : mayB K N data = true) (hg : gen < 18446744073709551616) : PPuts ⟨K, N, gen, data⟩ (sector K N gen data) := fun W => put_yes h hg W
theorem ints_block {W : World} {b : Nat} {x : Int} {t : TypeId} (h : W.heap[b]? = some (.cells #[.int .i64 x] t (0, 0))) {H : Nat → Prop} (hb : H b) : IntsAt H (.slice (some ⟨b, 0, none⟩) 1 1) [x] W :=
  ⟨_, 1, rfl, by simp, (fun e => by cases e), fun _ => ⟨b, 0, rfl, hb, blk_lt h, fun i y hy => by
    cases i with
    | zero => simp at hy; subst hy; exact cell_at h 0
    | succ i => simp at hy⟩⟩
abbrev oneX : ByteArray := ⟨#[120]⟩
def awkF : Nat → ByteArray := upd (upd fmtF 2 (sector 2 2 2 oneX)) 0 (supS 2 2)
def awkS : PS := PS.opened 1 (-1) 5
def awkS1 : PS := { awkS with U := setU awkS.U 2 true, fresh := updF awkS.fresh 2 (some ⟨2, 2, 2, oneX⟩) }
def awkS3 : PS := { PS.opened 2 2 5 with K := setU (PS.opened 2 2 5).K 2 true, U := setU (PS.opened 2 2 5).U 2 true }
abbrev Over (w : World) : Nat → Prop := fun b => w.heap.size ≤ b
variable {p q : Nat} {D : DS} {W : World}
theorem awk_add (h : Pgr (Over w) p q awkS D W) (ht : Tabs W) : Calls Tryd.prog 14 #[ptr p, .int .i64 2, .string oneX] W fun e w' => e = .returned (.tuple #[.int .i64 2, .int .i64 0]) ∧ Pgr (Over w) p q awkS1 D w' ∧ Kept (Over w) W w' :=
  g_add_yes h ht (n := 2) ⟨Nat.le_refl _, rfl, fun k h1 h2 => absurd h2 (by omega)⟩ (show 2 < 5 by decide) (kind := 2) (s := oneX) (by decide)
theorem freshL_one {f : Nat → Option Pg} {m n : Nat} (hn : n < m) (h : ∀ k, (f k).isSome = true ↔ k = n) : freshL f m = [n] := by
  refine sorted_eq _ _ (freshL_sorted f m) (by simp) fun k => ?_
  rw [mem_freshL, h]
  simp
  omega
theorem awk_commit (h : Pgr (Over w) p q awkS1 D W) (hc : Calm 5 fmtF D) : Calls Tryd.prog 15 #[ptr p, .int .i64 2] W fun e w' => e = .returned (.int .i64 0) ∧ (∃ D', Disk q D' (Over w) w' ∧ Calm 5 awkF D') ∧ Kept (Over w) W w' := by
  obtain ⟨D', e1, h1⟩ := calm_commit hc (p := [(2, sector 2 2 2 oneX)]) (fun x hx => by simp at hx; subst hx; exact ⟨by decide, sector_size _ _ _ (by decide)⟩) (by decide) 2 2
  have hl : freshL awkS1.fresh awkS1.many = [2] := freshL_one (by decide) fun k => by
    show (updF awkS.fresh 2 (some ⟨2, 2, 2, oneX⟩) k).isSome = true ↔ k = 2
    unfold updF
    split
    · simp [*]
    · simp [*]; rfl
  refine (g_commit h (txt := fun _ => sector 2 2 2 oneX) (fun n x hx => ?_) (by rw [hc.wait]; simp) (root := 2) (by decide) (fun n hn => by cases hn) (by decide) (r := (D', 0)) (by rw [hl]; exact e1)).mono fun e w' he => ⟨he.1, ⟨D', he.2.1.disk, h1⟩, he.2.2⟩
  have hx : updF awkS.fresh 2 (some ⟨2, 2, 2, oneX⟩) n = some x := hx
  unfold updF at hx
  split at hx
  · cases hx; exact pputs (K := 2) (N := 2) (gen := 2) (by decide) (by decide)
  · cases hx
theorem awk_open (h : Disk q D (Over w) W) (hc : Calm 5 awkF D) : Calls Tryd.prog 11 #[ptr q] W fun e w' => (∃ p D', e = .returned (.tuple #[ptr p, .int .i64 0]) ∧ Pgr (Over w) p q (PS.opened 2 2 5) D' w' ∧ Calm 5 awkF D') ∧ Kept (Over w) W w' := by
  obtain ⟨e2, h2⟩ := calm_sector hc (i := 0) (by omega)
  obtain ⟨e3, h3⟩ := calm_sector h2 (i := 1) (by omega)
  refine (g_open h (by rw [hc.n]; decide) e2 e3 (A := some (2, 2)) (B := some (1, -1)) ⟨by decide, rfl, rfl⟩ tells_first (gen := 2) (root := 2) rfl (by decide)).mono fun e w' ⟨⟨p, h1, h2, _⟩, h4⟩ => ⟨⟨p, _, h1, ?_, h3⟩, h4⟩
  rw [hc.n] at h2
  exact h2
theorem awk_mark (h : Pgr (Over w) p q (PS.opened 2 2 5) D W) : Calls Tryd.prog 17 #[ptr p, .int .i64 2] W fun e w' => e = .returned (.bool true) ∧ Pgr (Over w) p q awkS3 D w' ∧ Kept (Over w) W w' :=
  g_mark_new h (n := 2) (show 2 < 5 by decide) rfl rfl
theorem awk_read {W0 : World} (h : Pgr (Over w) p q awkS3 D W0) (hk : New W0 W) (hc : Calm 5 awkF D) {u : Value} (hu : IntsAt (fun b => W0.heap.size ≤ b) u [2] W) : Calls Tryd.prog 18 #[ptr p, .int .i64 2, u] W fun e w' => e = .returned (.tuple #[pageV 2 2 2 oneX, .int .i64 0]) ∧ (∃ S' D', Pgr (Over w) p q S' D' w' ∧ S'.gen = 2 ∧ S'.root = 2) ∧ Kept (Over w) W w' :=
  (g_read h hk (n := 2) (show 2 < 5 by decide) (.read rfl rfl (calm_read hc (i := 2) (by decide)).1 (psays (K := 2) (N := 2) (gen := 2) (data := oneX) (by decide) (by decide))) rfl hu).mono fun e w' he => ⟨he.1, ⟨_, _, he.2.1, rfl, rfl⟩, he.2.2.mono fun _ _ e => e.1⟩
theorem awk_state {S : PS} (h : Pgr (Over w) p q S D W) (h1 : S.gen = 2) (h2 : S.root = 2) : Calls Tryd.prog 12 #[ptr p] W fun e w' => e = .returned (.agg #[.int .u64 2, .int .i64 2]) ∧ New W w' := by
  have := g_state h
  rw [h1, h2] at this
  exact this
theorem sup_gen (g r : Int) (w : World) : (Instr.field 37 (.agg #[.int .u64 g, .int .i64 r]) 0).run Tryd.prog w = .ok (.int .u64 g) w := by kernel_rfl
theorem sup_root (g r : Int) (w : World) : (Instr.field 37 (.agg #[.int .u64 g, .int .i64 r]) 1).run Tryd.prog w = .ok (.int .i64 r) w := by kernel_rfl
theorem New.over {w W W2 : World} (h : New w W) (k : Kept (Over w) W W2) : New w W2 := h.trans' k fun x hx e => absurd hx (by have e : w.heap.size ≤ x := e; omega)
set_option maxHeartbeats 1600000 in
set_option maxRecDepth 100000 in
theorem awake_calls (w : World) (ht : Tabs w) : Calls Tryd.prog 8 #[] w fun e w' => e = .returned (.bool true) ∧ New w w' := by
  have hw0 := ht.1
  have HB : Hid (Calls Tryd.prog 13 #[.int .i64 5, .slice none 0 0] w fun e w' => (∃ q p D, e = .returned (.tuple #[ptr q, ptr p, .int .i64 0]) ∧ Pgr (Over w) p q awkS D w' ∧ Calm 5 fmtF D) ∧ New w w') := hid (begun_calm (n := 5) (by decide) (by decide) w)
  have HT := hid ht
  have hf0 := sup_gen
  have hf1 := sup_root
  clear ht
  go_enter Tryd.func8, Tryd.ntmps8
  go_wp2_with (first
    | (go_at_call 13; (with_reducible refine HB.out.mono ?_); rintro e w1 ⟨⟨q, p, D, rfl, x1, x2⟩, x3⟩; have X1 := hid x1; have X2 := hid x2; have X3 := hid x3; clear x1 x2 x3)
    | (go_at_call 14; (with_reducible refine (awk_add X1.out (HT.out.new X3.out)).mono ?_); rintro e w2 ⟨rfl, x1, x2⟩; have Y1 := hid x1; have Y2 := hid x2; clear x1 x2)
    | (go_at_call 15; (with_reducible refine (awk_commit Y1.out X2.out).mono ?_); rintro e w3 ⟨rfl, ⟨D3, x1, x2⟩, x3⟩; have Z1 := hid x1; have Z2 := hid x2; have Z3 := hid x3; clear x1 x2 x3)
    | (go_at_call 11; (with_reducible refine (awk_open Z1.out Z2.out).mono ?_); rintro e w4 ⟨⟨p4, D4, rfl, x1, x2⟩, x3⟩; have U1 := hid x1; have U2 := hid x2; have U3 := hid x3; clear x1 x2 x3)
    | (go_at_call 17; (with_reducible refine (awk_mark U1.out).mono ?_); rintro e w5 ⟨rfl, x1, x2⟩; have V1 := hid x1; have V2 := hid x2; clear x1 x2)
    | (go_at_call 18; (with_reducible refine (awk_read V1.out ((Kept.refl _ _).alloc _) U2.out (ints_block (blk_new w5 (.cells #[.int .i64 2] 3)) (Nat.le_refl _))).mono ?_); rintro e w6 ⟨rfl, ⟨S6, D6, x1, x2, x3⟩, x4⟩; have R1 := hid x1; have R4 := hid x4; have R5 := hid (fun W (hW : New w6 W) => (awk_state (x1.kept hW fun _ _ _ => id) x2 x3)); clear x1 x2 x3 x4)
    | (go_at_call 12; (with_reducible refine (R5.out _ ((Kept.refl _ _).alloc _)).mono ?_); rintro e w7 ⟨rfl, x1⟩; have T7 := hid (((Kept.refl (fun _ => False) w6).alloc (.cells #[.int .i64 2, .int .i64 2, .int .u64 2, .string oneX] 48)).trans x1); clear x1)
    | (go_at_call 12; (with_reducible refine (R5.out _ T7.out).mono ?_); rintro e w8 ⟨rfl, x1⟩; have T8 := hid (T7.out.trans x1); clear x1))
  go_ret
  exact ⟨rfl, (New.over (((((X3.out.over Y2.out).over Z3.out).over U3.out).over V2.out).alloc _) R4.out).trans T8.out⟩
end Go.Proofs.YtolifmpjbmekdaaDoor
