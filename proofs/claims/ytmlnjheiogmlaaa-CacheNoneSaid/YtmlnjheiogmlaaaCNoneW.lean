/-
CacheNone answers true; conditions: none.
-/
import Derived.Test.YtmlnjheiogmlaaaCNone
namespace Go.Proofs.Ytmlnjheiogmlaaa
open Go.RowKit Go.Lib Go.Maps
theorem Try.info5' : (Try.prog.info? 5).map (fun i => (i.zero, i.size, i.bytes)) = some (some (.int .u8 0), 1, 1) := by kernel_rfl
set_option maxHeartbeats 3200000 in
set_option maxRecDepth 100000 in
theorem cacheNone_walk (k t : ByteArray) (w : World) : Calls Try.prog 7 #[.string k, .string t] w fun e w' => e = .returned (.bool true) ∧ Below w.heap.size w w' := by
  have GB := hid (fun W => (get_bad (k := k) (cache_bad_nil (w := W))))
  have DB := hid (fun W => (del_bad (k := k) (cache_bad_nil (w := W))))
  have PB := hid (fun W => (put_bad (k := k) (t := t) (cache_bad_nil (w := W))))
  have SB := hid (fun W => (sync_bad (cache_bad_nil (w := W))))
  have G2 : Hid (∀ W : World, Calls Try.prog 22 #[.pointer (some ⟨W.heap.size + 1, 0, none⟩), .string k] ((W.alloc (.map #[] 0)).alloc (.cells #[.nilIface, .int .i64 5, .map (some W.heap.size), .int .u64 0, .int .i64 0, .int .i64 0] 88 (0, 0))) fun e w' => e = .returned (.tuple #[.string ⟨#[]⟩, .bool false, .int .i64 1]) ∧ ((W.alloc (.map #[] 0)).alloc (.cells #[.nilIface, .int .i64 5, .map (some W.heap.size), .int .u64 0, .int .i64 0, .int .i64 0] 88 (0, 0))) = w') := hid (fun W => get_bad (k := k) (cache_bad_none (rest := [.int .i64 5, .map (some W.heap.size), .int .u64 0, .int .i64 0, .int .i64 0]) (blk_at _ _ (by simp))))
  have HN := hid (fun (W : World) (g : Nat) (hg : W.heap.size = g) => (cache_new5 (g := g) (w := W.alloc (.cells #[.slice none 0 0, .slice none 0 0] 26))).mono fun e W' h => start_new (most := 5) hg (by omega) W' e h)
  have HH := hid (fun W g (HC : Hid (Cach (g + 2) (g + 1) g (fun b => g ≤ b ∧ b ≠ g + 2 ∧ b ≠ g + 1) 5 0 0 0 (fun _ => none) [] W)) => (cache_held HC.out : Calls Try.prog 29 #[.pointer (some ⟨g + 2, 0, none⟩)] W fun e w' => e = .returned (.int .i64 0) ∧ W = w'))
  obtain ⟨i5, hi5, hz5, hs5, hb5⟩ : ∃ i, Try.prog.info? 5 = some i ∧ i.zero = some (.int .u8 0) ∧ i.size = 1 ∧ i.bytes = 1 := by
    have := Try.info5'
    cases h : Try.prog.info? 5 with
    | none => rw [h] at this; cases this
    | some i => rw [h] at this; simp at this; exact ⟨i, rfl, this.1, this.2.1, this.2.2⟩
  obtain ⟨n1, hn1, hn1'⟩ : ∃ n : Nat, 64 < n ∧ n < 66 := ⟨65, by omega, by omega⟩
  obtain ⟨n2, hn2, hn2'⟩ : ∃ n : Nat, 65536 < n ∧ n < 65538 := ⟨65537, by omega, by omega⟩
  go_enter Try.func7, Try.ntmps7
  go_wp2_with (first
    | (go_at_call 22; (with_reducible refine (GB.out _).mono ?_); rintro e w1 ⟨rfl, rfl⟩) | (go_at_call 23; (with_reducible refine (DB.out _).mono ?_); rintro e w1 ⟨rfl, rfl⟩) | (go_at_call 30; (with_reducible refine (cost_nil).mono ?_); rintro e w1 ⟨rfl, rfl⟩) | (go_at_call 19; (with_reducible refine (cache_new_none).mono ?_); rintro e w1 ⟨rfl, rfl⟩) | (go_at_call 22; (with_reducible refine (G2.out _).mono ?_); rintro e w1 ⟨rfl, rfl⟩)
    | (go_at_call 19; (with_reducible refine (HN.out _ _ (by simp)).mono ?_); rintro e w2 ⟨rfl, HC, HN2⟩)
    | (at_make; refine wpList_make_full _ rfl _ _ 70 rfl 0 5 i5 (.int .u8 0) 1 Try.underlying70 hi5 hz5 hs5 .i64 .i64 65 65 n1 rfl rfl (by omega) (by omega) (by rw [hb5]; omega) (by unfold maxLen; omega) (Nat.zero_le _) ?_; intro w3 hown3 hgr3; obtain ⟨s3, hs3, hcv3⟩ := zeros_string hown3; have N3 := hid (HN2.out.trans ((Kept.refl (fun _ => False) _).grown hgr3 (fun _ e => by cases e))); have HC3 := hid (HC.out.new ((Kept.refl (fun _ => False) _).grown hgr3 (fun _ e => by cases e))); clear hown3 hgr3)
    | (go_at_call 27; (with_reducible refine (put_long1 HC3.out (by omega)).mono ?_); rintro e w4 ⟨rfl, rfl⟩)
    | (at_make; refine wpList_make_full _ rfl _ _ 70 rfl 0 5 i5 (.int .u8 0) 1 Try.underlying70 hi5 hz5 hs5 .i64 .i64 65537 65537 n2 rfl rfl (by omega) (by omega) (by rw [hb5]; omega) (by unfold maxLen; omega) (Nat.zero_le _) ?_; intro w5 hown5 hgr5; obtain ⟨s5, hs5', hcv5⟩ := zeros_string hown5; have N5 := hid (N3.out.trans ((Kept.refl (fun _ => False) _).grown hgr5 (fun _ e => by cases e))); have HC5 := hid (HC3.out.new ((Kept.refl (fun _ => False) _).grown hgr5 (fun _ e => by cases e))); clear hown5 hgr5)
    | (go_at_call 27; (with_reducible refine (put_long2 HC5.out (by decide) (by omega)).mono ?_); rintro e w6 ⟨rfl, rfl⟩)
    | (go_at_call 20; (with_reducible refine (cache_awake).mono ?_); rintro e w7 ⟨rfl, hn7⟩; have N7 := hid (N5.out.trans hn7); have HC7 := hid (HC5.out.new hn7); clear hn7)
    | (go_at_call 27; (with_reducible refine (PB.out _).mono ?_); rintro e w8 ⟨rfl, rfl⟩)
    | (go_at_call 25; (with_reducible refine (SB.out _).mono ?_); rintro e w8 ⟨rfl, rfl⟩)
    | (go_at_call 29; (with_reducible refine (held_nil).mono ?_); rintro e w8 ⟨rfl, rfl⟩)
    | (go_at_call 29; (with_reducible refine (HH.out _ _ HC7).mono ?_); rintro e w8 ⟨rfl, rfl⟩))
  go_ret
  exact ⟨rfl, ((((Kept.refl (fun _ => False) _).alloc _).alloc _).trans N7.out).below (Nat.le_refl _) (fun _ e => e.elim)⟩
theorem cacheNone_tells (k t : ByteArray) (w : World) (_ : k.size ≤ maxLen) (_ : t.size ≤ maxLen) : Calls Try.prog 7 #[.string k, .string t] w fun e w' => e = .returned (.bool true) ∧ Below w.heap.size w w' := cacheNone_walk k t w
end Go.Proofs.Ytmlnjheiogmlaaa
