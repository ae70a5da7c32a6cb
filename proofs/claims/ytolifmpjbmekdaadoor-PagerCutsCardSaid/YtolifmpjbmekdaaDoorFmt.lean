/-
A sector that is read, and a disk that is formatted; conditions: the disk lies in memory as told, few writes wait.
-/
import Derived.Test.YtolifmpjbmekdaaDoorSuperG
import Derived.Test.YtolifmpjbmekdaaDoorDiskN
namespace Go.Proofs.YtolifmpjbmekdaaDoor
open Go.RowKit
open Go.Lib (hid)
variable {q : Nat} {D : DS} {F : Nat → Prop} {w : World}
def DS.sector (D : DS) (n : Int) : DS × ByteArray × Int := if (D.read n).2.2 = 41 then ((D.read n).1, ⟨#[]⟩, 0) else D.read n
theorem sector_calls (h : Disk q D F w) (n : Int) : Calls Tryd.prog 30 #[.pointer (some ⟨q, 0, none⟩), .int .i64 n] w fun e w' => e = .returned (.tuple #[.string (D.sector n).2.1, .int .i64 (D.sector n).2.2]) ∧ Disk q (D.sector n).1 F w' ∧ Kept F w w' := by
  have HR := hid (read_calls h n)
  unfold DS.sector
  clear h
  by_cases h1 : (D.read n).2.2 = 41
  · rw [if_pos h1]
    rw [h1] at HR
    generalize D.read n = r at *
    clear h1
    go_enter Tryd.func30, Tryd.ntmps30
    go_wp2_with (first | (go_at_call 50; (with_reducible refine HR.out.mono ?_); rintro e w1 ⟨rfl, hd, hk⟩; have HD := hid hd; have HK := hid hk; clear hd hk))
    go_ret2
    exact ⟨rfl, HD.out, HK.out⟩
  · rw [if_neg h1]
    generalize D.read n = r at *
    obtain ⟨r1, r2, r3⟩ := r
    simp only at h1 HR ⊢
    have h2 : (r3 == 41) = false := beq_eq_false_iff_ne.2 h1
    go_enter Tryd.func30, Tryd.ntmps30
    go_wp2_with (first | (go_at_call 50; (with_reducible refine HR.out.mono ?_); rintro e w1 ⟨rfl, hd, hk⟩; have HD := hid hd; have HK := hid hk; clear hd hk))
    go_ret2
    exact ⟨rfl, HD.out, HK.out⟩
theorem act_wait (D : DS) : D.act.1.wait.length ≤ D.wait.length := by
  unfold DS.act
  cases D.cuts with
  | nil => exact Nat.le_refl _
  | cons c r =>
    simp only
    by_cases hle : D.tick.acts ≤ (if c.1 < 0 then 0 else c.1)
    · rw [if_pos hle]; exact Nat.le_refl _
    · rw [if_neg hle]; exact Nat.zero_le _
theorem write_wait (D : DS) (n : Int) (s : ByteArray) : (D.write n s).1.wait.length ≤ D.wait.length + 1 := by
  unfold DS.write
  split
  · exact Nat.le_succ _
  · split
    · exact Nat.le_succ _
    · split
      · exact Nat.le_succ _
      · refine Nat.le_trans (act_wait _) ?_
        simp [DS.push]
theorem flush_wait (D : DS) : D.flush.1.wait.length ≤ D.wait.length := by
  unfold DS.flush
  split
  · exact Nat.le_refl _
  · split
    · exact act_wait D
    · exact Nat.zero_le _
def DS.format (D : DS) : DS × Int :=
  let a := D.write 0 ⟨#[]⟩
  if a.2 ≠ 0 then a else
  let b := a.1.write 1 ⟨#[]⟩
  if b.2 ≠ 0 then b else
  let c := b.1.flush
  if c.2 ≠ 0 then c else
  let d := c.1.write 1 (supS 1 (-1))
  if d.2 ≠ 0 then d else d.1.flush
theorem where_one (w : World) : Calls Tryd.prog 28 #[.int .u64 1] w fun e w' => e = .returned (.int .i64 1) ∧ w = w' := where_calls (gen := 1) (by decide) w
theorem sput_one (w : World) : Calls Tryd.prog 29 #[.agg #[.int .u64 1, .int .i64 (-1)]] w fun e w' => e = .returned (.string (supS 1 (-1))) ∧ New w w' := sput_calls (gen := 1) (root := -1) (by decide) w
set_option maxHeartbeats 3200000 in
set_option maxRecDepth 10000 in
theorem format_calls (h : Disk q D F w) (hw : D.wait.length ≤ 1000) : Calls Tryd.prog 9 #[.pointer (some ⟨q, 0, none⟩)] w fun e w' => e = .returned (.int .i64 D.format.2) ∧ Disk q D.format.1 F w' ∧ Kept F w w' := by
  have HW := hid (fun (E : DS) (W : World) (n : Int) (s : ByteArray) (hE : Disk q E F W) (hl : E.wait.length ≤ 1000000) => write_calls hE n s hl)
  have HF := hid (fun (E : DS) (W : World) (hE : Disk q E F W) => flush_calls hE)
  have W0 := write_wait D 0 ⟨#[]⟩
  have H := hid h
  obtain ⟨r, hr⟩ : ∃ r, D.format = r := ⟨_, rfl⟩
  rw [hr]
  unfold DS.format at hr
  simp only at hr
  obtain ⟨a, ha⟩ : ∃ a, D.write 0 ⟨#[]⟩ = a := ⟨_, rfl⟩
  rw [ha] at hr W0
  have W1 := write_wait a.1 1 ⟨#[]⟩
  obtain ⟨b, hb⟩ : ∃ b, a.1.write 1 ⟨#[]⟩ = b := ⟨_, rfl⟩
  rw [hb] at hr W1
  have W2 := flush_wait b.1
  obtain ⟨c, hc⟩ : ∃ c, b.1.flush = c := ⟨_, rfl⟩
  rw [hc] at hr W2
  have C0 : Calls Tryd.prog 26 #[.pointer (some ⟨q, 0, none⟩), .int .i64 0, .string ⟨#[]⟩] w fun e w' => e = .returned (.int .i64 a.2) ∧ Disk q a.1 F w' ∧ Kept F w w' := by
    have := HW.out D w 0 ⟨#[]⟩ h (by omega)
    rw [ha] at this
    exact this
  have C1 : ∀ W, Disk q a.1 F W → Calls Tryd.prog 26 #[.pointer (some ⟨q, 0, none⟩), .int .i64 1, .string ⟨#[]⟩] W fun e w' => e = .returned (.int .i64 b.2) ∧ Disk q b.1 F w' ∧ Kept F W w' := fun W hW => by
    have := HW.out a.1 W 1 ⟨#[]⟩ hW (by omega)
    rw [hb] at this
    exact this
  have C2 : ∀ W, Disk q b.1 F W → Calls Tryd.prog 27 #[.pointer (some ⟨q, 0, none⟩)] W fun e w' => e = .returned (.int .i64 c.2) ∧ Disk q c.1 F w' ∧ Kept F W w' := fun W hW => by
    have := HF.out b.1 W hW
    rw [hc] at this
    exact this
  obtain ⟨d, hd⟩ : ∃ d, c.1.write 1 (supS 1 (-1)) = d := ⟨_, rfl⟩
  rw [hd] at hr
  have C3 : ∀ W, Disk q c.1 F W → Calls Tryd.prog 26 #[.pointer (some ⟨q, 0, none⟩), .int .i64 1, .string (supS 1 (-1))] W fun e w' => e = .returned (.int .i64 d.2) ∧ Disk q d.1 F w' ∧ Kept F W w' := fun W hW => by
    have := HW.out c.1 W 1 (supS 1 (-1)) hW (by omega)
    rw [hd] at this
    exact this
  obtain ⟨f, hf⟩ : ∃ f, d.1.flush = f := ⟨_, rfl⟩
  rw [hf] at hr
  have C4 : ∀ W, Disk q d.1 F W → Calls Tryd.prog 27 #[.pointer (some ⟨q, 0, none⟩)] W fun e w' => e = .returned (.int .i64 f.2) ∧ Disk q f.1 F w' ∧ Kept F W w' := fun W hW => by
    have := HF.out d.1 W hW
    rw [hf] at this
    exact this
  have HR := hid hr
  have C0 := hid C0
  have C1 := hid C1
  have C2 := hid C2
  have C3 := hid C3
  have C4 := hid C4
  have HS := hid sput_one
  have HWh := hid where_one
  have key : ∀ x : DS × Int, ∀ w', Disk q x.1 F w' → Kept F w w' → r = x → Ending.returned (.int .i64 x.2) = Ending.returned (.int .i64 r.2) ∧ Disk q r.1 F w' ∧ Kept F w w' := fun x w' h1 h2 e => by subst e; exact ⟨rfl, h1, h2⟩
  have HK := hid key
  clear ha hb hc hd hf hr h key W0 W1 W2 HW HF hw
  generalize supS 1 (-1) = ss at *
  obtain ⟨a1, a2⟩ := a
  obtain ⟨b1, b2⟩ := b
  obtain ⟨c1, c2⟩ := c
  obtain ⟨d1, d2⟩ := d
  obtain ⟨f1, f2⟩ := f
  simp only at C0 C1 C2 C3 C4 HR
  go_enter Tryd.func9, Tryd.ntmps9
  go_wp2
  go_loopw [7] (fun v wr => (v = .int .i64 0 ∧ w = wr) ∨ (v = .int .i64 1 ∧ Hid (a2 = 0 ∧ Disk q a1 F wr ∧ Kept F w wr)) ∨ (v = .int .i64 2 ∧ Hid (a2 = 0 ∧ b2 = 0 ∧ Disk q b1 F wr ∧ Kept F w wr))) (fun v _ => 2 - (intOf v).toNat)
  case atStart => exact .inl ⟨rfl, rfl⟩
  case round =>
    rcases hrel with ⟨rfl, rfl⟩ | ⟨rfl, h1⟩ | ⟨rfl, h2⟩
    · as_aux_lemma =>
      by_cases h0 : a2 = 0
      · have hbq : (a2 != 0) = false := by rw [h0]; rfl
        have H0 := hid h0
        clear h0
        go_wp2_with (first
          | (go_at_call 26; (with_reducible refine C0.out.mono ?_); rintro e w1 ⟨rfl, x1, x2⟩; have X1 := hid x1; have X2 := hid x2; clear x1 x2))
        exact ⟨.inr (.inl ⟨rfl, hid ⟨H0.out, X1.out, X2.out⟩⟩), by simp [intOf]⟩
      · have hbq : (a2 != 0) = true := by simpa using h0
        have H0 := hid h0
        clear h0
        go_wp2_with (first
          | (go_at_call 26; (with_reducible refine C0.out.mono ?_); rintro e w1 ⟨rfl, x1, x2⟩; have X1 := hid x1; have X2 := hid x2; clear x1 x2))
        go_ret
        exact HK.out (a1, a2) _ X1.out X2.out (by have h := HR.out; rw [if_pos H0.out] at h; exact h.symm)
    · as_aux_lemma =>
      by_cases h0 : b2 = 0
      · have hbq : (b2 != 0) = false := by rw [h0]; rfl
        have H0 := hid h0
        clear h0
        go_wp2_with (first
          | (go_at_call 26; (with_reducible refine (C1.out _ h1.out.2.1).mono ?_); rintro e w1 ⟨rfl, x1, x2⟩; have X1 := hid x1; have X2 := hid (h1.out.2.2.trans x2); clear x1 x2))
        exact ⟨.inr (.inr ⟨rfl, hid ⟨h1.out.1, H0.out, X1.out, X2.out⟩⟩), by simp [intOf]⟩
      · have hbq : (b2 != 0) = true := by simpa using h0
        have H0 := hid h0
        clear h0
        go_wp2_with (first
          | (go_at_call 26; (with_reducible refine (C1.out _ h1.out.2.1).mono ?_); rintro e w1 ⟨rfl, x1, x2⟩; have X1 := hid x1; have X2 := hid (h1.out.2.2.trans x2); clear x1 x2))
        go_ret
        exact HK.out (b1, b2) _ X1.out X2.out (by have h := HR.out; rw [if_neg (by simp [h1.out.1]), if_pos H0.out] at h; exact h.symm)
    · as_aux_lemma =>
      by_cases h0 : c2 = 0
      · have hbq : (c2 != 0) = false := by rw [h0]; rfl
        have H0 := hid h0
        clear h0
        have HC := H0
        have hbc := hbq
        clear H0
        by_cases h0 : d2 = 0
        · have hbq : (d2 != 0) = false := by rw [h0]; rfl
          have H0 := hid h0
          clear h0
          go_wp2_with (first
            | (go_at_call 27; (with_reducible refine (C2.out _ h2.out.2.2.1).mono ?_); rintro e w3 ⟨rfl, x1, x2⟩; have X1 := hid x1; have X2 := hid (h2.out.2.2.2.trans x2); clear x1 x2)
            | (go_at_call 28; (with_reducible refine (HWh.out _).mono ?_); rintro e w3 ⟨rfl, rfl⟩)
            | (go_at_call 29; (with_reducible refine (HS.out _).mono ?_); rintro e w4 ⟨rfl, x4⟩; have Y1 := hid (X1.out.new x4); have Y2 := hid (X2.out.trans (x4.mono fun _ _ e => e.elim)); clear x4)
            | (go_at_call 26; (with_reducible refine (C3.out _ Y1.out).mono ?_); rintro e w5 ⟨rfl, x1, x2⟩; have Z1 := hid x1; have Z2 := hid (Y2.out.trans x2); clear x1 x2)
            | (go_at_call 27; (with_reducible refine (C4.out _ Z1.out).mono ?_); rintro e w6 ⟨rfl, x1, x2⟩; have U1 := hid x1; have U2 := hid (Z2.out.trans x2); clear x1 x2))
          go_ret
          exact HK.out (f1, f2) _ U1.out U2.out (by have h := HR.out; rw [if_neg (by simp [h2.out.1]), if_neg (by simp [h2.out.2.1]), if_neg (by simp [HC.out]), if_neg (by simp [H0.out])] at h; exact h.symm)
        · have hbq : (d2 != 0) = true := by simpa using h0
          have H0 := hid h0
          clear h0
          go_wp2_with (first
            | (go_at_call 27; (with_reducible refine (C2.out _ h2.out.2.2.1).mono ?_); rintro e w3 ⟨rfl, x1, x2⟩; have X1 := hid x1; have X2 := hid (h2.out.2.2.2.trans x2); clear x1 x2)
            | (go_at_call 28; (with_reducible refine (HWh.out _).mono ?_); rintro e w3 ⟨rfl, rfl⟩)
            | (go_at_call 29; (with_reducible refine (HS.out _).mono ?_); rintro e w4 ⟨rfl, x4⟩; have Y1 := hid (X1.out.new x4); have Y2 := hid (X2.out.trans (x4.mono fun _ _ e => e.elim)); clear x4)
            | (go_at_call 26; (with_reducible refine (C3.out _ Y1.out).mono ?_); rintro e w5 ⟨rfl, x1, x2⟩; have Z1 := hid x1; have Z2 := hid (Y2.out.trans x2); clear x1 x2)
            | (go_at_call 27; (with_reducible refine (C4.out _ Z1.out).mono ?_); rintro e w6 ⟨rfl, x1, x2⟩; have U1 := hid x1; have U2 := hid (Z2.out.trans x2); clear x1 x2))
          go_ret
          exact HK.out (d1, d2) _ Z1.out Z2.out (by have h := HR.out; rw [if_neg (by simp [h2.out.1]), if_neg (by simp [h2.out.2.1]), if_neg (by simp [HC.out]), if_pos H0.out] at h; exact h.symm)
      · have hbq : (c2 != 0) = true := by simpa using h0
        have H0 := hid h0
        clear h0
        go_wp2_with (first
          | (go_at_call 27; (with_reducible refine (C2.out _ h2.out.2.2.1).mono ?_); rintro e w3 ⟨rfl, x1, x2⟩; have X1 := hid x1; have X2 := hid (h2.out.2.2.2.trans x2); clear x1 x2)
          | (go_at_call 28; (with_reducible refine (HWh.out _).mono ?_); rintro e w3 ⟨rfl, rfl⟩)
          | (go_at_call 29; (with_reducible refine (HS.out _).mono ?_); rintro e w4 ⟨rfl, x4⟩; have Y1 := hid (X1.out.new x4); have Y2 := hid (X2.out.trans (x4.mono fun _ _ e => e.elim)); clear x4)
          | (go_at_call 26; (with_reducible refine (C3.out _ Y1.out).mono ?_); rintro e w5 ⟨rfl, x1, x2⟩; have Z1 := hid x1; have Z2 := hid (Y2.out.trans x2); clear x1 x2)
          | (go_at_call 27; (with_reducible refine (C4.out _ Z1.out).mono ?_); rintro e w6 ⟨rfl, x1, x2⟩; have U1 := hid x1; have U2 := hid (Z2.out.trans x2); clear x1 x2))
        go_ret
        exact HK.out (c1, c2) _ X1.out X2.out (by have h := HR.out; rw [if_neg (by simp [h2.out.1]), if_neg (by simp [h2.out.2.1]), if_pos H0.out] at h; exact h.symm)
end Go.Proofs.YtolifmpjbmekdaaDoor
