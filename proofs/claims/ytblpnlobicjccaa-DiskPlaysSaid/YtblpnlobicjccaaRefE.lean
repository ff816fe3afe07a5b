/- The reference's disk: Cut, Swap, Write, New. -/
import Derived.Test.YtblpnlobicjccaaRefD
namespace Go.Proofs.Ytblpnlobicjccaa
open Go.RowKit

section
variable {w : World} {base P : Nat} {F : Nat → Prop} {s : DS}
theorem rnew_sub {w' : World} : ∀ b, (F b ∨ w.heap.size ≤ b ∧ b < w'.heap.size) → F b ∨ w.heap.size ≤ b := fun _ hb => hb.imp id And.left

set_option maxHeartbeats 1000000 in
theorem rcut_any (n : Int) (h : Rk w base F P s) : Calls Try.prog 77 #[.pointer (some ⟨P, 0, none⟩), .int .i64 n] w (RkPost w base F P (.int .i64 (cutE n s)) (cutS n s)) := by
  have hs := Lib.hid (fun v => RkPost.same (v := v) h)
  obtain ⟨A, c, TA, cT, vs, h1⟩ := h
  have c2 : w.cell? ⟨P, 2, none⟩ = some (.bool s.dead) := h1.blk.cell 2
  have c0 : w.cell? ⟨P, 0, none⟩ = some (.slice A s.b.length c) := h1.blk.cell 0
  cases hd : s.dead
  · rw [hd] at c2
    by_cases hn : n < 0 ∨ (s.b.length : Int) < n
    · have e1 : cutE n s = 9 := by simp [cutE, hd, hn]
      have e2 : cutS n s = s := by simp [cutS, hd, hn]
      rw [e1, e2]
      have hn' : n < 0 ∨ ¬ n < 0 ∧ (s.b.length : Int) < n := by omega
      clear h1 e1 e2 hd hn
      rcases hn' with hn | ⟨hn, hn2⟩
      all_goals
        go_enter Try.func77, Try.ntmps77
        go_wp2
        go_ret
        exact hs.out _
    · obtain ⟨k, rfl⟩ := Int.eq_ofNat_of_zero_le (show 0 ≤ n by omega)
      have e1 : cutE k s = 0 := by simp only [cutE, hd]; rw [if_neg (by decide), if_neg hn]
      have hkl : k ≤ s.b.length := by omega
      obtain ⟨B1, hB1⟩ : ∃ B1, s.b.take k = B1 := ⟨_, rfl⟩
      have e2 : cutS k s = ⟨B1, k, s.dead, s.arm, s.t⟩ := by rw [← hB1]; simp only [cutS, hd]; rw [if_neg (by decide), if_neg hn]; simp
      have hbl : B1.length = k := by rw [← hB1]; simp; omega
      rw [e1, e2]
      have hcap := h1.own.cap
      have hhi := fun w => run_cut_hi w A s.b.length c k (by omega)
      have hsl : Sl w A k c B1 := by rw [← hB1]; exact h1.own.sl.take hkl
      have HC := Lib.hid (copyb_any w hsl (by have := h1.len; omega))
      have hn2 : ¬ (s.b.length : Int) < (k : Int) := by omega
      have H1 := Lib.hid h1
      have HBL := Lib.hid hbl
      have HKL := Lib.hid hkl
      have hPl := h1.blk.lt
      clear h1 e1 e2 hd hn hcap hkl hsl hbl hB1
      go_enter Try.func77, Try.ntmps77
      go_wp2_with fail
      refine HC.out.mono ?_
      rintro en w1 ⟨A1, c1, rfl, hO1, hB1⟩
      have hb1 := H1.out.blk.below hB1 hPl
      have d0 : w1.cell? ⟨P, 0, none⟩ = some (.slice A s.b.length c) := hb1.cell 0
      have d1 : w1.cell? ⟨P, 1, none⟩ = some (.int .i64 s.n) := hb1.cell 1
      have g0 := hb1.frozen 0
      have g1 := hb1.frozen 1
      have hA1P : blkOf A1 ≠ some P := fun e => by have := (hO1.lt P e).1; omega
      have hb2 : Blk ((w1.setCell ⟨P, 0, none⟩ (.slice A1 B1.length c1)).setCell ⟨P, 1, none⟩ (.int .i64 (k : Int))) P 87 #[.slice A1 B1.length c1, .int .i64 (k : Int), .bool s.dead, .int .i64 (armI s.arm), .slice TA s.t.length cT] := (hb1.set_ 0 _).set_ 1 _
      have hF2 : Fr (fun b => b = P) w ((w1.setCell ⟨P, 0, none⟩ (.slice A1 B1.length c1)).setCell ⟨P, 1, none⟩ (.int .i64 (k : Int))) := ((Fr.of_below (S := fun b => b = P) hB1).setCell (p := ⟨P, 0, none⟩) (.inl rfl) _).setCell (p := ⟨P, 1, none⟩) (.inl rfl) _
      have hO2 : Own ((w1.setCell ⟨P, 0, none⟩ (.slice A1 B1.length c1)).setCell ⟨P, 1, none⟩ (.int .i64 (k : Int))) w.heap.size 5 A1 B1.length c1 B1 := (hO1.far (p := ⟨P, 0, none⟩) hA1P (.slice A1 B1.length c1)).far (p := ⟨P, 1, none⟩) hA1P _
      have K2 := Lib.hid (H1.out.renew (by decide) hF2 s.dead s.arm hb2 hO2 (Nat.le_of_eq HBL.out.symm) (by have := HBL.out; have := HKL.out; have := H1.out.len; omega))
      have HF2 := Lib.hid hF2
      clear hb2 hF2 hO2 hb1 hO1 hB1 hA1P
      go_wp2
      go_ret
      exact ⟨rfl, _, ⟨A1, c1, TA, cT, vs, K2.out⟩, rnew_sub, HF2.out.mono (fun b _ e => e ▸ H1.out.fP)⟩
  · have e1 : cutE n s = 130 := by simp [cutE, hd]
    have e2 : cutS n s = s := by simp [cutS, hd]
    rw [e1, e2]
    rw [hd] at c2
    clear h1 hd e1 e2
    go_enter Try.func77, Try.ntmps77
    go_wp2
    go_ret
    exact hs.out _

set_option maxHeartbeats 2000000 in
theorem rwrite_ok {A2 : Option Addr} {n2 c2 : Nat} {m : List UInt8} (h : Rk w base F P s) (hm : Sl w A2 n2 c2 m) (hA2 : m ≠ [] → ∀ b, blkOf A2 = some b → ¬ F b) (htl : s.t.length ≤ 900) (hd : s.dead = false) (hl : s.b.length + m.length ≤ 1048576) :
    Calls Try.prog 81 #[.pointer (some ⟨P, 0, none⟩), .slice A2 n2 c2] w (RkPost w base F P (.int .i64 0) { s with b := s.b ++ m, t := s.t ++ [m] }) := by
  obtain ⟨A, c, TA, cT, vs, h1⟩ := h
  have c0 : w.cell? ⟨P, 0, none⟩ = some (.slice A s.b.length c) := h1.blk.cell 0
  have cd : w.cell? ⟨P, 2, none⟩ = some (.bool s.dead) := h1.blk.cell 2
  have f0 := h1.blk.frozen 0
  have hn := hm.len
  have hl' : ¬ (1048576 : Int) < (s.b.length : Int) + (n2 : Int) := by omega
  have HC := Lib.hid (copyb_any w h1.own.sl (by omega))
  have H := Lib.hid h1
  have HM := Lib.hid hm
  have HN := Lib.hid hn
  have HL := Lib.hid hl
  rw [hd] at cd
  clear h1 hd hm hn hl
  go_enter Try.func81, Try.ntmps81
  go_wp2_with fail
  refine HC.out.mono ?_
  rintro en w0 ⟨A0, c0', rfl, hO0, hB0⟩
  have HO0 := Lib.hid hO0
  have HB0 := Lib.hid hB0
  clear hO0 hB0
  go_wp2_with (at_builtin; refine app_bytes rfl _ _ rfl rfl rfl HO0.out (HM.out.old HB0.out) ?c1 HB0.out.size ?_)
  case c1 => have := HN.out; have := HL.out; omega
  intro A1 c1 w1 hO1 hF1 hA1
  have hlP := (H.out.lt P H.out.fP).2
  have hB1 : Below w.heap.size w w1 := Fr.below HB0.out hF1 HB0.out.size (fun b hb => (HO0.out.lt b hb).1)
  have hb1 := H.out.blk.below hB1 H.out.blk.lt
  have d0 : w1.cell? ⟨P, 0, none⟩ = some (.slice A s.b.length c) := hb1.cell 0
  have g0 := hb1.frozen 0
  have hA1f : ∀ b, blkOf A1 = some b → w.heap.size ≤ b := fun b hb => (hO1.lt b hb).1
  have hA1P : blkOf A1 ≠ some P := fun e => by have := hA1f P e; omega
  have hb2 : Blk (w1.setCell ⟨P, 0, none⟩ (.slice A1 (s.b.length + n2) c1)) P 87 #[.slice A1 (s.b.length + n2) c1, .int .i64 s.n, .bool s.dead, .int .i64 (armI s.arm), .slice TA s.t.length cT] := hb1.set_ 0 _
  have hO2 := (hO1.far (p := ⟨P, 0, none⟩) hA1P (.slice A1 (s.b.length + n2) c1)).mono H.out.base_
  have hF2 : Fr (foot3 P A TA) w (w1.setCell ⟨P, 0, none⟩ (.slice A1 (s.b.length + n2) c1)) := (Fr.of_below (S := foot3 P A TA) hB1).setCell (p := ⟨P, 0, none⟩) (.inl (.inl rfl)) _
  have hFP : Fr (fun b => b = P) w (w1.setCell ⟨P, 0, none⟩ (.slice A1 (s.b.length + n2) c1)) := (Fr.of_below (S := fun b => b = P) hB1).setCell (p := ⟨P, 0, none⟩) (.inl rfl) _
  have hM2 := HM.out.fr' hFP (fun hz b hb hf => hA2 hz b hb (hf ▸ H.out.fP))
  have hT2 := H.out.tr.fr hFP (fun b hb e => H.out.neT (by decide) (e ▸ hb))
  have HA1 := Lib.hid (show ∀ b, blkOf A1 = some b → blkOf A = some b ∨ w.heap.size ≤ b from fun b hb => .inr (hA1f b hb))
  have HO2 := Lib.hid hO2
  have HF2 := Lib.hid hF2
  have HT2 := Lib.hid hT2
  have HC2 := Lib.hid (copyb_any _ hM2.drew (by have := HN.out; have := HL.out; omega))
  go_wp2_with fail
  generalize w1.setCell ⟨P, 0, none⟩ (.slice A1 (s.b.length + n2) c1) = w2 at *
  have d4 : w2.cell? ⟨P, 4, none⟩ = some (.slice TA s.t.length cT) := hb2.cell 4
  have g4 := hb2.frozen 4
  have HB2 := Lib.hid hb2
  clear hb2 hO1 hF1 hA1 hO2 hF2 hFP hT2 hM2 hb1 c0 f0 d0 g0 hA1P hA1f hB1
  go_region_law (first | (rw [if_pos (by rfl)]; go_simp; go_at_call 18; refine HC2.out.mono ?_; rintro en w3 ⟨A3, c3, rfl, hO3, hB3⟩; have hb3 := HB2.out.fr (Fr.of_below (S := fun _ => False) (belowUndrew hB3)) id; have d4' : w3.cell? ⟨P, 4, none⟩ = some (.slice TA s.t.length cT) := hb3.cell 4; have hl3 := hb3.lt; have HB3 := Lib.hid hb3; have HO3 := Lib.hid hO3; have HW3 := Lib.hid (belowUndrew hB3); clear hb3 hO3 hB3; go_wp2_with fail) | (refine step_app1 rfl _ _ rfl rfl ((HT2.out.old HW3.out).alloc _) _ _ _ rfl (cellNew _ _ _) rfl (by omega) (by have := H.out.base_; have := HF2.out.size; have := HW3.out.size; simp; omega) ?_; intro A5 c5 w5 hR5 hF5 hA5; have hb5 := (HB3.out.alloc (.cells #[.slice A3 m.length c3] 26)).fr hF5 (H.out.neT (by decide)); have d4'' : w5.cell? ⟨P, 4, none⟩ = some (.slice TA s.t.length cT) := hb5.cell 4; have g4'' := hb5.frozen 4; have HB5 := Lib.hid hb5; have HR5 := Lib.hid hR5; have HF5 := Lib.hid hF5; have HA5 := Lib.hid hA5; clear hb5 hR5 hF5 hA5))
  all_goals
    have K := Lib.hid (H.out.traced (by decide) (by decide) s.arm (by simp [HN.out]) HF2.out HB2.out HO2.out HA1.out HW3.out HO3.out HR5.out HF5.out HA5.out (by have := H.out.syn; simp; omega) (by have := HL.out; simp; omega) htl (by have := HL.out; omega))
    clear hA2
    go_wp2
    go_ret
    exact ⟨rfl, _, ⟨_, _, _, _, _, K.out.1⟩, fun b hb => hb.imp id And.left, K.out.2.mono (fun b _ hb => foot3_sub H.out b hb)⟩

theorem rwrite_d {A2 : Option Addr} {n2 c2 : Nat} {m : List UInt8} (h : Rk w base F P s) (hm : Sl w A2 n2 c2 m) (hA2 : m ≠ [] → ∀ b, blkOf A2 = some b → ¬ F b) (htl : s.t.length ≤ 900) (hml : m.length ≤ 2000000) :
    Calls Try.prog 81 #[.pointer (some ⟨P, 0, none⟩), .slice A2 n2 c2] w (RkPost w base F P (.int .i64 (writeE m s)) (writeS m s)) := by
  have hs := Lib.hid (fun v => RkPost.same (v := v) h)
  cases hd : s.dead
  · by_cases hl : 1048576 < s.b.length + m.length
    · have e1 : writeE m s = 5 := by simp [writeE, hd, hl]
      have e2 : writeS m s = s := by simp [writeS, hd, hl]
      rw [e1, e2]
      obtain ⟨A, c, TA, cT, vs, h1⟩ := h
      have c0 : w.cell? ⟨P, 0, none⟩ = some (.slice A s.b.length c) := h1.blk.cell 0
      have cd : w.cell? ⟨P, 2, none⟩ = some (.bool s.dead) := h1.blk.cell 2
      rw [hd] at cd
      have hn := hm.len
      have h3 := h1.len
      have hl' : (1048576 : Int) < (s.b.length : Int) + (n2 : Int) := by omega
      have hn2 : n2 ≤ 2000000 := by omega
      clear h1 hd hm hn hl hA2 e1 e2
      go_enter Try.func81, Try.ntmps81
      go_wp2
      go_ret
      exact hs.out _
    · have e1 : writeE m s = 0 := by simp [writeE, hd, hl]
      have e2 : writeS m s = { s with b := s.b ++ m, t := s.t ++ [m] } := by simp only [writeS, hd]; rw [if_neg (by decide), if_neg hl]
      rw [e1, e2]
      exact rwrite_ok h hm hA2 htl hd (by omega)
  · have e1 : writeE m s = 130 := by simp [writeE, hd]
    have e2 : writeS m s = s := by simp [writeS, hd]
    rw [e1, e2]
    obtain ⟨A, c, TA, cT, vs, h1⟩ := h
    have cd : w.cell? ⟨P, 2, none⟩ = some (.bool s.dead) := h1.blk.cell 2
    rw [hd] at cd
    clear h1 hd hm hA2 e1 e2
    go_enter Try.func81, Try.ntmps81
    go_wp2
    go_ret
    exact hs.out _
end
end Go.Proofs.Ytblpnlobicjccaa
