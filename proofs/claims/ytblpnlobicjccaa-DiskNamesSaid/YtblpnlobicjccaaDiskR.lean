/- Package disk: Arm, Revive, Swap, Trace. -/
import Derived.Test.YtblpnlobicjccaaDiskQ
import Derived.Deep.LoopGhost
namespace Go.Proofs.Ytblpnlobicjccaa
open Go.RowKit

theorem Core.widen {T : TypeId} {w : World} {base P : Nat} {F F' : Nat → Prop} {hv : Value} {s : DS} {A : Option Addr} {c : Nat} {TA : Option Addr} {cT : Nat} {vs : List Value} (h : Core T w base F P hv s A c TA cT vs) (hF : ∀ b, F b → F' b) (hlt : ∀ b, F' b → base ≤ b ∧ b < w.heap.size) : Core T w base F' P hv s A c TA cT vs :=
  ⟨h.blk, h.own, h.tr, h.els.mono (fun _ _ ⟨Z, h1, h2⟩ => ⟨Z, h1, fun b hb => ⟨hF b (h2 b hb).1, (h2 b hb).2⟩⟩), hF P h.fP, fun b hb => hF b (h.fA b hb), fun b hb => hF b (h.fT b hb), hlt, h.base_, h.syn, h.len, h.tlen⟩

section
variable {w : World} {base P : Nat} {F : Nat → Prop} {s : DS}
set_option maxHeartbeats 1000000 in
theorem darm_any (n : Int) (hn9 : n ≤ 9223372036854775807) (h : Dk w base F P s) : Calls Try.prog 20 #[.pointer (some ⟨P, 0, none⟩), .int .i64 n] w (DkPost w base F P (.int .i64 (armE n s)) (armS n s)) := by
  have hfr := (Fr.refl (fun _ => False) w).alloc (.cells #[.int .i64 n] 3)
  have hx : Dk (w.alloc (.cells #[.int .i64 n] 3)) base F P s := h.fr hfr (fun _ _ => id)
  have Q := Lib.hid (dlive_any hx)
  have X := Lib.hid hx
  have hp : ∀ v, DkPost w base F P v s (.returned v) (w.alloc (.cells #[.int .i64 n] 3)) := fun v => ⟨rfl, F, hx, fun _ hb => .inl hb, hfr.mono (fun _ _ e => e.elim)⟩
  have HP := Lib.hid hp
  have HF := Lib.hid hfr
  have hB := Blk.new w 3 #[.int .i64 n]
  have b0 : (w.alloc (.cells #[.int .i64 n] 3)).cell? ⟨w.heap.size, 0, none⟩ = some (.int .i64 n) := hB.cell 0
  have HB := Lib.hid hB
  clear hfr hx hp hB
  cases hd : s.dead
  · rw [hd] at Q
    by_cases hn : n < 0
    · have e1 : armE n s = 2 := by simp [armE, hd, hn]
      have e2 : armS n s = s := by simp [armS, hd, hn]
      rw [e1, e2]
      clear h e1 e2
      go_enter Try.func20, Try.ntmps20
      go_wp2_with (go_at_call 63; refine Q.out.mono ?_; rintro en w' ⟨rfl, rfl⟩)
      go_ret
      exact HP.out _
    · have e1 : armE n s = 0 := by simp [armE, hd, hn]
      have e2 : armS n s = ⟨s.b, s.n, s.dead, some n.toNat, s.t⟩ := by simp [armS, hd, hn]
      rw [e1, e2]
      obtain ⟨hv, A, c, TA, cT, vs, h1, h2⟩ := h
      have hP0 := h1.blk.lt
      have c3 : (w.alloc (.cells #[.int .i64 n] 3)).cell? ⟨P, 3, none⟩ = some hv := (h1.blk.alloc _).cell 3
      have f3 := (h1.blk.alloc (.cells #[.int .i64 n] 3)).frozen 3
      have H1 := Lib.hid h1
      clear h1 h2 e1 e2
      go_enter Try.func20, Try.ntmps20
      go_wp2_with (go_at_call 63; refine Q.out.mono ?_; rintro en w' ⟨rfl, rfl⟩)
      go_ret
      obtain ⟨k, rfl⟩ := Int.eq_ofNat_of_zero_le (show 0 ≤ n by omega)
      have hk : Fr (fun b => b = P) w ((w.setCell ⟨P, 3, none⟩ (.func (.func 65) #[] #[.pointer (some ⟨w.heap.size, 0, none⟩)])).alloc (.cells #[.int .i64 k] 3)) := ((Fr.refl (fun b => b = P) w).setCell (p := ⟨P, 3, none⟩) (.inl rfl) _).alloc _
      have hb : Blk ((w.setCell ⟨P, 3, none⟩ (.func (.func 65) #[] #[.pointer (some ⟨w.heap.size, 0, none⟩)])).alloc (.cells #[.int .i64 k] 3)) P 65 #[.slice A s.b.length c, .int .i64 s.n, .bool s.dead, .func (.func 65) #[] #[.pointer (some ⟨w.heap.size, 0, none⟩)], .slice TA s.t.length cT] := (H1.out.blk.set_ 3 _).alloc _
      have hc := H1.out.turn (by decide) (by decide) hk s.b.length s.n (Nat.le_refl _) H1.out.syn s.dead (some k) hb
      rw [List.take_of_length_le (Nat.le_refl _)] at hc
      have hnb : Blk ((w.setCell ⟨P, 3, none⟩ (.func (.func 65) #[] #[.pointer (some ⟨w.heap.size, 0, none⟩)])).alloc (.cells #[.int .i64 k] 3)) w.heap.size 3 #[.int .i64 k] := by
        have := Blk.new (w.setCell ⟨P, 3, none⟩ (.func (.func 65) #[] #[.pointer (some ⟨w.heap.size, 0, none⟩)])) 3 #[.int .i64 k]
        simpa [World.setCell] using this
      refine ⟨rfl, fun b => F b ∨ b = w.heap.size, ⟨_, A, c, TA, cT, vs, hc.widen (fun b hb => .inl hb) ?_, w.heap.size, rfl, hnb, ⟨.inr rfl, by omega, fun e => ?_, fun e => ?_⟩, by omega⟩, fun b hb => hb.imp id (fun e => Nat.le_of_eq e.symm), hk.mono (fun b _ e => e ▸ H1.out.fP)⟩
      · rintro b (hb | rfl)
        · exact ⟨(H1.out.lt b hb).1, Nat.lt_of_lt_of_le (H1.out.lt b hb).2 hk.size⟩
        · exact ⟨H1.out.base_, hnb.lt⟩
      · have := (H1.out.lt _ (H1.out.fA _ e)).2; omega
      · have := (H1.out.lt _ (H1.out.fT _ e)).2; omega
  · have e1 : armE n s = 130 := by simp [armE, hd]
    have e2 : armS n s = s := by simp [armS, hd]
    rw [e1, e2]
    rw [hd] at Q
    clear h e1 e2
    go_enter Try.func20, Try.ntmps20
    go_wp2_with (go_at_call 63; refine Q.out.mono ?_; rintro en w' ⟨rfl, rfl⟩)
    go_ret
    exact HP.out _

set_option maxHeartbeats 1000000 in
theorem drevive_any (h : Dk w base F P s) : Calls Try.prog 22 #[.pointer (some ⟨P, 0, none⟩)] w (DkPost w base F P (.int .i64 0) ⟨s.b, s.n, false, none, s.t⟩) := by
  have Q := Lib.hid (dnone_any h)
  obtain ⟨hv, A, c, TA, cT, vs, h1, h2⟩ := h
  have c2 : w.cell? ⟨P, 2, none⟩ = some (.bool s.dead) := h1.blk.cell 2
  have c3 : w.cell? ⟨P, 3, none⟩ = some hv := h1.blk.cell 3
  have f2 := h1.blk.frozen 2
  have f3 := h1.blk.frozen 3
  have H1 := Lib.hid h1
  clear h1 h2
  go_enter Try.func22, Try.ntmps22
  go_wp2_with (go_at_call 62; refine Q.out.mono ?_; rintro en w' ⟨rfl, rfl⟩)
  go_ret
  have hk : Fr (fun b => b = P) w ((w.setCell ⟨P, 2, none⟩ (.bool false)).setCell ⟨P, 3, none⟩ (.func (.func 61) #[] #[])) := ((Fr.refl (fun b => b = P) w).setCell (p := ⟨P, 2, none⟩) (.inl rfl) _).setCell (p := ⟨P, 3, none⟩) (.inl rfl) _
  have hb : Blk ((w.setCell ⟨P, 2, none⟩ (.bool false)).setCell ⟨P, 3, none⟩ (.func (.func 61) #[] #[])) P 65 #[.slice A s.b.length c, .int .i64 s.n, .bool false, .func (.func 61) #[] #[], .slice TA s.t.length cT] := (H1.out.blk.set_ 2 _).set_ 3 _
  have hc := H1.out.turn (by decide) (by decide) hk s.b.length s.n (Nat.le_refl _) H1.out.syn false none hb
  rw [List.take_of_length_le (Nat.le_refl _)] at hc
  exact ⟨rfl, F, ⟨_, A, c, TA, cT, vs, hc, rfl⟩, fun _ hb => .inl hb, hk.mono (fun b _ e => e ▸ H1.out.fP)⟩

def swapE (m : List UInt8) (s : DS) : Int := if s.dead then 130 else if 1048576 < m.length then 5 else match s.arm with | some _ => 130 | none => 0
def swapS (m : List UInt8) (s : DS) : DS := if s.dead then s else if 1048576 < m.length then s else match s.arm with | some k => tearS k s | none => { s with b := m, n := m.length, t := s.t ++ [m] }

set_option maxHeartbeats 2000000 in
theorem dswap_ok {A2 : Option Addr} {n2 c2 : Nat} {m : List UInt8} (h : Dk w base F P s) (hm : Sl w A2 n2 c2 m) (hA2 : m ≠ [] → ∀ b, blkOf A2 = some b → ¬ F b) (htl : s.t.length ≤ 900) (hd : s.dead = false) (ha : s.arm = none) (hl : m.length ≤ 1048576) :
    Calls Try.prog 17 #[.pointer (some ⟨P, 0, none⟩), .slice A2 n2 c2] w (DkPost w base F P (.int .i64 0) { s with b := m, n := m.length, t := s.t ++ [m] }) := by
  have Q := Lib.hid (dlive_any h)
  rw [hd] at Q
  obtain ⟨hv, A, c, TA, cT, vs, h1, h2⟩ := h
  have hv0 : hv = .func (.func 61) #[] #[] := by rw [ha] at h2; exact h2
  have c0 : w.cell? ⟨P, 0, none⟩ = some (.slice A s.b.length c) := h1.blk.cell 0
  have c3 : w.cell? ⟨P, 3, none⟩ = some hv := h1.blk.cell 3
  rw [hv0] at c3
  have QA := Lib.hid (always_any (.pointer (some ⟨P, 0, none⟩)) w)
  have QC := Lib.hid (copied_any w hm (by have := hm.len; omega))
  have hn := hm.len
  have hl' : ¬ (1048576 : Int) < (n2 : Int) := by omega
  have H := Lib.hid h1
  have H2 := Lib.hid h2
  have HM := Lib.hid hm
  have HN := Lib.hid hn
  have HL := Lib.hid hl
  clear h1 h2 hd hm hn hl ha
  go_enter Try.func17, Try.ntmps17
  go_wp2_with (first | (go_at_call 63; refine Q.out.mono ?_; rintro en w' ⟨rfl, rfl⟩) | (go_at_call 61; refine QA.out.mono ?_; rintro en w' ⟨rfl, rfl⟩))
  refine QC.out.mono ?_
  rintro en w1 ⟨A1, c1, rfl, hO1, hB1⟩
  have hlP := (H.out.lt P H.out.fP).2
  have hb1 := H.out.blk.below hB1 H.out.blk.lt
  have d0 : w1.cell? ⟨P, 0, none⟩ = some (.slice A s.b.length c) := hb1.cell 0
  have d1 : w1.cell? ⟨P, 1, none⟩ = some (.int .i64 s.n) := hb1.cell 1
  have g0 := hb1.frozen 0
  have g1 := hb1.frozen 1
  have hA1P : blkOf A1 ≠ some P := fun e => by have := (hO1.lt P e).1; omega
  have hb2 : Blk ((w1.setCell ⟨P, 0, none⟩ (.slice A1 m.length c1)).setCell ⟨P, 1, none⟩ (.int .i64 n2)) P 65 #[.slice A1 m.length c1, .int .i64 n2, .bool s.dead, hv, .slice TA s.t.length cT] := (hb1.set_ 0 _).set_ 1 _
  have hO2 := ((hO1.far (p := ⟨P, 0, none⟩) hA1P (.slice A1 m.length c1)).far (p := ⟨P, 1, none⟩) hA1P (.int .i64 n2)).mono H.out.base_
  have hF2 : Fr (foot3 P A TA) w ((w1.setCell ⟨P, 0, none⟩ (.slice A1 m.length c1)).setCell ⟨P, 1, none⟩ (.int .i64 n2)) := ((Fr.of_below (S := foot3 P A TA) hB1).setCell (p := ⟨P, 0, none⟩) (.inl (.inl rfl)) _).setCell (p := ⟨P, 1, none⟩) (.inl (.inl rfl)) _
  have hFP : Fr (fun b => b = P) w ((w1.setCell ⟨P, 0, none⟩ (.slice A1 m.length c1)).setCell ⟨P, 1, none⟩ (.int .i64 n2)) := ((Fr.of_below (S := fun b => b = P) hB1).setCell (p := ⟨P, 0, none⟩) (.inl rfl) _).setCell (p := ⟨P, 1, none⟩) (.inl rfl) _
  have hM2 := HM.out.fr' hFP (fun hz b hb hf => hA2 hz b hb (hf ▸ H.out.fP))
  have hT2 := H.out.tr.fr hFP (fun b hb e => H.out.neT (by decide) (e ▸ hb))
  have HA1 := Lib.hid (show ∀ b, blkOf A1 = some b → blkOf A = some b ∨ w.heap.size ≤ b from fun b hb => .inr (hO1.lt b hb).1)
  have HO2 := Lib.hid hO2
  have HF2 := Lib.hid hF2
  have HT2 := Lib.hid hT2
  have HC2 := Lib.hid (copied_any _ hM2.drew (by have := HN.out; have := HL.out; omega))
  go_wp2_with fail
  generalize (w1.setCell ⟨P, 0, none⟩ (.slice A1 m.length c1)).setCell ⟨P, 1, none⟩ (.int .i64 n2) = w2 at *
  have d4 : w2.cell? ⟨P, 4, none⟩ = some (.slice TA s.t.length cT) := hb2.cell 4
  have g4 := hb2.frozen 4
  have HB2 := Lib.hid hb2
  clear hb2 hO1 hO2 hF2 hFP hT2 hM2 hb1 c0 d0 d1 g0 g1 hA1P hB1
  go_region_law (first | (rw [if_pos (by rfl)]; go_simp; go_at_call 64; refine HC2.out.mono ?_; rintro en w3 ⟨A3, c3, rfl, hO3, hB3⟩; have hb3 := HB2.out.fr (Fr.of_below (S := fun _ => False) (belowUndrew hB3)) id; have d4' : w3.cell? ⟨P, 4, none⟩ = some (.slice TA s.t.length cT) := hb3.cell 4; have hl3 := hb3.lt; have HB3 := Lib.hid hb3; have HO3 := Lib.hid hO3; have HW3 := Lib.hid (belowUndrew hB3); clear hb3 hO3 hB3; go_wp2_with fail) | (refine step_app1 rfl _ _ rfl rfl ((HT2.out.old HW3.out).alloc _) _ _ _ rfl (cellNew _ _ _) rfl (by omega) (by have := H.out.base_; have := HF2.out.size; have := HW3.out.size; simp; omega) ?_; intro A5 c5 w5 hR5 hF5 hA5; have hb5 := (HB3.out.alloc (.cells #[.slice A3 m.length c3] 26)).fr hF5 (H.out.neT (by decide)); have d4'' : w5.cell? ⟨P, 4, none⟩ = some (.slice TA s.t.length cT) := hb5.cell 4; have g4'' := hb5.frozen 4; have HB5 := Lib.hid hb5; have HR5 := Lib.hid hR5; have HF5 := Lib.hid hF5; have HA5 := Lib.hid hA5; clear hb5 hR5 hF5 hA5))
  all_goals
    have K := Lib.hid (H.out.traced (by decide) (by decide) s.arm rfl HF2.out HB2.out HO2.out HA1.out HW3.out HO3.out HR5.out HF5.out HA5.out (Nat.le_of_eq HN.out) HL.out htl HL.out)
    have hZ5 : ∀ b, blkOf A5 = some b → blkOf TA = some b ∨ w.heap.size ≤ b := fun b hb => (HA5.out b hb).imp id (fun e => by have := HF2.out.size; have := HW3.out.size; simp at e; omega)
    have HH := Lib.hid (H2.out.grow (fun b hb => (H.out.lt b hb).2) K.out.2 HA1.out hZ5 (F' := fun b => F b ∨ w.heap.size ≤ b ∧ b < (w5.setCell ⟨P, 4, none⟩ (.slice A5 (s.t.length + 1) c5)).heap.size) (fun b hb => .inl hb))
    clear hA2 hZ5
    go_wp2
    go_ret
    rw [← HN.out]
    exact ⟨rfl, _, ⟨hv, _, _, _, _, _, K.out.1, HH.out⟩, fun b hb => hb.imp id And.left, K.out.2.mono (fun b _ hb => foot3_sub H.out b hb)⟩

set_option maxHeartbeats 1000000 in
theorem dswap_any {A2 : Option Addr} {n2 c2 : Nat} {m : List UInt8} (h : Dk w base F P s) (hm : Sl w A2 n2 c2 m) (hA2 : m ≠ [] → ∀ b, blkOf A2 = some b → ¬ F b) (htl : s.t.length ≤ 900) (hml : m.length ≤ 2000000) :
    Calls Try.prog 17 #[.pointer (some ⟨P, 0, none⟩), .slice A2 n2 c2] w (DkPost w base F P (.int .i64 (swapE m s)) (swapS m s)) := by
  have Q := Lib.hid (dlive_any h)
  have hn := hm.len
  cases hd : s.dead
  · by_cases hl : 1048576 < m.length
    · have e1 : swapE m s = 5 := by simp [swapE, hd, hl]
      have e2 : swapS m s = s := by simp [swapS, hd, hl]
      rw [e1, e2]
      rw [hd] at Q
      have hp := Lib.hid (DkPost.same (v := .int .i64 5) h)
      have hl' : (1048576 : Int) < (n2 : Int) := by omega
      clear h hd hm hn hl hA2 e1 e2
      go_enter Try.func17, Try.ntmps17
      go_wp2_with (go_at_call 63; refine Q.out.mono ?_; rintro en w' ⟨rfl, rfl⟩)
      go_ret
      exact hp.out
    · rcases ha : s.arm with _ | k
      · have e1 : swapE m s = 0 := by simp [swapE, hd, hl, ha]
        have e2 : swapS m s = { s with b := m, n := m.length, t := s.t ++ [m] } := by simp only [swapS, hd, ha]; rw [if_neg (by decide), if_neg hl]
        rw [e1, e2]
        exact dswap_ok h hm hA2 htl hd ha (by omega)
      · have e1 : swapE m s = 130 := by simp [swapE, hd, hl, ha]
        have e2 : swapS m s = tearS k s := by simp only [swapS, hd, ha]; rw [if_neg (by decide), if_neg hl]
        rw [e1, e2]
        rw [hd] at Q
        obtain ⟨hv, A, c, TA, cT, vs, h1, h2⟩ := h
        have h2' := h2
        rw [ha] at h2'
        obtain ⟨B, hv0, hB, _, _⟩ := h2'
        have c3 : w.cell? ⟨P, 3, none⟩ = some hv := h1.blk.cell 3
        have QA := Lib.hid (armc_core h1 k hB)
        have H1 := Lib.hid h1
        have H2 := Lib.hid h2
        have hl' : ¬ (1048576 : Int) < (n2 : Int) := by omega
        rw [hv0] at c3
        clear h1 h2 e1 e2 ha hB hn hm hA2 hl
        go_enter Try.func17, Try.ntmps17
        go_wp2_with (first | (go_at_call 63; refine Q.out.mono ?_; rintro en w' ⟨rfl, rfl⟩) | (go_at_call 65; refine QA.out.mono ?_; rintro en w1 ⟨rfl, k1, k2⟩))
        go_ret
        exact ⟨rfl, F, ⟨hv, A, c, TA, cT, vs, k1, H2.out.fr k2 (fun _ hb => hb.2.1)⟩, fun _ hb => .inl hb, k2.mono (fun b _ e => e ▸ H1.out.fP)⟩
  · have e1 : swapE m s = 130 := by simp [swapE, hd]
    have e2 : swapS m s = s := by simp [swapS, hd]
    rw [e1, e2]
    rw [hd] at Q
    have hp := Lib.hid (DkPost.same (v := .int .i64 130) h)
    clear h hd hm hn hA2 e1 e2
    go_enter Try.func17, Try.ntmps17
    go_wp2_with (go_at_call 63; refine Q.out.mono ?_; rintro en w' ⟨rfl, rfl⟩)
    go_ret
    exact hp.out
end
end Go.Proofs.Ytblpnlobicjccaa
