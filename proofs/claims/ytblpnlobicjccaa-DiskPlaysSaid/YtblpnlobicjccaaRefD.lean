/- The reference's disk (package sealchainref13), method by method, over the same states as the program's. -/
import Derived.Test.YtblpnlobicjccaaDiskW
namespace Go.Proofs.Ytblpnlobicjccaa
open Go.RowKit

section
variable {w : World} {base P : Nat} {F : Nat → Prop} {s : DS}
/-- What a method of the reference's disk leaves. -/
def RkPost (w : World) (base : Nat) (F : Nat → Prop) (P : Nat) (v : Value) (s' : DS) (en : Ending) (w' : World) : Prop :=
  en = .returned v ∧ ∃ F' : Nat → Prop, Rk w' base F' P s' ∧ (∀ b, F' b → F b ∨ w.heap.size ≤ b) ∧ Fr F w w'
theorem RkPost.same {v : Value} (h : Rk w base F P s) : RkPost w base F P v s (.returned v) w := ⟨rfl, F, h, fun _ hb => .inl hb, Fr.refl _ _⟩
theorem Rk.lt (h : Rk w base F P s) : ∀ b, F b → base ≤ b ∧ b < w.heap.size := by
  obtain ⟨_, _, _, _, _, h⟩ := h
  exact h.lt
theorem Rk.base_ (h : Rk w base F P s) : base ≤ w.heap.size := by
  obtain ⟨_, _, _, _, _, h⟩ := h
  exact h.base_
/-- The bytes are others, in new memory. -/
theorem Core.renew {T : TypeId} {w w' : World} {base P : Nat} {F : Nat → Prop} {hv hv' : Value} {s : DS} {A A1 : Option Addr} {c c1 : Nat} {TA : Option Addr} {cT : Nat} {vs : List Value} (h : Core T w base F P hv s A c TA cT vs) (hB : 26 ≠ T)
    (k : Fr (fun b => b = P) w w') {b1 : List UInt8} {n1 : Nat} (d : Bool) (arm' : Option Nat) (hb : Blk w' P T #[.slice A1 b1.length c1, .int .i64 n1, .bool d, hv', .slice TA s.t.length cT]) (ho : Own w' w.heap.size 5 A1 b1.length c1 b1)
    (hsyn : n1 ≤ b1.length) (hlen : b1.length ≤ 1048576) : Core T w' base (fun b => F b ∨ w.heap.size ≤ b ∧ b < w'.heap.size) P hv' ⟨b1, n1, d, arm', s.t⟩ A1 c1 TA cT vs := by
  refine ⟨hb, ho.mono h.base_, h.tr.fr k (fun b hb e => h.neT hB (e ▸ hb)), h.els.mono ?_, .inl h.fP, fun b hb => .inr (ho.lt b hb), fun b hb => .inl (h.fT b hb), ?_, Nat.le_trans h.base_ k.size, hsyn, hlen, h.tlen⟩
  · rintro v l ⟨Z, z1, z2⟩
    refine ⟨Z, z1.fr k (fun b hb => (z2 b hb).2.1), fun b hb => ?_⟩
    obtain ⟨p0, p1, p2, p3⟩ := z2 b hb
    refine ⟨.inl p0, p1, fun e => ?_, p3⟩
    have := (ho.lt b e).1
    have := (h.lt b p0).2
    omega
  · rintro b (hb | hb)
    · exact ⟨(h.lt b hb).1, Nat.lt_of_lt_of_le (h.lt b hb).2 k.size⟩
    · exact ⟨Nat.le_trans h.base_ hb.1, hb.2⟩
theorem Rk.turned {w w' : World} {A : Option Addr} {c : Nat} {TA : Option Addr} {cT : Nat} {vs : List Value} (h : Core 87 w base F P (.int .i64 (armI s.arm)) s A c TA cT vs) (k : Fr (fun b => b = P) w w') (n' : Nat) (hn : n' ≤ s.b.length) (d : Bool) (arm' : Option Nat)
    (hb : Blk w' P 87 #[.slice A s.b.length c, .int .i64 n', .bool d, .int .i64 (armI arm'), .slice TA s.t.length cT]) (v : Value) : RkPost w base F P v ⟨s.b, n', d, arm', s.t⟩ (.returned v) w' := by
  have := h.turn (by decide) (by decide) k s.b.length n' (Nat.le_refl _) hn d arm' hb
  rw [List.take_of_length_le (Nat.le_refl _)] at this
  exact ⟨rfl, F, ⟨A, c, TA, cT, vs, this⟩, fun _ hb => .inl hb, k.mono (fun b _ e => e ▸ h.fP)⟩

set_option maxHeartbeats 1000000 in
theorem rcut_core {hv : Value} {A : Option Addr} {c : Nat} {TA : Option Addr} {cT : Nat} {vs : List Value} (h : Core 87 w base F P hv s A c TA cT vs) (k : Nat) :
    Calls Try.prog 86 #[.pointer (some ⟨P, 0, none⟩), .int .i64 k] w fun en w' => en = .returned (.tuple #[]) ∧
      ∃ A1 c1, Core 87 w' base (fun b => F b ∨ w.heap.size ≤ b ∧ b < w'.heap.size) P hv { tearS k s with dead := s.dead } A1 c1 TA cT vs ∧ Fr (fun b => b = P) w w' := by
  have hsyn := h.syn
  have hlen := h.len
  have hcap := h.own.cap
  obtain ⟨L, hL⟩ : ∃ L, s.b.length = L := ⟨_, rfl⟩
  obtain ⟨n, hn⟩ : ∃ n, s.n = n := ⟨_, rfl⟩
  obtain ⟨q, hq⟩ : ∃ q, q = min k (s.b.length - s.n) := ⟨_, rfl⟩
  obtain ⟨r, hr⟩ : ∃ r, r = L - n := ⟨_, rfl⟩
  obtain ⟨m, hm⟩ : ∃ m, m = n + q := ⟨_, rfl⟩
  have c0 : w.cell? ⟨P, 0, none⟩ = some (.slice A L c) := by rw [← hL]; exact h.blk.cell 0
  have c1 : w.cell? ⟨P, 1, none⟩ = some (.int .i64 n) := by rw [← hn]; exact h.blk.cell 1
  have hnq : m ≤ L := by omega
  have hmc : m ≤ c := by omega
  have HM := Lib.hid (show m ≤ s.b.length by omega)
  have HML := Lib.hid (show m ≤ 1048576 by omega)
  have e1 : IntKind.i64.wrap ((L : Int) - (n : Int)) = (r : Int) := by rw [IntKind.wrap_i64]; omega
  have e1' : wrap64 ((L : Int) - (n : Int)) = (r : Int) := by unfold wrap64; omega
  have e2 : (if r < k then (r : Int) else (k : Int)) = (q : Int) := by split <;> omega
  have e2' : (if (r : Int) < (k : Int) then (r : Int) else (k : Int)) = (q : Int) := by split <;> omega
  have e3 : IntKind.i64.wrap ((n : Int) + (q : Int)) = (m : Int) := by rw [IntKind.wrap_i64]; omega
  have hhi := fun w => run_cut_hi w A L c m hmc
  have H := Lib.hid h
  have K := Lib.hid (show ({ tearS k s with dead := s.dead } : DS) = ⟨s.b.take m, m, s.dead, s.arm, s.t⟩ by unfold tearS; rw [← hq, hn, ← hm])
  have hsl : Sl w A m c (s.b.take m) := h.own.sl.take (by omega)
  have HC := Lib.hid (copyb_any w.drew.drew hsl.drew.drew (by omega))
  have HTL := Lib.hid (show (s.b.take m).length = m by simp; omega)
  have hPl := h.blk.lt
  obtain ⟨B1, hB1'⟩ : ∃ B1, s.b.take m = B1 := ⟨_, rfl⟩
  rw [K.out]
  rw [hB1'] at HC HTL ⊢
  clear hB1'
  clear h hsyn hlen hL hn hq hr hm hcap hmc hnq hsl
  go_enter Try.func86, Try.ntmps86
  go_wp2_with fail
  go_region
  go_wp2_with fail
  clear e1 e1' e2 e2'
  go_region_law (rw [if_pos (by rfl)]; go_simp; go_at_call 18; refine HC.out.mono ?_; rintro en w1 ⟨A1, c1', rfl, hO1, hB1⟩; have hb1 := H.out.blk.below (show Below w.heap.size w w1 from ⟨hB1.os, hB1.tape, hB1.output, hB1.size, hB1.block⟩) hPl; have d0 : w1.cell? ⟨P, 0, none⟩ = some (.slice A s.b.length c) := hb1.cell 0; have d1 : w1.cell? ⟨P, 1, none⟩ = some (.int .i64 s.n) := hb1.cell 1; have g0 := hb1.frozen 0; have g1 := hb1.frozen 1; have HB1 := Lib.hid hb1; have HO1 := Lib.hid hO1; have HW1 := Lib.hid (show Below w.heap.size w w1 from ⟨hB1.os, hB1.tape, hB1.output, hB1.size, hB1.block⟩); clear hb1 hO1 hB1; go_wp2_with fail)
  all_goals
    have hA1P : blkOf A1 ≠ some P := fun e => by have h1 : w.heap.size ≤ P := (HO1.out.lt P e).1; omega
    have hb2 : Blk ((w1.setCell ⟨P, 0, none⟩ (.slice A1 B1.length c1')).setCell ⟨P, 1, none⟩ (.int .i64 (B1.length : Int))) P 87 #[.slice A1 B1.length c1', .int .i64 (B1.length : Int), .bool s.dead, hv, .slice TA s.t.length cT] := (HB1.out.set_ 0 _).set_ 1 _
    have hF2 : Fr (fun b => b = P) w ((w1.setCell ⟨P, 0, none⟩ (.slice A1 B1.length c1')).setCell ⟨P, 1, none⟩ (.int .i64 (B1.length : Int))) := ((Fr.of_below (S := fun b => b = P) HW1.out).setCell (p := ⟨P, 0, none⟩) (.inl rfl) _).setCell (p := ⟨P, 1, none⟩) (.inl rfl) _
    have hO2 : Own ((w1.setCell ⟨P, 0, none⟩ (.slice A1 B1.length c1')).setCell ⟨P, 1, none⟩ (.int .i64 (B1.length : Int))) w.heap.size 5 A1 B1.length c1' B1 := (HO1.out.far (p := ⟨P, 0, none⟩) hA1P (.slice A1 B1.length c1')).far (p := ⟨P, 1, none⟩) hA1P _
    have K2 := Lib.hid (H.out.renew (by decide) hF2 s.dead s.arm hb2 hO2 (Nat.le_refl _) (by rw [HTL.out]; exact HML.out))
    rw [HTL.out] at K2
    have HF2 := Lib.hid hF2
    clear hb2 hF2 hO2
    go_wp2
    go_end0
    refine ⟨rfl, A1, c1', ?_, HF2.out⟩
    have := K2.out
    rw [← HTL.out] at this ⊢
    exact this


/-- The reference's tear: 'cut', and then it is dead. -/
theorem tear_of (k : Nat) (s : DS) : tearS k s = { ({ tearS k s with dead := s.dead } : DS) with dead := true } := rfl

set_option maxHeartbeats 1000000 in
theorem rfails_some {A : Option Addr} {c : Nat} {TA : Option Addr} {cT : Nat} {vs : List Value} (k : Nat) (h : Core 87 w base F P (.int .i64 (k : Int)) s A c TA cT vs) (ha : s.arm = some k) :
    Calls Try.prog 85 #[.pointer (some ⟨P, 0, none⟩)] w fun en w' => en = .returned (.bool true) ∧ ∃ F' : Nat → Prop, Rk w' base F' P (tearS k s) ∧ (∀ b, F' b → F b ∨ w.heap.size ≤ b) ∧ Fr F w w' := by
  have Q := Lib.hid (rcut_core h k)
  have c3 : w.cell? ⟨P, 3, none⟩ = some (.int .i64 (k : Int)) := h.blk.cell 3
  have HP := Lib.hid h.fP
  have HA := Lib.hid ha
  clear h ha
  go_enter Try.func85, Try.ntmps85
  go_wp2_with fail
  refine Q.out.mono ?_
  rintro en w1 ⟨rfl, A1, c1, h1, h2⟩
  have d2 : w1.cell? ⟨P, 2, none⟩ = some (.bool s.dead) := h1.blk.cell 2
  have g2 := h1.blk.frozen 2
  have hb := h1.blk.set_ 2 (.bool true)
  have hfr := (Fr.refl (fun b => b = P) w1).setCell (p := ⟨P, 2, none⟩) (.inl rfl) (.bool true)
  have hl := h1.syn
  have hc := h1.turn (by decide) (by decide) hfr _ _ (Nat.le_refl _) hl true s.arm hb
  rw [List.take_of_length_le (Nat.le_refl _)] at hc
  have HC := Lib.hid hc
  have HF := Lib.hid (h2.trans hfr (fun b hb => .inl hb))
  clear hb hfr hl hc h1 h2
  go_wp2
  go_ret
  refine ⟨rfl, fun b => F b ∨ w.heap.size ≤ b ∧ b < w1.heap.size, ⟨A1, c1, TA, cT, vs, ?_⟩, ?_, HF.out.mono (fun b _ e => e ▸ HP.out)⟩
  · have e : armI (tearS k s).arm = (k : Int) := by show armI s.arm = _; rw [HA.out]; rfl
    rw [e]
    exact HC.out
  · rintro b (hb | hb)
    · exact .inl hb
    · exact .inr hb.1

set_option maxHeartbeats 400000 in
theorem rfails_none {A : Option Addr} {c : Nat} {TA : Option Addr} {cT : Nat} {vs : List Value} (h : Core 87 w base F P (.int .i64 (-1)) s A c TA cT vs) :
    Calls Try.prog 85 #[.pointer (some ⟨P, 0, none⟩)] w fun en w' => en = .returned (.bool false) ∧ w = w' := by
  have c3 : w.cell? ⟨P, 3, none⟩ = some (.int .i64 (-1)) := h.blk.cell 3
  clear h
  go_enter Try.func85, Try.ntmps85
  go_wp2
  go_ret
  exact ⟨rfl, rfl⟩

set_option maxHeartbeats 1000000 in
theorem rsync_any (h : Rk w base F P s) : Calls Try.prog 75 #[.pointer (some ⟨P, 0, none⟩)] w (RkPost w base F P (.int .i64 (syncE s)) (syncS s)) := by
  have hs := Lib.hid (RkPost.same (v := .int .i64 130) h)
  obtain ⟨A, c, TA, cT, vs, h1⟩ := h
  have c2 : w.cell? ⟨P, 2, none⟩ = some (.bool s.dead) := h1.blk.cell 2
  cases hd : s.dead
  · rw [hd] at c2
    rcases ha : s.arm with _ | k
    · have e1 : syncE s = 0 := by simp [syncE, hd, ha]
      have e2 : syncS s = ⟨s.b, s.b.length, s.dead, s.arm, s.t⟩ := by simp [syncS, hd, ha]
      rw [e1, e2]
      have h1' := h1
      rw [ha] at h1'
      have Q := Lib.hid (rfails_none h1')
      have c0 : w.cell? ⟨P, 0, none⟩ = some (.slice A s.b.length c) := h1.blk.cell 0
      have c1 : w.cell? ⟨P, 1, none⟩ = some (.int .i64 s.n) := h1.blk.cell 1
      have f1 := h1.blk.frozen 1
      have H1 := Lib.hid h1
      clear h1 h1' e1 e2 hd ha
      go_enter Try.func75, Try.ntmps75
      go_wp2_with (go_at_call 85; refine Q.out.mono ?_; rintro en w' ⟨rfl, rfl⟩)
      go_ret
      exact Rk.turned H1.out ((Fr.refl (fun b => b = P) w).setCell (p := ⟨P, 1, none⟩) (.inl rfl) _) s.b.length (Nat.le_refl _) s.dead s.arm (H1.out.blk.set_ 1 _) _
    · have e1 : syncE s = 130 := by simp [syncE, hd, ha]
      have e2 : syncS s = tearS k s := by simp [syncS, hd, ha]
      rw [e1, e2]
      have h1' := h1
      rw [ha] at h1'
      have Q := Lib.hid (rfails_some k h1' ha)
      clear h1 h1' e1 e2 hd ha
      go_enter Try.func75, Try.ntmps75
      go_wp2_with (go_at_call 85; refine Q.out.mono ?_; rintro en w' ⟨rfl, hp⟩)
      go_ret
      exact ⟨rfl, hp⟩
  · have e1 : syncE s = 130 := by simp [syncE, hd]
    have e2 : syncS s = s := by simp [syncS, hd]
    rw [e1, e2]
    rw [hd] at c2
    clear h1 hd e1 e2
    go_enter Try.func75, Try.ntmps75
    go_wp2
    go_ret
    exact hs.out

set_option maxHeartbeats 1000000 in
theorem rarm_any (n : Int) (h : Rk w base F P s) : Calls Try.prog 78 #[.pointer (some ⟨P, 0, none⟩), .int .i64 n] w (RkPost w base F P (.int .i64 (armE n s)) (armS n s)) := by
  have hs := Lib.hid (fun v => RkPost.same (v := v) h)
  obtain ⟨A, c, TA, cT, vs, h1⟩ := h
  have c2 : w.cell? ⟨P, 2, none⟩ = some (.bool s.dead) := h1.blk.cell 2
  cases hd : s.dead
  · rw [hd] at c2
    by_cases hn : n < 0
    · have e1 : armE n s = 2 := by simp [armE, hd, hn]
      have e2 : armS n s = s := by simp [armS, hd, hn]
      rw [e1, e2]
      clear h1 e1 e2 hd
      go_enter Try.func78, Try.ntmps78
      go_wp2
      go_ret
      exact hs.out _
    · obtain ⟨k, rfl⟩ := Int.eq_ofNat_of_zero_le (show 0 ≤ n by omega)
      have e1 : armE k s = 0 := by simp [armE, hd, hn]
      have e2 : armS k s = ⟨s.b, s.n, s.dead, some k, s.t⟩ := by simp only [armS, hd]; rw [if_neg (by decide), if_neg hn]; simp
      rw [e1, e2]
      have c3 : w.cell? ⟨P, 3, none⟩ = some (.int .i64 (armI s.arm)) := h1.blk.cell 3
      have f3 := h1.blk.frozen 3
      have H1 := Lib.hid h1
      clear h1 e1 e2 hd
      go_enter Try.func78, Try.ntmps78
      go_wp2
      go_ret
      exact Rk.turned H1.out ((Fr.refl (fun b => b = P) w).setCell (p := ⟨P, 3, none⟩) (.inl rfl) _) s.n H1.out.syn s.dead (some k) (H1.out.blk.set_ 3 _) _
  · have e1 : armE n s = 130 := by simp [armE, hd]
    have e2 : armS n s = s := by simp [armS, hd]
    rw [e1, e2]
    rw [hd] at c2
    clear h1 hd e1 e2
    go_enter Try.func78, Try.ntmps78
    go_wp2
    go_ret
    exact hs.out _

set_option maxHeartbeats 1000000 in
theorem rrevive_any (h : Rk w base F P s) : Calls Try.prog 80 #[.pointer (some ⟨P, 0, none⟩)] w (RkPost w base F P (.int .i64 0) ⟨s.b, s.n, false, none, s.t⟩) := by
  obtain ⟨A, c, TA, cT, vs, h1⟩ := h
  have c2 : w.cell? ⟨P, 2, none⟩ = some (.bool s.dead) := h1.blk.cell 2
  have c3 : w.cell? ⟨P, 3, none⟩ = some (.int .i64 (armI s.arm)) := h1.blk.cell 3
  have f2 := h1.blk.frozen 2
  have f3 := h1.blk.frozen 3
  have H1 := Lib.hid h1
  clear h1
  go_enter Try.func80, Try.ntmps80
  go_wp2
  go_ret
  exact Rk.turned H1.out (((Fr.refl (fun b => b = P) w).setCell (p := ⟨P, 2, none⟩) (.inl rfl) _).setCell (p := ⟨P, 3, none⟩) (.inl rfl) _) s.n H1.out.syn false none ((H1.out.blk.set_ 2 _).set_ 3 _) _

set_option maxHeartbeats 1000000 in
theorem rcrash_any (n : Int) (h : Rk w base F P s) : Calls Try.prog 79 #[.pointer (some ⟨P, 0, none⟩), .int .i64 n] w (RkPost w base F P (.int .i64 (crashE n)) (crashS n s)) := by
  have hs := Lib.hid (fun v => RkPost.same (v := v) h)
  by_cases hn : n < 0
  · have e1 : crashE n = 2 := by simp [crashE, hn]
    have e2 : crashS n s = s := by simp [crashS, hn]
    rw [e1, e2]
    clear h e1 e2
    go_enter Try.func79, Try.ntmps79
    go_wp2
    go_ret
    exact hs.out _
  · obtain ⟨k, rfl⟩ := Int.eq_ofNat_of_zero_le (show 0 ≤ n by omega)
    have e1 : crashE k = 0 := by simp [crashE, hn]
    rw [e1]
    obtain ⟨A, c, TA, cT, vs, h1⟩ := h
    have c2 : w.cell? ⟨P, 2, none⟩ = some (.bool s.dead) := h1.blk.cell 2
    have f2 := h1.blk.frozen 2
    cases hd : s.dead
    · have e2 : crashS k s = tearS k s := by simp only [crashS, hd]; rw [if_neg hn, if_neg (by decide)]; simp
      rw [e2]
      rw [hd] at c2
      have Q := Lib.hid (rcut_core h1 k)
      have HP := Lib.hid h1.fP
      have HAr := Lib.hid (show armI (tearS k s).arm = armI s.arm from rfl)
      clear h1 e1 e2 hd f2
      go_enter Try.func79, Try.ntmps79
      go_wp2_with fail
      refine Q.out.mono ?_
      rintro en w1 ⟨rfl, A1, c1, h1, h2⟩
      have d2 : w1.cell? ⟨P, 2, none⟩ = some (.bool s.dead) := h1.blk.cell 2
      have g2 := h1.blk.frozen 2
      have hb := h1.blk.set_ 2 (.bool true)
      have hfr := (Fr.refl (fun b => b = P) w1).setCell (p := ⟨P, 2, none⟩) (.inl rfl) (.bool true)
      have hl := h1.syn
      have hc := h1.turn (by decide) (by decide) hfr _ _ (Nat.le_refl _) hl true s.arm hb
      rw [List.take_of_length_le (Nat.le_refl _)] at hc
      have HC := Lib.hid hc
      have HF := Lib.hid (h2.trans hfr (fun b hb => .inl hb))
      clear hb hfr hl hc h1 h2
      go_wp2
      go_ret
      refine ⟨rfl, fun b => F b ∨ w.heap.size ≤ b ∧ b < w1.heap.size, ⟨A1, c1, TA, cT, vs, ?_⟩, ?_, HF.out.mono (fun b _ e => e ▸ HP.out)⟩
      · rw [HAr.out]
        exact HC.out
      · rintro b (hb | hb)
        · exact .inl hb
        · exact .inr hb.1
    · have e2 : crashS k s = ⟨s.b, s.n, true, s.arm, s.t⟩ := by
        simp only [crashS, hd]; rw [if_neg hn, if_pos trivial]
        cases s; simp_all
      rw [e2]
      rw [hd] at c2
      have H1 := Lib.hid h1
      clear h1 e1 e2 hd
      go_enter Try.func79, Try.ntmps79
      go_wp2
      go_ret
      exact Rk.turned H1.out ((Fr.refl (fun b => b = P) w).setCell (p := ⟨P, 2, none⟩) (.inl rfl) _) s.n H1.out.syn true s.arm (H1.out.blk.set_ 2 _) _
end
end Go.Proofs.Ytblpnlobicjccaa
