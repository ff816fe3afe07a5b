/- Package disk: Sync, Cut, Arm, Crash, Revive, Read, Synced, Dead, New. -/
import Derived.Test.YtblpnlobicjccaaDiskP
namespace Go.Proofs.Ytblpnlobicjccaa
open Go.RowKit

section
variable {w : World} {base P : Nat} {F : Nat → Prop} {s : DS}
/-- The struct's cells turned, the memory's blocks the same. -/
theorem Dk.turned {w w' : World} {hv : Value} {A : Option Addr} {c : Nat} {TA : Option Addr} {cT : Nat} {vs : List Value} (h : Core 65 w base F P hv s A c TA cT vs) (h2 : Held w (fun b => F b ∧ b ≠ P ∧ blkOf A ≠ some b ∧ blkOf TA ≠ some b) s.arm hv)
    (k : Fr (fun b => b = P) w w') (m n' : Nat) (hm : m ≤ s.b.length) (hn : n' ≤ m) (d : Bool) (hb : Blk w' P 65 #[.slice A m c, .int .i64 n', .bool d, hv, .slice TA s.t.length cT]) (v : Value) :
    DkPost w base F P v ⟨s.b.take m, n', d, s.arm, s.t⟩ (.returned v) w' :=
  ⟨rfl, F, ⟨hv, A, c, TA, cT, vs, h.turn (by decide) (by decide) k m n' hm hn d s.arm hb, h2.fr k (fun _ hb => hb.2.1)⟩, fun _ hb => .inl hb, k.mono (fun b _ e => e ▸ h.fP)⟩
theorem Dk.turnedB {w w' : World} {hv : Value} {A : Option Addr} {c : Nat} {TA : Option Addr} {cT : Nat} {vs : List Value} (h : Core 65 w base F P hv s A c TA cT vs) (h2 : Held w (fun b => F b ∧ b ≠ P ∧ blkOf A ≠ some b ∧ blkOf TA ≠ some b) s.arm hv)
    (k : Fr (fun b => b = P) w w') (n' : Nat) (hn : n' ≤ s.b.length) (d : Bool) (hb : Blk w' P 65 #[.slice A s.b.length c, .int .i64 n', .bool d, hv, .slice TA s.t.length cT]) (v : Value) :
    DkPost w base F P v ⟨s.b, n', d, s.arm, s.t⟩ (.returned v) w' := by
  have := Dk.turned h h2 k s.b.length n' (Nat.le_refl _) hn d hb v
  rwa [List.take_of_length_le (Nat.le_refl _)] at this

def syncE (s : DS) : Int := if s.dead then 130 else match s.arm with | some _ => 130 | none => 0
def syncS (s : DS) : DS := if s.dead then s else match s.arm with | some k => tearS k s | none => { s with n := s.b.length }

set_option maxHeartbeats 1000000 in
theorem dsync_any (h : Dk w base F P s) : Calls Try.prog 16 #[.pointer (some ⟨P, 0, none⟩)] w (DkPost w base F P (.int .i64 (syncE s)) (syncS s)) := by
  have Q := Lib.hid (dlive_any h)
  cases hd : s.dead
  · rw [hd] at Q
    rcases ha : s.arm with _ | k
    · have e1 : syncE s = 0 := by simp [syncE, hd, ha]
      have e2 : syncS s = ⟨s.b, s.b.length, s.dead, s.arm, s.t⟩ := by simp [syncS, hd, ha]
      rw [e1, e2]
      obtain ⟨hv, A, c, TA, cT, vs, h1, h2⟩ := h
      have hv0 : hv = .func (.func 61) #[] #[] := by rw [ha] at h2; exact h2
      have c0 : w.cell? ⟨P, 0, none⟩ = some (.slice A s.b.length c) := h1.blk.cell 0
      have c1 : w.cell? ⟨P, 1, none⟩ = some (.int .i64 s.n) := h1.blk.cell 1
      have c3 : w.cell? ⟨P, 3, none⟩ = some hv := h1.blk.cell 3
      have f1 := h1.blk.frozen 1
      have H1 := Lib.hid h1
      have H2 := Lib.hid h2
      rw [hv0] at c3
      have QA := Lib.hid (always_any (.pointer (some ⟨P, 0, none⟩)) w)
      clear h1 h2 e1 e2 ha
      go_enter Try.func16, Try.ntmps16
      go_wp2_with (first | (go_at_call 63; refine Q.out.mono ?_; rintro en w' ⟨rfl, rfl⟩) | (go_at_call 61; refine QA.out.mono ?_; rintro en w' ⟨rfl, rfl⟩))
      go_ret
      exact Dk.turnedB H1.out H2.out ((Fr.refl (fun b => b = P) w).setCell (p := ⟨P, 1, none⟩) (.inl rfl) _) s.b.length (Nat.le_refl _) s.dead (H1.out.blk.set_ 1 _) _
    · have e1 : syncE s = 130 := by simp [syncE, hd, ha]
      have e2 : syncS s = tearS k s := by simp [syncS, hd, ha]
      rw [e1, e2]
      obtain ⟨hv, A, c, TA, cT, vs, h1, h2⟩ := h
      have h2' := h2
      rw [ha] at h2'
      obtain ⟨B, hv0, hB, _, _⟩ := h2'
      have c3 : w.cell? ⟨P, 3, none⟩ = some hv := h1.blk.cell 3
      have QA := Lib.hid (armc_core h1 k hB)
      have H1 := Lib.hid h1
      have H2 := Lib.hid h2
      rw [hv0] at c3
      clear h1 h2 e1 e2 ha hB
      go_enter Try.func16, Try.ntmps16
      go_wp2_with (first | (go_at_call 63; refine Q.out.mono ?_; rintro en w' ⟨rfl, rfl⟩) | (go_at_call 65; refine QA.out.mono ?_; rintro en w1 ⟨rfl, k1, k2⟩))
      go_ret
      exact ⟨rfl, F, ⟨hv, A, c, TA, cT, vs, k1, H2.out.fr k2 (fun _ hb => hb.2.1)⟩, fun _ hb => .inl hb, k2.mono (fun b _ e => e ▸ H1.out.fP)⟩
  · have e1 : syncE s = 130 := by simp [syncE, hd]
    have e2 : syncS s = s := by simp [syncS, hd]
    rw [e1, e2]
    rw [hd] at Q
    have hp := Lib.hid (DkPost.same (v := .int .i64 130) h)
    clear h hd e1 e2
    go_enter Try.func16, Try.ntmps16
    go_wp2_with (go_at_call 63; refine Q.out.mono ?_; rintro en w' ⟨rfl, rfl⟩)
    go_ret
    exact hp.out

def cutE (n : Int) (s : DS) : Int := if s.dead then 130 else if n < 0 ∨ (s.b.length : Int) < n then 9 else 0
def cutS (n : Int) (s : DS) : DS := if s.dead then s else if n < 0 ∨ (s.b.length : Int) < n then s else { s with b := s.b.take n.toNat, n := n.toNat }

set_option maxHeartbeats 1000000 in
theorem dcut_any (n : Int) (h : Dk w base F P s) : Calls Try.prog 19 #[.pointer (some ⟨P, 0, none⟩), .int .i64 n] w (DkPost w base F P (.int .i64 (cutE n s)) (cutS n s)) := by
  have Q := Lib.hid (dlive_any h)
  cases hd : s.dead
  · rw [hd] at Q
    by_cases hn : n < 0 ∨ (s.b.length : Int) < n
    · have e1 : cutE n s = 9 := by simp [cutE, hd, hn]
      have e2 : cutS n s = s := by simp [cutS, hd, hn]
      rw [e1, e2]
      have hp := Lib.hid (DkPost.same (v := .int .i64 9) h)
      obtain ⟨hv, A, c, TA, cT, vs, h1, h2⟩ := h
      have c0 : w.cell? ⟨P, 0, none⟩ = some (.slice A s.b.length c) := h1.blk.cell 0
      have hn' : n < 0 ∨ ¬ n < 0 ∧ (s.b.length : Int) < n := by omega
      clear h1 h2 e1 e2 hd hn
      rcases hn' with hn | ⟨hn, hn2⟩
      all_goals
        go_enter Try.func19, Try.ntmps19
        go_wp2_with (go_at_call 63; refine Q.out.mono ?_; rintro en w' ⟨rfl, rfl⟩)
        go_ret
        exact hp.out
    · obtain ⟨k, rfl⟩ := Int.eq_ofNat_of_zero_le (show 0 ≤ n by omega)
      have e1 : cutE k s = 0 := by simp only [cutE, hd]; rw [if_neg (by decide), if_neg hn]
      have e2 : cutS k s = ⟨s.b.take k, k, s.dead, s.arm, s.t⟩ := by simp only [cutS, hd]; rw [if_neg (by decide), if_neg hn]; simp
      rw [e1, e2]
      obtain ⟨hv, A, c, TA, cT, vs, h1, h2⟩ := h
      have c0 : w.cell? ⟨P, 0, none⟩ = some (.slice A s.b.length c) := h1.blk.cell 0
      have c1 : w.cell? ⟨P, 1, none⟩ = some (.int .i64 s.n) := h1.blk.cell 1
      have f0 := h1.blk.frozen 0
      have f1 := h1.blk.frozen 1
      have hcap := h1.own.cap
      have hkl : k ≤ s.b.length := by omega
      have hhi := fun w => run_cut_hi w A s.b.length c k (by omega)
      have hn2 : ¬ (s.b.length : Int) < (k : Int) := by omega
      have H1 := Lib.hid h1
      have H2 := Lib.hid h2
      have HK := Lib.hid hkl
      clear h1 h2 e1 e2 hd hn hcap hkl
      go_enter Try.func19, Try.ntmps19
      go_wp2_with (go_at_call 63; refine Q.out.mono ?_; rintro en w' ⟨rfl, rfl⟩)
      go_ret
      exact Dk.turned H1.out H2.out (((Fr.refl (fun b => b = P) w).setCell (p := ⟨P, 0, none⟩) (.inl rfl) _).setCell (p := ⟨P, 1, none⟩) (.inl rfl) _) k k HK.out (Nat.le_refl _) s.dead ((H1.out.blk.set_ 0 _).set_ 1 _) _
  · have e1 : cutE n s = 130 := by simp [cutE, hd]
    have e2 : cutS n s = s := by simp [cutS, hd]
    rw [e1, e2]
    rw [hd] at Q
    have hp := Lib.hid (DkPost.same (v := .int .i64 130) h)
    clear h hd e1 e2
    go_enter Try.func19, Try.ntmps19
    go_wp2_with (go_at_call 63; refine Q.out.mono ?_; rintro en w' ⟨rfl, rfl⟩)
    go_ret
    exact hp.out

def armE (n : Int) (s : DS) : Int := if s.dead then 130 else if n < 0 then 2 else 0
def armS (n : Int) (s : DS) : DS := if s.dead then s else if n < 0 then s else { s with arm := some n.toNat }

def crashE (n : Int) : Int := if n < 0 then 2 else 0
def crashS (n : Int) (s : DS) : DS := if n < 0 then s else if s.dead then s else tearS n.toNat s

set_option maxHeartbeats 1000000 in
theorem dcrash_any (n : Int) (h : Dk w base F P s) : Calls Try.prog 21 #[.pointer (some ⟨P, 0, none⟩), .int .i64 n] w (DkPost w base F P (.int .i64 (crashE n)) (crashS n s)) := by
  have Q := Lib.hid (dnone_any h)
  by_cases hn : n < 0
  · have e1 : crashE n = 2 := by simp [crashE, hn]
    have e2 : crashS n s = s := by simp [crashS, hn]
    rw [e1, e2]
    have hp := Lib.hid (DkPost.same (v := .int .i64 2) h)
    clear h e1 e2
    go_enter Try.func21, Try.ntmps21
    go_wp2_with (go_at_call 62; refine Q.out.mono ?_; rintro en w' ⟨rfl, rfl⟩)
    go_ret
    exact hp.out
  · obtain ⟨k, rfl⟩ := Int.eq_ofNat_of_zero_le (show 0 ≤ n by omega)
    have e1 : crashE k = 0 := by simp [crashE, hn]
    rw [e1]
    cases hd : s.dead
    · have e2 : crashS k s = tearS k s := by simp only [crashS, hd]; rw [if_neg hn, if_neg (by decide)]; simp
      rw [e2]
      obtain ⟨hv, A, c, TA, cT, vs, h1, h2⟩ := h
      have c2 : w.cell? ⟨P, 2, none⟩ = some (.bool s.dead) := h1.blk.cell 2
      rw [hd] at c2
      have QT := Lib.hid (tear_core h1 k)
      have H1 := Lib.hid h1
      have H2 := Lib.hid h2
      clear h1 h2 e1 e2 hd
      go_enter Try.func21, Try.ntmps21
      go_wp2_with (first | (go_at_call 62; refine Q.out.mono ?_; rintro en w' ⟨rfl, rfl⟩) | (go_at_call 66; refine QT.out.mono ?_; rintro en w1 ⟨rfl, k1, k2⟩))
      go_ret
      exact ⟨rfl, F, ⟨hv, A, c, TA, cT, vs, k1, H2.out.fr k2 (fun _ hb => hb.2.1)⟩, fun _ hb => .inl hb, k2.mono (fun b _ e => e ▸ H1.out.fP)⟩
    · have e2 : crashS k s = s := by simp only [crashS, hd]; rw [if_neg hn, if_pos trivial]
      rw [e2]
      have hp := Lib.hid (DkPost.same (v := .int .i64 0) h)
      obtain ⟨hv, A, c, TA, cT, vs, h1, h2⟩ := h
      have c2 : w.cell? ⟨P, 2, none⟩ = some (.bool s.dead) := h1.blk.cell 2
      rw [hd] at c2
      clear h1 h2 e1 e2 hd
      go_enter Try.func21, Try.ntmps21
      go_wp2_with (go_at_call 62; refine Q.out.mono ?_; rintro en w' ⟨rfl, rfl⟩)
      go_ret
      exact hp.out

set_option maxHeartbeats 1000000 in
theorem dread_any (h : Dk w base F P s) : Calls Try.prog 24 #[.pointer (some ⟨P, 0, none⟩)] w (Fresh w s.b) := by
  have Q := Lib.hid (dnone_any h)
  obtain ⟨hv, A, c, TA, cT, vs, h1, h2⟩ := h
  have c0 : w.cell? ⟨P, 0, none⟩ = some (.slice A s.b.length c) := h1.blk.cell 0
  have QC := Lib.hid (copied_any w h1.own.sl (by have := h1.len; omega))
  clear h1 h2
  go_enter Try.func24, Try.ntmps24
  go_wp2_with (go_at_call 62; refine Q.out.mono ?_; rintro en w' ⟨rfl, rfl⟩)
  refine QC.out.mono ?_
  rintro en w1 ⟨A1, c1, rfl, hO, hB⟩
  go_wp2
  go_ret
  exact ⟨A1, c1, rfl, hO, hB⟩

set_option maxHeartbeats 1000000 in
theorem dsynced_any (h : Dk w base F P s) : Calls Try.prog 26 #[.pointer (some ⟨P, 0, none⟩)] w fun en w' => en = .returned (.int .i64 s.n) ∧ w = w' := by
  have Q := Lib.hid (dnone_any h)
  obtain ⟨hv, A, c, TA, cT, vs, h1, h2⟩ := h
  have c1 : w.cell? ⟨P, 1, none⟩ = some (.int .i64 s.n) := h1.blk.cell 1
  clear h1 h2
  go_enter Try.func26, Try.ntmps26
  go_wp2_with (go_at_call 62; refine Q.out.mono ?_; rintro en w' ⟨rfl, rfl⟩)
  go_ret
  exact ⟨rfl, rfl⟩

set_option maxHeartbeats 1000000 in
theorem ddead_any (h : Dk w base F P s) : Calls Try.prog 15 #[.pointer (some ⟨P, 0, none⟩)] w fun en w' => en = .returned (.bool s.dead) ∧ w = w' := by
  have Q := Lib.hid (dnone_any h)
  obtain ⟨hv, A, c, TA, cT, vs, h1, h2⟩ := h
  have c2 : w.cell? ⟨P, 2, none⟩ = some (.bool s.dead) := h1.blk.cell 2
  clear h1 h2
  go_enter Try.func15, Try.ntmps15
  go_wp2_with (go_at_call 62; refine Q.out.mono ?_; rintro en w' ⟨rfl, rfl⟩)
  go_ret
  exact ⟨rfl, rfl⟩

def S0 : DS := ⟨[], 0, false, none, []⟩
set_option maxHeartbeats 400000 in
theorem dnew_any (w : World) : Calls Try.prog 13 #[] w fun en w' => en = .returned (.pointer (some ⟨w.heap.size, 0, none⟩)) ∧ w' = w.alloc (.cells #[.slice none 0 0, .int .i64 0, .bool false, .func (.func 61) #[] #[], .slice none 0 0] 65) := by
  go_enter Try.func13, Try.ntmps13
  go_wp2
  go_ret
  exact ⟨rfl, rfl⟩
theorem dnew_dk (w : World) : Dk (w.alloc (.cells #[.slice none 0 0, .int .i64 0, .bool false, .func (.func 61) #[] #[], .slice none 0 0] 65)) w.heap.size (fun b => b = w.heap.size) w.heap.size S0 :=
  ⟨_, none, 0, none, 0, [], ⟨Blk.new _ _ _, Own.nil _ _ _, Row.nil _ _ _ _, All2.nil _, rfl, fun b hb => (by cases hb), fun b hb => (by cases hb), fun b hb => ⟨Nat.le_of_eq hb.symm, by simp [hb]⟩, by simp, Nat.le_refl _, by decide, by decide⟩, rfl⟩
end
end Go.Proofs.Ytblpnlobicjccaa
