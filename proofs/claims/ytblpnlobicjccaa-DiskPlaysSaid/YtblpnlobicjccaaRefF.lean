/- The reference's disk: Swap, New; two disks side by side. -/
import Derived.Test.YtblpnlobicjccaaRefE
namespace Go.Proofs.Ytblpnlobicjccaa
open Go.RowKit

section
variable {w : World} {base P : Nat} {F : Nat → Prop} {s : DS}
set_option maxHeartbeats 2000000 in
theorem rswap_ok {A2 : Option Addr} {n2 c2 : Nat} {m : List UInt8} (h : Rk w base F P s) (hm : Sl w A2 n2 c2 m) (hA2 : m ≠ [] → ∀ b, blkOf A2 = some b → ¬ F b) (htl : s.t.length ≤ 900) (hd : s.dead = false) (ha : s.arm = none) (hl : m.length ≤ 1048576) :
    Calls Try.prog 76 #[.pointer (some ⟨P, 0, none⟩), .slice A2 n2 c2] w (RkPost w base F P (.int .i64 0) { s with b := m, n := m.length, t := s.t ++ [m] }) := by
  obtain ⟨A, c, TA, cT, vs, h1⟩ := h
  have h1' := h1
  rw [ha] at h1'
  have Q := Lib.hid (rfails_none h1')
  have c0 : w.cell? ⟨P, 0, none⟩ = some (.slice A s.b.length c) := h1.blk.cell 0
  have cd : w.cell? ⟨P, 2, none⟩ = some (.bool s.dead) := h1.blk.cell 2
  have f0 := h1.blk.frozen 0
  have hn := hm.len
  have hl' : ¬ (1048576 : Int) < (n2 : Int) := by omega
  have HC := Lib.hid (copyb_any w hm (by omega))
  have H := Lib.hid h1
  have HM := Lib.hid hm
  have HN := Lib.hid hn
  have HL := Lib.hid hl
  rw [hd] at cd
  clear h1 h1' hd hm hn hl ha
  go_enter Try.func76, Try.ntmps76
  go_wp2_with (go_at_call 85; refine Q.out.mono ?_; rintro en w' ⟨rfl, rfl⟩)
  refine HC.out.mono ?_
  rintro en w1 ⟨A1, c1, rfl, hO1, hB1⟩
  have hlP := (H.out.lt P H.out.fP).2
  have hb1 := H.out.blk.below hB1 H.out.blk.lt
  have d0 : w1.cell? ⟨P, 0, none⟩ = some (.slice A s.b.length c) := hb1.cell 0
  have d1 : w1.cell? ⟨P, 1, none⟩ = some (.int .i64 s.n) := hb1.cell 1
  have g0 := hb1.frozen 0
  have g1 := hb1.frozen 1
  have hA1P : blkOf A1 ≠ some P := fun e => by have := (hO1.lt P e).1; omega
  have hb2 : Blk ((w1.setCell ⟨P, 0, none⟩ (.slice A1 m.length c1)).setCell ⟨P, 1, none⟩ (.int .i64 n2)) P 87 #[.slice A1 m.length c1, .int .i64 n2, .bool s.dead, .int .i64 (armI s.arm), .slice TA s.t.length cT] := (hb1.set_ 0 _).set_ 1 _
  have hO2 := ((hO1.far (p := ⟨P, 0, none⟩) hA1P (.slice A1 m.length c1)).far (p := ⟨P, 1, none⟩) hA1P (.int .i64 n2)).mono H.out.base_
  have hF2 : Fr (foot3 P A TA) w ((w1.setCell ⟨P, 0, none⟩ (.slice A1 m.length c1)).setCell ⟨P, 1, none⟩ (.int .i64 n2)) := ((Fr.of_below (S := foot3 P A TA) hB1).setCell (p := ⟨P, 0, none⟩) (.inl (.inl rfl)) _).setCell (p := ⟨P, 1, none⟩) (.inl (.inl rfl)) _
  have hFP : Fr (fun b => b = P) w ((w1.setCell ⟨P, 0, none⟩ (.slice A1 m.length c1)).setCell ⟨P, 1, none⟩ (.int .i64 n2)) := ((Fr.of_below (S := fun b => b = P) hB1).setCell (p := ⟨P, 0, none⟩) (.inl rfl) _).setCell (p := ⟨P, 1, none⟩) (.inl rfl) _
  have hM2 := HM.out.fr' hFP (fun hz b hb hf => hA2 hz b hb (hf ▸ H.out.fP))
  have hT2 := H.out.tr.fr hFP (fun b hb e => H.out.neT (by decide) (e ▸ hb))
  have HA1 := Lib.hid (show ∀ b, blkOf A1 = some b → blkOf A = some b ∨ w.heap.size ≤ b from fun b hb => .inr (hO1.lt b hb).1)
  have HO2 := Lib.hid hO2
  have HF2 := Lib.hid hF2
  have HT2 := Lib.hid hT2
  have HC2 := Lib.hid (copyb_any _ hM2.drew (by have := HN.out; have := HL.out; omega))
  go_wp2_with fail
  generalize (w1.setCell ⟨P, 0, none⟩ (.slice A1 m.length c1)).setCell ⟨P, 1, none⟩ (.int .i64 n2) = w2 at *
  have d4 : w2.cell? ⟨P, 4, none⟩ = some (.slice TA s.t.length cT) := hb2.cell 4
  have g4 := hb2.frozen 4
  have HB2 := Lib.hid hb2
  clear hb2 hO1 hO2 hF2 hFP hT2 hM2 hb1 c0 d0 d1 g0 g1 hA1P hB1
  go_region_law (first | (rw [if_pos (by rfl)]; go_simp; go_at_call 18; refine HC2.out.mono ?_; rintro en w3 ⟨A3, c3, rfl, hO3, hB3⟩; have hb3 := HB2.out.fr (Fr.of_below (S := fun _ => False) (belowUndrew hB3)) id; have d4' : w3.cell? ⟨P, 4, none⟩ = some (.slice TA s.t.length cT) := hb3.cell 4; have hl3 := hb3.lt; have HB3 := Lib.hid hb3; have HO3 := Lib.hid hO3; have HW3 := Lib.hid (belowUndrew hB3); clear hb3 hO3 hB3; go_wp2_with fail) | (refine step_app1 rfl _ _ rfl rfl ((HT2.out.old HW3.out).alloc _) _ _ _ rfl (cellNew _ _ _) rfl (by omega) (by have := H.out.base_; have := HF2.out.size; have := HW3.out.size; simp; omega) ?_; intro A5 c5 w5 hR5 hF5 hA5; have hb5 := (HB3.out.alloc (.cells #[.slice A3 m.length c3] 26)).fr hF5 (H.out.neT (by decide)); have d4'' : w5.cell? ⟨P, 4, none⟩ = some (.slice TA s.t.length cT) := hb5.cell 4; have g4'' := hb5.frozen 4; have HB5 := Lib.hid hb5; have HR5 := Lib.hid hR5; have HF5 := Lib.hid hF5; have HA5 := Lib.hid hA5; clear hb5 hR5 hF5 hA5))
  all_goals
    have K := Lib.hid (H.out.traced (by decide) (by decide) s.arm rfl HF2.out HB2.out HO2.out HA1.out HW3.out HO3.out HR5.out HF5.out HA5.out (Nat.le_of_eq HN.out) HL.out htl HL.out)
    clear hA2
    go_wp2
    go_ret
    rw [← HN.out]
    exact ⟨rfl, _, ⟨_, _, _, _, _, K.out.1⟩, fun b hb => hb.imp id And.left, K.out.2.mono (fun b _ hb => foot3_sub H.out b hb)⟩

set_option maxHeartbeats 1000000 in
theorem rswap_any {A2 : Option Addr} {n2 c2 : Nat} {m : List UInt8} (h : Rk w base F P s) (hm : Sl w A2 n2 c2 m) (hA2 : m ≠ [] → ∀ b, blkOf A2 = some b → ¬ F b) (htl : s.t.length ≤ 900) (hml : m.length ≤ 2000000) :
    Calls Try.prog 76 #[.pointer (some ⟨P, 0, none⟩), .slice A2 n2 c2] w (RkPost w base F P (.int .i64 (swapE m s)) (swapS m s)) := by
  have hs := Lib.hid (fun v => RkPost.same (v := v) h)
  have hn := hm.len
  cases hd : s.dead
  · by_cases hl : 1048576 < m.length
    · have e1 : swapE m s = 5 := by simp [swapE, hd, hl]
      have e2 : swapS m s = s := by simp [swapS, hd, hl]
      rw [e1, e2]
      obtain ⟨A, c, TA, cT, vs, h1⟩ := h
      have cd : w.cell? ⟨P, 2, none⟩ = some (.bool s.dead) := h1.blk.cell 2
      rw [hd] at cd
      have hl' : (1048576 : Int) < (n2 : Int) := by omega
      clear h1 hd hm hn hl hA2 e1 e2
      go_enter Try.func76, Try.ntmps76
      go_wp2
      go_ret
      exact hs.out _
    · rcases ha : s.arm with _ | k
      · have e1 : swapE m s = 0 := by simp [swapE, hd, hl, ha]
        have e2 : swapS m s = { s with b := m, n := m.length, t := s.t ++ [m] } := by simp only [swapS, hd, ha]; rw [if_neg (by decide), if_neg hl]
        rw [e1, e2]
        exact rswap_ok h hm hA2 htl hd ha (by omega)
      · have e1 : swapE m s = 130 := by simp [swapE, hd, hl, ha]
        have e2 : swapS m s = tearS k s := by simp only [swapS, hd, ha]; rw [if_neg (by decide), if_neg hl]
        rw [e1, e2]
        obtain ⟨A, c, TA, cT, vs, h1⟩ := h
        have cd : w.cell? ⟨P, 2, none⟩ = some (.bool s.dead) := h1.blk.cell 2
        rw [hd] at cd
        have h1' := h1
        rw [ha] at h1'
        have Q := Lib.hid (rfails_some k h1' ha)
        have hl' : ¬ (1048576 : Int) < (n2 : Int) := by omega
        clear h1 h1' e1 e2 ha hn hm hA2 hl hd
        go_enter Try.func76, Try.ntmps76
        go_wp2_with (go_at_call 85; refine Q.out.mono ?_; rintro en w' ⟨rfl, hp⟩)
        go_ret
        exact ⟨rfl, hp⟩
  · have e1 : swapE m s = 130 := by simp [swapE, hd]
    have e2 : swapS m s = s := by simp [swapS, hd]
    rw [e1, e2]
    obtain ⟨A, c, TA, cT, vs, h1⟩ := h
    have cd : w.cell? ⟨P, 2, none⟩ = some (.bool s.dead) := h1.blk.cell 2
    rw [hd] at cd
    clear h1 hd hm hn hA2 e1 e2
    go_enter Try.func76, Try.ntmps76
    go_wp2
    go_ret
    exact hs.out _

set_option maxHeartbeats 400000 in
theorem rdnew_any (w : World) : Calls Try.prog 41 #[] w fun en w' => en = .returned (.pointer (some ⟨w.heap.size, 0, none⟩)) ∧ w' = w.alloc (.cells #[.slice none 0 0, .int .i64 0, .bool false, .int .i64 (-1), .slice none 0 0] 87) := by
  go_enter Try.func41, Try.ntmps41
  go_wp2
  go_ret
  exact ⟨rfl, rfl⟩
theorem rdnew_rk (w : World) : Rk (w.alloc (.cells #[.slice none 0 0, .int .i64 0, .bool false, .int .i64 (-1), .slice none 0 0] 87)) w.heap.size (fun b => b = w.heap.size) w.heap.size S0 :=
  ⟨none, 0, none, 0, [], ⟨Blk.new _ _ _, Own.nil _ _ _, Row.nil _ _ _ _, All2.nil _, rfl, fun b hb => (by cases hb), fun b hb => (by cases hb), fun b hb => ⟨Nat.le_of_eq hb.symm, by simp [hb]⟩, by simp, Nat.le_refl _, by decide, by decide⟩⟩
theorem Rk.lower {base' : Nat} (h : Rk w base F P s) (hb : base' ≤ base) : Rk w base' F P s := by
  obtain ⟨A, c, TA, cT, vs, h1⟩ := h
  exact ⟨A, c, TA, cT, vs, h1.lower hb⟩
end

/-- The program's disk and the reference's, in one state, apart from each other. -/
def TwoD (w : World) (base P P' : Nat) (V : Nat → Prop) (s s' : DS) : Prop :=
  ∃ F F' : Nat → Prop, Dk w base F P s ∧ Rk w base F' P' s' ∧ (∀ b, F b → ¬ F' b) ∧ (∀ b, V b → b < w.heap.size ∧ ¬ F b ∧ ¬ F' b)
section
variable {w w' : World} {base P P' : Nat} {V S : Nat → Prop} {s s' s1 : DS} {f : FuncId} {a : Array Value} {v : Value}
theorem TwoD.far (h : TwoD w base P P' V s s') (k : Fr S w w') (hS : ∀ b, S b → V b ∨ w.heap.size ≤ b) : TwoD w' base P P' V s s' := by
  obtain ⟨F, F', h1, h2, h3, h4⟩ := h
  refine ⟨F, F', h1.fr k (fun b hb hs => ?_), h2.fr k (fun b hb hs => ?_), h3, fun b hb => ⟨Nat.lt_of_lt_of_le (h4 b hb).1 k.size, (h4 b hb).2⟩⟩
  · rcases hS b hs with e | e
    · exact (h4 b e).2.1 hb
    · have := (h1.lt b hb).2; omega
  · rcases hS b hs with e | e
    · exact (h4 b e).2.2 hb
    · have := (h2.lt b hb).2; omega
theorem TwoD.old (h : TwoD w base P P' V s s') (k : Below w.heap.size w w') : TwoD w' base P P' V s s' := h.far (Fr.of_below (S := fun _ => False) k) (fun _ h => h.elim)
theorem TwoD.drew (h : TwoD w base P P' V s s') : TwoD w.drew base P P' V s s' := h.far (S := fun _ => False) ((Fr.refl _ w).drew) (fun _ h => h.elim)
theorem TwoD.avoid (h : TwoD w base P P' V s s') (k : Below w.heap.size w w') : TwoD w' base P P' (fun b => w.heap.size ≤ b ∧ b < w'.heap.size) s s' := by
  obtain ⟨F, F', h1, h2, h3, h4⟩ := h
  exact ⟨F, F', h1.old k, h2.old k, h3, fun b hb => ⟨hb.2, fun hf => by have := (h1.lt b hf).2; omega, fun hf => by have := (h2.lt b hf).2; omega⟩⟩
theorem TwoD.free (h : TwoD w base P P' V s s') : TwoD w base P P' (fun _ => False) s s' := by
  obtain ⟨F, F', h1, h2, h3, h4⟩ := h
  exact ⟨F, F', h1, h2, h3, fun _ hb => hb.elim⟩
theorem TwoD.base_ (h : TwoD w base P P' V s s') : base ≤ w.heap.size := by
  obtain ⟨F, F', h1, _⟩ := h
  exact h1.base_
theorem TwoD.prog (h : TwoD w base P P' V s s') (C : ∀ F : Nat → Prop, Dk w base F P s → (∀ b, F b → base ≤ b ∧ ¬ V b) → Calls Try.prog f a w (DkPost w base F P v s1)) :
    Calls Try.prog f a w fun en w1 => en = .returned v ∧ TwoD w1 base P P' V s1 s' ∧ Fr (fun b => base ≤ b ∧ ¬ V b) w w1 := by
  obtain ⟨F, F', h1, h2, h3, h4⟩ := h
  refine (C F h1 (fun b hb => ⟨(h1.lt b hb).1, fun hv => (h4 b hv).2.1 hb⟩)).mono ?_
  rintro en w1 ⟨rfl, F1, k1, k2, k3⟩
  refine ⟨rfl, ⟨F1, F', k1, h2.fr k3 (fun b hb hf => h3 b hf hb), fun b hb hb' => ?_, fun b hb => ⟨Nat.lt_of_lt_of_le (h4 b hb).1 k3.size, fun hf => ?_, (h4 b hb).2.2⟩⟩, k3.mono (fun b _ hb => ⟨(h1.lt b hb).1, fun hv => (h4 b hv).2.1 hb⟩)⟩
  · rcases k2 b hb with e | e
    · exact h3 b e hb'
    · have := (h2.lt b hb').2; omega
  · rcases k2 b hf with e | e
    · exact (h4 b hb).2.1 e
    · have := (h4 b hb).1; omega
theorem TwoD.ref (h : TwoD w base P P' V s s') (C : ∀ F : Nat → Prop, Rk w base F P' s' → (∀ b, F b → base ≤ b ∧ ¬ V b) → Calls Try.prog f a w (RkPost w base F P' v s1)) :
    Calls Try.prog f a w fun en w1 => en = .returned v ∧ TwoD w1 base P P' V s s1 ∧ Fr (fun b => base ≤ b ∧ ¬ V b) w w1 := by
  obtain ⟨F, F', h1, h2, h3, h4⟩ := h
  refine (C F' h2 (fun b hb => ⟨(h2.lt b hb).1, fun hv => (h4 b hv).2.2 hb⟩)).mono ?_
  rintro en w1 ⟨rfl, F1, k1, k2, k3⟩
  refine ⟨rfl, ⟨F, F1, h1.fr k3 (fun b hb hf => h3 b hb hf), k1, fun b hb hb' => ?_, fun b hb => ⟨Nat.lt_of_lt_of_le (h4 b hb).1 k3.size, (h4 b hb).2.1, fun hf => ?_⟩⟩, k3.mono (fun b _ hb => ⟨(h2.lt b hb).1, fun hv => (h4 b hv).2.2 hb⟩)⟩
  · rcases k2 b hb' with e | e
    · exact h3 b hb e
    · have := (h1.lt b hb).2; omega
  · rcases k2 b hf with e | e
    · exact (h4 b hb).2.2 e
    · have := (h4 b hb).1; omega
/-- What only reads the program's disk. -/
theorem TwoD.readP {R : Ending → World → Prop} (h : TwoD w base P P' V s s') (C : ∀ F : Nat → Prop, Dk w base F P s → Calls Try.prog f a w R) : Calls Try.prog f a w R := by
  obtain ⟨F, F', h1, _⟩ := h
  exact C F h1
/-- The reference's own cells. -/
theorem TwoD.cells (h : TwoD w base P P' V s s') : ∃ A c TA cT vs, Blk w P' 87 #[.slice A s'.b.length c, .int .i64 s'.n, .bool s'.dead, .int .i64 (armI s'.arm), .slice TA s'.t.length cT] ∧ Sl w A s'.b.length c s'.b ∧ Row w base 26 1 TA s'.t.length cT vs ∧
    All2 (fun v l => ∃ Z : Nat → Prop, SlV w Z v l ∧ ∀ b, Z b → b < w.heap.size) vs s'.t ∧ s'.b.length ≤ 1048576 ∧ s'.t.length ≤ 1000 := by
  obtain ⟨F, F', _, ⟨A, c, TA, cT, vs, h⟩, _⟩ := h
  exact ⟨A, c, TA, cT, vs, h.blk, h.own.sl, h.tr, h.els.mono (fun _ _ ⟨Z, z1, z2⟩ => ⟨Z, z1, fun b hb => (h.lt b (z2 b hb).1).2⟩), h.len, h.tlen⟩
end
end Go.Proofs.Ytblpnlobicjccaa
