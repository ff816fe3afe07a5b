/- Package disk: the methods of a disk, each by its contract over the pure state. -/
import Derived.Test.YtblpnlobicjccaaDiskM
namespace Go.Proofs.Ytblpnlobicjccaa
open Go.RowKit

theorem infoBs : (Try.prog.info? 26).map (fun i => (i.zero, i.size, i.bytes)) = some (some (.slice none 0 0), 1, 24) := by kernel_rfl

/-- 'append(t, x)' of one slice to a row of slices, in a region that draws. -/
theorem step_app1 {w : World} {o : Oper} {a : Act} {Q : Exit → Act → World → Prop} {ops : Array Oper} {K : Act → World → Prop} {El : Prop} (hgd : o.guard = none) (s x : Operand)
    (ho : o.op = .call { callee := .builtin .append, args := #[s, x], argTypes := #[61, 61] }) {base : Nat} {A : Option Addr} {n c : Nat} {xs : List Value} (hs : a.eval s = .slice A n c) (h : Row w base 26 1 A n c xs)
    (ad : Addr) (c2 : Nat) (v : Value) (hx : a.eval x = .slice (some ad) 1 c2) (hnews : ∀ j u, [v][j]? = some u → w.cell? (ad.add j) = some u) (h1 : v.oneCell' = true) (hlen : n ≤ 100000) (hbase : base ≤ w.heap.size)
    (hK : ∀ A' c' w', Row w' base 26 1 A' (n + 1) c' (xs ++ [v]) → Fr (fun k => blkOf A = some k) w w' → (∀ k, blkOf A' = some k → blkOf A = some k ∨ w.heap.size ≤ k) → K (a.put o.dst (.slice A' (n + 1) c')) w') :
    if Region.wanted o (yielded ops a.tmps) = true then Oper.wp Try.prog o a w K Q else El := by
  obtain ⟨i0, hi, hz0, hz1, hz2⟩ := info_parts infoBs
  exact step_append_row hgd s x 61 26 i0 (.slice none 0 0) 1 24 ho Try.underlying61 hi hz0 hz1 hz2 rfl (by decide) hs h ad 1 c2 [v] hx rfl hnews (fun u hu => by rw [List.mem_singleton.1 hu]; exact h1) (by omega) (by omega) hbase hK

/-- The blocks that a disk's methods write to. -/
def foot3 (P : Nat) (A TA : Option Addr) (b : Nat) : Prop := b = P ∨ blkOf A = some b ∨ blkOf TA = some b

section
variable {w : World} {base P : Nat} {F : Nat → Prop} {s : DS}
/-- The trace is longer by one, the bytes are others: what a write, or a swap, leaves. -/
theorem Core.grow {T : TypeId} {w w1 : World} {base P : Nat} {F : Nat → Prop} {hv hv' : Value} {s : DS} {A : Option Addr} {c : Nat} {TA : Option Addr} {cT : Nat} {vs : List Value} (h : Core T w base F P hv s A c TA cT vs)
    {A1 : Option Addr} {c1 : Nat} {b1 : List UInt8} {n1 : Nat} {dead : Bool} {arm : Option Nat} {TA1 : Option Addr} {cT1 : Nat} {v : Value} {m : List UInt8} {A3 : Option Addr} {n3 c3 : Nat}
    (k : Fr (foot3 P A TA) w w1) (hb : Blk w1 P T #[.slice A1 b1.length c1, .int .i64 n1, .bool dead, hv', .slice TA1 (s.t.length + 1) cT1])
    (ho : Own w1 base 5 A1 b1.length c1 b1) (hA1 : ∀ b, blkOf A1 = some b → blkOf A = some b ∨ w.heap.size ≤ b)
    (ht : Row w1 base 26 1 TA1 (s.t.length + 1) cT1 (vs ++ [v])) (hT1 : ∀ b, blkOf TA1 = some b → blkOf TA = some b ∨ w.heap.size ≤ b)
    (hv1 : v = .slice A3 n3 c3) (hsl : Sl w1 A3 n3 c3 m) (h3 : ∀ b, blkOf A3 = some b → w.heap.size ≤ b ∧ b < w1.heap.size ∧ blkOf A1 ≠ some b ∧ blkOf TA1 ≠ some b)
    (hsyn : n1 ≤ b1.length) (hlen : b1.length ≤ 1048576) (htl : s.t.length ≤ 900) (hml : m.length ≤ 1048576) :
    Core T w1 base (fun b => F b ∨ w.heap.size ≤ b ∧ b < w1.heap.size) P hv' ⟨b1, n1, dead, arm, s.t ++ [m]⟩ A1 c1 TA1 cT1 (vs ++ [v]) := by
  have hz := k.size
  have hlP := (h.lt P h.fP).2
  refine ⟨by simpa using hb, ho, by simpa using ht, All2.snoc (h.els.mono ?_) ?_, .inl h.fP, ?_, ?_, ?_, Nat.le_trans h.base_ hz, hsyn, hlen, by simp; omega⟩
  · rintro v' l' ⟨Z, z1, z2⟩
    have hne : ∀ b, Z b → ¬ foot3 P A TA b := fun b hb hf => by
      obtain ⟨_, p1, p2, p3⟩ := z2 b hb
      rcases hf with rfl | hf | hf
      · exact p1 rfl
      · exact p2 hf
      · exact p3 hf
    refine ⟨Z, z1.fr k hne, fun b hb => ?_⟩
    obtain ⟨p0, p1, p2, p3⟩ := z2 b hb
    have hlt := (h.lt b p0).2
    refine ⟨.inl p0, p1, fun e => ?_, fun e => ?_⟩
    · rcases hA1 b e with e | e
      · exact p2 e
      · omega
    · rcases hT1 b e with e | e
      · exact p3 e
      · omega
  · refine ⟨fun b => blkOf A3 = some b, ⟨A3, n3, c3, hv1, hsl, fun b hb => hb, by have := hsl.len; omega⟩, fun b hb => ?_⟩
    obtain ⟨p1, p2, p3, p4⟩ := h3 b hb
    exact ⟨.inr ⟨p1, p2⟩, fun e => by omega, p3, p4⟩
  · intro b hb
    rcases hA1 b hb with e | e
    · exact .inl (h.fA b e)
    · exact .inr ⟨e, (ho.lt b hb).2⟩
  · intro b hb
    rcases hT1 b hb with e | e
    · exact .inl (h.fT b e)
    · exact .inr ⟨e, (ht.lt b hb).2⟩
  · rintro b (hb | ⟨hb, hb'⟩)
    · exact ⟨(h.lt b hb).1, Nat.lt_of_lt_of_le (h.lt b hb).2 hz⟩
    · exact ⟨Nat.le_trans h.base_ hb, hb'⟩

/-- The same, out of the worlds that a walk meets: the bytes stored, a copy made, the row of the trace appended to and stored. -/
theorem Core.traced {T : TypeId} {w w2 w3 w5 : World} {base P : Nat} {F : Nat → Prop} {hv hv' : Value} {s : DS} {A : Option Addr} {c : Nat} {TA : Option Addr} {cT : Nat} {vs : List Value} (h : Core T w base F P hv s A c TA cT vs) (hU : 5 ≠ T) (hB : 26 ≠ T)
    {A1 : Option Addr} {c1 : Nat} {b1 : List UInt8} {n1 : Nat} {dead : Bool} (arm : Option Nat) {m : List UInt8} {A3 A5 : Option Addr} {c3 c5 nb : Nat} (hnb : nb = b1.length)
    (F2 : Fr (foot3 P A TA) w w2) (b2 : Blk w2 P T #[.slice A1 nb c1, .int .i64 n1, .bool dead, hv', .slice TA s.t.length cT]) (o2 : Own w2 base 5 A1 nb c1 b1) (hA1 : ∀ b, blkOf A1 = some b → blkOf A = some b ∨ w.heap.size ≤ b)
    (W3 : Below w2.heap.size w2 w3) (o3 : Own w3 w2.heap.size 5 A3 m.length c3 m)
    (r5 : Row w5 base 26 1 A5 (s.t.length + 1) c5 (vs ++ [.slice A3 m.length c3])) (F5 : Fr (fun k => blkOf TA = some k) (w3.alloc (.cells #[.slice A3 m.length c3] 26)) w5)
    (hA5 : ∀ k, blkOf A5 = some k → blkOf TA = some k ∨ (w3.alloc (.cells #[.slice A3 m.length c3] 26)).heap.size ≤ k) (hsyn : n1 ≤ b1.length) (hlen : b1.length ≤ 1048576) (htl : s.t.length ≤ 900) (hml : m.length ≤ 1048576) :
    Core T (w5.setCell ⟨P, 4, none⟩ (.slice A5 (s.t.length + 1) c5)) base (fun b => F b ∨ w.heap.size ≤ b ∧ b < (w5.setCell ⟨P, 4, none⟩ (.slice A5 (s.t.length + 1) c5)).heap.size) P hv' ⟨b1, n1, dead, arm, s.t ++ [m]⟩ A1 c1 A5 c5 (vs ++ [.slice A3 m.length c3]) ∧
      Fr (foot3 P A TA) w (w5.setCell ⟨P, 4, none⟩ (.slice A5 (s.t.length + 1) c5)) := by
  subst hnb
  have hlP := (h.lt P h.fP).2
  have z2 := F2.size
  have z3 := W3.size
  have z5 := F5.size
  simp only [World.size_alloc] at z5 hA5
  have k3 : Fr (foot3 P A TA) w2 (w3.alloc (.cells #[.slice A3 m.length c3] 26)) := (Fr.of_below W3).alloc _
  have hTo : ∀ b, blkOf TA = some b → b < w.heap.size := fun b hb => (h.lt b (h.fT b hb)).2
  have k5 : Fr (foot3 P A TA) w w5 := (F2.trans k3 (fun b hb => .inl hb)).trans F5 (fun b hb => .inl (.inr (.inr hb)))
  have k6 : Fr (foot3 P A TA) w (w5.setCell ⟨P, 4, none⟩ (.slice A5 (s.t.length + 1) c5)) := k5.setCell (p := ⟨P, 4, none⟩) (.inl (.inl rfl)) _
  have hTP : blkOf TA ≠ some P := h.neT hB
  have hA5P : blkOf A5 ≠ some P := fun e => by
    rcases hA5 P e with e | e
    · exact hTP e
    · omega
  have hA1P : blkOf A1 ≠ some P := o2.ne_blk b2 hU
  have hA1T : ∀ b, blkOf A1 = some b → ¬ blkOf TA = some b := fun b hb hb' => by
    rcases hA1 b hb with e | e
    · exact h.neAT b hb' e
    · have := hTo b hb'; omega
  have b5 := ((b2.fr (Fr.of_below (S := fun _ => False) W3) id).alloc (.cells #[.slice A3 m.length c3] 26)).fr F5 hTP
  have b6 : Blk (w5.setCell ⟨P, 4, none⟩ (.slice A5 (s.t.length + 1) c5)) P T #[.slice A1 b1.length c1, .int .i64 n1, .bool dead, hv', .slice A5 (s.t.length + 1) c5] := b5.set_ 4 _
  have o5 := (((o2.fr (Fr.of_below (S := fun _ => False) W3) (fun _ _ => id)).alloc (.cells #[.slice A3 m.length c3] 26)).fr F5 (fun b hb => hA1T b hb)).far (p := ⟨P, 4, none⟩) hA1P (.slice A5 (s.t.length + 1) c5)
  have hA3T : ∀ b, blkOf A3 = some b → ¬ blkOf TA = some b := fun b hb hb' => by
    have := (o3.lt b hb).1
    have := hTo b hb'; omega
  have hA3P : blkOf A3 ≠ some P := fun e => by have := (o3.lt P e).1; omega
  have s5 := ((o3.alloc (.cells #[.slice A3 m.length c3] 26)).fr F5 (fun b hb => hA3T b hb)).sl.far (p := ⟨P, 4, none⟩) hA3P (.slice A5 (s.t.length + 1) c5)
  refine ⟨h.grow k6 b6 o5 hA1 (r5.far (p := ⟨P, 4, none⟩) hA5P _) (fun b hb => (hA5 b hb).imp id (fun e => by omega)) rfl s5 (fun b hb => ?_) hsyn hlen htl hml, k6⟩
  have q := o3.lt b hb
  refine ⟨by omega, by simp [World.setCell]; omega, fun e => ?_, fun e => ?_⟩
  · have := (o2.lt b e).2; omega
  · rcases hA5 b e with e | e
    · exact hA3T b hb e
    · omega

theorem Held.grow {w w6 : World} {F : Nat → Prop} {P : Nat} {arm : Option Nat} {hv : Value} {A TA A1 A5 : Option Addr} (h : Held w (fun b => F b ∧ b ≠ P ∧ blkOf A ≠ some b ∧ blkOf TA ≠ some b) arm hv) (hlt : ∀ b, F b → b < w.heap.size) (k : Fr (foot3 P A TA) w w6)
    (hA1 : ∀ b, blkOf A1 = some b → blkOf A = some b ∨ w.heap.size ≤ b) (hA5 : ∀ b, blkOf A5 = some b → blkOf TA = some b ∨ w.heap.size ≤ b) {F' : Nat → Prop} (hF : ∀ b, F b → F' b) : Held w6 (fun b => F' b ∧ b ≠ P ∧ blkOf A1 ≠ some b ∧ blkOf A5 ≠ some b) arm hv := by
  refine (h.fr k ?_).mono ?_
  · rintro b ⟨_, h1, h2, h3⟩ (e | e | e)
    · exact h1 e
    · exact h2 e
    · exact h3 e
  · rintro b ⟨h0, h1, h2, h3⟩
    have := hlt b h0
    refine ⟨hF b h0, h1, fun e => ?_, fun e => ?_⟩
    · rcases hA1 b e with e | e
      · exact h2 e
      · omega
    · rcases hA5 b e with e | e
      · exact h3 e
      · omega
theorem foot3_sub {T : TypeId} {w : World} {base P : Nat} {F : Nat → Prop} {hv : Value} {s : DS} {A : Option Addr} {c : Nat} {TA : Option Addr} {cT : Nat} {vs : List Value} (h : Core T w base F P hv s A c TA cT vs) : ∀ b, foot3 P A TA b → F b := by
  rintro b (rfl | hb | hb)
  · exact h.fP
  · exact h.fA b hb
  · exact h.fT b hb

def writeE (m : List UInt8) (s : DS) : Int := if s.dead then 130 else if 1048576 < s.b.length + m.length then 5 else 0
def writeS (m : List UInt8) (s : DS) : DS := if s.dead then s else if 1048576 < s.b.length + m.length then s else { s with b := s.b ++ m, t := s.t ++ [m] }

set_option maxHeartbeats 2000000 in
theorem dwrite_ok {A2 : Option Addr} {n2 c2 : Nat} {m : List UInt8} (h : Dk w base F P s) (hm : Sl w A2 n2 c2 m) (hA2 : m ≠ [] → ∀ b, blkOf A2 = some b → ¬ F b) (htl : s.t.length ≤ 900) (hd : s.dead = false) (hl : s.b.length + m.length ≤ 1048576) :
    Calls Try.prog 23 #[.pointer (some ⟨P, 0, none⟩), .slice A2 n2 c2] w (DkPost w base F P (.int .i64 0) { s with b := s.b ++ m, t := s.t ++ [m] }) := by
  have Q := Lib.hid (dlive_any h)
  rw [hd] at Q
  obtain ⟨hv, A, c, TA, cT, vs, h1, h2⟩ := h
  have c0 : w.cell? ⟨P, 0, none⟩ = some (.slice A s.b.length c) := h1.blk.cell 0
  have f0 := h1.blk.frozen 0
  have hn := hm.len
  have hl' : ¬ (1048576 : Int) < (s.b.length : Int) + (n2 : Int) := by omega
  have H := Lib.hid h1
  have H2 := Lib.hid h2
  have HM := Lib.hid hm
  have HN := Lib.hid hn
  have HL := Lib.hid hl
  clear h1 h2 hd hm hn hl
  go_enter Try.func23, Try.ntmps23
  go_wp2_with (first | (go_at_call 63; refine Q.out.mono ?_; rintro en w' ⟨rfl, rfl⟩) | (at_builtin; refine app_bytes rfl _ _ rfl rfl rfl H.out.own HM.out ?c1 H.out.base_ ?_))
  case c1 => have := HN.out; have := HL.out; omega
  intro A1 c1 w1 hO1 hF1 hA1
  have hb1 := H.out.blk.fr hF1 (H.out.neA (by decide))
  have d0 : w1.cell? ⟨P, 0, none⟩ = some (.slice A s.b.length c) := hb1.cell 0
  have g0 := hb1.frozen 0
  have hlP := (H.out.lt P H.out.fP).2
  have hA1P : blkOf A1 ≠ some P := fun e => by
    rcases hA1 P e with e | e
    · exact H.out.neA (by decide) e
    · omega
  have hb2 : Blk (w1.setCell ⟨P, 0, none⟩ (.slice A1 (s.b.length + n2) c1)) P 65 #[.slice A1 (s.b.length + n2) c1, .int .i64 s.n, .bool s.dead, hv, .slice TA s.t.length cT] := hb1.set_ 0 _
  have hO2 := hO1.far (p := ⟨P, 0, none⟩) hA1P (.slice A1 (s.b.length + n2) c1)
  have hF2 : Fr (foot3 P A TA) w (w1.setCell ⟨P, 0, none⟩ (.slice A1 (s.b.length + n2) c1)) := (hF1.mono (S' := foot3 P A TA) (fun b _ hb => .inr (.inl hb))).setCell (p := ⟨P, 0, none⟩) (.inl (.inl rfl)) _
  have hFF : ∀ b, foot3 P A TA b → F b := by
    rintro b (rfl | hb | hb)
    · exact H.out.fP
    · exact H.out.fA b hb
    · exact H.out.fT b hb
  have hM2 := HM.out.fr' hF2 (fun hz b hb hf => hA2 hz b hb (hFF b hf))
  have hT2 : Row (w1.setCell ⟨P, 0, none⟩ (.slice A1 (s.b.length + n2) c1)) base 26 1 TA s.t.length cT vs := (H.out.tr.fr hF1 (fun b hb e => H.out.neAT b hb e)).far (p := ⟨P, 0, none⟩) (H.out.neT (by decide)) _
  have HA1 := Lib.hid hA1
  have HFF := Lib.hid hFF
  have HO2 := Lib.hid hO2
  have HF2 := Lib.hid hF2
  have HT2 := Lib.hid hT2
  have HC2 := Lib.hid (copied_any _ hM2.drew (by have := HN.out; have := HL.out; omega))
  go_wp2_with fail
  generalize w1.setCell ⟨P, 0, none⟩ (.slice A1 (s.b.length + n2) c1) = w2 at *
  have d4 : w2.cell? ⟨P, 4, none⟩ = some (.slice TA s.t.length cT) := hb2.cell 4
  have g4 := hb2.frozen 4
  have HB2 := Lib.hid hb2
  clear hb2 hO1 hF1 hA1 hO2 hF2 hT2 hM2 hb1 c0 f0 d0 g0 hA1P hFF
  go_region_law (first | (rw [if_pos (by rfl)]; go_simp; go_at_call 64; refine HC2.out.mono ?_; rintro en w3 ⟨A3, c3, rfl, hO3, hB3⟩; have hb3 := HB2.out.fr (Fr.of_below (S := fun _ => False) (belowUndrew hB3)) id; have d4' : w3.cell? ⟨P, 4, none⟩ = some (.slice TA s.t.length cT) := hb3.cell 4; have hl3 := hb3.lt; have HB3 := Lib.hid hb3; have HO3 := Lib.hid hO3; have HW3 := Lib.hid (belowUndrew hB3); clear hb3 hO3 hB3; go_wp2_with fail) | (refine step_app1 rfl _ _ rfl rfl ((HT2.out.old HW3.out).alloc _) _ _ _ rfl (cellNew _ _ _) rfl (by omega) (by have := H.out.base_; have := HF2.out.size; have := HW3.out.size; simp; omega) ?_; intro A5 c5 w5 hR5 hF5 hA5; have hb5 := (HB3.out.alloc (.cells #[.slice A3 m.length c3] 26)).fr hF5 (H.out.neT (by decide)); have d4'' : w5.cell? ⟨P, 4, none⟩ = some (.slice TA s.t.length cT) := hb5.cell 4; have g4'' := hb5.frozen 4; have HB5 := Lib.hid hb5; have HR5 := Lib.hid hR5; have HF5 := Lib.hid hF5; have HA5 := Lib.hid hA5; clear hb5 hR5 hF5 hA5))
  all_goals
    have K := Lib.hid (H.out.traced (by decide) (by decide) s.arm (by simp [HN.out]) HF2.out HB2.out HO2.out HA1.out HW3.out HO3.out HR5.out HF5.out HA5.out (by have := H.out.syn; simp; omega) (by have := HL.out; simp; omega) htl (by have := HL.out; omega))
    have hZ5 : ∀ b, blkOf A5 = some b → blkOf TA = some b ∨ w.heap.size ≤ b := fun b hb => (HA5.out b hb).imp id (fun e => by have := HF2.out.size; have := HW3.out.size; simp at e; omega)
    have HH := Lib.hid (H2.out.grow (fun b hb => (H.out.lt b hb).2) K.out.2 HA1.out hZ5 (F' := fun b => F b ∨ w.heap.size ≤ b ∧ b < (w5.setCell ⟨P, 4, none⟩ (.slice A5 (s.t.length + 1) c5)).heap.size) (fun b hb => .inl hb))
    clear hA2 hZ5
    go_wp2
    go_ret
    exact ⟨rfl, _, ⟨hv, _, _, _, _, _, K.out.1, HH.out⟩, fun b hb => hb.imp id And.left, K.out.2.mono (fun b _ hb => foot3_sub H.out b hb)⟩

theorem dwrite_any {A2 : Option Addr} {n2 c2 : Nat} {m : List UInt8} (h : Dk w base F P s) (hm : Sl w A2 n2 c2 m) (hA2 : m ≠ [] → ∀ b, blkOf A2 = some b → ¬ F b) (htl : s.t.length ≤ 900) (hml : m.length ≤ 2000000) :
    Calls Try.prog 23 #[.pointer (some ⟨P, 0, none⟩), .slice A2 n2 c2] w (DkPost w base F P (.int .i64 (writeE m s)) (writeS m s)) := by
  have Q := Lib.hid (dlive_any h)
  cases hd : s.dead
  · by_cases hl : 1048576 < s.b.length + m.length
    · have e1 : writeE m s = 5 := by simp [writeE, hd, hl]
      have e2 : writeS m s = s := by simp [writeS, hd, hl]
      rw [e1, e2]
      rw [hd] at Q
      have hp := Lib.hid (DkPost.same (v := .int .i64 5) h)
      obtain ⟨hv, A, c, TA, cT, vs, h1, h2⟩ := h
      have c0 : w.cell? ⟨P, 0, none⟩ = some (.slice A s.b.length c) := h1.blk.cell 0
      have hn := hm.len
      have h3 := h1.len
      have hl' : (1048576 : Int) < (s.b.length : Int) + (n2 : Int) := by omega
      have hn2 : n2 ≤ 2000000 := by omega
      clear h1 h2 hd hm hn hl hA2 e1 e2
      go_enter Try.func23, Try.ntmps23
      go_wp2_with (go_at_call 63; refine Q.out.mono ?_; rintro en w' ⟨rfl, rfl⟩)
      go_ret
      exact hp.out
    · have e1 : writeE m s = 0 := by simp [writeE, hd, hl]
      have e2 : writeS m s = { s with b := s.b ++ m, t := s.t ++ [m] } := by simp only [writeS, hd]; rw [if_neg (by decide), if_neg hl]
      rw [e1, e2]
      exact dwrite_ok h hm hA2 htl hd (by omega)
  · have e1 : writeE m s = 130 := by simp [writeE, hd]
    have e2 : writeS m s = s := by simp [writeS, hd]
    rw [e1, e2]
    rw [hd] at Q
    have hp := Lib.hid (DkPost.same (v := .int .i64 130) h)
    clear h hd hm hA2 e1 e2
    go_enter Try.func23, Try.ntmps23
    go_wp2_with (go_at_call 63; refine Q.out.mono ?_; rintro en w' ⟨rfl, rfl⟩)
    go_ret
    exact hp.out
end
end Go.Proofs.Ytblpnlobicjccaa
