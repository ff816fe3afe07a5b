/- The law DiskNames (closed). -/
import Derived.Test.YtblpnlobicjccaaNoneD
import Derived.Deep.LoopGhost
namespace Go.Proofs.Ytblpnlobicjccaa
open Go.RowKit

/-- 'append(s, x...)' of bytes onto a full row: new memory, nothing that was there is turned. -/
theorem run_append_full {w : World} (ty : TypeId) {base g n n2 c2 : Nat} {A2 : Addr} {l m : List UInt8} (h : Own w base 5 (some ⟨g, 0, none⟩) n n l) (hx : Sl w (some A2) n2 c2 m) (hn2 : 0 < n2) (hlen : n + n2 ≤ 1000000000) (hbase : base ≤ w.heap.size) :
    ∃ A' c' w', (Builtin.append_ #[26, 26] ty #[.slice (some ⟨g, 0, none⟩) n n, .slice (some A2) n2 c2]).run Try.prog w = .ok (.slice A' (n + n2) c') w' ∧ Own w' base 5 A' (n + n2) c' (l ++ m) ∧ Below w.heap.size w w' ∧ ∀ b, blkOf A' = some b → w.heap.size ≤ b := by
  obtain ⟨i0, hi, hz0, hz1, hz2⟩ := info_parts infoU8
  obtain ⟨A', c', w', hr, h1, h2, h3⟩ := run_append_bytes (P := Try.prog) w 26 ty 5 i0 (.int .u8 0) Try.underlying26 hi hz0 hz1 hz2 rfl h hx (by omega) hbase
  have hr2 := run_append_grow (P := Try.prog) w 26 ty 5 i0 (.int .u8 0) Try.underlying26 hi hz0 ⟨g, 0, none⟩ n n (l.map bv) (by rw [hz1]; simp [h.len]) (World.ownsRow.cells h.row (g := g) rfl) A2 n2 c2 (m.map bv) (by rw [hz1]; simp [hx.len]) (hx.rd.cells rfl) (by omega) (by omega) (growslice_fits (by omega) (by rw [hz2]; omega))
  rw [hr] at hr2
  injection hr2 with e1 e2
  injection e1 with e1
  refine ⟨A', c', w', hr, h1, ?_, fun b hb => ?_⟩
  · rw [e2]
    exact ((Below.refl _ w).drew).alloc (Nat.le_refl _) _
  · rw [e1] at hb
    simp [blkOf] at hb
    omega
theorem wp_app_full {w : World} {o : Oper} {a : Act} {Q : Exit → Act → World → Prop} {K : Act → World → Prop} (s x : Operand) (ho : o.op = .call { callee := .builtin .append, args := #[s, x], argTypes := #[26, 26] })
    {base g n n2 c2 : Nat} {A2 : Addr} {l m : List UInt8} (hs : a.eval s = .slice (some ⟨g, 0, none⟩) n n) (hx : a.eval x = .slice (some A2) n2 c2) (h : Own w base 5 (some ⟨g, 0, none⟩) n n l) (hx2 : Sl w (some A2) n2 c2 m) (hn2 : 0 < n2) (hlen : n + n2 ≤ 1000000000) (hbase : base ≤ w.heap.size)
    (hK : ∀ A' c' w', Own w' base 5 A' (n + n2) c' (l ++ m) → Below w.heap.size w w' → (∀ b, blkOf A' = some b → w.heap.size ≤ b) → K (a.put o.dst (.slice A' (n + n2) c')) w') : o.wp Try.prog a w K Q := by
  obtain ⟨A', c', w', hr, k1, k2, k3⟩ := run_append_full (w := w) o.type h hx2 hn2 hlen hbase
  unfold Oper.wp execOp
  simp only [ho, resolve, invoke, builtin, Sem.run_bind, Sem.run_pure, Result.andThen_ok, List.map_toArray, List.map_cons, List.map_nil, hs, hx, hr]
  exact hK A' c' w' k1 k2 k3

section
variable {w0 w : World} {base P : Nat} {F : Nat → Prop} {s : DS}
theorem dwrite_p {A2 : Option Addr} {n2 c2 : Nat} {m : List UInt8} (v : Int) (s' : DS) (h : Dk w base F P s) (hm : Sl w A2 n2 c2 m) (hA2 : m ≠ [] → ∀ b, blkOf A2 = some b → ¬ F b) (htl : s.t.length ≤ 900) (hml : m.length ≤ 2000000) (hv : writeE m s = v) (hs : writeS m s = s') :
    Calls Try.prog 23 #[.pointer (some ⟨P, 0, none⟩), .slice A2 n2 c2] w (DkPost w base F P (.int .i64 v) s') := by
  rw [← hv, ← hs]
  exact dwrite_any h hm hA2 htl hml
theorem dswap_p {A2 : Option Addr} {n2 c2 : Nat} {m : List UInt8} (v : Int) (s' : DS) (h : Dk w base F P s) (hm : Sl w A2 n2 c2 m) (hA2 : m ≠ [] → ∀ b, blkOf A2 = some b → ¬ F b) (htl : s.t.length ≤ 900) (hml : m.length ≤ 2000000) (hv : swapE m s = v) (hs : swapS m s = s') :
    Calls Try.prog 17 #[.pointer (some ⟨P, 0, none⟩), .slice A2 n2 c2] w (DkPost w base F P (.int .i64 v) s') := by
  rw [← hv, ← hs]
  exact dswap_any h hm hA2 htl hml
theorem notAt {F : Nat → Prop} {g : Nat} (h : ¬ F g) : ∀ b, blkOf (some (⟨g, 0, none⟩ : Addr)) = some b → ¬ F b := by
  intro b hb hF
  have : g = b := by simpa [blkOf] using hb
  exact h (this ▸ hF)
/-- A row of one's own beside the disk. -/
theorem beside {w' : World} {F' : Nat → Prop} {g n c : Nat} {Z : List UInt8} (hO : Own w base 5 (some ⟨g, 0, none⟩) n c Z) (hg : ¬ F g) (hs : ∀ b, F' b → F b ∨ w.heap.size ≤ b) (k : Fr F w w') : Own w' base 5 (some ⟨g, 0, none⟩) n c Z ∧ ¬ F' g :=
  ⟨hO.fr k (notAt hg), fun hF => by
    rcases hs g hF with e | e
    · exact hg e
    · have := (hO.lt g rfl).2; omega⟩
end

theorem tear_same (k : Nat) (Y : List UInt8) (n : Nat) (d : Bool) (ar : Option Nat) (t : List (List UInt8)) (h : Y.length = n) : tearS k ⟨Y, n, d, ar, t⟩ = ⟨Y, n, true, ar, t⟩ := by
  unfold tearS
  subst h
  simp
theorem byteOf_one : byteOf 1 = 1 := by decide

set_option maxRecDepth 100000 in
set_option maxHeartbeats 4000000 in
theorem diskNames_walk (w : World) : Calls Try.prog 7 #[] w fun e w' => e = .returned (.bool true) ∧ Below w.heap.size w w' := by
  go_enter Try.func7, Try.ntmps7
  go_wp2_with fail
  refine (dnew_any w).mono ?_
  rintro en w1 ⟨rfl, rfl⟩
  have hD := dnew_dk w
  have hB1 := (Below.refl w.heap.size w).alloc (Nat.le_refl _) (.cells #[.slice none 0 0, .int .i64 0, .bool false, .func (.func 61) #[] #[], .slice none 0 0] 65)
  obtain ⟨P, hP⟩ : ∃ P, P = w.heap.size := ⟨_, rfl⟩
  rw [← hP] at hD hB1 ⊢
  have HP := Lib.hid hP
  clear hP
  generalize w.alloc (.cells #[.slice none 0 0, .int .i64 0, .bool false, .func (.func 61) #[] #[], .slice none 0 0] 65) = w1 at *
  have HD := Lib.hid hD
  have HB1 := Lib.hid hB1
  clear hD hB1
  go_wp2_with (at_make; refine make_bytes rfl _ _ _ rfl 5 Try.underlying26 infoU8 1048576 rfl rfl rfl rfl (by decide) ?_; intro g w2 hg hO hB2)
  obtain ⟨Z, hZ⟩ : ∃ Z, Z = zs 1048576 := ⟨_, rfl⟩
  have hZl : Z.length = 1048576 := by rw [hZ, zs_len]
  rw [← hZ] at hO
  have HZ := Lib.hid hZl
  clear hZ hZl
  have h := HD.out.old hB2
  have B := HB1.out.trans (hB2.mono HD.out.base_)
  have hgF : ¬ g = P := fun e => by have := (HD.out.lt P rfl).2; omega
  have hO := hO.mono (show P ≤ w1.heap.size from HD.out.base_)
  clear hB2 hg
  refine (dwrite_p (m := Z) 0 ⟨Z, 0, false, none, [Z]⟩ h hO.sl (fun _ => notAt hgF) (by decide) (by rw [HZ.out]; decide) (by simp [writeE, S0, HZ.out]) (by unfold writeS S0; rw [if_neg (by decide), if_neg (by simp [HZ.out])]; rfl)).mono ?_
  rintro en w3 ⟨rfl, F3, h3, s3, k3⟩
  replace B := Fr.below B k3 h.base_ (fun b hb => (h.lt b hb).1)
  obtain ⟨hO3, hg3⟩ := beside hO hgF s3 k3
  clear h hO hgF s3 k3
  -- one byte more
  have h4 := h3.fr ((Fr.refl (fun _ => False) w3).alloc (.cells #[.int .u8 1] 5)) (fun _ _ => id)
  replace B := B.alloc h3.base_ (.cells #[.int .u8 1] 5)
  have hn3 : ¬ F3 w3.heap.size := fun hF => by have := (h3.lt _ hF).2; omega
  have hO4 := hO3.alloc (.cells #[.int .u8 1] 5)
  have hl4 := litSl w3 [1] #[.int .u8 1] 1 (0, 0) rfl rfl (by decide)
  have HC4 := Lib.hid (dwrite_p (m := [1]) 5 ⟨Z, 0, false, none, [Z]⟩ h4 hl4 (fun _ => notAt hn3) (by simp) (by decide) (by simp [writeE, HZ.out]) (by unfold writeS; rw [if_neg (by simp), if_pos (by simp [HZ.out])]))
  clear h3 hO3 hn3 hl4
  go_wp2_with fail
  generalize w3.alloc (.cells #[.int .u8 1] 5) = w4 at *
  refine HC4.out.mono ?_
  rintro en w5 ⟨rfl, F5, h5, s5, k5⟩
  replace B := Fr.below B k5 h4.base_ (fun b hb => (h4.lt b hb).1)
  obtain ⟨hO5, hg5⟩ := beside hO4 hg3 s5 k5
  clear h4 hO4 hg3 s5 k5 HC4
  go_wp2_with fail
  refine (dwrite_p (m := []) 0 ⟨Z, 0, false, none, [Z, []]⟩ h5 (Sl.nil w5) (fun hz => absurd rfl hz) (by simp) (by decide) (by simp [writeE, HZ.out]) (by unfold writeS; rw [if_neg (by simp), if_neg (by simp [HZ.out])]; simp)).mono ?_
  rintro en w6 ⟨rfl, F6, h6, s6, k6⟩
  replace B := Fr.below B k6 h5.base_ (fun b hb => (h5.lt b hb).1)
  obtain ⟨hO6, hg6⟩ := beside hO5 hg5 s6 k6
  clear h5 hO5 hg5 s6 k6
  have HO6 := Lib.hid (hO6.alloc (.cells #[.int .u8 1] 5))
  have HL6 := Lib.hid (litSl w6 [1] #[.int .u8 1] 1 (0, 0) rfl rfl (by decide))
  have HS6 := Lib.hid h6.base_
  go_wp2_with fail
  refine wp_app_full _ _ rfl rfl rfl HO6.out HL6.out (by omega) (by omega) (Nat.le_trans HS6.out (by simp)) ?_
  intro A7 c7 w7 hO7 hB7 hA7
  have h7 := (h6.fr ((Fr.refl (fun _ => False) w6).alloc (.cells #[.int .u8 1] 5)) (fun _ _ => id)).old hB7
  replace B := (B.alloc h6.base_ (.cells #[.int .u8 1] 5)).trans (hB7.mono (Nat.le_trans HS6.out (by simp)))
  have hO7b := HO6.out.below_at hB7
  have hn7 : ∀ b, blkOf A7 = some b → ¬ F6 b := fun b hb hF => by have := hA7 b hb; have := (h6.lt b hF).2; simp at *; omega
  have hZ1 : (Z ++ [1]).length = 1048577 := by simp [HZ.out]
  have HZ1 := Lib.hid hZ1
  have HQ7 := Lib.hid (dswap_p (m := Z ++ [1]) 5 ⟨Z, 0, false, none, [Z, []]⟩ h7 hO7.sl (fun _ => hn7) (by simp) (by rw [HZ1.out]; decide) (by simp [swapE, HZ.out]) (by unfold swapS; rw [if_neg (by simp), if_pos (by rw [HZ1.out]; decide)]))
  clear hO7 hn7 hA7 hB7 h6 hO6 HO6 HL6 HS6 hZ1
  go_wp2_with fail
  refine HQ7.out.mono ?_
  rintro en w8 ⟨rfl, F8, h8, s8, k8⟩
  replace B := Fr.below B k8 h7.base_ (fun b hb => (h7.lt b hb).1)
  obtain ⟨hO8, hg8⟩ := beside hO7b hg6 s8 k8
  clear h7 hO7b hg6 s8 k8 HQ7 HZ1
  go_wp2_with fail
  refine (dswap_p (m := Z) 0 ⟨Z, Z.length, false, none, [Z, [], Z]⟩ h8 hO8.sl (fun _ => notAt hg8) (by simp) (by rw [HZ.out]; decide) (by simp [swapE, HZ.out]) (by unfold swapS; rw [if_neg (by simp), if_neg (by rw [HZ.out]; decide)]; simp)).mono ?_
  rintro en w9 ⟨rfl, F9, h9, s9, k9⟩
  replace B := Fr.below B k9 h8.base_ (fun b hb => (h8.lt b hb).1)
  clear h8 hO8 hg8 s9 k9
  go_wp2_with fail
  refine (dtrace_any h9).mono ?_
  rintro en wa ⟨Aa, ca, usa, rfl, hRa, hCa, hBa⟩
  have ha := h9.old hBa
  replace B := B.trans (hBa.mono h9.base_)
  clear h9 hRa hCa hBa
  go_wp2_with fail
  refine (dcut_b (-1) 9 ⟨Z, Z.length, false, none, [Z, [], Z]⟩ ha B (by simp [cutE]) (by unfold cutS; rw [if_neg (by simp), if_pos (.inl (by decide))])).mono ?_
  clear ha B
  rintro en wb ⟨rfl, Fb, hb, B⟩
  go_wp2_with fail
  refine (dcut_b 1048577 9 ⟨Z, Z.length, false, none, [Z, [], Z]⟩ hb B (by simp [cutE, HZ.out]) (by unfold cutS; rw [if_neg (by simp), if_pos (by rw [HZ.out]; omega)])).mono ?_
  clear hb B
  rintro en wc ⟨rfl, Fc, hc, B⟩
  obtain ⟨Y, hY⟩ : ∃ Y, Z.take 3 = Y := ⟨_, rfl⟩
  have hYl : Y.length = 3 := by rw [← hY, List.length_take]; have := HZ.out; omega
  have HY := Lib.hid hY
  have HYl := Lib.hid hYl
  clear hY hYl
  go_wp2_with fail
  refine (dcut_b 3 0 ⟨Y, 3, false, none, [Z, [], Z]⟩ hc B (by simp [cutE, HZ.out]) (by unfold cutS; rw [if_neg (by simp), if_neg (by rw [HZ.out]; omega), ← HY.out]; rfl)).mono ?_
  clear hc B
  rintro en wd ⟨rfl, Fd, hd, B⟩
  go_wp2_with fail
  refine (dsynced_any hd).mono ?_
  rintro en wd' ⟨rfl, rfl⟩
  go_wp2_with fail
  refine (darm_b (-1) 2 ⟨Y, 3, false, none, [Z, [], Z]⟩ (by decide) hd B (by simp [armE]) (by simp [armS])).mono ?_
  clear hd B
  rintro en we ⟨rfl, Fe, he, B⟩
  go_wp2_with fail
  refine (dcrash_b (-1) 2 ⟨Y, 3, false, none, [Z, [], Z]⟩ he B (by simp [crashE]) (by simp [crashS])).mono ?_
  clear he B
  rintro en wf ⟨rfl, Ff, hf, B⟩
  go_wp2_with fail
  refine (ddead_any hf).mono ?_
  rintro en wf' ⟨rfl, rfl⟩
  go_wp2_with fail
  refine (dcrash_b 4611686018427387904 0 ⟨Y, 3, true, none, [Z, [], Z]⟩ hf B (by simp [crashE]) (by unfold crashS; rw [if_neg (by decide), if_neg (by simp)]; exact tear_same _ Y 3 false none _ HYl.out)).mono ?_
  clear hf B
  rintro en wg ⟨rfl, Fg, hg, B⟩
  go_wp2_with fail
  refine (dcrash_b 0 0 ⟨Y, 3, true, none, [Z, [], Z]⟩ hg B (by simp [crashE]) (by unfold crashS; rw [if_neg (by decide), if_pos rfl])).mono ?_
  clear hg B
  rintro en wh ⟨rfl, Fh, hh, B⟩
  go_wp2_with fail
  refine (dread_any hh).mono ?_
  rintro en wi ⟨Ai, ci, rfl, hOi, hBi⟩
  replace B := B.trans (hBi.mono hh.base_)
  have hYl := HYl.out
  have HB := Lib.hid B
  have HPs := HP
  clear hh hOi hBi B HP HD HB1
  go_wp2_with fail
  go_loopg [5, 6] 2 (fun gh v5 v6 wr => ∃ (i : Nat) (p : Option Addr), v6 = .int .i64 i ∧ v5 = .pointer p ∧ i ≤ 2 ∧ gh = 2 - i ∧ Hid (NoneD wr p) ∧ Hid (Below P w wr))
  case atStart => exact ⟨0, none, rfl, rfl, by omega, rfl, .inl rfl, HB.out⟩
  case round =>
    obtain ⟨i, p, rfl, rfl, hi, rfl, hN, hB⟩ := hrel
    by_cases hlt : i < 2
    · have q1 := Lib.hid (nwrite_any (A := none) (n := 0) (c := 0) hN.out)
      have q2 := Lib.hid (nsync_any hN.out)
      have q3 := Lib.hid (nswap_any (A := none) (n := 0) (c := 0) hN.out)
      have q4 := Lib.hid (ncut_any 0 hN.out)
      have q5 := Lib.hid (narm_any (-1) hN.out)
      have hlt' : (i : Int) < 2 := by omega
      go_wp2_with (first | (go_at_call 23; refine q1.out.mono ?_; rintro en w' ⟨rfl, rfl⟩) | (go_at_call 16; refine q2.out.mono ?_; rintro en w' ⟨rfl, rfl⟩) | (go_at_call 17; refine q3.out.mono ?_; rintro en w' ⟨rfl, rfl⟩) | (go_at_call 19; refine q4.out.mono ?_; rintro en w' ⟨rfl, rfl⟩))
      refine q5.out.mono ?_
      rintro en wx ⟨rfl, hBx⟩
      have HNx := Lib.hid (hN.out.old hBx)
      have r1 := Lib.hid (ncrash_any (-1) HNx.out)
      have r2 := Lib.hid (nrevive_any HNx.out)
      have r3 := Lib.hid (nread_any HNx.out)
      have r4 := Lib.hid (nsynced_any HNx.out)
      have r5 := Lib.hid (ntrace_any HNx.out)
      have r6 := Lib.hid (ndead_any HNx.out)
      have HBx := Lib.hid (hB.out.trans (hBx.mono (Nat.le_trans (Nat.le_of_eq HPs.out) hB.out.size)))
      have HSx := Lib.hid (Nat.le_trans (Nat.le_of_eq HPs.out) HBx.out.size)
      clear hBx q1 q2 q3 q4 q5
      go_wp2_with (first | (go_at_call 21; refine r1.out.mono ?_; rintro en w' ⟨rfl, rfl⟩) | (go_at_call 22; refine r2.out.mono ?_; rintro en w' ⟨rfl, rfl⟩) | (go_at_call 24; refine r3.out.mono ?_; rintro en w' ⟨rfl, rfl⟩) | (go_at_call 26; refine r4.out.mono ?_; rintro en w' ⟨rfl, rfl⟩) | (go_at_call 44; refine r5.out.mono ?_; rintro en w' ⟨rfl, rfl⟩) | (go_at_call 15; refine r6.out.mono ?_; rintro en w' ⟨rfl, rfl⟩))
      go_roundg (2 - (i + 1))
      case measure => omega
      case rel =>
        refine ⟨i + 1, _, by go_num, rfl, by omega, rfl, .inr ⟨_, rfl, ?_⟩, HBx.out.alloc HSx.out _⟩
        exact (Blk.new wx 65 #[.slice none 0 0, .int .i64 0, .bool false, .nilFunc, .slice none 0 0]).cell 3
    · have HW := Lib.hid (dworks_any wr)
      have hlt' : ¬ (i : Int) < 2 := by omega
      go_wp2_with fail
      refine HW.out.mono ?_
      rintro en wx ⟨rfl, hBx⟩
      go_wp2
      go_ret
      exact ⟨rfl, (hB.out.mono (Nat.le_of_eq HPs.out.symm)).trans (hBx.mono hB.out.size)⟩
end Go.Proofs.Ytblpnlobicjccaa
