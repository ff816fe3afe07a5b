/- Package disk: the chapter's disk (works). -/
import Derived.Test.YtblpnlobicjccaaDiskT
namespace Go.Proofs.Ytblpnlobicjccaa
open Go.RowKit

/-- What a method leaves, said of what lay below the disk. -/
def DkB (w0 : World) (base P : Nat) (v : Value) (s' : DS) (en : Ending) (w' : World) : Prop := en = .returned v ∧ ∃ F' : Nat → Prop, Dk w' base F' P s' ∧ Below base w0 w'
section
variable {w0 w : World} {base P : Nat} {F : Nat → Prop} {s : DS}
theorem Dk.lt (h : Dk w base F P s) : ∀ b, F b → base ≤ b ∧ b < w.heap.size := by
  obtain ⟨_, _, _, _, _, _, h, _⟩ := h
  exact h.lt
theorem Dk.base_ (h : Dk w base F P s) : base ≤ w.heap.size := by
  obtain ⟨_, _, _, _, _, _, h, _⟩ := h
  exact h.base_
theorem Dk.tl (h : Dk w base F P s) : s.t.length ≤ 1000 ∧ s.b.length ≤ 1048576 ∧ s.n ≤ s.b.length := by
  obtain ⟨_, _, _, _, _, _, h, _⟩ := h
  exact ⟨h.tlen, h.len, h.syn⟩
/-- Said from a lower base on. -/
theorem Core.lower {T : TypeId} {w : World} {base base' P : Nat} {F : Nat → Prop} {hv : Value} {s : DS} {A : Option Addr} {c : Nat} {TA : Option Addr} {cT : Nat} {vs : List Value} (h : Core T w base F P hv s A c TA cT vs) (hb : base' ≤ base) : Core T w base' F P hv s A c TA cT vs :=
  ⟨h.blk, h.own.mono hb, h.tr.mono hb, h.els, h.fP, h.fA, h.fT, fun b hf => ⟨Nat.le_trans hb (h.lt b hf).1, (h.lt b hf).2⟩, Nat.le_trans hb h.base_, h.syn, h.len, h.tlen⟩
theorem Dk.lower {base' : Nat} (h : Dk w base F P s) (hb : base' ≤ base) : Dk w base' F P s := by
  obtain ⟨hv, A, c, TA, cT, vs, h1, h2⟩ := h
  exact ⟨hv, A, c, TA, cT, vs, h1.lower hb, h2⟩
theorem DkPost.b {v : Value} {s' : DS} {en : Ending} {w' : World} (h : Dk w base F P s) (B : Below base w0 w) (hp : DkPost w base F P v s' en w') : DkB w0 base P v s' en w' := by
  obtain ⟨rfl, F', h1, _, h3⟩ := hp
  exact ⟨rfl, F', h1, Fr.below B h3 h.base_ (fun b hb => (h.lt b hb).1)⟩
theorem dwrite_lit (cs : Array Value) (l : List UInt8) (n : Nat) (hc : cs = (l.map bv).toArray) (hn : n = l.length) (hl : l.length ≤ 1000) (v : Int) (s' : DS) (h : Dk w base F P s) (B : Below base w0 w) (htl : s.t.length ≤ 900) (hv : writeE l s = v) (hs : writeS l s = s') :
    Calls Try.prog 23 #[.pointer (some ⟨P, 0, none⟩), .slice (some ⟨w.heap.size, 0, none⟩) n n] (w.alloc (.cells cs 5)) (DkB w0 base P (.int .i64 v) s') := by
  rw [← hv, ← hs]
  have h' := h.fr ((Fr.refl (fun _ => False) w).alloc (.cells cs 5)) (fun _ _ => id)
  exact (dwrite_any h' (litSl w l cs n (0, 0) hc hn hl) (fun _ b hb hF => by have := (h.lt b hF).2; simp [blkOf] at hb; omega) htl (by omega)).mono fun _ _ q => DkPost.b h' (B.alloc h.base_ _) q
theorem dswap_lit (cs : Array Value) (l : List UInt8) (n : Nat) (hc : cs = (l.map bv).toArray) (hn : n = l.length) (hl : l.length ≤ 1000) (v : Int) (s' : DS) (h : Dk w base F P s) (B : Below base w0 w) (htl : s.t.length ≤ 900) (hv : swapE l s = v) (hs : swapS l s = s') :
    Calls Try.prog 17 #[.pointer (some ⟨P, 0, none⟩), .slice (some ⟨w.heap.size, 0, none⟩) n n] (w.alloc (.cells cs 5)) (DkB w0 base P (.int .i64 v) s') := by
  rw [← hv, ← hs]
  have h' := h.fr ((Fr.refl (fun _ => False) w).alloc (.cells cs 5)) (fun _ _ => id)
  exact (dswap_any h' (litSl w l cs n (0, 0) hc hn hl) (fun _ b hb hF => by have := (h.lt b hF).2; simp [blkOf] at hb; omega) htl (by omega)).mono fun _ _ q => DkPost.b h' (B.alloc h.base_ _) q
theorem dsync_b (v : Int) (s' : DS) (h : Dk w base F P s) (B : Below base w0 w) (hv : syncE s = v) (hs : syncS s = s') : Calls Try.prog 16 #[.pointer (some ⟨P, 0, none⟩)] w (DkB w0 base P (.int .i64 v) s') := by
  rw [← hv, ← hs]; exact (dsync_any h).mono fun _ _ q => DkPost.b h B q
theorem dcrash_b (n v : Int) (s' : DS) (h : Dk w base F P s) (B : Below base w0 w) (hv : crashE n = v) (hs : crashS n s = s') : Calls Try.prog 21 #[.pointer (some ⟨P, 0, none⟩), .int .i64 n] w (DkB w0 base P (.int .i64 v) s') := by
  rw [← hv, ← hs]; exact (dcrash_any n h).mono fun _ _ q => DkPost.b h B q
theorem dcut_b (n v : Int) (s' : DS) (h : Dk w base F P s) (B : Below base w0 w) (hv : cutE n s = v) (hs : cutS n s = s') : Calls Try.prog 19 #[.pointer (some ⟨P, 0, none⟩), .int .i64 n] w (DkB w0 base P (.int .i64 v) s') := by
  rw [← hv, ← hs]; exact (dcut_any n h).mono fun _ _ q => DkPost.b h B q
theorem darm_b (n v : Int) (s' : DS) (h9 : n ≤ 9223372036854775807) (h : Dk w base F P s) (B : Below base w0 w) (hv : armE n s = v) (hs : armS n s = s') : Calls Try.prog 20 #[.pointer (some ⟨P, 0, none⟩), .int .i64 n] w (DkB w0 base P (.int .i64 v) s') := by
  rw [← hv, ← hs]; exact (darm_any n h9 h).mono fun _ _ q => DkPost.b h B q
theorem drevive_b (s' : DS) (h : Dk w base F P s) (B : Below base w0 w) (hs : (⟨s.b, s.n, false, none, s.t⟩ : DS) = s') : Calls Try.prog 22 #[.pointer (some ⟨P, 0, none⟩)] w (DkB w0 base P (.int .i64 0) s') := by
  rw [← hs]; exact (drevive_any h).mono fun _ _ q => DkPost.b h B q
end

set_option maxRecDepth 100000 in
set_option maxHeartbeats 4000000 in
theorem dworks_any (w : World) : Calls Try.prog 12 #[] w fun en w' => en = .returned (.bool true) ∧ Below w.heap.size w w' := by
  go_enter Try.func12, Try.ntmps12
  go_wp2_with fail
  refine (dnew_any w).mono ?_
  rintro en w0 ⟨rfl, rfl⟩
  have h := dnew_dk w
  have B := (Below.refl w.heap.size w).alloc (Nat.le_refl _) (.cells #[.slice none 0 0, .int .i64 0, .bool false, .func (.func 61) #[] #[], .slice none 0 0] 65)
  generalize w.alloc (.cells #[.slice none 0 0, .int .i64 0, .bool false, .func (.func 61) #[] #[], .slice none 0 0] 65) = w0 at *
  unfold S0 at h
  go_wp2_with fail
  refine (dwrite_lit #[.int .u8 1, .int .u8 2] [1, 2] 2 rfl rfl (by decide) 0 ⟨[1, 2], 0, false, none, [[1, 2]]⟩ h B (by decide) (by decide +kernel) rfl).mono ?_
  clear h B
  rintro en w1 ⟨rfl, F1, h, B⟩
  go_wp2_with fail
  refine (dsync_b 0 ⟨[1, 2], 2, false, none, [[1, 2]]⟩ h B (by decide +kernel) rfl).mono ?_
  clear h B
  rintro en w2 ⟨rfl, F2, h, B⟩
  go_wp2_with fail
  refine (dwrite_lit #[.int .u8 3, .int .u8 4] [3, 4] 2 rfl rfl (by decide) 0 ⟨[1, 2, 3, 4], 2, false, none, [[1, 2], [3, 4]]⟩ h B (by decide) (by decide +kernel) rfl).mono ?_
  clear h B
  rintro en w3 ⟨rfl, F3, h, B⟩
  go_wp2_with fail
  refine (dsynced_any h).mono ?_
  rintro en w4 ⟨rfl, rfl⟩
  go_wp2_with fail
  refine (dcrash_b 1 0 ⟨[1, 2, 3], 3, true, none, [[1, 2], [3, 4]]⟩ h B (by decide +kernel) rfl).mono ?_
  clear h B
  rintro en w5 ⟨rfl, F5, h, B⟩
  go_wp2_with fail
  refine (dread_any h).mono ?_
  rintro en w6 ⟨A6, c6, rfl, hO, hB⟩
  replace h := (h.old hB).fr ((Fr.refl (fun _ => False) _).alloc (.cells #[.int .u8 1, .int .u8 2, .int .u8 3] 5)) (fun _ _ => id)
  replace B := (B.trans (hB.mono B.size)).alloc (Nat.le_trans B.size hB.size) (.cells #[.int .u8 1, .int .u8 2, .int .u8 3] 5)
  go_wp2_with fail
  refine (eqb_any _ (hO.alloc _).sl (litSl w6 [1, 2, 3] #[.int .u8 1, .int .u8 2, .int .u8 3] 3 (0, 0) rfl rfl (by decide))).mono ?_
  clear hO hB
  rintro en w6' ⟨rfl, rfl⟩
  generalize w6.alloc (.cells #[.int .u8 1, .int .u8 2, .int .u8 3] 5) = w6' at *
  go_wp2_with fail
  refine (dwrite_lit #[.int .u8 5] [5] 1 rfl rfl (by decide) 130 ⟨[1, 2, 3], 3, true, none, [[1, 2], [3, 4]]⟩ h B (by decide) (by decide +kernel) rfl).mono ?_
  clear h B
  rintro en w7 ⟨rfl, F7, h, B⟩
  go_wp2_with fail
  refine (drevive_b ⟨[1, 2, 3], 3, false, none, [[1, 2], [3, 4]]⟩ h B rfl).mono ?_
  clear h B
  rintro en w8 ⟨rfl, F8, h, B⟩
  go_wp2_with fail
  refine (dsynced_any h).mono ?_
  rintro en w9 ⟨rfl, rfl⟩
  go_wp2_with fail
  refine (dswap_lit #[.int .u8 9] [9] 1 rfl rfl (by decide) 0 ⟨[9], 1, false, none, [[1, 2], [3, 4], [9]]⟩ h B (by decide) (by decide +kernel) rfl).mono ?_
  clear h B
  rintro en w10 ⟨rfl, F10, h, B⟩
  go_wp2_with fail
  refine (darm_b 0 0 ⟨[9], 1, false, some 0, [[1, 2], [3, 4], [9]]⟩ (by decide) h B (by decide +kernel) rfl).mono ?_
  clear h B
  rintro en w11 ⟨rfl, F11, h, B⟩
  go_wp2_with fail
  refine (dwrite_lit #[.int .u8 8] [8] 1 rfl rfl (by decide) 0 ⟨[9, 8], 1, false, some 0, [[1, 2], [3, 4], [9], [8]]⟩ h B (by decide) (by decide +kernel) rfl).mono ?_
  clear h B
  rintro en w12 ⟨rfl, F12, h, B⟩
  go_wp2_with fail
  refine (dsync_b 130 ⟨[9], 1, true, some 0, [[1, 2], [3, 4], [9], [8]]⟩ h B (by decide +kernel) rfl).mono ?_
  clear h B
  rintro en w13 ⟨rfl, F13, h, B⟩
  go_wp2_with fail
  refine (dread_any h).mono ?_
  rintro en w14 ⟨A14, c14, rfl, hO, hB⟩
  replace h := (h.old hB).fr ((Fr.refl (fun _ => False) _).alloc (.cells #[.int .u8 9] 5)) (fun _ _ => id)
  replace B := (B.trans (hB.mono B.size)).alloc (Nat.le_trans B.size hB.size) (.cells #[.int .u8 9] 5)
  go_wp2_with fail
  refine (eqb_any _ (hO.alloc _).sl (litSl w14 [9] #[.int .u8 9] 1 (0, 0) rfl rfl (by decide))).mono ?_
  clear hO hB
  rintro en w14' ⟨rfl, rfl⟩
  generalize w14.alloc (.cells #[.int .u8 9] 5) = w14' at *

  go_wp2
  go_ret
  exact ⟨rfl, B⟩
end Go.Proofs.Ytblpnlobicjccaa
