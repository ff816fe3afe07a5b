/- Package pad: Open. (Printed by genopen.py out of XPadOpen.base.) -/
import Derived.Test.YtblpnlobicjccaaDoorPadRef
import Derived.WalkMore
import Derived.ScopeJumps
namespace Go.Proofs.YtblpnlobicjccaaDoor
open Go.RowKit

/-- The length that is told, and whether all is as it must be. -/
def opN (l : List UInt8) : Nat := (l.getD 1 0).toNat * 256 + (l.getD 2 0).toNat
def opOk (l : List UInt8) : Bool := isCls l.length && decide ((l.getD 0 0).toNat ≤ 1) && decide (clsI (opN l) = l.length) && !((l.getD 0 0).toNat == 1 && decide (0 < opN l)) && (l.drop (3 + opN l)).all (· == 0)
def opV (l : List UInt8) : List UInt8 := if opOk l then (l.drop 3).take (opN l) else []
def opT (l : List UInt8) : Bool := opOk l && (l.getD 0 0).toNat == 1
def opE (l : List UInt8) : Int := if opOk l then 0 else 4
/-- What Open leaves. -/
def OpenPost (w : World) (l : List UInt8) (e : Ending) (w' : World) : Prop :=
  ∃ A n c, e = .returned (.tuple #[.slice A n c, .bool (opT l), .int .i64 (opE l)]) ∧ Own w' w.heap.size 5 A n c (opV l) ∧ Below w.heap.size w w'

/-- What holds at a jump to the label. -/
def J65 (w : World) (a' : Act) (w' : World) : Prop :=
  Below w.heap.size w w' ∧ ∃ u0 u1 u2 u3 u4 u5 u6 u7 u8 u9 u10 u11 u12 u13 u14 u15 u16 u17 u18 u19 u20 u21 u22 u23 u24 u25 u26 u27 u28 u29 u30 u31 u32 u33 u34 u35 u36 u37 u38 u39 u40 u41 u42 u43 u44 u45 u46 u47 u48 u49 u50 u51 u52 u53 u54 u55 u56 u57 u58 u59 u60 u61 u62 u63 u64 : Value, a' = { tmps := #[u0, u1, u2, u3, u4, u5, u6, u7, u8, u9, u10, u11, u12, u13, u14, u15, u16, u17, u18, u19, u20, u21, u22, u23, u24, u25, u26, u27, u28, u29, u30, u31, u32, u33, u34, u35, u36, u37, u38, u39, u40, u41, u42, u43, u44, u45, u46, u47, u48, u49, u50, u51, u52, u53, u54, u55, u56, u57, u58, u59, u60, u61, u62, u63, u64], defers := [] }

theorem openPost_refuse {w w' : World} {l : List UInt8} (h : opOk l = false) (hB : Below w.heap.size w w') : OpenPost w l (.returned (.tuple #[.slice none 0 0, .bool false, .int .i64 4])) w' := by
  unfold OpenPost opV opT opE
  rw [h]
  exact ⟨none, 0, 0, rfl, Own.nil _ _ _, hB⟩

set_option maxHeartbeats 2000000 in
theorem open_cls {A : Option Addr} {n c : Nat} {l : List UInt8} (w : World) (hT : Tab w) (h : Sl w A n c l) (hl : n ≤ 100000) (h1 : isCls l.length = false) :
    Calls Tryd.prog 14 #[.slice A n c] w (OpenPost w l) := by
  obtain rfl := h.len
  have HC := Lib.hid (contains_any (l.length : Int) w hT)
  rw [h1] at HC
  have e0 : opOk l = false := by unfold opOk; rw [h1]; rfl
  have HE := Lib.hid e0
  clear e0 h1
  go_enter Tryd.func14, Tryd.ntmps14
  go_wp2
  refine wp_scope_jumps 0 (J65 w) (fun _ _ => 0) rfl ?_ ?_
  · go_wp2_with (go_at_call 17; refine HC.out.mono ?_; rintro e w' ⟨rfl, rfl⟩)
    go_step3
    exact ⟨rfl, Below.refl _ _, _, _, _, _, _, _, _, _, _, _, _, _, _, _, _, _, _, _, _, _, _, _, _, _, _, _, _, _, _, _, _, _, _, _, _, _, _, _, _, _, _, _, _, _, _, _, _, _, _, _, _, _, _, _, _, _, _, _, _, _, _, _, _, _, _, rfl⟩
  · rintro a' w' ⟨hB, u0, u1, u2, u3, u4, u5, u6, u7, u8, u9, u10, u11, u12, u13, u14, u15, u16, u17, u18, u19, u20, u21, u22, u23, u24, u25, u26, u27, u28, u29, u30, u31, u32, u33, u34, u35, u36, u37, u38, u39, u40, u41, u42, u43, u44, u45, u46, u47, u48, u49, u50, u51, u52, u53, u54, u55, u56, u57, u58, u59, u60, u61, u62, u63, u64, rfl⟩
    go_wp2
    simp only [Exit.jump]
    go_ret3
    exact openPost_refuse HE.out hB

/-- The bytes at the head, as they lie in memory. -/
theorem Sl.head {w : World} {A : Option Addr} {n c : Nat} {l : List UInt8} (h : Sl w A n c l) (h3 : 3 ≤ l.length) : ∃ b o, A = some ⟨b, o, none⟩ ∧ w.cell? ⟨b, o, none⟩ = some (.int .u8 ((l.getD 0 0).toNat : Int)) ∧
    w.cell? ⟨b, o + 1, none⟩ = some (.int .u8 ((l.getD 1 0).toNat : Int)) ∧ w.cell? ⟨b, o + 2, none⟩ = some (.int .u8 ((l.getD 2 0).toNat : Int)) := by
  rcases h.rd with e | ⟨b, o, hA, hc⟩
  · subst e; simp at h3
  · refine ⟨b, o, hA, ?_, ?_, ?_⟩
    · have := hc 0 (by omega); simpa [bv, List.getD, show 0 < l.length by omega] using this
    · have := hc 1 (by omega); simpa [bv, List.getD, show 1 < l.length by omega] using this
    · have := hc 2 (by omega); simpa [bv, List.getD, show 2 < l.length by omega] using this
theorem isCls_cases {n : Nat} (h : isCls n = true) : n = 16 ∨ n = 64 ∨ n = 256 := by
  unfold isCls at h; simp at h; omega

set_option maxHeartbeats 2000000 in
theorem open_two {A : Option Addr} {n c : Nat} {l : List UInt8} (w : World) (hT : Tab w) (h : Sl w A n c l) (hl : n ≤ 100000) (h1 : isCls l.length = true) (h2 : ¬ (l.getD 0 0).toNat ≤ 1) :
    Calls Tryd.prog 14 #[.slice A n c] w (OpenPost w l) := by
  obtain rfl := h.len
  have HC := Lib.hid (contains_any (l.length : Int) w hT)
  rw [h1] at HC
  have hge : 16 ≤ l.length := by rcases isCls_cases h1 with e | e | e <;> omega
  have e0 : opOk l = false := by unfold opOk; rw [decide_eq_false h2]; simp
  have HE := Lib.hid e0
  obtain ⟨b, o, rfl, c0, _, _⟩ := h.head (by omega)
  have hx := (l.getD 0 0).toNat_lt
  generalize (l.getD 0 0).toNat = x0 at *
  clear e0 h1
  go_enter Tryd.func14, Tryd.ntmps14
  go_wp2
  refine wp_scope_jumps 0 (J65 w) (fun _ _ => 0) rfl ?_ ?_
  · go_wp2_with (go_at_call 17; refine HC.out.mono ?_; rintro e w' ⟨rfl, rfl⟩)
    go_step3
    exact ⟨rfl, Below.refl _ _, _, _, _, _, _, _, _, _, _, _, _, _, _, _, _, _, _, _, _, _, _, _, _, _, _, _, _, _, _, _, _, _, _, _, _, _, _, _, _, _, _, _, _, _, _, _, _, _, _, _, _, _, _, _, _, _, _, _, _, _, _, _, _, _, _, rfl⟩
  · rintro a' w' ⟨hB, u0, u1, u2, u3, u4, u5, u6, u7, u8, u9, u10, u11, u12, u13, u14, u15, u16, u17, u18, u19, u20, u21, u22, u23, u24, u25, u26, u27, u28, u29, u30, u31, u32, u33, u34, u35, u36, u37, u38, u39, u40, u41, u42, u43, u44, u45, u46, u47, u48, u49, u50, u51, u52, u53, u54, u55, u56, u57, u58, u59, u60, u61, u62, u63, u64, rfl⟩
    go_wp2
    simp only [Exit.jump]
    go_ret3
    exact openPost_refuse HE.out hB

theorem i64_or_nat (a b : Nat) (ha : a < 9223372036854775808) (hb : b < 9223372036854775808) : bits .or .i64 (a : Int) (b : Int) = ((a ||| b : Nat) : Int) := by
  have h1 : ∀ a : Nat, a < 9223372036854775808 → (BitVec.ofInt 64 (a : Int)).toNat = a := fun a ha => by
    rw [BitVec.ofInt_natCast, BitVec.toNat_ofNat]; exact Nat.mod_eq_of_lt (by omega)
  have hx : a ||| b < 2 ^ 63 := Nat.or_lt_two_pow (by omega) (by omega)
  show IntKind.i64.wrap ((BitVec.ofInt 64 (a : Int) ||| BitVec.ofInt 64 (b : Int)).toNat : Int) = _
  rw [BitVec.toNat_or, h1 a ha, h1 b hb, IntKind.wrap_i64]
  omega
theorem i64_join8 (v x : Nat) (hv : v < 256) (hx : x < 256) : bits .or .i64 ((v : Int) * 256) (x : Int) = ((v * 256 + x : Nat) : Int) := by
  have := i64_or_nat (v * 256) x (by omega) (by omega)
  rw [nat_join 8 _ _ (by omega) (by omega)] at this
  simpa using this
theorem Tab.drewN {w : World} (h : Tab w) (n : Nat) : Tab (w.drewN n) := ⟨h.c0, h.c1, h.c2⟩
theorem run_cut_mid (w : World) (A : Option Addr) (n c k j m : Nat) (hk : k ≤ j) (hj : j ≤ c) (hm : m = j - k) (y z : Int) (hy : y = (k : Int)) (hz : z = (j : Int)) : (Instr.slice 22 (.slice A n c) (some (.int .i64 y)) (some (.int .i64 z)) none).run Tryd.prog w = .ok (.slice (cutA A c k) m (c - k)) w := by
  subst hz; subst hy; subst hm
  have hs : (Go.sizeOf 5).run Tryd.prog w = .ok 1 w := by kernel_rfl
  rw [run_slice_lh (P := Tryd.prog) w 22 A n c (by kernel_rfl) .i64 .i64 k j (by omega) (by omega) (by omega)]
  rw [show Tryd.prog.elem 22 = 5 by kernel_rfl, hs]
  simp [sliced, cutA]
theorem run_cut_lo' (w : World) (A : Option Addr) (n c k : Nat) (hk : k ≤ n) (z : Int) (hz : z = (k : Int)) : (Instr.slice 22 (.slice A n c) (some (.int .i64 z)) none none).run Tryd.prog w = .ok (.slice (cutA A c k) (n - k) (c - k)) w := by
  subst hz; exact run_cut_lo w A n c k hk

set_option maxHeartbeats 2000000 in
theorem open_three {A : Option Addr} {n c : Nat} {l : List UInt8} (w : World) (hT : Tab w) (h : Sl w A n c l) (hl : n ≤ 100000) (h1 : isCls l.length = true) (h2 : (l.getD 0 0).toNat ≤ 1) (h3 : ¬ clsI (opN l) = l.length) :
    Calls Tryd.prog 14 #[.slice A n c] w (OpenPost w l) := by
  obtain rfl := h.len
  have HC := Lib.hid (contains_any (l.length : Int) w hT)
  rw [h1] at HC
  have hge : 16 ≤ l.length := by rcases isCls_cases h1 with e | e | e <;> omega
  have e0 : opOk l = false := by unfold opOk; rw [decide_eq_false h3]; simp
  have HE := Lib.hid e0
  obtain ⟨b, o, rfl, c0, c1, c2⟩ := h.head (by omega)
  have hx1 : (l.getD 1 0).toNat < 256 := (l.getD 1 0).toNat_lt
  have hx2 : (l.getD 2 0).toNat < 256 := (l.getD 2 0).toNat_lt
  have HK := fun k => Lib.hid (class_any (opN l : Int) (w.drewN k) (hT.drewN k) (by omega) (by unfold opN; omega))
  have hj := i64_join8 _ _ hx1 hx2
  have hN : (l.getD 1 0).toNat * 256 + (l.getD 2 0).toNat = opN l := rfl
  rw [hN] at hj
  generalize (l.getD 0 0).toNat = x0 at *
  generalize (l.getD 1 0).toNat = x1 at *
  generalize (l.getD 2 0).toNat = x2 at *
  generalize opN l = N at *
  have hNb : N < 65536 := by omega
  clear hN e0 h1
  have h3' : (clsI (N : Int) != (l.length : Int)) = true := by simpa using h3
  clear h3
  go_enter Tryd.func14, Tryd.ntmps14
  go_wp2
  refine wp_scope_jumps 0 (J65 w) (fun _ _ => 0) rfl ?_ ?_
  · go_wp2_with (go_at_call 17; refine HC.out.mono ?_; rintro e w' ⟨rfl, rfl⟩)
    go_quiet (fail)
    go_wp2_with (go_at_call 12; refine (HK _).out.mono ?_; rintro e w' ⟨rfl, rfl⟩)
    go_step3
    exact ⟨rfl, below_drewN (Below.refl _ _) _, _, _, _, _, _, _, _, _, _, _, _, _, _, _, _, _, _, _, _, _, _, _, _, _, _, _, _, _, _, _, _, _, _, _, _, _, _, _, _, _, _, _, _, _, _, _, _, _, _, _, _, _, _, _, _, _, _, _, _, _, _, _, _, _, _, rfl⟩
  · rintro a' w' ⟨hB, u0, u1, u2, u3, u4, u5, u6, u7, u8, u9, u10, u11, u12, u13, u14, u15, u16, u17, u18, u19, u20, u21, u22, u23, u24, u25, u26, u27, u28, u29, u30, u31, u32, u33, u34, u35, u36, u37, u38, u39, u40, u41, u42, u43, u44, u45, u46, u47, u48, u49, u50, u51, u52, u53, u54, u55, u56, u57, u58, u59, u60, u61, u62, u63, u64, rfl⟩
    go_wp2
    simp only [Exit.jump]
    go_ret3
    exact openPost_refuse HE.out hB
end Go.Proofs.YtblpnlobicjccaaDoor
