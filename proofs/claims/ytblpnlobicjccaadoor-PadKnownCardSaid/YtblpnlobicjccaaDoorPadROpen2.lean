/- Package sealchainref07: Open, walked. -/
import Derived.Test.YtblpnlobicjccaaDoorPadROpen
import Derived.Deep.RegionHeld3
namespace Go.Proofs.YtblpnlobicjccaaDoor
open Go.RowKit

theorem natbeq (a : Nat) : ((a : Int) == 1) = (a == 1) := by
  rw [Bool.eq_iff_iff]; simp; omega

set_option maxHeartbeats 2000000 in
theorem ropen_short {A : Option Addr} {n c : Nat} {l : List UInt8} (w : World) (h : Sl w A n c l) (hl : n ≤ 100000) (h1 : l.length < 16) :
    Calls Tryd.prog 15 #[.slice A n c] w (OpenPost w l) := by
  obtain rfl := h.len
  have e0 : opOk l = false := by rw [Bool.eq_false_iff]; intro q; have := (opOk_iff l).1 q; omega
  have HE := Lib.hid e0
  clear e0
  go_enter Tryd.func15, Tryd.ntmps15
  go_wp2_with fail
  go_ret3
  exact openPost_refuse HE.out (Below.refl _ _)

set_option maxHeartbeats 2000000 in
theorem ropen_two {A : Option Addr} {n c : Nat} {l : List UInt8} (w : World) (h : Sl w A n c l) (hl : n ≤ 100000) (h1 : 16 ≤ l.length) (h2 : ¬ (l.getD 0 0).toNat ≤ 1) :
    Calls Tryd.prog 15 #[.slice A n c] w (OpenPost w l) := by
  have e0 : opOk l = false := by rw [Bool.eq_false_iff]; intro q; have := (opOk_iff l).1 q; omega
  have HE := Lib.hid e0
  obtain rfl := h.len
  obtain ⟨b, o, rfl, c0, c1, c2⟩ := h.head (by omega)
  have hx1 : (l.getD 1 0).toNat < 256 := (l.getD 1 0).toNat_lt
  have hx2 : (l.getD 2 0).toNat < 256 := (l.getD 2 0).toNat_lt
  generalize (l.getD 0 0).toNat = x0 at *
  clear e0
  go_enter Tryd.func15, Tryd.ntmps15
  go_wp2_with fail
  go_ret3
  exact openPost_refuse HE.out (Below.refl _ _)

set_option maxHeartbeats 2000000 in
theorem ropen_three {A : Option Addr} {n c : Nat} {l : List UInt8} (w : World) (h : Sl w A n c l) (hl : n ≤ 100000) (h1 : 16 ≤ l.length) (h2 : (l.getD 0 0).toNat ≤ 1) (h3 : ¬ opN l + 3 ≤ l.length) :
    Calls Tryd.prog 15 #[.slice A n c] w (OpenPost w l) := by
  have e0 : opOk l = false := by rw [Bool.eq_false_iff]; intro q; have := (opOk_iff l).1 q; omega
  have HE := Lib.hid e0
  obtain rfl := h.len
  obtain ⟨b, o, rfl, c0, c1, c2⟩ := h.head (by omega)
  have hx1 : (l.getD 1 0).toNat < 256 := (l.getD 1 0).toNat_lt
  have hx2 : (l.getD 2 0).toNat < 256 := (l.getD 2 0).toNat_lt
  have hN : 256 * ((l.getD 1 0).toNat : Int) + ((l.getD 2 0).toNat : Int) = (opN l : Int) := by unfold opN; omega
  generalize (l.getD 0 0).toNat = x0 at *
  generalize (l.getD 1 0).toNat = x1 at *
  generalize (l.getD 2 0).toNat = x2 at *
  generalize opN l = N at *
  have hg : (l.length : Int) - 3 < (N : Int) := by omega
  clear e0 h3
  go_enter Tryd.func15, Tryd.ntmps15
  go_wp2_with fail
  go_quiet (fail)
  go_wp2_with fail
  go_ret3
  exact openPost_refuse HE.out (below_drewN (Below.refl _ _) _)

set_option maxHeartbeats 4000000 in
theorem ropen_four {A : Option Addr} {n c : Nat} {l : List UInt8} (w : World) (h : Sl w A n c l) (hl : n ≤ 100000) (h1 : 16 ≤ l.length) (h2 : (l.getD 0 0).toNat ≤ 1) (h3 : opN l + 3 ≤ l.length) :
    Calls Tryd.prog 15 #[.slice A n c] w (OpenPost w l) := by
  have hiff := Lib.hid (opOk_iff l)
  have HV : Hid (opOk l = true → OpenPost w l = fun e w' => ∃ A n c, e = .returned (.tuple #[.slice A n c, .bool (opL l), .int .i64 0]) ∧ Own w' w.heap.size 5 A n c (opW l) ∧ Below w.heap.size w w') := by
    refine Lib.hid fun q => ?_
    unfold OpenPost
    rw [opV_ok q, opT_ok q, opE_ok q]
  obtain rfl := h.len
  obtain ⟨b, o, rfl, c0, c1, c2⟩ := h.head (by omega)
  have hx1 : (l.getD 1 0).toNat < 256 := (l.getD 1 0).toNat_lt
  have hx2 : (l.getD 2 0).toNat < 256 := (l.getD 2 0).toNat_lt
  have hN : 256 * ((l.getD 1 0).toNat : Int) + ((l.getD 2 0).toNat : Int) = (opN l : Int) := by unfold opN; omega
  have ht : (((l.getD 0 0).toNat : Int) == 1) = opL l := natbeq _
  have hW := Lib.hid (opW_len l h3)
  have hs2 : Sl w (cutA (some ⟨b, o, none⟩) c 3) (opN l) (c - 3) (opW l) := (h.cut (show 3 ≤ l.length by omega)).take (show opN l ≤ l.length - 3 by omega)
  have HX := Lib.hid h2
  generalize (l.getD 0 0).toNat = x0 at *
  generalize (l.getD 1 0).toNat = x1 at *
  generalize (l.getD 2 0).toNat = x2 at *
  generalize opN l = N at *
  generalize opL l = t at *
  generalize opW l = v at *
  have hcap := h.cap
  have hg : ¬ (l.length : Int) - 3 < (N : Int) := by omega
  have hmid := fun w => run_cut_mid w (some ⟨b, o, none⟩) l.length c 3 (3 + N) N (by omega) (by omega) (by omega) 3 (3 + (N : Int)) rfl (by simp)
  go_enter Tryd.func15, Tryd.ntmps15
  go_wp2_with fail
  go_quiet (fail)
  go_wp2_with fail
  have q0 : (w.drewN nq).cell? ⟨b, o, none⟩ = some (.int .u8 (x0 : Int)) := c0
  have hbl := World.block_lt_of_cell? _ _ q0
  have HCL := Lib.hid (copyb_any ((w.drewN nq).drew) ((hs2.drewN nq).drew) (by omega))
  have hB0 := Lib.hid ((below_drewN (Below.refl w.heap.size w) nq).drew)
  have hs3 := Lib.hid (hs2)
  clear hs2
  have g1 : IntKind.i64.wrap (3 + (N : Int)) = 3 + (N : Int) := IntWalk.i64_in _ ⟨by omega, by omega⟩
  have g2 : (3 : Int) ≤ 3 + (N : Int) := by omega
  have g3 : 3 + (N : Int) ≤ (c : Int) := by omega
  have g4 : (0 : Int) < (l.length : Int) := by omega
  have g5 : ¬ c = 3 := by omega
  go_region_held3 (fun w' => w'.cell? ⟨b, o, none⟩ = some (.int .u8 (x0 : Int))) (first | exact q0 | exact q1) (first | (go_at_call 8; refine HCL.out.mono ?_; rintro en w2 ⟨A2, c2', rfl, hO2, hB2⟩; have q1 : w2.cell? ⟨b, o, none⟩ = some (.int .u8 (x0 : Int)) := (hB2.cell (p := ⟨b, o, none⟩) hbl).trans q0))
  all_goals
    have hB3 := Lib.hid (show Below w.heap.size w w2 from hB0.out.trans hB2)
    have hO3 := Lib.hid (show Own w2 w.heap.size 5 A2 v.length c2' v from hO2)
    have hP := Lib.hid (rpad_any t w2 hO2.sl (by have := hW.out; omega))
    clear hO2 hB2 g1 g2 g3 g4 g5 q0 q1 hmid
    by_cases hp : padE v t = 0
    · have hP0 : Hid (Calls Tryd.prog 10 #[.slice A2 v.length c2', .bool t] w2 fun e w' => ∃ A n c, e = .returned (.tuple #[.slice A n c, .int .i64 0]) ∧ Own w' w2.heap.size 5 A n c (padV v t) ∧ Below w2.heap.size w2 w') := by
        have := hP.out
        unfold PadPost at this
        rw [hp] at this
        exact Lib.hid this
      by_cases hq : padV v t = l
      · have hok := (hiff.out.2 ⟨h1, HX.out, h3, hp, hq⟩)
        have HH := Lib.hid (HV.out hok)
        have hbeq : (padV v t == l) = true := by simpa using hq
        have HBE := Lib.hid hbeq
        clear hp hq hP HV hiff hok hbeq
        go_wp2_with (first | (go_at_call 10; refine hP0.out.mono ?_; rintro en w3 ⟨A3, n3, c3, rfl, hO4, hB4⟩) | (go_at_call 11; refine (eqb_any w3 hO4.sl (h.old (hB3.out.trans (hB4.mono hB3.out.size)))).mono ?_; rintro en w4 ⟨rfl, rfl⟩; rw [HBE.out]))
        go_ret3
        rw [HH.out]
        exact ⟨A2, _, c2', rfl, hO3.out.below hB4 (Nat.le_refl _), hB3.out.trans (hB4.mono hB3.out.size)⟩
      · have hno : opOk l = false := by rw [Bool.eq_false_iff]; intro q; exact hq (hiff.out.1 q).2.2.2.2
        have HE := Lib.hid hno
        have hbeq : (padV v t == l) = false := by simpa using hq
        have HBE := Lib.hid hbeq
        clear hp hq hP HV hiff hno hbeq
        go_wp2_with (first | (go_at_call 10; refine hP0.out.mono ?_; rintro en w3 ⟨A3, n3, c3, rfl, hO4, hB4⟩) | (go_at_call 11; refine (eqb_any w3 hO4.sl (h.old (hB3.out.trans (hB4.mono hB3.out.size)))).mono ?_; rintro en w4 ⟨rfl, rfl⟩; rw [HBE.out]))
        go_ret3
        exact openPost_refuse HE.out (hB3.out.trans (hB4.mono hB3.out.size))
    · have hno : opOk l = false := by rw [Bool.eq_false_iff]; intro q; exact hp (hiff.out.1 q).2.2.2.1
      have HE := Lib.hid hno
      have hpb : (padE v t != 0) = true := by simpa using hp
      clear hp HV hiff hno
      go_wp2_with (first | (go_at_call 10; refine hP.out.mono ?_; rintro en w3 ⟨A3, n3, c3, rfl, hO4, hB4⟩))
      go_ret3
      exact openPost_refuse HE.out (hB3.out.trans (hB4.mono hB3.out.size))

theorem ropen_any {A : Option Addr} {n c : Nat} {l : List UInt8} (w : World) (h : Sl w A n c l) (hl : n ≤ 100000) : Calls Tryd.prog 15 #[.slice A n c] w (OpenPost w l) := by
  by_cases h1 : 16 ≤ l.length
  · by_cases h2 : (l.getD 0 0).toNat ≤ 1
    · by_cases h3 : opN l + 3 ≤ l.length
      · exact ropen_four w h hl h1 h2 h3
      · exact ropen_three w h hl h1 h2 h3
    · exact ropen_two w h hl h1 h2
  · exact ropen_short w h hl (by omega)
end Go.Proofs.YtblpnlobicjccaaDoor
