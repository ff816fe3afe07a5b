/- Package pad: works. -/
import Derived.Test.YtblpnlobicjccaaDoorPadROpen2
namespace Go.Proofs.YtblpnlobicjccaaDoor
open Go.RowKit

def exV : List UInt8 := [0, 0, 2, 171, 205, 0, 0, 0, 0, 0, 0, 0, 0, 0, 0, 0]
def gr1 : List UInt8 := [1, 0, 0, 0, 0, 0, 0, 0, 0, 0, 0, 0, 0, 0, 0, 0]
def gr2 : List UInt8 := [2, 0, 0, 0, 0, 0, 0, 0, 0, 0, 0, 0, 0, 0, 0, 0]
def gr3 : List UInt8 := [0, 0, 14, 0, 0, 0, 0, 0, 0, 0, 0, 0, 0, 0, 0, 0]
theorem ex_pad : padE [171, 205] false = 0 ∧ padV [171, 205] false = exV := by decide +kernel
theorem gr1_open : opV gr1 = [] ∧ opT gr1 = true ∧ opE gr1 = 0 := by decide +kernel
theorem gr2_open : opV gr2 = [] ∧ opT gr2 = false ∧ opE gr2 = 4 := by decide +kernel
theorem gr3_open : opV gr3 = [] ∧ opT gr3 = false ∧ opE gr3 = 4 := by decide +kernel
theorem gr_sets : (zs 16).set 0 (byteOf 1) = gr1 ∧ gr1.set 0 (byteOf 2) = gr2 ∧ (gr2.set 0 (byteOf 0)).set 2 (byteOf 14) = gr3 := by decide +kernel
theorem Own.len0 {w : World} {base E : Nat} {A : Option Addr} {n c : Nat} (h : Own w base E A n c []) : n = 0 := h.len
/-- A row of the call's own at a place that is known to be another block. -/
theorem Own.below_at {w w' : World} {base E : Nat} {A : Option Addr} {n c : Nat} {l : List UInt8} (h : Own w base E A n c l) (k : Below w.heap.size w w') : Own w' base E A n c l := h.below k (Nat.le_refl _)

set_option maxHeartbeats 2000000 in
theorem pworks_any (w : World) (hT : Tab w) : Calls Tryd.prog 9 #[] w fun e w' => e = .returned (.bool true) ∧ Below w.heap.size w w' := by
  have hc1 : clsI 0 = 16 := rfl
  have hc2 : clsI 13 = 16 := rfl
  have hc3 : clsI 14 = 64 := rfl
  have hc4 : clsI 250 = 256 := rfl
  have hc5 : clsI 251 = 0 := rfl
  have hc6 : clsI (-1) = 0 := rfl
  have hB0 : Below w.heap.size w (w.alloc (.cells #[.int .u8 171, .int .u8 205] 5)) := (Below.refl _ _).alloc (Nat.le_refl _) _
  have hs0 := litSl w [171, 205] #[.int .u8 171, .int .u8 205] 2 (0, 0) rfl rfl (by decide)
  have hP := pad_any false _ (hT.old hB0) hs0 (by decide)
  unfold PadPost at hP
  rw [ex_pad.1, ex_pad.2] at hP
  have HP := Lib.hid hP
  have HT := Lib.hid hT
  have HB0 := Lib.hid hB0
  clear hs0 hP hT hB0
  go_enter Tryd.func9, Tryd.ntmps9
  go_wp2_with fail
  refine HP.out.mono ?_
  rintro e w1 ⟨A1, n1, c1, rfl, hO1', hB1'⟩
  have HB1 : Hid (Below w.heap.size w w1) := HB0.out.trans (hB1'.mono (HB0.out).size)
  have HO1 : Hid (Own w1 w.heap.size 5 A1 n1 c1 exV) := hO1'.mono (HB0.out).size
  have HT1 := Lib.hid (HT.out.old HB1.out)
  clear HB0 HP hO1' hB1'
  have HC := fun n hb hb' => Lib.hid (class_any n w1 HT1.out hb hb')
  go_wp2_with (first | (go_at_call 12; refine (HC _ (by decide) (by decide)).out.mono ?_; rintro e w' ⟨rfl, rfl⟩) | (at_make; refine make_bytes rfl _ _ _ rfl 5 Tryd.underlying22 infoU8 16 rfl rfl rfl rfl (by decide) ?_; intro g w2 hg hO hB; have HO := Lib.hid hO; have HB := Lib.hid hB; obtain ⟨x0, hx0, hc0, hf0⟩ := hO.get rfl (j := 0) (by omega); clear hO hB hx0 hg))
  have k1 := HO.out.set_int HB.out (show 0 < 16 by decide) 1 (by decide) (by decide)
  rw [gr_sets.1] at k1
  have hT3 := HT.out.old (HB1.out.trans (k1.2.mono HB1.out.size))
  have hq := open_any _ hT3 k1.1.sl (by decide)
  unfold OpenPost at hq
  rw [gr1_open.1, gr1_open.2.1, gr1_open.2.2] at hq
  refine hq.mono ?_
  rintro e w3 ⟨A3, n3, c3, rfl, hO3, hB3⟩
  obtain rfl := hO3.len0
  have HG3 := Lib.hid (k1.1.below_at hB3)
  have HBB3 := Lib.hid (k1.2.trans (hB3.mono k1.2.size))
  clear hB3 hO3 hq hT3 k1
  clear HO HB HC HT1 hc0 hf0
  obtain ⟨x0, hx0, hc0, hf0⟩ := HG3.out.get rfl (j := 0) (by omega)
  clear hx0
  go_wp2_with fail
  have k1 := HG3.out.set_int HBB3.out (show 0 < 16 by decide) 2 (by decide) (by decide)
  rw [gr_sets.2.1] at k1
  have hT3 := HT.out.old (HB1.out.trans (k1.2.mono HB1.out.size))
  have hq := open_any _ hT3 k1.1.sl (by decide)
  unfold OpenPost at hq
  rw [gr2_open.1, gr2_open.2.1, gr2_open.2.2] at hq
  refine hq.mono ?_
  rintro e w4 ⟨A4, n4, c4, rfl, hO3, hB3⟩
  obtain rfl := hO3.len0
  have HG4 := Lib.hid (k1.1.below_at hB3)
  have HBB4 := Lib.hid (k1.2.trans (hB3.mono k1.2.size))
  clear hB3 hO3 hq hT3 k1
  clear HG3 HBB3 hc0 hf0
  obtain ⟨x0, hx0, hc0, hf0⟩ := HG4.out.get rfl (j := 0) (by omega)
  obtain ⟨x2, hx2, hc2, hf2⟩ := HG4.out.get rfl (j := 2) (by omega)
  clear hx0 hx2
  go_wp2_with fail
  have k0 := HG4.out.set_int HBB4.out (show 0 < 16 by decide) 0 (by decide) (by decide)
  have k1 := k0.1.set_int k0.2 (show 2 < 16 by decide) 14 (by decide) (by decide)
  clear k0
  rw [gr_sets.2.2] at k1
  have hT3 := HT.out.old (HB1.out.trans (k1.2.mono HB1.out.size))
  have hq := open_any _ hT3 k1.1.sl (by decide)
  unfold OpenPost at hq
  rw [gr3_open.1, gr3_open.2.1, gr3_open.2.2] at hq
  refine hq.mono ?_
  rintro e w5 ⟨A5, n5, c5, rfl, hO3, hB3⟩
  obtain rfl := hO3.len0
  have HG5 := Lib.hid (k1.1.below_at hB3)
  have HBB5 := Lib.hid (k1.2.trans (hB3.mono k1.2.size))
  clear hB3 hO3 hq hT3 k1
  clear HG4 HBB4 hc0 hf0 hc2 hf2
  have HEX := Lib.hid (HO1.out.below_at HBB5.out)
  go_wp2_with (go_at_call 11; refine (eqb_any _ (HEX.out.sl.alloc _) (litSl w5 exV _ 16 _ rfl rfl (by decide))).mono ?_; rintro e w' ⟨rfl, rfl⟩)
  go_ret
  refine ⟨by simp, ?_⟩
  exact (HB1.out.trans (HBB5.out.mono HB1.out.size)).alloc (HB1.out.trans (HBB5.out.mono HB1.out.size)).size _
end Go.Proofs.YtblpnlobicjccaaDoor
