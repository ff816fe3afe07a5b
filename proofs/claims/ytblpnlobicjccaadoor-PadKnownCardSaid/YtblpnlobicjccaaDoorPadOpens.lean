/- Package pad: the law's PadOpens. -/
import Derived.Test.YtblpnlobicjccaaDoorPadPads
namespace Go.Proofs.YtblpnlobicjccaaDoor
open Go.RowKit

set_option maxHeartbeats 2000000 in
theorem padopens_any {A : Option Addr} {n c : Nat} {l : List UInt8} (w : World) (hT : Tab w) (h : Sl w A n c l) (hl : n ≤ 400) :
    Calls Tryd.prog 6 #[.slice A n c] w fun e w' => e = .returned (.bool true) ∧ Below w.heap.size w w' := by
  obtain rfl := h.len
  have hmin : min (l.length : Int) 400 = (l.length : Int) := by omega
  have hhi := fun w => run_cut_hi w A l.length c l.length h.cap
  have HC1 := Lib.hid (copyb_any w h (by omega))
  have HT := Lib.hid hT
  clear hT
  go_enter Tryd.func6, Tryd.ntmps6
  go_wp2_with fail
  refine HC1.out.mono ?_
  rintro e w1 ⟨A1, c1, rfl, hO1, hB1⟩
  have HP := Lib.hid (open_any w1 (HT.out.old hB1) hO1.sl (by omega))
  have HO1 := Lib.hid hO1
  have HB1 := Lib.hid hB1
  clear hO1 hB1 hhi hmin
  go_wp2_with fail
  refine HP.out.mono ?_
  rintro e w2 ⟨A2, n2, c2, rfl, hO2, hB2⟩
  have HB2 := Lib.hid (HB1.out.trans (hB2.mono HB1.out.size))
  have HR := Lib.hid (ropen_any w2 (h.old HB2.out) (by omega))
  have HO2 := Lib.hid hO2
  have HB12 := Lib.hid hB2
  clear hO2 hB2 HP
  go_wp2_with fail
  refine HR.out.mono ?_
  rintro e w3 ⟨A3, n3, c3, rfl, hO3, hB3⟩
  have HB3 := Lib.hid (HB2.out.trans (hB3.mono HB2.out.size))
  have HB13 := Lib.hid (HB12.out.trans (hB3.mono HB12.out.size))
  have HO2' := Lib.hid (HO2.out.below_at hB3)
  have HO3 := Lib.hid hO3
  have HT3 := Lib.hid (HT.out.old HB3.out)
  have HO13 := Lib.hid ((HO1.out.below_at HB13.out))
  have ha2 := HO1.out.apart HO2.out (Nat.le_refl _)
  have ha3 := HO1.out.apart HO3.out HB12.out.size
  have HA2 := Lib.hid ha2
  have HA3 := Lib.hid ha3
  clear hO3 hB3 HR HB12 HB13 HO2 ha2 ha3
  generalize hV : opV l = V at *
  generalize hE : opE l = E at *
  generalize hU : opT l = U at *
  clear hV hE hU
  have hIn := Lib.hid (eqb_any w3 HO13.out.sl (h.old HB3.out))
  go_wp2_with fail
  refine (eqb_any w3 HO2'.out.sl HO3.out.sl).mono ?_
  rintro e w' ⟨rfl, rfl⟩
  go_wp2_with fail
  refine hIn.out.mono ?_
  rintro e w' ⟨rfl, rfl⟩
  clear hIn
  go_wp2_with fail
  go_loopw [10] (fun vi wr => ∃ (k : Nat) (l' : List UInt8), vi = .int .i64 k ∧ k ≤ l.length ∧ Own wr w.heap.size 5 A1 l.length c1 l' ∧ Fr (fun b => blkOf A1 = some b) w3 wr) (fun vi _ => l.length - (intOf vi).toNat)
  case atStart => exact ⟨0, l, rfl, by omega, HO13.out, Fr.refl _ _⟩
  case round =>
    obtain ⟨k, l', rfl, hk, hO, hF⟩ := hrel
    by_cases hlt : k < l.length
    · obtain ⟨g, rfl⟩ := hO.at_ (by omega)
      obtain ⟨x, hx, cx, fx⟩ := hO.get rfl hlt
      obtain ⟨y, hy, hxy⟩ := xor5a x
      have hlt' : (k : Int) < (l.length : Int) := by omega
      have HO := Lib.hid hO
      clear hx hO
      go_wp2
      go_roundw
      case rel =>
        have := HO.out.set_int (Below.refl _ _) hlt (y : Int) (by omega) (by omega)
        exact ⟨k + 1, _, by go_num, by omega, this.1, hF.setCell (p := ⟨g, k, none⟩) (.inl rfl) _⟩
      case measure => simp [intOf]; omega
    · have HB4 : Below w.heap.size w wr := HB3.out.trans (hF.to_below HB3.out.size fun b hb => (HO13.out.lt b hb).1)
      have hs2 := HO2'.out.sl.fr hF (fun b hb => HA2.out b hb)
      have hs3 := HO3.out.sl.fr hF (fun b hb => HA3.out b hb)
      have HW := Lib.hid (pworks_any wr (HT.out.old HB4))
      have HE2 := Lib.hid (eqb_any wr hs2 hs3)
      clear hs2 hs3 hO hF
      go_wp2_with (first | (go_at_call 11; refine HE2.out.mono ?_; rintro e w' ⟨rfl, rfl⟩) | (go_at_call 9; refine HW.out.mono ?_; rintro e w5 ⟨rfl, hB5⟩))
      go_ret
      exact ⟨by simp, HB4.trans (hB5.mono HB4.size)⟩
end Go.Proofs.YtblpnlobicjccaaDoor
