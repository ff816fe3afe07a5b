/- Package pad: the law PadKnown. -/
import Derived.Test.YtblpnlobicjccaaDoorPadFull
namespace Go.Proofs.YtblpnlobicjccaaDoor
open Go.RowKit
def ends5 : Array Value := #[.int .i64 (-9223372036854775808), .int .i64 (-1), .int .i64 250, .int .i64 251, .int .i64 9223372036854775807]
theorem ends5_at (k : Nat) (hk : k < 5) : ∃ z : Int, ends5[k]? = some (.int .i64 z) ∧ -9223372036854775808 ≤ z ∧ z ≤ 9223372036854775807 := by
  match k, hk with
  | 0, _ => exact ⟨_, rfl, by decide, by decide⟩
  | 1, _ => exact ⟨_, rfl, by decide, by decide⟩
  | 2, _ => exact ⟨_, rfl, by decide, by decide⟩
  | 3, _ => exact ⟨_, rfl, by decide, by decide⟩
  | 4, _ => exact ⟨_, rfl, by decide, by decide⟩
theorem base_le {w : World} {base E : Nat} {A : Option Addr} {n c : Nat} {l : List UInt8} (h : Own w base E A n c l) (hn : 0 < n) : base ≤ w.heap.size := by
  obtain ⟨g, rfl⟩ := h.at_ hn
  have := h.lt g rfl
  omega

set_option maxRecDepth 1000000 in
set_option maxHeartbeats 8000000 in
theorem padknown_any (w : World) (hT : Tab w) : Calls Tryd.prog 3 #[] w fun e w' => e = .returned (.bool true) ∧ Below w.heap.size w w' := by
  have HT := Lib.hid hT
  clear hT
  go_enter Tryd.func3, Tryd.ntmps3
  go_wp2_with (at_make; refine make_bytes rfl _ _ _ rfl 5 Tryd.underlying22 infoU8 300 rfl rfl rfl rfl (by decide) ?_; intro g w1 hg hO hB; have HO := Lib.hid hO; have HB := Lib.hid hB; clear hO hB hg)
  go_loopw [2] (fun vi wr => ∃ (k : Nat) (l : List UInt8), vi = .int .i64 k ∧ k ≤ 300 ∧ Own wr w.heap.size 5 (some ⟨g, 0, none⟩) 300 300 l ∧ Below w.heap.size w wr) (fun vi _ => 300 - (intOf vi).toNat)
  case atStart => exact ⟨0, _, rfl, by omega, HO.out, HB.out⟩
  case round =>
    obtain ⟨k, l, rfl, hk, hO, hB⟩ := hrel
    by_cases hlt : k < 300
    · obtain ⟨x, hx, cx, fx⟩ := hO.get rfl hlt
      have hlt' : (k : Int) < 300 := by omega
      have HO' := Lib.hid hO
      have HB' := Lib.hid hB
      clear hx hO hB
      go_wp2
      go_roundw
      case rel =>
        refine ⟨k + 1, _, by go_num, by omega, (HO'.out.set_int HB'.out hlt _ ?_ ?_).1, (HO'.out.set_int HB'.out hlt _ ?_ ?_).2⟩ <;> omega
      case measure => simp [intOf]; omega
    · have hF : Fu w g l wr := ⟨hB, hO, HT.out.old hB, HT.out.pos⟩
      have hgw := (hO.lt g rfl).1
      have HF := Lib.hid hF
      clear hO hB HO HB hF
      go_wp2_with fail
      go_loopw [3] (fun vi wr => ∃ k : Nat, vi = .int .i64 k ∧ k ≤ 300 ∧ Fu w g l wr) (fun vi _ => 300 - (intOf vi).toNat)
      case atStart => exact ⟨0, rfl, by omega, HF.out⟩
      case round =>
        obtain ⟨k, rfl, hk, F1⟩ := hrel
        clear HF
        by_cases hlt : k < 300
        · have hlt' : (k : Int) < 300 := by omega
          have hhi := fun w => run_cut_hi w (some ⟨g, 0, none⟩) 300 300 k (by omega)
          have hmk := run_make_bytes k (by omega)
          have FF := Lib.hid F1
          clear F1
          go_wp2_with fail
          refine (FF.out.pads false (k : Int) (show k ≤ 300 by omega) (by omega) (by omega)).mono ?_
          rintro e w2 ⟨rfl, F2⟩
          have FF2 := Lib.hid F2
          clear F2 FF
          go_wp2_with fail
          refine (FF2.out.pads true _ (show k ≤ 300 by omega) (by omega) (by omega)).mono ?_
          rintro e w3 ⟨rfl, F2⟩
          have FF3 := Lib.hid F2
          clear F2 FF2
          go_wp2_with fail
          refine (FF3.out.back _ (show k ≤ 300 by omega)).mono ?_
          rintro e w4 ⟨rfl, F2⟩
          have FF4 := Lib.hid F2
          clear F2 FF3
          go_wp2_with fail
          refine (FF4.out.opens (FF4.out.sl (show k ≤ 300 by omega)) (by omega)).mono ?_
          rintro e w5 ⟨rfl, F2⟩
          have FF5 := Lib.hid F2
          clear F2 FF4
          go_wp2_with fail
          refine ((FF5.out.alloc _).opens (Own.madeN w5 k (by omega)).sl (by omega)).mono ?_
          rintro e w6 ⟨rfl, F2⟩
          have FF6 := Lib.hid F2
          clear F2 FF5 hmk
          by_cases hle : k ≤ 250
          · have hle' : (k : Int) ≤ 250 := by omega
            go_wp2_with fail
            refine (FF6.out.pad (show k ≤ 250 by omega)).mono ?_
            rintro e w7 ⟨A2, n2, c2, m2, rfl, F7, O7, hn16, hn256⟩
            have hcap2 := O7.cap
            have hn1 : 1 ≤ n2 := by omega
            have hhi3 := fun w => run_cut_hi' w A2 n2 c2 (n2 - 1) (by omega) ((n2 : Int) - 1) (by omega)
            have FF7 := Lib.hid F7
            have OO7 := Lib.hid O7
            clear F7 O7 FF6
            go_wp2_with fail
            refine (FF7.out.opensB OO7.out (by omega) (show n2 - 1 ≤ n2 by omega)).mono ?_
            rintro e w8 ⟨rfl, F8, O8, _⟩
            have FF8 := Lib.hid F8
            have OO8 := Lib.hid O8
            clear F8 O8 FF7 OO7 hhi3
            go_wp2_with fail
            refine (FF8.out.copy OO8.out (by omega)).mono ?_
            rintro e w9 ⟨A3, c3, rfl, F9, O9, C9⟩
            have FF9 := Lib.hid F9
            have OO9 := Lib.hid O9
            have CC9 := Lib.hid C9
            clear F9 O9 C9
            go_wp2_with (at_builtin; refine app_bytes_w rfl _ _ rfl rfl rfl (CC9.out.alloc _) (oneZero _) (by omega) (by have := FF9.out.hB.size; have := CC9.out; simp; exact Nat.le_succ_of_le (base_le CC9.out (by omega))) ?_; intro A4 c4 w10 O10 fr10; have FF10 := Lib.hid ((FF9.out.alloc _).fr fr10 (CC9.out.alloc _) FF8.out.hB.size (FF8.out.hO.lt g rfl).2); have OO10 := Lib.hid ((OO9.out.alloc _).past fr10 OO8.out (CC9.out.alloc _) (Nat.le_refl _)); have CC10 := Lib.hid O10; clear O10 fr10)
            refine (FF10.out.opensB CC10.out (show n2 + 1 ≤ 400 by omega) (Nat.le_refl _)).mono ?_
            rintro e w11 ⟨rfl, F11, _, B11⟩
            have FF11 := Lib.hid F11
            have OO11 := Lib.hid (OO10.out.below_at B11)
            clear F11 B11 FF10 OO10 CC10 FF9 OO9 CC9 FF8 OO8
            go_wp2_with fail
            refine (FF11.out.copy OO11.out (by omega)).mono ?_
            rintro e w12 ⟨A5, c5, rfl, F12, O12, C12⟩
            have FF12 := Lib.hid F12
            have CC12 := Lib.hid C12
            clear F12 O12 C12
            go_wp2_with (at_builtin; refine app_zs_w rfl _ _ 3 Tryd.underlying3 rfl 48 rfl rfl (by decide) CC12.out (by omega) (base_le CC12.out (by omega)) ?_; intro A6 c6 w13 O13 fr13; have FF13 := Lib.hid (FF12.out.fr fr13 CC12.out FF11.out.hB.size (FF11.out.hO.lt g rfl).2); have CC13 := Lib.hid O13; clear O13 fr13)
            refine (FF13.out.opensB CC13.out (show n2 + 48 ≤ 400 by omega) (Nat.le_refl _)).mono ?_
            rintro e w14 ⟨rfl, F14, _, _⟩
            clear FF13 CC13 FF12 CC12 FF11 OO11
            have FF14 := Lib.hid F14
            clear F14
            go_wp2
            go_roundw
            case rel => exact ⟨k + 1, by go_num, by omega, FF14.out⟩
            case measure => simp [intOf]; omega
          · have hle' : ¬ (k : Int) ≤ 250 := by omega
            have hhi2 := fun w => run_cut_hi' w (some ⟨g, 0, none⟩) 300 300 250 (by omega) 250 rfl
            go_wp2_with fail
            refine (FF6.out.pad (show 250 ≤ 250 by omega)).mono ?_
            rintro e w7 ⟨A2, n2, c2, m2, rfl, F7, O7, hn16, hn256⟩
            have hcap2 := O7.cap
            have hn1 : 1 ≤ n2 := by omega
            have hhi3 := fun w => run_cut_hi' w A2 n2 c2 (n2 - 1) (by omega) ((n2 : Int) - 1) (by omega)
            have FF7 := Lib.hid F7
            have OO7 := Lib.hid O7
            clear F7 O7 FF6
            go_wp2_with fail
            refine (FF7.out.opensB OO7.out (by omega) (show n2 - 1 ≤ n2 by omega)).mono ?_
            rintro e w8 ⟨rfl, F8, O8, _⟩
            have FF8 := Lib.hid F8
            have OO8 := Lib.hid O8
            clear F8 O8 FF7 OO7 hhi3
            go_wp2_with fail
            refine (FF8.out.copy OO8.out (by omega)).mono ?_
            rintro e w9 ⟨A3, c3, rfl, F9, O9, C9⟩
            have FF9 := Lib.hid F9
            have OO9 := Lib.hid O9
            have CC9 := Lib.hid C9
            clear F9 O9 C9
            go_wp2_with (at_builtin; refine app_bytes_w rfl _ _ rfl rfl rfl (CC9.out.alloc _) (oneZero _) (by omega) (by have := FF9.out.hB.size; have := CC9.out; simp; exact Nat.le_succ_of_le (base_le CC9.out (by omega))) ?_; intro A4 c4 w10 O10 fr10; have FF10 := Lib.hid ((FF9.out.alloc _).fr fr10 (CC9.out.alloc _) FF8.out.hB.size (FF8.out.hO.lt g rfl).2); have OO10 := Lib.hid ((OO9.out.alloc _).past fr10 OO8.out (CC9.out.alloc _) (Nat.le_refl _)); have CC10 := Lib.hid O10; clear O10 fr10)
            refine (FF10.out.opensB CC10.out (show n2 + 1 ≤ 400 by omega) (Nat.le_refl _)).mono ?_
            rintro e w11 ⟨rfl, F11, _, B11⟩
            have FF11 := Lib.hid F11
            have OO11 := Lib.hid (OO10.out.below_at B11)
            clear F11 B11 FF10 OO10 CC10 FF9 OO9 CC9 FF8 OO8
            go_wp2_with fail
            refine (FF11.out.copy OO11.out (by omega)).mono ?_
            rintro e w12 ⟨A5, c5, rfl, F12, O12, C12⟩
            have FF12 := Lib.hid F12
            have CC12 := Lib.hid C12
            clear F12 O12 C12
            go_wp2_with (at_builtin; refine app_zs_w rfl _ _ 3 Tryd.underlying3 rfl 48 rfl rfl (by decide) CC12.out (by omega) (base_le CC12.out (by omega)) ?_; intro A6 c6 w13 O13 fr13; have FF13 := Lib.hid (FF12.out.fr fr13 CC12.out FF11.out.hB.size (FF11.out.hO.lt g rfl).2); have CC13 := Lib.hid O13; clear O13 fr13)
            refine (FF13.out.opensB CC13.out (show n2 + 48 ≤ 400 by omega) (Nat.le_refl _)).mono ?_
            rintro e w14 ⟨rfl, F14, _, _⟩
            clear FF13 CC13 FF12 CC12 FF11 OO11
            have FF14 := Lib.hid F14
            clear F14
            go_wp2
            go_roundw
            case rel => exact ⟨k + 1, by go_num, by omega, FF14.out⟩
            case measure => simp [intOf]; omega
        · have FF := Lib.hid F1
          clear F1
          go_wp2_with fail
          go_loopw [6] (fun vi wr => ∃ k : Nat, vi = .int .i64 k ∧ k ≤ 256 ∧ Fu w g l wr) (fun vi _ => 256 - (intOf vi).toNat)
          case atStart => exact ⟨0, rfl, by omega, FF.out⟩
          case round =>
            obtain ⟨c, rfl, hc, F1⟩ := hrel
            clear FF
            by_cases hlt3 : c < 256
            · have hlt3' : (c : Int) < 256 := by omega
              obtain ⟨r, hr, hr3⟩ : ∃ r : Nat, r < 3 ∧ (c : Int) % 3 = (r : Int) := ⟨c % 3, by omega, by omega⟩
              have hr4 : (c : Int).tmod 3 = (r : Int) := by rw [Int.tmod_eq_emod_of_nonneg (by omega)]; exact hr3
              have hr5 : (r : Int) < 16 := by omega
              have FF1 := Lib.hid F1
              have hgr := (F1.hO.lt g rfl).2
              clear F1
              go_wp2_with (at_make; refine make_bytes rfl _ _ _ rfl 5 Tryd.underlying22 infoU8 16 rfl rfl rfl rfl (by decide) ?_; intro gb w2 hgb hO hB; have HO2 := Lib.hid hO; have HB2 := Lib.hid hB; obtain ⟨x0, hx0, hc0, hf0⟩ := hO.get rfl (j := r) (by omega); clear hO hB hx0 hgb)
              have k1 := HO2.out.set_int HB2.out (show r < 16 by omega) (c : Int) (by omega) (by omega)
              have FF2 := Lib.hid (FF1.out.step k1.2)
              have KK1 := Lib.hid k1.1
              have hsz1 := FF1.out.hB.size
              clear k1 HO2 hc0 hf0
              refine (FF2.out.opensB KK1.out (by omega) (Nat.le_refl _)).mono ?_
              rintro e w3 ⟨rfl, F3, O3, B3⟩
              obtain ⟨x1, hx1, hc1, hf1⟩ := O3.get rfl (j := 15) (by omega)
              have k3 := O3.set_int (Below.refl _ _) (show 15 < 16 by decide) 1 (by decide) (by decide)
              have FF3 := Lib.hid (F3.part k3.2 hsz1 hgr)
              have KK3 := Lib.hid k3.1
              clear F3 O3 B3 hx1 k3 FF2 KK1 HB2
              go_wp2_with fail
              refine (FF3.out.opensB KK3.out (by omega) (Nat.le_refl _)).mono ?_
              rintro e w4 ⟨rfl, F4, _, _⟩
              have FF4 := Lib.hid F4
              clear F4 FF3 KK3 hc1 hf1
              go_wp2
              go_roundw
              case rel => exact ⟨c + 1, by go_num, by omega, FF4.out⟩
              case measure => simp [intOf]; omega
            · have FF := Lib.hid F1
              clear F1
              go_wp2_with fail
              have HBk : Hid (Blk (wr.alloc (.cells ends5 3)) wr.heap.size 3 ends5) := Blk.new _ _ _
              go_loopw [9] (fun vi wx => ∃ k : Nat, vi = .int .i64 k ∧ k ≤ 5 ∧ Fu w g l wx ∧ Hid (Blk wx wr.heap.size 3 ends5)) (fun vi _ => 5 - (intOf vi).toNat)
              case atStart => exact ⟨0, rfl, by omega, FF.out.alloc _, HBk⟩
              case round =>
                obtain ⟨j, rfl, hj, F1, hBl⟩ := hrel
                clear FF HBk
                have FF1 := Lib.hid F1
                clear F1
                by_cases hlt4 : j < 5
                · obtain ⟨z, hz, hz0, hz1⟩ := ends5_at j hlt4
                  have hlt4' : (j : Int) < 5 := by omega
                  have cz := (hBl.out.cell j).trans hz
                  have HP := Lib.hid (FF1.out.padsNil z hz0 hz1)
                  clear hz hz0 hz1
                  go_wp2_with fail
                  refine HP.out.mono ?_
                  rintro e w5 ⟨rfl, F5, B5⟩
                  have FF5 := Lib.hid F5
                  have HBl5 : Hid (Blk w5 _ 3 ends5) := hBl.out.below B5 hBl.out.lt
                  clear F5 B5 FF1 hBl HP cz
                  go_wp2
                  go_roundw
                  case rel => exact ⟨j + 1, by go_num, by omega, FF5.out, HBl5⟩
                  case measure => simp [intOf]; omega
                · go_wp2_with (go_at_call 9; refine FF1.out.works.mono ?_; rintro e w5 ⟨rfl, F5⟩)
                  go_ret
                  exact ⟨by simp, F5.hB⟩
end Go.Proofs.YtblpnlobicjccaaDoor
