/- Package disk: the law's step: a call of both disks. -/
import Derived.Test.YtblpnlobicjccaaRefF
import Derived.Test.YtblpnlobicjccaaKeepsPure
import Derived.Deep.LoopGhost
import Derived.Deep.DeepCutAuto
import Derived.Deep.CutBlock
namespace Go.Proofs.Ytblpnlobicjccaa
open Go.RowKit

set_option maxRecDepth 100000 in
set_option maxHeartbeats 4000000 in
theorem dstep_any {w : World} {base P P' : Nat} {s : DS} {A2 : Option Addr} {n2 c2 : Nat} {m : List UInt8} (x y : Int) (z : Bool) (hT : TwoD w base P P' (fun _ => False) s s) (hS : Sl w A2 n2 c2 m) (hlow : ∀ b, blkOf A2 = some b → m ≠ [] → b < base)
    (hy : y ≤ 9223372036854775807) (htl : s.t.length ≤ 900) :
    Calls Try.prog 42 #[.pointer (some ⟨P, 0, none⟩), .pointer (some ⟨P', 0, none⟩), .agg #[.int .i64 x, .int .i64 y, .bool z, .slice A2 n2 c2]] w fun en w' => en = .returned (.bool true) ∧
      (∃ s1, TwoD w' base P P' (fun _ => False) s1 s1 ∧ s1.t.length ≤ s.t.length + 1) ∧ Below base w w' := by
  obtain ⟨k, hk⟩ : ∃ k, k = min n2 300 := ⟨_, rfl⟩
  have hmin : (if (300 : Int) < (n2 : Int) then (300 : Int) else (n2 : Int)) = (k : Int) := by split <;> omega
  have hk300 : k ≤ 300 := by omega
  have hkn : k ≤ n2 := by omega
  have hcap := hS.cap
  have hhi := fun w => run_cut_hi w A2 n2 c2 k (by omega)
  obtain ⟨mm, hmm⟩ : ∃ mm, m.take k = mm := ⟨_, rfl⟩
  have HLow := Lib.hid (show mm ≠ [] → ∀ b, blkOf A2 = some b → b < base from fun hz b hb => hlow b hb (fun e => hz (by rw [← hmm, e]; simp)))
  have HS := Lib.hid (hmm ▸ hS.take hkn)
  have hbs := hT.base_
  have HBS := Lib.hid hbs
  have HT := Lib.hid hT
  have HTL := Lib.hid htl
  clear hk hS hcap hkn hlow hmm hbs hT htl
  go_enter Try.func42, Try.ntmps42
  go_wp2_with fail
  have hX := Blk.new w 28 #[.int .i64 x, .int .i64 y, .bool z, .slice A2 k c2]
  have hfr := (Fr.refl (fun _ => False) w).alloc (.cells #[.int .i64 x, .int .i64 y, .bool z, .slice A2 k c2] 28)
  have hB3 : Below w.heap.size w (w.alloc (.cells #[.int .i64 x, .int .i64 y, .bool z, .slice A2 k c2] 28)) := (Below.refl _ w).alloc (Nat.le_refl _) _
  have hS3 := HS.out.fr hfr (fun _ _ => id)
  obtain ⟨X, hX0⟩ : ∃ X, X = w.heap.size := ⟨_, rfl⟩
  rw [← hX0] at hX ⊢
  have HX0 := Lib.hid hX0
  clear hX0 hfr
  generalize w.alloc (.cells #[.int .i64 x, .int .i64 y, .bool z, .slice A2 k c2] 28) = w3 at *
  refine (copyb_any w3 hS3 (by omega)).mono ?_
  rintro en w4 ⟨A4, c4, rfl, hO4, hB4⟩
  have hkl := HS.out.len
  have hX4 := hX.below hB4 hX.lt
  have hB34 := hB3.trans (hB4.mono hB3.size)
  have HT4 := Lib.hid (HT.out.avoid hB34)
  have hV : ∀ b, b = X ∨ blkOf A4 = some b → w.heap.size ≤ b ∧ b < w4.heap.size := by
    rintro b (rfl | h)
    · exact ⟨Nat.le_of_eq HX0.out.symm, hX4.lt⟩
    · have := hO4.lt b h; have := hB3.size; exact ⟨by omega, by omega⟩
  obtain ⟨V, hVV⟩ : ∃ V : Nat → Prop, (fun b => w.heap.size ≤ b ∧ b < w4.heap.size) = V := ⟨_, rfl⟩
  rw [hVV] at HT4
  have HV := Lib.hid (show ∀ b, b = X ∨ blkOf A4 = some b → V b by rw [← hVV]; exact hV)
  have HB4 := Lib.hid (hB34.mono HBS.out)
  have HB5w := Lib.hid (show base ≤ w3.heap.size from Nat.le_trans HBS.out hB3.size)
  have HS4 := Lib.hid (hS3.old hB4)
  have HX4 := Lib.hid hX4
  have HO4 := Lib.hid hO4
  have HKL := Lib.hid hkl
  have q1 : w4.cell? ⟨X, 1, none⟩ = some (.int .i64 y) := hX4.cell 1
  have q2 : w4.cell? ⟨X, 2, none⟩ = some (.bool z) := hX4.cell 2
  clear hX hX4 hS3 hB3 hB4 hB34 hVV hV hO4 hkl HS HT
  go_upto_if 26 with fail
  go_cut [8] (fun v8 wc => ∃ nn : Int, v8 = .int .i64 nn ∧ nn ≤ 9223372036854775807 ∧ Hid (TwoD wc base P P' V s s) ∧ Hid (Own wc w3.heap.size 5 A4 mm.length c4 mm) ∧ Hid (Blk wc X 28 #[.int .i64 x, .int .i64 y, .bool z, .slice A2 k c2]) ∧ Hid (Sl wc A2 k c2 mm) ∧ Hid (Below base w wc))
  case first =>
    cases z
    · obtain ⟨AR, cR, TAR, cTR, vsR, hbR, hslR, hrR, heR, hlR, htR⟩ := HT4.out.cells
      have r0 : w4.cell? ⟨P', 0, none⟩ = some (.slice AR s.b.length cR) := hbR.cell 0
      have e1 : IntKind.i64.wrap ((s.b.length : Int) + 3) = (s.b.length : Int) + 3 := by rw [IntKind.wrap_i64]; omega
      have HBr := Lib.hid (bring_any y ((s.b.length : Int) + 3) w4.drew (by omega) (by omega))
      have HNB := Lib.hid (show y % ((s.b.length : Int) + 3) ≤ 9223372036854775807 by have := Int.emod_lt_of_pos y (show (0 : Int) < (s.b.length : Int) + 3 by omega); omega)
      have hlR2 : s.b.length ≤ 1048576 := hlR
      clear hbR hslR hrR heR htR hlR
      go_wp2_with fail
      go_region_law (rw [if_pos (by rfl)]; go_simp; go_at_call 14; refine HBr.out.mono ?_; rintro en w5 ⟨rfl, rfl⟩; go_wp2_with fail)
      all_goals
        go_wp2
        go_meet
        case rel => exact ⟨_, rfl, HNB.out, HT4.out.drew, HO4.out.drew, HX4.out.drew, HS4.out.drew, HB4.out.drew⟩
    · go_wp2_with fail
      go_meet
      case rel => exact ⟨_, rfl, hy, HT4.out, HO4.out, HX4.out, HS4.out, HB4.out⟩
  case rest =>
    obtain ⟨nn, rfl, hnn, HT5, HO5, HX5, HS5, HB5⟩ := hcut
    rename World => wc
    have q0 : wc.cell? ⟨X, 0, none⟩ = some (.int .i64 x) := HX5.out.cell 0
    have q3 : wc.cell? ⟨X, 3, none⟩ = some (.slice A2 k c2) := HX5.out.cell 3
    clear q1 q2 HT4 HO4 HX4 HS4 HB4
    go_wp2_with fail
    refine (bring_any x 10 wc (by decide) (by decide)).mono ?_
    rintro en w5 ⟨rfl, rfl⟩
    have h10 : (x % 10 = 3 ∨ x % 10 = 4) ∨ x % 10 = 5 ∨ x % 10 = 6 ∨ x % 10 = 7 ∨ x % 10 = 8 ∨ x % 10 = 9 ∨ (x % 10 = 0 ∨ x % 10 = 1 ∨ x % 10 = 2) := by omega
    generalize x % 10 = r at *
    go_upto_block 0 with fail
    go_cut [9] (fun v9 wd => v9 = .bool true ∧ ∃ s1 : DS, Hid (TwoD wd base P P' V s1 s1) ∧ Hid (s1.t.length ≤ s.t.length + 1) ∧ Hid (Own wd w3.heap.size 5 A4 mm.length c4 mm) ∧ Hid (Below base w wd))
    case first =>
      have fin : ∀ (w6 : World) (s1 : DS), TwoD w6 base P P' V s1 s1 → s1.t.length ≤ s.t.length + 1 → Fr (fun b => base ≤ b ∧ ¬ V b) wc w6 → ∃ s1 : DS, Hid (TwoD w6 base P P' V s1 s1) ∧ Hid (s1.t.length ≤ s.t.length + 1) ∧ Hid (Own w6 w3.heap.size 5 A4 mm.length c4 mm) ∧ Hid (Below base w w6) :=
        fun w6 s1 h1 h2 h3 => ⟨s1, h1, h2, HO5.out.fr h3 (fun b hb hs => hs.2 (HV.out b (.inr hb))), Fr.below HB5.out h3 (Nat.le_trans HBS.out HB5.out.size) (fun b hb => hb.1)⟩
      have FIN := Lib.hid fin
      have HML := Lib.hid (show mm.length ≤ 2000000 by have := HKL.out; omega)
      clear fin
      rcases h10 with h | rfl | rfl | rfl | rfl | rfl | h
      · rcases h with rfl | rfl
        all_goals
          have HA := Lib.hid (HT5.out.prog (fun F hD hF => dsync_any hD))
          go_wp2_with fail
          refine HA.out.mono ?_
          rintro en w6 ⟨rfl, hT6, hF6⟩
          have HA2 := Lib.hid (hT6.ref (fun F hR hF => rsync_any hR))
          have HF6 := Lib.hid hF6
          clear hT6 hF6 HA
          go_wp2_with fail
          refine HA2.out.mono ?_
          rintro en w7 ⟨rfl, hT7, hF7⟩
          have HF := Lib.hid (FIN.out w7 _ hT7 (by rw [sync_t]; omega) (HF6.out.trans hF7 (fun b hb => .inl hb)))
          clear hT7 hF7 HA2
          go_wp2
          go_meet
          case rel => exact ⟨by simp, HF.out⟩
      · have HA := Lib.hid (HT5.out.drew.prog (fun F hD hF => dswap_any hD HO5.out.sl.drew (fun _ b hb hf => (hF b hf).2 (HV.out b (.inr hb))) HTL.out HML.out))
        go_wp2_with fail
        go_region_law (first | (rw [if_pos (by rfl)]; go_simp; go_at_call 17; refine HA.out.mono ?_; rintro en w6 ⟨rfl, hT6, hF6⟩; have q6 : w6.cell? ⟨X, 3, none⟩ = some (.slice A2 k c2) := (HX5.out.drew.fr hF6 (fun hs => hs.2 (HV.out X (.inl rfl)))).cell 3; have hS6 := HS5.out.drew.fr' hF6 (fun hz b hb hs => absurd hs.1 (Nat.not_le.2 (HLow.out hz b hb))); have HF6 := Lib.hid hF6; have HA2 := Lib.hid (hT6.ref (fun F hR hF => rswap_any hR hS6 (fun hz b hb hf => absurd (hF b hf).1 (Nat.not_le.2 (HLow.out hz b hb))) HTL.out HML.out)); clear hT6 hF6 hS6; go_wp2_with fail) | (rw [if_pos (by rfl)]; go_simp; go_at_call 76; refine HA2.out.mono ?_; rintro en w7 ⟨rfl, hT7, hF7⟩; have HF := Lib.hid (FIN.out w7 _ hT7 (swap_t _ _) (((Fr.refl _ wc).drew.trans HF6.out (fun b hb => .inl hb)).trans hF7 (fun b hb => .inl hb))); clear hT7 hF7; go_wp2_with fail))
        all_goals
          go_wp2
          go_meet
          case rel => exact ⟨by simp, HF.out⟩
      · have HA := Lib.hid (HT5.out.prog (fun F hD hF => dcut_any nn hD))
        go_wp2_with fail
        refine HA.out.mono ?_
        rintro en w6 ⟨rfl, hT6, hF6⟩
        have HA2 := Lib.hid (hT6.ref (fun F hR hF => rcut_any nn hR))
        have HF6 := Lib.hid hF6
        clear hT6 hF6 HA
        go_wp2_with fail
        refine HA2.out.mono ?_
        rintro en w7 ⟨rfl, hT7, hF7⟩
        have HF := Lib.hid (FIN.out w7 _ hT7 (by rw [cut_t]; omega) (HF6.out.trans hF7 (fun b hb => .inl hb)))
        clear hT7 hF7 HA2
        go_wp2
        go_meet
        case rel => exact ⟨by simp, HF.out⟩
      · have HA := Lib.hid (HT5.out.prog (fun F hD hF => darm_any nn hnn hD))
        go_wp2_with fail
        refine HA.out.mono ?_
        rintro en w6 ⟨rfl, hT6, hF6⟩
        have HA2 := Lib.hid (hT6.ref (fun F hR hF => rarm_any nn hR))
        have HF6 := Lib.hid hF6
        clear hT6 hF6 HA
        go_wp2_with fail
        refine HA2.out.mono ?_
        rintro en w7 ⟨rfl, hT7, hF7⟩
        have HF := Lib.hid (FIN.out w7 _ hT7 (by rw [arm_t]; omega) (HF6.out.trans hF7 (fun b hb => .inl hb)))
        clear hT7 hF7 HA2
        go_wp2
        go_meet
        case rel => exact ⟨by simp, HF.out⟩
      · have HA := Lib.hid (HT5.out.prog (fun F hD hF => dcrash_any nn hD))
        go_wp2_with fail
        refine HA.out.mono ?_
        rintro en w6 ⟨rfl, hT6, hF6⟩
        have HA2 := Lib.hid (hT6.ref (fun F hR hF => rcrash_any nn hR))
        have HF6 := Lib.hid hF6
        clear hT6 hF6 HA
        go_wp2_with fail
        refine HA2.out.mono ?_
        rintro en w7 ⟨rfl, hT7, hF7⟩
        have HF := Lib.hid (FIN.out w7 _ hT7 (by rw [crash_t]; omega) (HF6.out.trans hF7 (fun b hb => .inl hb)))
        clear hT7 hF7 HA2
        go_wp2
        go_meet
        case rel => exact ⟨by simp, HF.out⟩
      · have HA := Lib.hid (HT5.out.prog (fun F hD hF => drevive_any hD))
        go_wp2_with fail
        refine HA.out.mono ?_
        rintro en w6 ⟨rfl, hT6, hF6⟩
        have HA2 := Lib.hid (hT6.ref (fun F hR hF => rrevive_any hR))
        have HF6 := Lib.hid hF6
        clear hT6 hF6 HA
        go_wp2_with fail
        refine HA2.out.mono ?_
        rintro en w7 ⟨rfl, hT7, hF7⟩
        have HF := Lib.hid (FIN.out w7 _ hT7 (by dsimp only; omega) (HF6.out.trans hF7 (fun b hb => .inl hb)))
        clear hT7 hF7 HA2
        go_wp2
        go_meet
        case rel => exact ⟨by simp, HF.out⟩
      · rcases h with rfl | rfl | rfl
        all_goals
          have HA := Lib.hid (HT5.out.drew.prog (fun F hD hF => dwrite_any hD HO5.out.sl.drew (fun _ b hb hf => (hF b hf).2 (HV.out b (.inr hb))) HTL.out HML.out))
          go_wp2_with fail
          go_region_law (first | (rw [if_pos (by rfl)]; go_simp; go_at_call 23; refine HA.out.mono ?_; rintro en w6 ⟨rfl, hT6, hF6⟩; have q6 : w6.cell? ⟨X, 3, none⟩ = some (.slice A2 k c2) := (HX5.out.drew.fr hF6 (fun hs => hs.2 (HV.out X (.inl rfl)))).cell 3; have hS6 := HS5.out.drew.fr' hF6 (fun hz b hb hs => absurd hs.1 (Nat.not_le.2 (HLow.out hz b hb))); have HF6 := Lib.hid hF6; have HA2 := Lib.hid (hT6.ref (fun F hR hF => rwrite_d hR hS6 (fun hz b hb hf => absurd (hF b hf).1 (Nat.not_le.2 (HLow.out hz b hb))) HTL.out HML.out)); clear hT6 hF6 hS6; go_wp2_with fail) | (rw [if_pos (by rfl)]; go_simp; go_at_call 81; refine HA2.out.mono ?_; rintro en w7 ⟨rfl, hT7, hF7⟩; have HF := Lib.hid (FIN.out w7 _ hT7 (write_t _ _) (((Fr.refl _ wc).drew.trans HF6.out (fun b hb => .inl hb)).trans hF7 (fun b hb => .inl hb))); clear hT7 hF7; go_wp2_with fail))
          all_goals
            go_wp2
            go_meet
            case rel => exact ⟨by simp, HF.out⟩
    case rest =>
      obtain ⟨rfl, s1, HT6, HS6, HO6, HB6⟩ := hcut
      rename World => wd
      clear h10 q0 q3 HT5 HO5 HX5 HS5 HB5
      have hml : mm.length ≤ 300 := by have := HKL.out; omega
      go_wp2_with fail
      go_loopg [10] mm.length (fun g v10 wy => ∃ (j : Nat) (L : List UInt8), v10 = .int .i64 j ∧ j ≤ mm.length ∧ g = mm.length - j ∧ Own wy w3.heap.size 5 A4 mm.length c4 L ∧ Hid (Fr (fun b => blkOf A4 = some b) wd wy))
      case atStart => exact ⟨0, _, rfl, by omega, rfl, HO6.out, Fr.refl _ _⟩
      case round =>
        rename World => wy
        obtain ⟨j, L, rfl, hj, rfl, hOx, hFx⟩ := hrel
        by_cases hlt : j < mm.length
        · obtain ⟨g, rfl⟩ := hOx.at_ (by omega)
          obtain ⟨u, hu, cu, fu⟩ := hOx.get rfl hlt
          obtain ⟨v, hv, huv⟩ := xorByte u 90 (by decide)
          have huv' : bits .xor .u8 (u.toNat : Int) 90 = (v : Int) := huv
          have HOx := Lib.hid (hOx.setByte hlt v hv)
          have HFx := Lib.hid (hFx.out.setCell (p := ⟨g, j, none⟩) (.inl rfl) (.int .u8 (v : Int)))
          clear hu hv huv hOx
          go_wp2
          go_roundg (mm.length - (j + 1))
          case measure => omega
          case rel => exact ⟨j + 1, _, by go_num, by omega, rfl, HOx.out, HFx.out⟩
        · have hlt' : ¬ (j : Int) < (mm.length : Int) := by omega
          have hge : ∀ b, blkOf A4 = some b → base ≤ b := fun b hb => by
            have h1 := (HO6.out.lt b hb).1
            have h2 := HB5w.out
            omega
          have HT9 := Lib.hid (HT6.out.far hFx.out (fun b hb => .inl (HV.out b (.inr hb)))).free
          have HB9 := Lib.hid (Fr.below HB6.out hFx.out (Nat.le_trans HBS.out HB6.out.size) (fun b hb => hge b hb))
          clear hOx hFx hge
          go_wp2
          go_ret
          exact ⟨rfl, ⟨s1, HT9.out, HS6.out⟩, HB9.out⟩
end Go.Proofs.Ytblpnlobicjccaa
