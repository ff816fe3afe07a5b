/- The law NumReads. -/
import Derived.Test.YtblpnlobicjccaaTwoR
namespace Go.Proofs.Ytblpnlobicjccaa
open Go.RowKit

set_option maxRecDepth 100000 in
set_option maxHeartbeats 2000000 in
theorem numReads_walk {A B : Option Addr} {n c nl cl : Nat} {l : List UInt8} (w : World) (h : Sl w A n c l) (he : Els w B nl cl) :
    Calls Try.prog 9 #[.slice A n c, .slice B nl cl] w fun e w' => e = .returned (.bool true) ∧ Below w.heap.size w w' := by
  obtain ⟨hnc, hcm, hel⟩ := he
  have HE := Lib.hid hel
  obtain ⟨k, hk⟩ : ∃ k, k = min n 600 := ⟨_, rfl⟩
  have hmin : (if (600 : Int) < (n : Int) then (600 : Int) else (n : Int)) = (k : Int) := by split <;> omega
  have hk600 : k ≤ 600 := by omega
  have hkn : k ≤ n := by omega
  have hcap := h.cap
  have hhi := fun w => run_cut_hi w A n c k (by omega)
  have hS := h.take hkn
  have hkl := hS.len
  generalize l.take k = l0 at hS hkl
  have HK := Lib.hid hkl
  have HC := Lib.hid (copyb_any w hS (by omega))
  have HS := Lib.hid hS
  clear hel hk h hS hcap hkn hkl
  go_enter Try.func9, Try.ntmps9
  go_wp2_with fail
  refine HC.out.mono ?_
  rintro en w1 ⟨A1, c1, rfl, hO1, hB1⟩
  rw [← HK.out] at hO1 ⊢
  have HO1 := Lib.hid hO1
  have HB1 := Lib.hid hB1
  have HR1 := Lib.hid (read2_any w1 hO1.sl (by omega))
  clear hO1 hB1 HC hhi hmin
  go_wp2_with fail
  refine HR1.out.mono ?_
  rintro en w2 ⟨P, A2, n2, c2, rfl, hP, hA2, hR2, hB2⟩
  have HB2 := Lib.hid (HB1.out.trans (hB2.mono HB1.out.size))
  have HQ2 := Lib.hid (rrRead_any w2 (HS.out.old HB2.out) (by omega))
  have HO2 := Lib.hid (HO1.out.below_at hB2)
  have HP := Lib.hid hP
  have HA2 := Lib.hid hA2
  have HR2 := Lib.hid hR2
  have HW12 := Lib.hid hB2.size
  clear hP hA2 hR2 hB2 HR1
  go_wp2_with fail
  refine HQ2.out.mono ?_
  rintro en w3 ⟨P', A3, n3, c3, rfl, hP', hA3, hR3, hB3⟩
  have hR2 := HR2.out.old hB3
  have hsz := hB3.size
  have hT : TwoR w3 w1.heap.size w3.heap.size P P' ⟨0, l0⟩ ⟨0, l0⟩ := by
    have q1 := HR2.out.blk.lt
    have q2 := hR3.blk.lt
    have q3 := HW12.out
    have q4 := HP.out
    refine ⟨A2, n2, c2, A3, n3, c3, hR2, hR3, fun e => ?_, fun e => ?_, ⟨by omega, by omega, by omega⟩, Nat.le_refl _, ⟨by omega, by omega⟩, fun b hb => ?_, fun b hb => ?_⟩
    · have := HA2.out P' e; omega
    · have := hA3 P e; omega
    · have := HA2.out b hb; omega
    · have := hA3 b hb; omega
  have HB3 := Lib.hid (HB2.out.trans (hB3.mono HB2.out.size))
  have HO3 := Lib.hid (HO2.out.below_at hB3)
  have HT := Lib.hid hT
  have HW1 := Lib.hid (show w.heap.size ≤ w1.heap.size from HB1.out.size)
  have HOl := Lib.hid (show ∀ b, blkOf A1 = some b → b < w1.heap.size from fun b hb => (HO1.out.lt b hb).2)
  clear hT hsz hR2 hB3 hA3 hR3 hP' HA2 HR2 HW12 HP HO1 HO2 HQ2
  generalize w1.heap.size = base at *
  generalize w3.heap.size = lim at HT
  go_wp2_with fail
  go_loopg [8] k (fun g v8 wr => ∃ (j : Nat) (L : List UInt8), v8 = .int .i64 j ∧ j ≤ k ∧ g = k - j ∧ Own wr w.heap.size 5 A1 k c1 L ∧ Hid (Fr (fun b => blkOf A1 = some b) w3 wr))
  case atStart => exact ⟨0, _, rfl, by omega, rfl, HO3.out, Fr.refl _ _⟩
  case round =>
    rename World => wx
    obtain ⟨j, L, rfl, hj, rfl, hOx, hFx⟩ := hrel
    by_cases hlt : j < k
    · obtain ⟨g, rfl⟩ := hOx.at_ (by omega)
      obtain ⟨u, hu, cu, fu⟩ := hOx.get rfl hlt
      obtain ⟨v, hv, huv⟩ := xorByte u 90 (by decide)
      have huv' : bits .xor .u8 (u.toNat : Int) 90 = (v : Int) := huv
      have HOx := Lib.hid (hOx.setByte hlt v hv)
      have HFx := Lib.hid (hFx.out.setCell (p := ⟨g, j, none⟩) (.inl rfl) (.int .u8 (v : Int)))
      clear hu hv huv hOx
      go_wp2
      go_roundg (k - (j + 1))
      case measure => omega
      case rel => exact ⟨j + 1, _, by go_num, by omega, rfl, HOx.out, HFx.out⟩
    · have hlt' : ¬ (j : Int) < (k : Int) := by omega
      have HT4 := Lib.hid (HT.out.far hFx.out (fun b hb => .inl (HOl.out b hb)))
      have HB4 := Lib.hid (Fr.below HB3.out hFx.out HB3.out.size (fun b hb => (HO3.out.lt b hb).1))
      clear hOx hFx HT HB3 HO3
      go_wp2_with fail
      go_loopg [9] 40 (fun g v9 wr => ∃ (i : Nat) (s : RS), v9 = .int .i64 i ∧ i ≤ nl ∧ i ≤ 40 ∧ g = 40 - i ∧ Hid (TwoR wr base lim P P' s s) ∧ Hid (s.l.length ≤ 600) ∧ Hid (Below w.heap.size w wr))
      case atStart => exact ⟨0, ⟨0, l0⟩, rfl, by omega, by omega, rfl, HT4.out, (by show l0.length ≤ 600; have := HK.out; omega), HB4.out⟩
      case round =>
        rename World => wr
        obtain ⟨i, s, rfl, hin, hi40, rfl, hTw, hsl, hBr⟩ := hrel
        clear HT4 HB4
        by_cases hlt : i < nl ∧ i < 40
        · obtain ⟨hl1, hl2⟩ := hlt
          obtain ⟨b, o, x, y, z, m, rfl, hE⟩ := HE.out i hl1
          obtain ⟨c0, c1, c2, A2, n2, c2', c3, hSm⟩ := hE.old hBr.out
          clear hSm hE
          go_wp2_with fail
          have hX := Blk.new wr 45 #[.int .i64 x, .int .i64 y, .int .i64 z, .slice A2 n2 c2']
          have hB3 : Below wr.heap.size wr (wr.alloc (.cells #[.int .i64 x, .int .i64 y, .int .i64 z, .slice A2 n2 c2'] 45)) := (Below.refl _ wr).alloc (Nat.le_refl _) _
          have hlim : lim ≤ wr.heap.size := by obtain ⟨_, _, _, _, _, _, _, _, _, _, _, h, _⟩ := hTw.out; exact h
          obtain ⟨X, hX0⟩ : ∃ X, X = wr.heap.size := ⟨_, rfl⟩
          rw [← hX0] at hX hlim ⊢
          have HX0 := Lib.hid hX0
          clear hX0
          generalize wr.alloc (.cells #[.int .i64 x, .int .i64 y, .int .i64 z, .slice A2 n2 c2'] 45) = w4 at *
          have HT4 := Lib.hid (hTw.out.old hB3)
          have HB4 := Lib.hid (hBr.out.trans (hB3.mono hBr.out.size))
          have HX := Lib.hid hX
          have HL4 := Lib.hid (show lim ≤ w4.heap.size by have := hX.lt; omega)
          have q0 : w4.cell? ⟨X, 0, none⟩ = some (.int .i64 x) := hX.cell 0
          have q1 : w4.cell? ⟨X, 1, none⟩ = some (.int .i64 y) := hX.cell 1
          have q2 : w4.cell? ⟨X, 2, none⟩ = some (.int .i64 z) := hX.cell 2
          have HXl := Lib.hid hlim
          clear c0 c1 c2 c3 hX hB3 hlim
          refine (bring_any x 4 w4 (by decide) (by decide)).mono ?_
          rintro en w5 ⟨rfl, rfl⟩
          have h4 : x % 4 = 0 ∨ x % 4 = 1 ∨ x % 4 = 2 ∨ x % 4 = 3 := by omega
          generalize x % 4 = r at *
          go_upto_block 4 with fail
          go_cut [11] (fun v11 wc => v11 = .bool true ∧ ∃ (s' : RS), Hid (TwoR wc base lim P P' s' s') ∧ Hid (s'.l.length ≤ 600) ∧ Hid (Below w.heap.size w wc))
          case first =>
            have hsl1 : s.l.length ≤ 100000 := by have := hsl.out; omega
            have fin : ∀ (w6 : World) (s6 : RS), TwoR w6 base lim P P' s6 s6 → s6.l.length ≤ s.l.length → Fr (fun b => base ≤ b ∧ b < lim) w4 w6 →
                ∃ (s' : RS), Hid (TwoR w6 base lim P P' s' s') ∧ Hid (s'.l.length ≤ 600) ∧ Hid (Below w.heap.size w w6) := fun w6 s6 h1 h2 h3 =>
              ⟨s6, h1, (by show _ ≤ _; have := hsl.out; omega), Fr.below HB4.out h3 HB4.out.size (fun b hb => Nat.le_trans HW1.out hb.1)⟩
            have FIN := Lib.hid fin
            clear fin
            rcases h4 with rfl | rfl | rfl | rfl
            · have HA := Lib.hid (HT4.out.drew.prog hsl1 (fun hR hn => rNum_any y w4.drew hR hn))
              have HS := Lib.hid (numS_len y s)
              clear hsl1
              go_wp2_with fail
              go_region_law (first | (rw [if_pos (by rfl)]; go_simp; go_at_call 51; refine HA.out.mono ?_; rintro en w5 ⟨rfl, hT5, hF5⟩; have q5 : w5.cell? ⟨X, 1, none⟩ = some (.int .i64 y) := (HX.out.drew.fr hF5 (fun hs => by have := HXl.out; omega)).cell 1; have HF5 := Lib.hid hF5; have HA2 := Lib.hid (hT5.ref (by have := hsl.out; omega) (fun hR hn => rrNum_any y w5 hR hn)); clear hT5 hF5; go_wp2_with fail) | (rw [if_pos (by rfl)]; go_simp; go_at_call 52; refine HA2.out.mono ?_; rintro en w6 ⟨rfl, hT6, hF6⟩; have HF := Lib.hid (FIN.out w6 _ hT6 HS.out (((Fr.refl _ w4).drew.trans HF5.out (fun b hb => .inl hb)).trans hF6 (fun b hb => .inl hb))); clear hT6 hF6; go_wp2_with fail))
              all_goals
                go_wp2
                go_meet
                case rel => exact ⟨by simp, HF.out⟩
            · have HA := Lib.hid (HT4.out.drew.prog hsl1 (fun hR hn => rCount_any z w4.drew hR hn))
              have HS := Lib.hid (cntRun_len z 8 0 s)
              clear hsl1
              go_wp2_with fail
              go_region_law (first | (rw [if_pos (by rfl)]; go_simp; go_at_call 46; refine HA.out.mono ?_; rintro en w5 ⟨rfl, hT5, hF5⟩; have q5 : w5.cell? ⟨X, 2, none⟩ = some (.int .i64 z) := (HX.out.drew.fr hF5 (fun hs => by have := HXl.out; omega)).cell 2; have HF5 := Lib.hid hF5; have HA2 := Lib.hid (hT5.ref (by have := hsl.out; omega) (fun hR hn => rrCount_any z w5 hR hn)); clear hT5 hF5; go_wp2_with fail) | (rw [if_pos (by rfl)]; go_simp; go_at_call 53; refine HA2.out.mono ?_; rintro en w6 ⟨rfl, hT6, hF6⟩; have HF := Lib.hid (FIN.out w6 _ hT6 HS.out (((Fr.refl _ w4).drew.trans HF5.out (fun b hb => .inl hb)).trans hF6 (fun b hb => .inl hb))); clear hT6 hF6; go_wp2_with fail))
              all_goals
                go_wp2
                go_meet
                case rel => exact ⟨by simp, HF.out⟩
            · have HA := Lib.hid (HT4.out.drew.prog hsl1 (fun hR hn => (rText_any z w4.drew hR hn).mono fun _ _ h => gives_of h))
              have HS := Lib.hid (textS_len z s)
              generalize hto : textO z s = tx at HA
              have HTO := Lib.hid hto
              have HTL := Lib.hid (show (textS z s).l.length ≤ 600 from Nat.le_trans (textS_len z s) hsl.out)
              clear hsl1 hto
              go_wp2_with fail
              go_region_law (first | (rw [if_pos (by rfl)]; go_simp; go_at_call 54; refine HA.out.mono ?_; rintro en w5 ⟨⟨A5, c5, rfl, hO5⟩, hT5, hF5⟩; have q5 : w5.cell? ⟨X, 2, none⟩ = some (.int .i64 z) := (HX.out.drew.fr hF5 (fun hs => by have := HXl.out; omega)).cell 2; have HF5 := Lib.hid hF5; have HO5 := Lib.hid hO5; have HA2 := Lib.hid (hT5.ref (by have := hsl.out; omega) (fun hR hn => (rrText_any z w5 hR hn).mono fun _ _ h => gives_of h)); rw [HTO.out] at HA2; clear hT5 hF5 hO5; go_wp2_with fail) | (rw [if_pos (by rfl)]; go_simp; go_at_call 55; refine HA2.out.mono ?_; rintro en w6 ⟨⟨A6, c6, rfl, hO6⟩, hT6, hF6⟩; have HEQ := Lib.hid (eqb_any w6 (HO5.out.fr hF6 (fun b hb hs => absurd hs.2 (Nat.not_lt.2 (Nat.le_trans HL4.out (HO5.out.lt b hb).1)))).sl hO6.sl); have HF := Lib.hid (FIN.out w6 _ hT6 HS.out (((Fr.refl _ w4).drew.trans HF5.out (fun b hb => .inl hb)).trans hF6 (fun b hb => .inl hb))); clear hT6 hF6 hO6; go_wp2_with fail) | (rw [if_pos (by rfl)]; go_simp; go_at_call 25; refine HEQ.out.mono ?_; rintro en w7 ⟨rfl, rfl⟩; go_wp2_with fail))
              all_goals
                go_wp2
                go_meet
                case rel => exact ⟨by simp, HF.out⟩
            · have HA := Lib.hid (HT4.out.prog hsl1 (fun hR hn => (rRaw_any z w4 hR hn).mono fun _ _ h => gives_of h))
              have HS := Lib.hid (rawS_len z s)
              generalize hto : rawO z s = tx at HA
              have HTO := Lib.hid hto
              have hTL : tx.length ≤ 600 := by
                rw [← hto]
                unfold rawO
                have := hsl.out
                split <;> simp <;> omega
              clear hsl1 hto
              go_wp2_with fail
              refine HA.out.mono ?_
              rintro en w5 ⟨⟨A5, c5, rfl, hO5⟩, hT5, hF5⟩
              have q5 : w5.cell? ⟨X, 2, none⟩ = some (.int .i64 z) := (HX.out.fr hF5 (fun hs => by have := HXl.out; omega)).cell 2
              have HF5 := Lib.hid hF5
              have HO5 := Lib.hid hO5
              have HA2 := Lib.hid (hT5.ref (by have := hsl.out; have := rawS_len z s; omega) (fun hR hn => (rrRaw_any z w5 hR hn).mono fun _ _ h => gives_of h))
              rw [HTO.out] at HA2
              clear hT5 hF5 hO5
              go_wp2_with fail
              refine HA2.out.mono ?_
              rintro en w6 ⟨⟨A6, c6, rfl, hO6⟩, hT6, hF6⟩
              have HO56 := Lib.hid (HO5.out.fr hF6 (fun b hb hs => by have := (HO5.out.lt b hb).1; have := HL4.out; omega))
              have HEQ := Lib.hid (eqb_any w6 HO56.out.sl hO6.sl)
              have HT6 := Lib.hid hT6
              have HF6 := Lib.hid (HF5.out.trans hF6 (fun b hb => .inl hb))
              clear hT6 hF6 hO6 HA HA2 HO5
              go_wp2_with (go_at_call 25; refine HEQ.out.mono ?_; rintro en w' ⟨rfl, rfl⟩)
              go_loopg [13] tx.length (fun g v13 wy => ∃ (j : Nat) (L : List UInt8), v13 = .int .i64 j ∧ j ≤ tx.length ∧ g = tx.length - j ∧ Own wy w4.heap.size 5 A5 tx.length c5 L ∧ Hid (Fr (fun b => blkOf A5 = some b) w6 wy))
              case atStart => exact ⟨0, _, rfl, by omega, rfl, HO56.out, Fr.refl _ _⟩
              case round =>
                rename World => wy
                obtain ⟨j, L, rfl, hj, rfl, hOx, hFx⟩ := hrel
                by_cases hlt : j < tx.length
                · obtain ⟨g, rfl⟩ := hOx.at_ (by omega)
                  obtain ⟨u, hu, cu, fu⟩ := hOx.get rfl hlt
                  obtain ⟨v, hv, huv⟩ := xorByte u 51 (by decide)
                  have huv' : bits .xor .u8 (u.toNat : Int) 51 = (v : Int) := huv
                  have HOx := Lib.hid (hOx.setByte hlt v hv)
                  have HFx := Lib.hid (hFx.out.setCell (p := ⟨g, j, none⟩) (.inl rfl) (.int .u8 (v : Int)))
                  clear hu hv huv hOx
                  go_wp2
                  go_roundg (tx.length - (j + 1))
                  case measure => omega
                  case rel => exact ⟨j + 1, _, by go_num, by omega, rfl, HOx.out, HFx.out⟩
                · have hlt' : ¬ (j : Int) < (tx.length : Int) := by omega
                  have hge : ∀ b, blkOf A5 = some b → w4.heap.size ≤ b := fun b hb => (HO56.out.lt b hb).1
                  have HT9 := Lib.hid (HT6.out.far hFx.out (fun b hb => .inr (Nat.le_trans HL4.out (hge b hb))))
                  have HB9 : Hid (Below w.heap.size w wy) := Lib.hid (Fr.below (Fr.below HB4.out HF6.out HB4.out.size (fun b hb => Nat.le_trans HW1.out hb.1)) hFx.out (Nat.le_trans HB4.out.size HF6.out.size) (fun b hb => Nat.le_trans HB4.out.size (hge b hb)))
                  clear hOx hFx hge
                  go_wp2
                  go_meet
                  case rel => exact ⟨by simp, _, HT9.out, (by show _ ≤ _; have := HS.out; have := hsl.out; omega), HB9.out⟩
          case rest =>
            obtain ⟨rfl, s', hT', hsl', hB'⟩ := hcut
            have H1 := Lib.hid (hT'.out.readP (fun hR => rLeft_any wc hR))
            have H2 := Lib.hid (hT'.out.readR (fun hR => rrLeft_any wc hR))
            have H3 := Lib.hid (hT'.out.readP (fun hR => rErr_any wc hR))
            have H4 := Lib.hid (hT'.out.readR (fun hR => rrErr_any wc hR))
            have H5 := Lib.hid (hT'.out.readP (fun hR => rEnd_any wc hR))
            have H6 := Lib.hid (hT'.out.readR (fun hR => rrEnd_any wc hR))
            clear q0 q1 q2 h4 HX
            go_wp2_with (first | (go_at_call 48; refine H1.out.mono ?_; rintro en w' ⟨rfl, rfl⟩) | (go_at_call 58; refine H2.out.mono ?_; rintro en w' ⟨rfl, rfl⟩) | (go_at_call 47; refine H3.out.mono ?_; rintro en w' ⟨rfl, rfl⟩) | (go_at_call 59; refine H4.out.mono ?_; rintro en w' ⟨rfl, rfl⟩) | (go_at_call 49; refine H5.out.mono ?_; rintro en w' ⟨rfl, rfl⟩) | (go_at_call 60; refine H6.out.mono ?_; rintro en w' ⟨rfl, rfl⟩))
            go_roundg (40 - (i + 1))
            case measure => omega
            case rel => exact ⟨i + 1, s', by go_num, by omega, by omega, rfl, hT'.out, hsl'.out, hB'.out⟩
        · have H5 := Lib.hid (hTw.out.readP (fun hR => rEnd_any wr hR))
          have H6 := Lib.hid (hTw.out.readR (fun hR => rrEnd_any wr hR))
          have HW := Lib.hid (nworks_any wr)
          have hd : (i : Int) < (nl : Int) ∧ ¬ (i : Int) < 40 ∨ ¬ (i : Int) < (nl : Int) := by omega
          rcases hd with ⟨hd1, hd2⟩ | hd1
          all_goals
            go_wp2_with (first | (go_at_call 49; refine H5.out.mono ?_; rintro en w' ⟨rfl, rfl⟩) | (go_at_call 60; refine H6.out.mono ?_; rintro en w' ⟨rfl, rfl⟩))
            refine HW.out.mono ?_
            rintro en w9 ⟨rfl, hB10⟩
            go_wp2
            go_ret
            exact ⟨by simp, hBr.out.trans (hB10.mono hBr.out.size)⟩
end Go.Proofs.Ytblpnlobicjccaa
