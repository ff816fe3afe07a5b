/- The law NumWrites. -/
import Derived.Test.YtblpnlobicjccaaPuts
import Derived.Deep.LoopGhost
import Derived.Deep.DeepCutAuto
import Derived.Deep.CutBlock
namespace Go.Proofs.Ytblpnlobicjccaa
open Go.RowKit

theorem putB_len (e e1 : Int) (l m : List UInt8) (h : e1 = 0 → m.length ≤ 300) : (putB e e1 l m).length ≤ l.length + 300 := by
  by_cases h1 : e1 = 0
  · have := h h1
    unfold putB
    split <;> simp <;> omega
  · rw [putB_err h1]; omega
theorem okB_len3 (e : Int) (l m : List UInt8) (h : m.length ≤ 300) : (okB e l m).length ≤ l.length + 300 := by have := okB_len e l m; omega
theorem cntPut_len (e x : Int) (l : List UInt8) : (putB e (cntE x) l (cntBytes x.toNat)).length ≤ l.length + 300 := by
  refine putB_len _ _ _ _ fun h => ?_
  have hx : ¬ (x < 0 ∨ 9007199254740991 < x) := fun h1 => by unfold cntE at h; rw [if_pos h1] at h; exact absurd h (by decide)
  have := cntBytes_len x.toNat (by omega)
  omega
theorem numPut_len (e wd x : Int) (l : List UInt8) : (putB e (numE wd x) l (numBytes wd.toNat x.toNat)).length ≤ l.length + 300 := by
  refine putB_len _ _ _ _ fun h => ?_
  rw [numBytes_len]
  have := wideB_le (numE_zero h).1
  omega

set_option maxRecDepth 100000 in
set_option maxHeartbeats 2000000 in
theorem numWrites_walk {A : Option Addr} {n c : Nat} (w : World) (h : Els w A n c) :
    Calls Try.prog 4 #[.slice A n c] w fun e w' => e = .returned (.bool true) ∧ Below w.heap.size w w' := by
  obtain ⟨hnc, hcm, hel⟩ := h
  have HE := Lib.hid hel
  clear hel
  go_enter Try.func4, Try.ntmps4
  go_wp2_with fail
  refine (write_b _).mono ?_
  rintro en w1 ⟨rfl, hW, hB1⟩
  go_wp2_with fail
  refine (rwrite_any w1).mono ?_
  rintro en w2 ⟨rfl, rfl⟩
  have hT2 := Two.new hW hB1
  have hB2 := hB1.alloc hB1.size (.cells #[.slice none 0 0, .int .i64 0] 80)
  generalize w1.alloc (.cells #[.slice none 0 0, .int .i64 0] 80) = w2 at *
  generalize w1.heap.size = P' at *
  obtain ⟨P, hP⟩ : ∃ P, P = w.heap.size := ⟨_, rfl⟩
  rw [← hP] at hT2 hB2 ⊢
  have HT := Lib.hid hT2
  have HP := Lib.hid hP
  have HB := Lib.hid hB2
  clear hT2 hP hB2 hB1 hW
  go_wp2_with fail
  go_loopg [3, 5] 40 (fun g v3 v5 wr => ∃ (i : Nat) (e : Int) (l : List UInt8), v3 = .pointer (some ⟨P, 0, none⟩) ∧ v5 = .int .i64 i ∧ i ≤ n ∧ i ≤ 40 ∧ g = 40 - i ∧ Hid (Two wr P (fun _ => False) P P' e l e l) ∧ Hid (l.length ≤ i * 300) ∧ Hid (Below P w wr))
  case atStart => exact ⟨0, 0, [], rfl, rfl, by omega, by omega, rfl, HT, (by show _ ≤ _; simp), HB⟩
  case round =>
    obtain ⟨i, e, l, rfl, rfl, hin, hi40, rfl, hTw, hll, hBr⟩ := hrel
    by_cases hlt : i < n ∧ i < 40
    · obtain ⟨hl1, hl2⟩ := hlt
      obtain ⟨b, o, x, y, z, m, rfl, hE⟩ := HE.out i hl1
      have hBr' : Below w.heap.size w wr := hBr.out.mono (by rw [← HP.out]; exact Nat.le_refl _)
      have HPr := Lib.hid (show P ≤ wr.heap.size by rw [HP.out]; exact hBr'.size)
      obtain ⟨c0, c1, c2, _⟩ := hE.old hBr'
      obtain ⟨A2, n2, c2', d3, hSw⟩ := hE.c3
      have c3 := (hBr'.cell (p := ⟨b, o + i * 4 + 3, none⟩) (World.block_lt_of_cell? w _ d3)).trans d3
      have hS := hSw.old hBr'
      obtain ⟨k, hk⟩ : ∃ k, k = min n2 200 := ⟨_, rfl⟩
      have hmin : (if (200 : Int) < (n2 : Int) then (200 : Int) else (n2 : Int)) = (k : Int) := by split <;> omega
      have hk200 : k ≤ 200 := by omega
      have hkn : k ≤ n2 := by omega
      have hcap := hS.cap
      have hhi := fun w => run_cut_hi w A2 n2 c2' k (by omega)
      have hlow : ∀ b', m.take k ≠ [] → blkOf A2 = some b' → b' < P := by
        intro b' hm hb'
        rw [HP.out]
        exact (hSw.take hkn).lt hm b' hb'
      have HLow := Lib.hid hlow
      have HS := Lib.hid (hS.take hkn)
      clear hk hS hE hcap hkn hlow hBr' d3 hSw
      go_wp2_with fail
      have hX := Blk.new wr 45 #[.int .i64 x, .int .i64 y, .int .i64 z, .slice A2 k c2']
      have hS3 := HS.out.alloc (.cells #[.int .i64 x, .int .i64 y, .int .i64 z, .slice A2 k c2'] 45)
      have hB3 : Below wr.heap.size wr (wr.alloc (.cells #[.int .i64 x, .int .i64 y, .int .i64 z, .slice A2 k c2'] 45)) := (Below.refl _ wr).alloc (Nat.le_refl _) _
      obtain ⟨X, hX0⟩ : ∃ X, X = wr.heap.size := ⟨_, rfl⟩
      rw [← hX0] at hX ⊢
      have HX0 := Lib.hid hX0
      clear hX0
      generalize wr.alloc (.cells #[.int .i64 x, .int .i64 y, .int .i64 z, .slice A2 k c2'] 45) = w3 at *
      refine (copyb_any w3 hS3 (by omega)).mono ?_
      rintro en w4 ⟨A4, c4, rfl, hO4, hB4⟩
      rw [← HS.out.len] at hO4 ⊢
      have hX4 := hX.below hB4 hX.lt
      have hS4 := hS3.old hB4
      have hB34 := hB3.trans (hB4.mono hB3.size)
      have HT4 := Lib.hid (hTw.out.avoid hB34)
      have HB4 := Lib.hid (hBr.out.trans (hB34.mono HPr.out))
      have HP3 := Lib.hid (Nat.le_trans HPr.out hB3.size)
      have HV := Lib.hid (show ∀ b', b' = X ∨ blkOf A4 = some b' → wr.heap.size ≤ b' ∧ b' < w4.heap.size by
        rintro b' (rfl | h)
        · exact ⟨Nat.le_of_eq HX0.out.symm, hX4.lt⟩
        · have := hO4.lt b' h; have := hB3.size; exact ⟨by omega, by omega⟩)
      generalize hVV : (fun b => wr.heap.size ≤ b ∧ b < w4.heap.size) = V at HT4
      have HV2 := Lib.hid (show ∀ b', b' = X ∨ blkOf A4 = some b' → V b' by rw [← hVV]; exact HV.out)
      have q0 : w4.cell? ⟨X, 0, none⟩ = some (.int .i64 x) := hX4.cell 0
      have q1 : w4.cell? ⟨X, 1, none⟩ = some (.int .i64 y) := hX4.cell 1
      have q2 : w4.cell? ⟨X, 2, none⟩ = some (.int .i64 z) := hX4.cell 2
      have q3 : w4.cell? ⟨X, 3, none⟩ = some (.slice A2 k c2') := hX4.cell 3
      have HX := Lib.hid hX4
      have HO := Lib.hid hO4
      have HS4 := Lib.hid hS4
      clear hX hX4 hS3 hS4 hB3 hB4 hB34 HV hVV hO4 HS c0 c1 c2 c3
      go_wp2_with fail
      refine (bring_any x 4 w4 (by decide) (by decide)).mono ?_
      rintro en w5 ⟨rfl, rfl⟩
      have h4 : x % 4 = 0 ∨ x % 4 = 1 ∨ x % 4 = 2 ∨ x % 4 = 3 := by omega
      generalize x % 4 = r at *
      go_upto_block 2 with fail
      go_cut [3] (fun v3 wc => v3 = .pointer (some ⟨P, 0, none⟩) ∧ ∃ (e' : Int) (l' : List UInt8), Hid (Two wc P V P P' e' l' e' l') ∧ Hid (l'.length ≤ (i + 1) * 300) ∧ Own wc w3.heap.size 5 A4 k c4 (m.take k) ∧ Hid (Below P w wc))
      case first =>
        have fin : ∀ (w6 : World) (e1 : Int) (l1 : List UInt8), Two w6 P V P P' e1 l1 e1 l1 → l1.length ≤ l.length + 300 → Fr (fun b => P ≤ b ∧ ¬ V b) w4 w6 →
            ∃ (e' : Int) (l' : List UInt8), Hid (Two w6 P V P P' e' l' e' l') ∧ Hid (l'.length ≤ (i + 1) * 300) ∧ Own w6 w3.heap.size 5 A4 k c4 (m.take k) ∧ Hid (Below P w w6) := fun w6 e1 l1 h1 h2 h3 =>
          ⟨e1, l1, h1, (by show _ ≤ _; have := hll.out; omega), HO.out.fr h3 (fun b hb hs => hs.2 (HV2.out b (.inr hb))), Fr.below HB4.out h3 (Nat.le_trans (Nat.le_of_eq HP.out) HB4.out.size) (fun b hb => hb.1)⟩
        have FIN := Lib.hid fin
        have hlb : l.length ≤ 1000000 := by have := hll.out; omega
        have hlc : ∀ (u : List UInt8), u.length ≤ l.length + 300 → u.length ≤ 1000000000 := fun u hu => by omega
        have HLC := Lib.hid hlc
        clear fin hlc
        rcases h4 with rfl | rfl | rfl | rfl
        · have HA := Lib.hid (HT4.out.prog (by omega) (fun hW hn hb hf => num_any y z w4 hW (by omega) hb))
          go_wp2_with fail
          refine HA.out.mono ?_
          rintro en w5 ⟨rfl, hT5, hF5⟩
          have hX5 := HX.out.fr hF5 (fun hs => hs.2 (HV2.out X (.inl rfl)))
          have q1 : w5.cell? ⟨X, 1, none⟩ = some (.int .i64 y) := hX5.cell 1
          have q2 : w5.cell? ⟨X, 2, none⟩ = some (.int .i64 z) := hX5.cell 2
          have HA2 := Lib.hid (hT5.ref (by omega) (fun hW hn hb hf => rwnum_any y z w5 hW (by omega) hb))
          clear hT5 hX5
          go_wp2_with fail
          refine HA2.out.mono ?_
          rintro en w6 ⟨rfl, hT6, hF6⟩
          have HF := Lib.hid (FIN.out w6 _ _ hT6 (numPut_len _ _ _ _) (hF5.trans hF6 (fun b hb => .inl hb)))
          clear hT6 hF6 hF5
          go_wp2
          go_meet
          case rel => exact ⟨rfl, HF.out⟩
        · have HA := Lib.hid (HT4.out.prog (by omega) (fun hW hn hb hf => count_any z w4 hW (by omega) hb))
          go_wp2_with fail
          refine HA.out.mono ?_
          rintro en w5 ⟨rfl, hT5, hF5⟩
          have hX5 := HX.out.fr hF5 (fun hs => hs.2 (HV2.out X (.inl rfl)))
          have q2 : w5.cell? ⟨X, 2, none⟩ = some (.int .i64 z) := hX5.cell 2
          have HA2 := Lib.hid (hT5.ref (by omega) (fun hW hn hb hf => rwcount_any z w5 hW (by omega) hb))
          clear hT5 hX5
          go_wp2_with fail
          refine HA2.out.mono ?_
          rintro en w6 ⟨rfl, hT6, hF6⟩
          have HF := Lib.hid (FIN.out w6 _ _ hT6 (cntPut_len _ _ _) (hF5.trans hF6 (fun b hb => .inl hb)))
          clear hT6 hF6 hF5
          go_wp2
          go_meet
          case rel => exact ⟨rfl, HF.out⟩
        · have HA := Lib.hid (HT4.out.prog (by omega) (fun hW hn hb hf => text_any w4 hW HO.out.sl (fun _ b hb' hft => (hf b hft).2 (HV2.out b (.inr hb'))) (by omega) hb))
          go_wp2_with fail
          refine HA.out.mono ?_
          rintro en w5 ⟨rfl, hT5, hF5⟩
          have hX5 := HX.out.fr hF5 (fun hs => hs.2 (HV2.out X (.inl rfl)))
          have hS5 := HS4.out.fr' hF5 (fun hm b hb hs => by have := HLow.out b hm hb; omega)
          have q3 : w5.cell? ⟨X, 3, none⟩ = some (.slice A2 k c2') := hX5.cell 3
          have HA2 := Lib.hid (hT5.ref (by omega) (fun hW hn hb hf => rwtext_any w5 hW hS5 (fun hm b hb' hft => by have := HLow.out b hm hb'; have := (hf b hft).1; omega) (by omega) hb))
          clear hT5 hX5 hS5
          go_wp2_with fail
          refine HA2.out.mono ?_
          rintro en w6 ⟨rfl, hT6, hF6⟩
          have HF := Lib.hid (FIN.out w6 _ _ hT6 (okB_len3 _ _ _ (by have := cntBytes_len (m.take k).length (by have := HO.out.len; omega); have := HO.out.len; simp only [List.length_append]; omega)) (hF5.trans hF6 (fun b hb => .inl hb)))
          clear hT6 hF6 hF5
          go_wp2
          go_meet
          case rel => exact ⟨rfl, HF.out⟩
        · have HA := Lib.hid (HT4.out.prog (by omega) (fun hW hn hb hf => raw_any w4 hW HO.out.sl (fun _ hb' => (hf P (.inl rfl)).2 (HV2.out P (.inr hb'))) (by omega) hb))
          go_wp2_with fail
          refine HA.out.mono ?_
          rintro en w5 ⟨rfl, hT5, hF5⟩
          have hX5 := HX.out.fr hF5 (fun hs => hs.2 (HV2.out X (.inl rfl)))
          have hS5 := HS4.out.fr' hF5 (fun hm b hb hs => by have := HLow.out b hm hb; omega)
          have q3 : w5.cell? ⟨X, 3, none⟩ = some (.slice A2 k c2') := hX5.cell 3
          have HA2 := Lib.hid (hT5.ref (by omega) (fun hW hn hb hf => rwraw_any w5 hW hS5 (by omega) hb))
          clear hT5 hX5 hS5
          go_wp2_with fail
          refine HA2.out.mono ?_
          rintro en w6 ⟨rfl, hT6, hF6⟩
          have HF := Lib.hid (FIN.out w6 _ _ hT6 (okB_len3 _ _ _ (by have := HO.out.len; omega)) (hF5.trans hF6 (fun b hb => .inl hb)))
          clear hT6 hF6 hF5
          go_wp2
          go_meet
          case rel => exact ⟨rfl, HF.out⟩
      case rest =>
        obtain ⟨rfl, e', l', hT, hl', hO, hB⟩ := hcut
        have HT5 := hT
        have HO5 := Lib.hid hO
        have HV5 := HV2
        clear q0 q1 q2 q3 h4 hT hO HX HT4 HLow HS4 HV2
        go_wp2_with fail
        go_loopg [8] k (fun g v8 wx => ∃ (j : Nat) (L : List UInt8), v8 = .int .i64 j ∧ j ≤ k ∧ g = k - j ∧ Own wx w3.heap.size 5 A4 k c4 L ∧ Hid (Fr (fun b => blkOf A4 = some b) wc wx))
        case atStart => exact ⟨0, _, rfl, by omega, rfl, HO5.out, Fr.refl _ _⟩
        case round =>
          rename World => wx
          obtain ⟨j, L, rfl, hj, rfl, hOx, hFx⟩ := hrel
          by_cases hlt : j < k
          · obtain ⟨g, rfl⟩ := hOx.at_ (by omega)
            obtain ⟨u, hu, cu, fu⟩ := hOx.get rfl hlt
            obtain ⟨v, hv, huv⟩ := xorByte u 90 (by decide)
            have huv' : bits .xor .u8 (u.toNat : Int) 90 = (v : Int) := huv
            have HOx := Lib.hid (hOx.setByte hlt v hv)
            have HFx := Lib.hid (hFx.out.setCell (p := ⟨g, j, none⟩) (.inl rfl) (.int .u8 (v : Int)))
            clear hu hv huv hOx
            go_wp2
            go_roundg (k - (j + 1))
            case measure => omega
            case rel => exact ⟨j + 1, _, by go_num, by omega, rfl, HOx.out, HFx.out⟩
          · have hlt' : ¬ (j : Int) < (k : Int) := by omega
            have HT6 := Lib.hid (HT5.out.far hFx.out (fun b hb => .inl (HV5.out b (.inr hb)))).free
            have HB6 := Lib.hid (Fr.below hB.out hFx.out (Nat.le_trans (Nat.le_of_eq HP.out) hB.out.size) (fun b hb => Nat.le_trans HP3.out (HO5.out.lt b hb).1))
            have HS6 := Lib.hid (show P ≤ wx.heap.size from Nat.le_trans (Nat.le_of_eq HP.out) HB6.out.size)
            have hlb : l'.length ≤ 1000000000 := by have := hl'.out; omega
            have HQ := Lib.hid (HT6.out.bytes hlb)
            clear hOx hFx HT5 HV5 HO5 hB
            generalize hLL : (if e' = 0 then l' else []) = LL at HQ
            have HLL := Lib.hid hLL
            have hLLb : LL.length ≤ 1000000000 := by
              rw [← hLL]
              by_cases h0 : e' = 0
              · rw [if_pos h0]; exact hlb
              · rw [if_neg h0]; simp
            clear hLL
            go_wp2_with fail
            refine HQ.out.mono ?_
            rintro en w7 ⟨A7, c7, rfl, hO7, hB7⟩
            have HQ2 := Lib.hid ((HT6.out.old hB7).rbytes hlb)
            rw [HLL.out] at HQ2
            have HO7 := Lib.hid hO7
            have HB7 := Lib.hid hB7
            clear hO7 hB7 HQ
            go_wp2_with fail
            refine HQ2.out.mono ?_
            rintro en w8 ⟨A8, c8, rfl, hO8, hB8⟩
            have HO8 := Lib.hid (HO7.out.below_at hB8)
            have HE8 := Lib.hid (eqb_any w8 HO8.out.sl hO8.sl)
            have HB8 := Lib.hid (HB7.out.trans (hB8.mono HB7.out.size))
            clear hO8 hB8 HQ2
            go_wp2_with (go_at_call 25; refine HE8.out.mono ?_; rintro en w' ⟨rfl, rfl⟩)
            go_loopg [13] LL.length (fun g v13 wy => ∃ (j : Nat) (L : List UInt8), v13 = .int .i64 j ∧ j ≤ LL.length ∧ g = LL.length - j ∧ Own wy wx.heap.size 5 A7 LL.length c7 L ∧ Hid (Fr (fun b => blkOf A7 = some b) w8 wy))
            case atStart => exact ⟨0, _, rfl, by omega, rfl, HO8.out, Fr.refl _ _⟩
            case round =>
              rename World => wy
              obtain ⟨j, L, rfl, hj, rfl, hOx, hFx⟩ := hrel
              by_cases hlt : j < LL.length
              · obtain ⟨g, rfl⟩ := hOx.at_ (by omega)
                obtain ⟨u, hu, cu, fu⟩ := hOx.get rfl hlt
                obtain ⟨v, hv, huv⟩ := xorByte u 51 (by decide)
                have huv' : bits .xor .u8 (u.toNat : Int) 51 = (v : Int) := huv
                have HOx := Lib.hid (hOx.setByte hlt v hv)
                have HFx := Lib.hid (hFx.out.setCell (p := ⟨g, j, none⟩) (.inl rfl) (.int .u8 (v : Int)))
                clear hu hv huv hOx
                go_wp2
                go_roundg (LL.length - (j + 1))
                case measure => omega
                case rel => exact ⟨j + 1, _, by go_num, by omega, rfl, HOx.out, HFx.out⟩
              · have hlt' : ¬ (j : Int) < (LL.length : Int) := by omega
                have hFr : Fr (fun b => blkOf A7 = some b) wx wy := (Fr.of_below HB8.out).trans hFx.out (fun b hb => .inl hb)
                have hge : ∀ b, blkOf A7 = some b → wx.heap.size ≤ b := fun b hb => (HO8.out.lt b hb).1
                have HT9 := Lib.hid (HT6.out.far hFr (fun b hb => .inr (hge b hb)))
                have HB9 := Lib.hid (Fr.below HB6.out hFr HS6.out (fun b hb => Nat.le_trans HS6.out (hge b hb)))
                clear hOx hFx hFr hge
                go_wp2
                go_roundg (40 - (i + 1))
                case measure => omega
                case rel => exact ⟨i + 1, e', l', rfl, by go_num, by omega, by omega, rfl, HT9.out, hl'.out, HB9.out⟩
    · have hB9 := hBr.out
      have HW := Lib.hid (nworks_any wr)
      have hd : (i : Int) < (n : Int) ∧ ¬ (i : Int) < 40 ∨ ¬ (i : Int) < (n : Int) := by omega
      rcases hd with ⟨hd1, hd2⟩ | hd1
      all_goals
        go_wp2_with fail
        refine HW.out.mono ?_
        rintro en w9 ⟨rfl, hB10⟩
        go_wp2
        go_ret
        exact ⟨rfl, (hB9.mono (Nat.le_of_eq HP.out.symm)).trans (hB10.mono hB9.size)⟩
end Go.Proofs.Ytblpnlobicjccaa
