/- Package disk: the law's same: do both disks stand alike? -/
import Derived.Test.YtblpnlobicjccaaStepWalk
import Derived.Deep.QuietTactic
namespace Go.Proofs.Ytblpnlobicjccaa
open Go.RowKit

theorem TwoD.drewN {w : World} {base P P' : Nat} {V : Nat → Prop} {s s' : DS} (h : TwoD w base P P' V s s') (n : Nat) : TwoD (w.drewN n) base P P' V s s' := h.far (S := fun _ => False) ((Fr.refl _ w).drewN n) (fun _ h => h.elim)
/-- Two slices that read alike, whatever was drawn. -/
theorem eqb_quiet {A1 A2 : Option Addr} {n1 n2 c1 c2 : Nat} {l : List UInt8} (w : World) (h1 : Sl w A1 n1 c1 l) (h2 : Sl w A2 n2 c2 l) (n : Nat) :
    Calls Try.prog 25 #[.slice A1 n1 c1, .slice A2 n2 c2] (w.drewN n) fun e w' => e = .returned (.bool true) ∧ w' = w.drewN n := by
  refine (eqb_any (w.drewN n) (h1.drewN n) (h2.drewN n)).mono ?_
  rintro e w' ⟨rfl, rfl⟩
  exact ⟨by simp, rfl⟩

set_option maxRecDepth 100000 in
set_option maxHeartbeats 4000000 in
theorem dsame_any {w : World} {base P P' : Nat} {s : DS} (hT : TwoD w base P P' (fun _ => False) s s) :
    Calls Try.prog 43 #[.pointer (some ⟨P, 0, none⟩), .pointer (some ⟨P', 0, none⟩)] w fun en w' => en = .returned (.bool true) ∧ TwoD w' base P P' (fun _ => False) s s ∧ Below w.heap.size w w' := by
  have HT := Lib.hid hT
  have HR := Lib.hid (hT.readP (fun F hD => dread_any hD))
  clear hT
  go_enter Try.func43, Try.ntmps43
  go_wp2_with fail
  refine HR.out.mono ?_
  rintro en w1 ⟨A5, c5, rfl, hO5, hB1⟩
  have HTr := Lib.hid ((HT.out.old hB1).readP (fun F hD => dtrace_any hD))
  have HO5 := Lib.hid hO5
  have HB1 := Lib.hid hB1
  clear hO5 hB1 HR
  go_wp2_with fail
  refine HTr.out.mono ?_
  rintro en w2 ⟨A6, c6, us, rfl, hR6, hC6, hB2⟩
  have HB2 := Lib.hid (HB1.out.trans (hB2.mono HB1.out.size))
  have HT2 := Lib.hid (HT.out.old HB2.out)
  have HO2 := Lib.hid (HO5.out.below_at hB2)
  have HR2 := Lib.hid hR6
  have HC2 := Lib.hid hC6
  have HS1 := Lib.hid HB1.out.size
  have HB12 := Lib.hid hB2.size
  have HL5 := Lib.hid (show ∀ b, blkOf A5 = some b → b < w1.heap.size from fun b hb => (HO5.out.lt b hb).2)
  obtain ⟨AR, cR, TAR, cTR, vsR, hbR, hslR, hrR, heR, hlR, htR⟩ := HT2.out.cells
  have r0 : w2.cell? ⟨P', 0, none⟩ = some (.slice AR s.b.length cR) := hbR.cell 0
  have r1 : w2.cell? ⟨P', 1, none⟩ = some (.int .i64 s.n) := hbR.cell 1
  have r2 : w2.cell? ⟨P', 2, none⟩ = some (.bool s.dead) := hbR.cell 2
  have r4 : w2.cell? ⟨P', 4, none⟩ = some (.slice TAR s.t.length cTR) := hbR.cell 4
  have HE := Lib.hid (eqb_quiet w2 HO2.out.sl hslR)
  have HY := Lib.hid (fun n => (HT2.out.drewN n).readP (fun F hD => (dsynced_any hD).mono (fun _ _ ⟨a, b⟩ => (⟨a, b.symm⟩ : _ ∧ _))))
  have HDe := Lib.hid (fun n => (HT2.out.drewN n).readP (fun F hD => (ddead_any hD).mono (fun _ _ ⟨a, b⟩ => (⟨a, b.symm⟩ : _ ∧ _))))
  have htl : s.t.length ≤ 1000 := htR
  have hbl : s.b.length ≤ 1048576 := hlR
  clear hR6 hC6 hB2 HTr HO5 hbR hslR hrR heR hlR htR HT2
  go_wp2_with fail
  go_quiet (first | (go_at_call 25; exact Calls.quiet_of_same (HE.out _)) | (go_at_call 26; exact Calls.quiet_of_same (HY.out _)) | (go_at_call 15; exact Calls.quiet_of_same (HDe.out _)))
  obtain ⟨N, hN⟩ : ∃ N, s.t.length = N := ⟨_, rfl⟩
  obtain ⟨M, hM⟩ : ∃ M, s.b.length = M := ⟨_, rfl⟩
  rw [hN] at htl ⊢
  rw [hM] at hbl ⊢
  have HN := Lib.hid hN
  have HM := Lib.hid hM
  have hus : us.length = N := by rw [HC2.out.1.1, hN]
  have HUS := Lib.hid hus
  clear r0 r1 r2 r4 HE HY HDe hN hM hus
  go_wp2_with fail
  go_loopg [7] N (fun g v7 wr => ∃ i : Nat, v7 = .int .i64 i ∧ i ≤ N ∧ g = N - i ∧ Hid (Row wr w1.heap.size 26 1 A6 N c6 us) ∧ Hid (∀ (j : Nat) v l, i ≤ j → us[j]? = some v → s.t[j]? = some l → ∃ A c, v = .slice A l.length c ∧ Own wr w1.heap.size 5 A l.length c l) ∧
    Hid (Own wr w.heap.size 5 A5 M c5 s.b) ∧ Hid (Fr (fun b => w.heap.size ≤ b) w wr) ∧ Hid (w1.heap.size ≤ wr.heap.size))
  case atStart =>
    refine ⟨0, rfl, by omega, rfl, ?_, ?_, ?_, ?_, ?_⟩
    · have := HR2.out
      rw [HN.out] at this
      exact this
    · intro j v l _ h1 h2
      obtain ⟨A, c, e, ho⟩ := HC2.out.1.2 j v l h1 h2
      exact ⟨A, c, e, ho.drewN _⟩
    · have := HO2.out
      rw [HM.out] at this
      exact this.drewN _
    · exact (Fr.of_below HB2.out).drewN _
    · exact Nat.le_trans (Nat.le_refl _) HB12.out
  case round =>
    obtain ⟨i, rfl, hi, rfl, hR, hCl, hO, hF, hsz⟩ := hrel
    by_cases hlt : i < N
    · have hit : i < s.t.length := by have := HN.out; omega
      have hiu : i < us.length := by have := HUS.out; omega
      obtain ⟨Ai, ci, hvi, hoi⟩ := hCl.out i _ _ (Nat.le_refl _) (List.getElem?_eq_getElem hiu) (List.getElem?_eq_getElem hit)
      obtain ⟨l, hl⟩ : ∃ l, s.t[i] = l := ⟨_, rfl⟩
      have hl2 : s.t[i]? = some l := by rw [List.getElem?_eq_getElem hit, hl]
      have hu2 : us[i]? = some (.slice Ai l.length ci) := by rw [List.getElem?_eq_getElem hiu, hvi, hl]
      rw [hl] at hoi
      obtain ⟨g6, rfl⟩ := hR.out.at_ (by omega)
      have t6 : wr.cell? ⟨g6, i, none⟩ = some (.slice Ai l.length ci) := by rw [hR.out.cell i (by omega), hu2]
      have HTr := Lib.hid (HT.out.far hF.out (fun b hb => .inr hb))
      obtain ⟨AR, cR, TAR, cTR, vsR, hbR, hslR, hrR, heR, hlR, htR⟩ := HTr.out.cells
      rw [HN.out] at hbR hrR
      have r4 : wr.cell? ⟨P', 4, none⟩ = some (.slice TAR N cTR) := hbR.cell 4
      obtain ⟨gR, rfl⟩ := hrR.at_ (by omega)
      have hvl : i < vsR.length := by have := hrR.len; omega
      obtain ⟨Z, ⟨AZ, nZ, cZ, hvZ, hsZ, _, hnZ⟩, _⟩ := heR.2 i _ _ (List.getElem?_eq_getElem hvl) hl2
      have tR : wr.cell? ⟨gR, i, none⟩ = some (.slice AZ nZ cZ) := by rw [hrR.cell i (by omega), List.getElem?_eq_getElem hvl, hvZ]
      have HE := Lib.hid (eqb_quiet wr hoi.sl hsZ)
      have hiN : (i : Int) < (N : Int) := by omega
      have hi0 : (0 : Int) ≤ (i : Int) := by omega
      have HOI := Lib.hid hoi
      have HU2 := Lib.hid hu2
      have HL2 := Lib.hid hl2
      have hll : l.length ≤ 1000000000 := by have := hsZ.len; omega
      clear hbR hslR hrR heR hlR htR hvi hl2 hu2 hl hit hiu hvZ hsZ hnZ hvl hoi
      go_wp2_with fail
      go_quiet (first | (go_at_call 25; exact Calls.quiet_of_same (HE.out _)))
      go_wp2_with fail
      go_loopg [8] l.length (fun g v8 wy => ∃ (j : Nat) (L : List UInt8), v8 = .int .i64 j ∧ j ≤ l.length ∧ g = l.length - j ∧ Own wy w1.heap.size 5 Ai l.length ci L ∧ Hid (Fr (fun b => blkOf Ai = some b) wr wy))
      case atStart => exact ⟨0, _, rfl, by omega, rfl, HOI.out.drewN _, (Fr.refl _ wr).drewN _⟩
      case round =>
        rename World => wy
        obtain ⟨j, L, rfl, hj, rfl, hOx, hFx⟩ := hrel
        have hRy := hR.out.fr hFx.out (fun b hb hb' => Row.ne_row hR.out HOI.out.toRow (by decide) b hb hb')
        have t6y : wy.cell? ⟨g6, i, none⟩ = some (.slice Ai l.length ci) := by rw [hRy.cell i (by omega), HU2.out]
        have HRy := Lib.hid hRy
        clear hRy
        by_cases hlt2 : j < l.length
        · obtain ⟨g, rfl⟩ := hOx.at_ (by omega)
          obtain ⟨u, hu, cu, fu⟩ := hOx.get rfl hlt2
          obtain ⟨v, hv, huv⟩ := xorByte u 1 (by decide)
          have huv' : bits .xor .u8 (u.toNat : Int) 1 = (v : Int) := huv
          have HOx := Lib.hid (hOx.setByte hlt2 v hv)
          have HFx := Lib.hid (hFx.out.setCell (p := ⟨g, j, none⟩) (.inl rfl) (.int .u8 (v : Int)))
          have hj0 : (0 : Int) ≤ (j : Int) := by omega
          have hjl : (j : Int) < (l.length : Int) := by omega
          clear hu hv huv hOx
          go_wp2_with fail
          go_region
          go_wp2
          go_roundg (l.length - (j + 1))
          case measure => omega
          case rel => exact ⟨j + 1, _, by go_num, by omega, rfl, HOx.out.drew, HFx.out.drew⟩
        · have hlt3 : ¬ (j : Int) < (l.length : Int) := by omega
          have hge : ∀ b, blkOf Ai = some b → w1.heap.size ≤ b := fun b hb => (HOI.out.lt b hb).1
          have HCy := Lib.hid (show ∀ (j : Nat) v l, i + 1 ≤ j → us[j]? = some v → s.t[j]? = some l → ∃ A c, v = .slice A l.length c ∧ Own wy w1.heap.size 5 A l.length c l from fun j' v' l' hj' h1 h2 => by
            obtain ⟨A', c', rfl, ho'⟩ := hCl.out j' v' l' (by omega) h1 h2
            exact ⟨A', c', rfl, ho'.fr hFx.out (fun b hb hb' => HC2.out.2 i j' _ _ _ _ _ _ (by omega) HU2.out h1 b hb' hb)⟩)
          have HOy := Lib.hid (hO.out.fr hFx.out (fun b hb hb' => by have := hge b hb'; have := HL5.out b hb; omega))
          have HFy := Lib.hid (hF.out.trans hFx.out (fun b hb => .inl (Nat.le_trans HS1.out (hge b hb))))
          have HSy := Lib.hid (Nat.le_trans hsz.out hFx.out.size)
          clear hOx hFx hge
          go_wp2
          go_roundg (N - (i + 1))
          case measure => omega
          case rel => exact ⟨i + 1, by go_num, by omega, rfl, HRy.out, HCy.out, HOy.out, HFy.out, HSy.out⟩
    · have hlt' : ¬ (i : Int) < (N : Int) := by omega
      clear hR hCl
      go_wp2_with fail
      go_loopg [9] M (fun g v9 wy => ∃ (j : Nat) (L : List UInt8), v9 = .int .i64 j ∧ j ≤ M ∧ g = M - j ∧ Own wy w.heap.size 5 A5 M c5 L ∧ Hid (Fr (fun b => blkOf A5 = some b) wr wy))
      case atStart => exact ⟨0, _, rfl, by omega, rfl, hO.out, Fr.refl _ _⟩
      case round =>
        rename World => wy
        obtain ⟨j, L, rfl, hj, rfl, hOx, hFx⟩ := hrel
        by_cases hlt2 : j < M
        · obtain ⟨g, rfl⟩ := hOx.at_ (by omega)
          obtain ⟨u, hu, cu, fu⟩ := hOx.get rfl hlt2
          obtain ⟨v, hv, huv⟩ := xorByte u 51 (by decide)
          have huv' : bits .xor .u8 (u.toNat : Int) 51 = (v : Int) := huv
          have HOx := Lib.hid (hOx.setByte hlt2 v hv)
          have HFx := Lib.hid (hFx.out.setCell (p := ⟨g, j, none⟩) (.inl rfl) (.int .u8 (v : Int)))
          clear hu hv huv hOx
          go_wp2
          go_roundg (M - (j + 1))
          case measure => omega
          case rel => exact ⟨j + 1, _, by go_num, by omega, rfl, HOx.out, HFx.out⟩
        · have hlt3 : ¬ (j : Int) < (M : Int) := by omega
          have HFf := Lib.hid (hF.out.trans hFx.out (fun b hb => .inl (hO.out.lt b hb).1))
          clear hOx hFx
          go_wp2
          go_ret
          exact ⟨rfl, HT.out.far HFf.out (fun b hb => .inr hb), HFf.out.to_below (Nat.le_refl _) (fun b hb => hb)⟩
end Go.Proofs.Ytblpnlobicjccaa
