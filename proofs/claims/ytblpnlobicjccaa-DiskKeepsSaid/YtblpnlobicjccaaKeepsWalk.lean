/- The law DiskKeeps. -/
import Derived.Test.YtblpnlobicjccaaKeepsPure
import Derived.Deep.LoopGhost
import Derived.Deep.DeepCutAuto
import Derived.Deep.CutBlock
namespace Go.Proofs.Ytblpnlobicjccaa
open Go.RowKit

/-- A slice of calls (Do). -/
def Dos (w : World) (A : Option Addr) (n c : Nat) : Prop :=
  n ≤ c ∧ c ≤ maxLen ∧ ∀ i, i < n → ∃ b o x y z m, A = some ⟨b, o, none⟩ ∧ El w b (o + i * 4) (.int .i64 x) (.int .i64 y) (.bool z) m

/-- What a round has behind a call of the disk: the disk, the bytes written. -/
def KMid (w w' : World) (s' : DS) (F' : Nat → Prop) (P : Nat) (A' : Option Addr) (c' : Nat) (L' : List UInt8) (sure : Nat) (i : Nat) : Prop :=
  Dk w' w.heap.size F' P s' ∧ Own w' w.heap.size 5 A' L'.length c' L' ∧ (∀ b, blkOf A' = some b → ¬ F' b) ∧ KPost s' L' sure ∧ L'.length ≤ (i + 1) * 300 ∧ s'.t.length ≤ i + 1 ∧ Below w.heap.size w w'

theorem kmid_same {w w4 w' : World} {F : Nat → Prop} {P : Nat} {s s' : DS} {Aa : Option Addr} {ca i : Nat} {v : Value} {en : Ending} (hD : Dk w4 w.heap.size F P s) (hO : Own w4 w.heap.size 5 Aa s.b.length ca s.b) (hna : ∀ b, blkOf Aa = some b → ¬ F b) (hB : Below w.heap.size w w4)
    (hp : DkPost w4 w.heap.size F P v s' en w') {L' : List UInt8} {sure' : Nat} (hk : KPost s' L' sure') (hbl : s.b.length ≤ i * 300) (ht : s'.t.length ≤ i + 1) (q : Nat) (hq : q ≤ s.b.length) (hL : L' = s.b.take q) :
    en = .returned v ∧ ∃ F', KMid w w' s' F' P Aa ca L' sure' i := by
  obtain ⟨rfl, F', h1, h2, h3⟩ := hp
  have hl : L'.length = q := by rw [hL]; simp; omega
  refine ⟨rfl, F', h1, ?_, fun b hb hF => ?_, hk, by omega, ht, Fr.below hB h3 hD.base_ (fun b hb => (hD.lt b hb).1)⟩
  · rw [hl, hL]
    exact (hO.take hq).fr h3 hna
  · rcases h2 b hF with e | e
    · exact hna b hb e
    · have := (hO.lt b hb).2; omega

theorem kmid_new {w w4 w' w7 : World} {F F' : Nat → Prop} {P : Nat} {s s' : DS} {A7 : Option Addr} {c7 i : Nat} (hD : Dk w4 w.heap.size F P s) (hB : Below w.heap.size w w4)
    (h1 : Dk w' w.heap.size F' P s') (h3 : Fr F w4 w') {L' : List UInt8} {sure' : Nat} (hO : Own w7 w'.heap.size 5 A7 L'.length c7 L') (hB7 : Below w'.heap.size w' w7) (hk : KPost s' L' sure') (hl : L'.length ≤ (i + 1) * 300) (ht : s'.t.length ≤ i + 1) :
    KMid w w7 s' F' P A7 c7 L' sure' i := by
  have hB' : Below w.heap.size w w' := Fr.below hB h3 hD.base_ (fun b hb => (hD.lt b hb).1)
  refine ⟨h1.old hB7, hO.mono hB'.size, fun b hb hF => ?_, hk, hl, ht, hB'.trans (hB7.mono hB'.size)⟩
  have := (hO.lt b hb).1
  have := (h1.lt b hF).2
  omega
theorem KPost.inv {s' : DS} {L' : List UInt8} {sure' : Nat} (h : KPost s' L' sure') : KInv s' sure' := ⟨h.1, h.2.1, h.2.2.2.2.2⟩
theorem KPost.all {s' : DS} {L' : List UInt8} {sure' : Nat} (h : KPost s' L' sure') (hd : s'.dead = false) : L' = s'.b := by
  obtain ⟨_, _, _, h4, h5, _⟩ := h
  have e := h5 hd
  rw [h4, e, List.take_length]

set_option maxRecDepth 100000 in
set_option maxHeartbeats 4000000 in
theorem diskKeeps_walk {A : Option Addr} {n c : Nat} (w : World) (h : Dos w A n c) :
    Calls Try.prog 3 #[.slice A n c] w fun e w' => e = .returned (.bool true) ∧ Below w.heap.size w w' := by
  obtain ⟨hnc, hcm, hel⟩ := h
  have HE := Lib.hid hel
  clear hel
  go_enter Try.func3, Try.ntmps3
  go_wp2_with fail
  refine (dworks_any w).mono ?_
  rintro en w0 ⟨rfl, hB0⟩
  go_wp2_with fail
  refine (dnew_any w0).mono ?_
  rintro en w1 ⟨rfl, rfl⟩
  have hD : Dk _ w.heap.size _ _ _ := (dnew_dk w0).lower hB0.size
  have hB1 := hB0.alloc hB0.size (.cells #[.slice none 0 0, .int .i64 0, .bool false, .func (.func 61) #[] #[], .slice none 0 0] 65)
  generalize w0.alloc (.cells #[.slice none 0 0, .int .i64 0, .bool false, .func (.func 61) #[] #[], .slice none 0 0] 65) = w1 at *
  generalize w0.heap.size = P at *
  have HD := Lib.hid hD
  have HB := Lib.hid hB1
  clear hD hB1 hB0
  go_wp2_with fail
  go_loopg [4, 5, 6] 80 (fun g v4 v5 v6 wr => ∃ (i : Nat) (s : DS) (F : Nat → Prop) (Aa : Option Addr) (ca sure : Nat), v6 = .int .i64 i ∧ v4 = .slice Aa s.b.length ca ∧ v5 = .int .i64 sure ∧ i ≤ n ∧ i ≤ 80 ∧ g = 80 - i ∧ Hid (Dk wr w.heap.size F P s) ∧
    Hid (Own wr w.heap.size 5 Aa s.b.length ca s.b) ∧ Hid (∀ b, blkOf Aa = some b → ¬ F b) ∧ Hid (KInv s sure) ∧ Hid (s.b.length ≤ i * 300) ∧ Hid (s.t.length ≤ i) ∧ Hid (Below w.heap.size w wr))
  case atStart => exact ⟨0, S0, _, none, 0, 0, rfl, rfl, rfl, by omega, by omega, rfl, HD.out, Own.nil _ _ _, fun b hb => (by cases hb), ⟨Nat.le_refl _, Nat.le_refl _, fun h => (by cases h)⟩, Nat.le_refl _, Nat.le_refl _, HB.out⟩
  case round =>
    obtain ⟨i, s, F, Aa, ca, sure, rfl, rfl, rfl, hin, hi80, rfl, hDk, hOa, hna, hK, hbl, htl, hBr⟩ := hrel
    by_cases hlt : i < n ∧ i < 80
    · obtain ⟨hl1, hl2⟩ := hlt
      obtain ⟨b, o, x, y, z, m, rfl, hE⟩ := HE.out i hl1
      obtain ⟨c0, c1, c2, _⟩ := hE.old hBr.out
      obtain ⟨A2, n2, c2', d3, hSw⟩ := hE.c3
      have c3 := (hBr.out.cell (p := ⟨b, o + i * 4 + 3, none⟩) (World.block_lt_of_cell? w _ d3)).trans d3
      have hS := hSw.old hBr.out
      obtain ⟨k, hk⟩ : ∃ k, k = min n2 300 := ⟨_, rfl⟩
      have hmin : (if (300 : Int) < (n2 : Int) then (300 : Int) else (n2 : Int)) = (k : Int) := by split <;> omega
      have hk300 : k ≤ 300 := by omega
      have hkn : k ≤ n2 := by omega
      have hcap := hS.cap
      have hhi := fun w => run_cut_hi w A2 n2 c2' k (by omega)
      have hlow : ∀ b', m.take k ≠ [] → blkOf A2 = some b' → b' < w.heap.size := fun b' hm hb' => (hSw.take hkn).lt hm b' hb'
      have HLow := Lib.hid hlow
      have HS := Lib.hid (hS.take hkn)
      obtain ⟨L, hL⟩ : ∃ L, s.b.length = L := ⟨_, rfl⟩
      have HL := Lib.hid hL
      have hLb : L ≤ 24000 := by have := hbl.out; omega
      rw [hL]
      clear hk hS hE hcap hkn hlow d3 hSw hL
      go_wp2_with fail
      have hX := Blk.new wr 28 #[.int .i64 x, .int .i64 y, .bool z, .slice A2 n2 c2']
      have hfr := (Fr.refl (fun _ => False) wr).alloc (.cells #[.int .i64 x, .int .i64 y, .bool z, .slice A2 n2 c2'] 28)
      have HD4 := Lib.hid (hDk.out.fr hfr (fun _ _ => id))
      have HO4 := Lib.hid (hOa.out.fr hfr (fun _ _ => id))
      have HS4 := Lib.hid (HS.out.fr hfr (fun _ _ => id))
      have HB4 := Lib.hid (hBr.out.alloc hBr.out.size (.cells #[.int .i64 x, .int .i64 y, .bool z, .slice A2 n2 c2'] 28))
      obtain ⟨X, hX0⟩ : ∃ X, X = wr.heap.size := ⟨_, rfl⟩
      rw [← hX0] at hX ⊢
      have HX0 := Lib.hid hX0
      clear hX0 hfr
      generalize wr.alloc (.cells #[.int .i64 x, .int .i64 y, .bool z, .slice A2 n2 c2'] 28) = w4 at *
      have q0 : w4.cell? ⟨X, 0, none⟩ = some (.int .i64 x) := hX.cell 0
      obtain ⟨q, hq⟩ : ∃ q : Nat, y % ((L : Int) + 3) = q := ⟨(y % ((L : Int) + 3)).toNat, by have := Int.emod_nonneg y (show ((L : Int) + 3) ≠ 0 by omega); omega⟩
      have hqb : q < L + 3 := by have := Int.emod_lt_of_pos y (show (0 : Int) < (L : Int) + 3 by omega); omega
      have HQ := Lib.hid hq
      clear c0 c1 c2 c3 hX hq
      refine (bring_any y ((L : Int) + 3) w4 (by omega) (by omega)).mono ?_
      rintro en w5 ⟨rfl, rfl⟩
      rw [HQ.out]
      go_wp2_with fail
      obtain ⟨dd, hdd⟩ : ∃ dd, s.dead = dd := ⟨_, rfl⟩
      have hDe := ddead_any HD4.out
      rw [hdd] at hDe
      have HDD0 := Lib.hid hdd
      clear hdd
      refine hDe.mono ?_
      clear hDe
      rintro en w5 ⟨rfl, rfl⟩
      go_wp2_with fail
      refine (bring_any x 10 w4 (by decide) (by decide)).mono ?_
      rintro en w5 ⟨rfl, rfl⟩
      have h10 : (x % 10 = 3 ∨ x % 10 = 4) ∨ x % 10 = 5 ∨ x % 10 = 6 ∨ x % 10 = 7 ∨ x % 10 = 8 ∨ x % 10 = 9 ∨ (x % 10 = 0 ∨ x % 10 = 1 ∨ x % 10 = 2) := by omega
      generalize x % 10 = r at *
      go_upto_block 2 with fail
      go_cut [4, 5] (fun v4 v5 wc => ∃ (s' : DS) (F' : Nat → Prop) (A' : Option Addr) (c' : Nat) (L' : List UInt8) (sure' : Nat), v4 = .slice A' L'.length c' ∧ v5 = .int .i64 sure' ∧ Hid (KMid w wc s' F' P A' c' L' sure' i))
      case first =>
        have HW4 := Lib.hid (show m.take k ≠ [] → ∀ b, blkOf A2 = some b → ¬ F b from fun hm b hb hF => by have := HLow.out b hm hb; have := (HD4.out.lt b hF).1; omega)
        have hkm := HS.out.len
        have HKM := Lib.hid hkm
        obtain ⟨mm, hmm⟩ : ∃ mm, m.take k = mm := ⟨_, rfl⟩
        rw [hmm] at HW4 HKM HS4
        clear hmm
        have htl' : s.t.length ≤ 900 := by have := htl.out; omega
        clear hkm
        rcases h10 with h | rfl | rfl | rfl | rfl | rfl | h
        · rcases sync_keeps hK.out with ⟨e0, hkp⟩ | ⟨e0, hkp⟩
          · have HA := Lib.hid (dsync_any HD4.out)
            rw [e0] at HA
            have HKP := Lib.hid hkp
            clear hkp e0
            rcases h with rfl | rfl
            all_goals
              go_wp2_with fail
              refine HA.out.mono ?_
              intro en w' hp
              obtain ⟨rfl, F', hm⟩ := kmid_same HD4.out HO4.out hna.out HB4.out hp HKP.out hbl.out (by rw [sync_t]; have := htl.out; omega) s.b.length (Nat.le_refl _) (by simp)
              have HM := Lib.hid hm
              clear hp hm
              go_wp2
              go_meet
              case rel => exact ⟨_, F', Aa, ca, s.b, s.b.length, by rw [HL.out], by rw [HL.out], HM.out⟩
          · have HA := Lib.hid (dsync_any HD4.out)
            have HKP := Lib.hid hkp
            clear hkp
            rcases h with rfl | rfl
            all_goals
              go_wp2_with fail
              refine HA.out.mono ?_
              intro en w' hp
              obtain ⟨rfl, F', hm⟩ := kmid_same HD4.out HO4.out hna.out HB4.out hp HKP.out hbl.out (by rw [sync_t]; have := htl.out; omega) s.b.length (Nat.le_refl _) (by simp)
              have HM := Lib.hid hm
              clear hp hm
              go_wp2
              go_meet
              case rel => exact ⟨_, F', Aa, ca, s.b, sure, by rw [HL.out], rfl, HM.out⟩
        · rcases swap_keeps hK.out mm with ⟨e0, hkp⟩ | ⟨e0, hkp⟩
          · have HA := Lib.hid (dswap_any HD4.out HS4.out HW4.out htl' (by have := HKM.out; omega))
            rw [e0] at HA
            have HKP := Lib.hid hkp
            clear hkp e0
            go_wp2_with fail
            refine HA.out.mono ?_
            rintro en w' ⟨rfl, F', h1, h2, h3⟩
            have HCB := Lib.hid (copyb_any w' (HS4.out.fr' h3 HW4.out) (by omega))
            have H1 := Lib.hid h1
            have H3 := Lib.hid h3
            clear h1 h2 h3 HA
            go_wp2_with fail
            refine HCB.out.mono ?_
            rintro en w7 ⟨A7, c7, rfl, hO7, hB7⟩
            have HM := Lib.hid (kmid_new (i := i) HD4.out HB4.out H1.out H3.out hO7 hB7 HKP.out (by have := HKM.out; omega) (by have := swap_t mm s; have := htl.out; omega))
            clear hO7 hB7 HCB
            go_wp2
            go_meet
            case rel => exact ⟨_, F', A7, c7, mm, mm.length, rfl, by rw [← HKM.out], HM.out⟩
          · have HA := Lib.hid (dswap_any HD4.out HS4.out HW4.out htl' (by have := HKM.out; omega))
            have HKP := Lib.hid hkp
            clear hkp
            go_wp2_with fail
            refine HA.out.mono ?_
            intro en w' hp
            obtain ⟨rfl, F', hm⟩ := kmid_same HD4.out HO4.out hna.out HB4.out hp HKP.out hbl.out (by have := swap_t mm s; have := htl.out; omega) s.b.length (Nat.le_refl _) (by simp)
            have HM := Lib.hid hm
            clear hp hm
            go_wp2
            go_meet
            case rel => exact ⟨_, F', Aa, ca, s.b, sure, by rw [HL.out], rfl, HM.out⟩
        · rcases cut_keeps hK.out q with ⟨e0, hql, hkp⟩ | ⟨e0, hkp⟩
          · have HA := Lib.hid (dcut_any (q : Int) HD4.out)
            rw [e0] at HA
            have HKP := Lib.hid hkp
            have hcap := HO4.out.cap
            have HQL0 := Lib.hid hql
            rw [HL.out] at hcap hql
            have hhi2 := fun w => run_cut_hi w Aa L ca q (by omega)
            have HQL := Lib.hid hql
            clear hkp e0 hcap hql
            go_wp2_with fail
            refine HA.out.mono ?_
            intro en w' hp
            obtain ⟨rfl, F', hm⟩ := kmid_same HD4.out HO4.out hna.out HB4.out hp HKP.out hbl.out (by rw [cut_t]; have := htl.out; omega) q HQL0.out rfl
            have HM := Lib.hid hm
            clear hp hm
            go_wp2
            go_meet
            case rel => exact ⟨_, F', Aa, ca, s.b.take q, q, by rw [List.length_take, HL.out, Nat.min_eq_left HQL.out], rfl, HM.out⟩
          · have HA := Lib.hid (dcut_any (q : Int) HD4.out)
            have HKP := Lib.hid hkp
            clear hkp
            go_wp2_with fail
            refine HA.out.mono ?_
            intro en w' hp
            obtain ⟨rfl, F', hm⟩ := kmid_same HD4.out HO4.out hna.out HB4.out hp HKP.out hbl.out (by rw [cut_t]; have := htl.out; omega) s.b.length (Nat.le_refl _) (by simp)
            have HM := Lib.hid hm
            clear hp hm
            go_wp2
            go_meet
            case rel => exact ⟨_, F', Aa, ca, s.b, sure, by rw [HL.out], rfl, HM.out⟩
        · have hkp := arm_keeps hK.out (q : Int)
          have HA := Lib.hid (darm_any (q : Int) (by omega) HD4.out)
          have HKP := Lib.hid hkp
          clear hkp
          go_wp2_with fail
          refine HA.out.mono ?_
          intro en w' hp
          obtain ⟨rfl, F', hm⟩ := kmid_same HD4.out HO4.out hna.out HB4.out hp HKP.out hbl.out (by rw [arm_t]; have := htl.out; omega) s.b.length (Nat.le_refl _) (by simp)
          have HM := Lib.hid hm
          clear hp hm
          go_wp2
          go_meet
          case rel => exact ⟨_, F', Aa, ca, s.b, sure, by rw [HL.out], rfl, HM.out⟩
        · obtain ⟨e0, hdd, hkp⟩ := crash_keeps hK.out q
          have HA := Lib.hid (dcrash_any (q : Int) HD4.out)
          rw [e0] at HA
          have HKP := Lib.hid hkp
          have HDD := Lib.hid hdd
          clear hkp e0 hdd
          go_wp2_with fail
          refine HA.out.mono ?_
          intro en w' hp
          obtain ⟨rfl, F', hm⟩ := kmid_same HD4.out HO4.out hna.out HB4.out hp HKP.out hbl.out (by rw [crash_t]; have := htl.out; omega) s.b.length (Nat.le_refl _) (by simp)
          have HM := Lib.hid hm
          have HDe := Lib.hid (ddead_any hm.1)
          rw [HDD.out] at HDe
          clear hp hm
          go_wp2_with (go_at_call 15; refine HDe.out.mono ?_; rintro en w7 ⟨rfl, rfl⟩)
          go_meet
          case rel => exact ⟨_, F', Aa, ca, s.b, sure, by rw [HL.out], rfl, HM.out⟩
        · have hkp := revive_keeps hK.out
          have HA := Lib.hid (drevive_any HD4.out)
          have HKP := Lib.hid hkp
          clear hkp
          go_wp2_with fail
          refine HA.out.mono ?_
          intro en w' hp
          obtain ⟨rfl, F', hm⟩ := kmid_same HD4.out HO4.out hna.out HB4.out hp HKP.out hbl.out (by have := htl.out; dsimp only; omega) s.b.length (Nat.le_refl _) (by simp)
          have HM := Lib.hid hm
          have HDe := Lib.hid (ddead_any hm.1)
          clear hp hm
          go_wp2_with (go_at_call 15; refine HDe.out.mono ?_; rintro en w7 ⟨rfl, rfl⟩)
          go_meet
          case rel => exact ⟨_, F', Aa, ca, s.b, sure, by rw [HL.out], rfl, HM.out⟩
        · have HA := Lib.hid (dwrite_any HD4.out HS4.out HW4.out htl' (by have := HKM.out; omega))
          cases dd
          · obtain ⟨e0, hkp⟩ := write_keeps hK.out mm HDD0.out (by have := HKM.out; have := hbl.out; omega)
            rw [e0] at HA
            have HKP := Lib.hid hkp
            clear hkp e0
            rcases h with rfl | rfl | rfl
            all_goals
              go_wp2_with fail
              refine HA.out.mono ?_
              rintro en w' ⟨rfl, F', h1, h2, h3⟩
              have HO5 := Lib.hid (HO4.out.fr h3 hna.out)
              have HCB := Lib.hid (copyb_any w' HO5.out.sl (by have := hbl.out; omega))
              have HS5 := Lib.hid (HS4.out.fr' h3 HW4.out)
              have H1 := Lib.hid h1
              have H3 := Lib.hid h3
              rw [HL.out] at HCB
              clear h1 h2 h3 HA
              go_wp2_with fail
              refine HCB.out.mono ?_
              rintro en w7 ⟨A7, c7, rfl, hO7, hB7⟩
              rw [HL.out] at hO7 ⊢
              have HO7 := Lib.hid hO7
              have HB7 := Lib.hid hB7
              clear hO7 hB7 HCB
              go_wp2_with (at_builtin; refine app_bytes rfl _ _ rfl rfl rfl HO7.out (HS5.out.old HB7.out) (by omega) HB7.out.size ?_; intro A8 c8 w8 hO8 hF8 hA8)
              have hO8' : Own w8 w'.heap.size 5 A8 (s.b ++ mm).length c8 (s.b ++ mm) := by
                have e : (s.b ++ mm).length = L + k := by rw [List.length_append, HL.out, ← HKM.out]
                rw [e]; exact hO8
              have HM := Lib.hid (kmid_new (i := i) HD4.out HB4.out H1.out H3.out hO8' (Fr.below HB7.out hF8 HB7.out.size (fun b hb => (HO7.out.lt b hb).1)) HKP.out (by have := HKM.out; have := hbl.out; rw [List.length_append]; omega) (by have := write_t mm s; have := htl.out; omega))
              clear hO8 hO8' hF8 hA8 HO7 HB7
              go_wp2
              go_meet
              case rel => exact ⟨_, F', A8, c8, s.b ++ mm, sure, by rw [List.length_append, HL.out, ← HKM.out], rfl, HM.out⟩
          · obtain ⟨e0, hkp⟩ := write_dead hK.out mm HDD0.out
            rw [e0] at HA
            have HKP := Lib.hid hkp
            clear hkp e0
            rcases h with rfl | rfl | rfl
            all_goals
              go_wp2_with fail
              refine HA.out.mono ?_
              intro en w' hp
              obtain ⟨rfl, F', hm⟩ := kmid_same HD4.out HO4.out hna.out HB4.out hp HKP.out hbl.out (by have := write_t mm s; have := htl.out; omega) s.b.length (Nat.le_refl _) (by simp)
              have HM := Lib.hid hm
              clear hp hm
              go_wp2
              go_meet
              case rel => exact ⟨_, F', Aa, ca, s.b, sure, by rw [HL.out], rfl, HM.out⟩
      case rest =>
        obtain ⟨s', F', A', c', L', sure', rfl, rfl, hM⟩ := hcut
        obtain ⟨hD', hO', hn', hKP, hLl, ht', hB'⟩ := hM.out
        have HKP := Lib.hid hKP
        obtain ⟨k1, k2, k3, k4, k5, k6⟩ := hKP
        have HR := Lib.hid (dread_any hD')
        have hcap := hO'.cap
        have hhi3 := fun w => run_cut_hi w A' L'.length c' s'.b.length (by omega)
        have HD' := Lib.hid hD'
        have HO' := Lib.hid hO'
        have HN' := Lib.hid hn'
        have HB' := Lib.hid hB'
        have HLl := Lib.hid hLl
        have HT' := Lib.hid ht'
        have HK3 := Lib.hid k3
        have HK4 := Lib.hid k4
        have HK5 := Lib.hid k5
        have n1 : ¬ (s'.b.length : Int) < (sure' : Int) := by omega
        have n2 : ¬ (L'.length : Int) < (s'.b.length : Int) := by omega
        have n3 : ¬ (s'.n : Int) < (sure' : Int) := by omega
        have n4 : ¬ (s'.b.length : Int) < (s'.n : Int) := by omega
        clear h10 q0 hD' hO' hn' hLl ht' hB' hcap k1 k2 k3 k4 k5 k6 hM HQ hqb HD4 HO4 HS4 HB4
        go_wp2_with fail
        refine HR.out.mono ?_
        rintro en w6 ⟨A6, c6, rfl, hO6, hB6⟩
        have hE : Calls Try.prog 25 #[.slice A6 s'.b.length c6, .slice A' s'.b.length c'] w6 fun e w' => e = .returned (.bool true) ∧ w6 = w' := by
          have := eqb_any w6 hO6.sl ((HO'.out.take HK3.out).sl.old hB6)
          rw [← HK4.out] at this
          simpa using this
        have HE6 := Lib.hid hE
        have HS6 := Lib.hid (dsynced_any (HD'.out.old hB6))
        have HDD := Lib.hid (ddead_any (HD'.out.old hB6))
        have HO6 := Lib.hid hO6
        have HB6 := Lib.hid hB6
        clear hO6 hB6 hE HR
        cases hd : s'.dead
        · have hlen := HK5.out hd
          have hall := KPost.all HKP.out hd
          have he : ((s'.b.length : Int) != (L'.length : Int)) = false := by rw [hlen]; simp
          have HALL := Lib.hid hall
          clear hlen hall
          rw [hd] at HDD
          go_wp2_with (first | (go_at_call 25; refine HE6.out.mono ?_; rintro en w' ⟨rfl, rfl⟩) | (go_at_call 26; refine HS6.out.mono ?_; rintro en w' ⟨rfl, rfl⟩) | (go_at_call 15; refine HDD.out.mono ?_; rintro en w' ⟨rfl, rfl⟩))
          go_roundg (80 - (i + 1))
          case measure => omega
          case rel =>
            refine ⟨i + 1, s', F', A', c', sure', by go_num, by rw [HALL.out], rfl, by omega, by omega, rfl, HD'.out.old HB6.out, ?_, HN'.out, HKP.out.inv, ?_, HT'.out, HB'.out.trans (HB6.out.mono HB'.out.size)⟩
            · have := HO'.out.below_at HB6.out
              rw [HALL.out] at this
              exact this
            · show _ ≤ _
              have := HLl.out
              rw [HALL.out] at this
              exact this
        · rw [hd] at HDD
          have HC6 := Lib.hid (copyb_any w6 HO6.out.sl (by have := HK3.out; have := HLl.out; omega))
          go_wp2_with (first | (go_at_call 25; refine HE6.out.mono ?_; rintro en w' ⟨rfl, rfl⟩) | (go_at_call 26; refine HS6.out.mono ?_; rintro en w' ⟨rfl, rfl⟩) | (go_at_call 15; refine HDD.out.mono ?_; rintro en w' ⟨rfl, rfl⟩))
          refine HC6.out.mono ?_
          rintro en w7 ⟨A7, c7, rfl, hO7, hB7⟩
          have HO7 := Lib.hid hO7
          have HB67 := Lib.hid (HB6.out.trans (hB7.mono HB6.out.size))
          have HSZ := Lib.hid (show w.heap.size ≤ w6.heap.size from Nat.le_trans HB'.out.size HB6.out.size)
          have HN7 := Lib.hid (show ∀ b, blkOf A7 = some b → ¬ F' b from fun b hb hF => by have := (hO7.lt b hb).1; have := ((HD'.out.old HB6.out).lt b hF).2; omega)
          clear hO7 hB7 HC6
          go_wp2
          go_roundg (80 - (i + 1))
          case measure => omega
          case rel =>
            refine ⟨i + 1, s', F', A7, c7, s'.b.length, by go_num, rfl, rfl, by omega, by omega, rfl, HD'.out.old HB67.out, HO7.out.mono HSZ.out, HN7.out, ?_, ?_, HT'.out, HB'.out.trans (HB67.out.mono HB'.out.size)⟩
            · obtain ⟨_, h2, h3⟩ := HKP.out.inv
              exact ⟨Nat.le_of_eq (h3 hd).symm, h2, h3⟩
            · show _ ≤ _
              have := HLl.out
              have := HK3.out
              omega
    · have hd : (i : Int) < (n : Int) ∧ ¬ (i : Int) < 80 ∨ ¬ (i : Int) < (n : Int) := by omega
      rcases hd with ⟨hd1, hd2⟩ | hd1
      all_goals
        go_wp2
        go_ret
        exact ⟨rfl, hBr.out⟩
end Go.Proofs.Ytblpnlobicjccaa
