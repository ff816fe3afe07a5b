/- NumFirst, walked. -/
import Derived.Test.YtblpnlobicjccaaFirstPair
import Derived.Test.YtblpnlobicjccaaOrderWalk
import Derived.Deep.RegionHeld3
namespace Go.Proofs.Ytblpnlobicjccaa
open Go.RowKit

theorem litOne (w : World) : Sl (w.alloc (.cells #[.int .u8 128] 5)) (some ⟨w.heap.size, 0, none⟩) 1 1 [128] := litSl w [128] _ 1 (0, 0) rfl rfl (by decide)

theorem drop_one (lb : List UInt8) (k : Int) (h : k = lb.length) : (lb ++ [128]).drop k.toNat = [128] := by subst h; simp

set_option maxRecDepth 100000 in
set_option maxHeartbeats 4000000 in
theorem numFirst_walk {A AI : Option Addr} {n c nI cI : Nat} {l : List UInt8} {li : List Int} (which : Int) (w : World) (h : Sl w A n c l) (hI : Is w AI nI cI li) :
    Calls Try.prog 11 #[.slice A n c, .int .i64 which, .slice AI nI cI] w (Tells w) := by
  have hn := h.len
  have hcap := h.cap
  have hs0 := h.take (k := min n 60) (by omega)
  have HR := Lib.hid (fun w (k : Nat) (hk : k ≤ c) => run_cut_hi w A n c k hk)
  have HB := Lib.hid (fun W => bring_any which 4 W (by decide) (by decide))
  have hq0 := Int.emod_nonneg which (show (4 : Int) ≠ 0 by decide)
  have hq1 := Int.emod_lt_of_pos which (show (0 : Int) < 4 by decide)
  have hll : (l.take (min n 60)).length ≤ 60 := by simp; omega
  have hIl := hI.max
  generalize which % 4 = q at *
  generalize l.take (min n 60) = lb at *
  have hm : (n ≤ 60 ∧ min n 60 = n) ∨ (¬ n ≤ 60 ∧ min n 60 = 60) := by omega
  have hq : q = 0 ∨ q = 1 ∨ q = 2 ∨ q = 3 := by omega
  clear hq0 hq1 h
  rcases hm with ⟨hm1, hm2⟩ | ⟨hm1, hm2⟩
  all_goals
    rw [hm2] at hs0
    have r1 := fun w => HR.out w _ hs0.cap
    have HS := Lib.hid hs0
    have HM := Lib.hid (show _ = lb.length from hs0.len)
    have hm60 : lb.length ≤ 60 := hll
    clear hm2 hs0 hn
    go_enter Try.func11, Try.ntmps11
    go_wp2_with fail
    refine (write_b _).mono ?_
    rintro en w1 ⟨rfl, hW, hB1⟩
    go_wp2_with fail
    refine (raw_b lb _ hW (HS.out.old hB1) (fun hz e => by have := HS.out.lt hz _ e; omega) (Nat.le_refl _) hB1.size (by decide) (by omega) rfl).mono ?_
    clear hW
    rintro en w2 ⟨rfl, A2, n2, c2, hW, hB2⟩
    have B2 := hB1.trans hB2
    go_wp2_with fail
    refine (copyb_any _ (HS.out.old B2) (by have := HM.out; omega)).mono ?_
    rintro en w3 ⟨A3, c3, rfl, hown3, hB3⟩
    have hW3 := hW.fr (Fr.of_below (S := fun _ => False) hB3) id (fun _ _ => id)
    have B3 := B2.trans (hB3.mono B2.size)
    have hz23 := hB3.size
    have hA3 : ∀ b, blkOf A3 = some b → w2.heap.size ≤ b := fun b hb => (hown3.lt b hb).1
    clear hB1 hB2 hB3
    go_wp2_with (at_builtin; refine app_bytes rfl _ _ rfl rfl rfl (hown3.alloc _) (litOne _) (by omega) (by simp; omega) ?_)
    intro A4 c4 w4 hown4 hf4 _
    have hP := hW3.blk.lt
    have hW4 := (hW3.fr (S := fun _ => False) ((Fr.refl _ _).alloc _) id (fun _ _ => id)).fr hf4 (fun e => by have := hA3 _ e; have := hW.blk.lt; omega) (fun b hb e => by have := hA3 _ e; have := (hW.own.lt b hb).2; omega)
    have B4 : Below w.heap.size w w4 := Fr.below (B3.alloc B3.size _) hf4 (by have := B3.size; simp; omega) (fun b hb => by have := hA3 b hb; have := B2.size; omega)
    clear hf4 hW3 hown3 hA3 B3
    go_wp2_with fail
    refine (read_any _ hown4.sl (by omega)).mono ?_
    rintro en w5 ⟨P, A5, n5, c5, rfl, hP5, hA5, hR5, hB5⟩
    have hW5 := hW4.fr (Fr.of_below (S := fun _ => False) hB5) id (fun _ _ => id)
    have hPW := hW4.blk.lt
    have hAW : ∀ b, blkOf A2 = some b → b < w4.heap.size := fun b hb => (hW4.own.lt b hb).2
    have B5 := B4.trans (hB5.mono B4.size)
    have hlen5 := Lib.hid hR5.sl.len
    clear hW4 hown4 hB5 B4
    have hT : Two w5 w.heap.size w.heap.size P 0 lb ⟨0, lb ++ [128]⟩ := ⟨⟨A2, n2, c2, A5, n5, c5, hW5, hR5, fun e => by have := hAW _ e; omega, fun _ b hb => ⟨by have := hA5 b hb; omega, fun e => by have := hAW _ e; have := hA5 b hb; omega⟩⟩, by omega, Nat.le_refl _, by have := B5.size; have := B2.size; omega, B5.size⟩
    clear hW5 hR5 hAW hA5
    go_wp2_with fail
    refine (HB.out _).mono ?_
    rintro en w6 ⟨rfl, rfl⟩
    rcases hq with rfl | rfl | rfl | rfl
    · go_wp2_with fail
      refine (hT.num 1 300 9 (by omega) (by decide +kernel) (by decide +kernel)).mono ?_
      rintro en w7 ⟨rfl, hT7, hB7⟩
      go_wp2_with fail
      refine (hT7.rraw _ (by simp; omega) (s' := ⟨3, []⟩) (by unfold rawS; rw [if_pos rfl, if_neg (by omega), if_pos (by have := HM.out; simp; omega)]) (fun h => absurd rfl h)).mono ?_
      rintro en wk ⟨A8, n8, c8, rfl, hT8, hB8⟩
      obtain ⟨ew, sw, hew, hsw, hPr⟩ := (hT8.pair (by decide) (by decide) rfl (by omega)).name
      have Bk := (B5.trans hB7).trans hB8
      have hsm := (HS.out.old Bk)
      clear hT hT7 hT8 hB7 hB8 B5 hlen5
      go_wp2_with fail
      go_loopw [11] (fun vi wr => ∃ k : Nat, vi = .int .i64 k ∧ k ≤ nI ∧ k ≤ 20 ∧ Pair wr w.heap.size w.heap.size P ew lb sw ∧ Below w.heap.size w wr) (fun vi _ => nI - (intOf vi).toNat)
      case atStart => exact ⟨0, rfl, by omega, by omega, hPr, Bk⟩
      case round =>
        obtain ⟨k, rfl, hk1, hk2, hPk, hBk⟩ := hrel
        have hIk := hI.old hBk
        have hsmk := HS.out.old hBk
        clear hPr Bk hsm
        by_cases hlt : k < nI ∧ k < 20
        · obtain ⟨hlt1, hlt2⟩ := hlt
          obtain ⟨b, o, x, rfl, hx, cx, _, _⟩ := hI.get hlt1
          have hbl := World.block_lt_of_cell? w _ cx
          have cx0 := (hBk.cell (p := ⟨b, o + k, none⟩) hbl).trans cx
          have HX := Lib.hid hx
          clear hx cx
          have hlt2' : (k : Int) < 20 := by omega
          have hlt1' : (k : Int) < (nI : Int) := by omega
          go_wp2_with fail
          go_region_held3 (fun w' => w'.cell? ⟨b, o + k, none⟩ = some (.int .i64 x)) (first | exact cx0 | exact cx1 | exact cx2 | exact cx3) (first | (go_at_call 29; refine (hPk.drew.num 3 x).mono ?_; rintro en v1 ⟨rfl, hP1, hBB1⟩; have cx1 := (hBB1.cell (p := ⟨b, o + k, none⟩) hbl).trans cx0; have hB1 := hBk.drew.trans hBB1) | (go_at_call 31; refine (hP1.count x).mono ?_; rintro en v2 ⟨rfl, hP2, hBB2⟩; have cx2 := (hBB2.cell (p := ⟨b, o + k, none⟩) hbl).trans cx1; have hB2 := hB1.trans hBB2; have hs2 := HS.out.old hB2) | (go_at_call 33; refine (hP2.text hs2 (fun hz b hb => HS.out.lt hz b hb) (by have := HM.out; omega)).mono ?_; rintro en v3 ⟨rfl, hP3, hBB3⟩; have cx3 := (hBB3.cell (p := ⟨b, o + k, none⟩) hbl).trans cx2; have hB3 := hB2.trans hBB3))
          clear hP1 hP2 cx1 cx2 hB1 hB2 hBB1 hBB2 hs2 cx0
          go_wp2_with fail
          go_region_held3 (fun w' => w'.cell? ⟨b, o + k, none⟩ = some (.int .i64 x)) (first | exact cx3 | exact cx4 | exact cx5 | exact cx6 | exact cx7) (first | (go_at_call 51; refine (hP3.drew.rnum 1).mono ?_; rintro en v4 ⟨rfl, hP4, hBB4⟩; have cx4 := (hBB4.cell (p := ⟨b, o + k, none⟩) hbl).trans cx3; have hB4 := hB3.drew.trans hBB4) | (go_at_call 46; refine (hP4.rcount x).mono ?_; rintro en v5 ⟨rfl, hP5, hBB5⟩; have cx5 := (hBB5.cell (p := ⟨b, o + k, none⟩) hbl).trans cx4; have hB5 := hB4.trans hBB5) | (go_at_call 54; refine (hP5.rtext x).mono ?_; rintro en v6 ⟨A6, c6, rfl, hP6, hBB6⟩; have cx6 := (hBB6.cell (p := ⟨b, o + k, none⟩) hbl).trans cx5; have hB6 := hB5.trans hBB6) | (go_at_call 56; refine (hP6.rraw x).mono ?_; rintro en v7 ⟨A7, c7, rfl, hP7, hBB7⟩; have cx7 := (hBB7.cell (p := ⟨b, o + k, none⟩) hbl).trans cx6; have hB7 := hB6.trans hBB7))
          clear hP3 hP4 hP5 hP6 cx3 cx4 cx5 cx6 cx7 hBB3 hBB4 hBB5 hBB6 hBB7 hB3 hB4 hB5 hB6
          go_wp2
          go_roundw
          case rel => exact ⟨k + 1, by go_num, by omega, by omega, hP7, hB7⟩
          case measure => simp [intOf]; omega
        · obtain ⟨A9, n9, c9, hW9, _⟩ := hPk.w_
          obtain ⟨A10, n10, c10, hR10⟩ := hPk.r_
          have hew0 := hPk.e_
          have hsw0 := hPk.s_
          have hswl := hPk.l_
          have q1 := Lib.hid (wbytes_any _ hW9 (by have := hW9.len; omega))
          rw [if_neg hew0] at q1
          have hlt' : (decide ((k : Int) < (nI : Int)) && decide ((k : Int) < 20)) = false := by simp; omega
          have hlt2 : ¬ (k : Int) < (nI : Int) ∨ (k : Int) < (nI : Int) ∧ ¬ (k : Int) < 20 := by omega
          clear hPk hlt' hew0 hsw0 hlt
          rcases hlt2 with hl1 | ⟨hl1, hl2⟩
          all_goals
            go_wp2_with fail
            refine q1.out.mono ?_
            rintro en w9 ⟨A11, c11, rfl, _, hB9⟩
            have hR11 := hR10.old hB9
            have B9 := hBk.trans (hB9.mono hBk.size)
            obtain rfl := hew.out
            obtain rfl := hsw.out
            go_wp2_with fail
            refine (rErr_any _ hR11).mono ?_
            rintro en w10 ⟨rfl, rfl⟩
            go_wp2_with fail
            refine (rEnd_any _ hR11).mono ?_
            rintro en w10 ⟨rfl, rfl⟩
            go_wp2_with fail
            refine (rLeft_any _ hR11).mono ?_
            rintro en w10 ⟨rfl, rfl⟩
            go_wp2_with fail
            refine (nworks_any _).mono ?_
            rintro en w10 ⟨rfl, hB10⟩
            go_wp2
            go_ret
            exact ⟨rfl, B9.trans (hB10.mono B9.size)⟩
    · go_wp2_with fail
      refine (hT.num 5 1 2 (by omega) (by decide +kernel) (by decide +kernel)).mono ?_
      rintro en w7 ⟨rfl, hT7, hB7⟩
      go_wp2_with fail
      refine (hT7.rnum 5 0 (by simp; omega) (s' := ⟨2, []⟩) (by unfold numV; rw [if_pos ⟨rfl, by decide⟩]) (by unfold numS; rw [if_pos ⟨rfl, by decide⟩]; rfl) (fun h => absurd rfl h)).mono ?_
      rintro en wk ⟨rfl, hT8, hB8⟩
      obtain ⟨ew, sw, hew, hsw, hPr⟩ := (hT8.pair (by decide) (by decide) rfl (by omega)).name
      have Bk := (B5.trans hB7).trans hB8
      have hsm := (HS.out.old Bk)
      clear hT hT7 hT8 hB7 hB8 B5 hlen5
      go_wp2_with fail
      go_loopw [11] (fun vi wr => ∃ k : Nat, vi = .int .i64 k ∧ k ≤ nI ∧ k ≤ 20 ∧ Pair wr w.heap.size w.heap.size P ew lb sw ∧ Below w.heap.size w wr) (fun vi _ => nI - (intOf vi).toNat)
      case atStart => exact ⟨0, rfl, by omega, by omega, hPr, Bk⟩
      case round =>
        obtain ⟨k, rfl, hk1, hk2, hPk, hBk⟩ := hrel
        have hIk := hI.old hBk
        have hsmk := HS.out.old hBk
        clear hPr Bk hsm
        by_cases hlt : k < nI ∧ k < 20
        · obtain ⟨hlt1, hlt2⟩ := hlt
          obtain ⟨b, o, x, rfl, hx, cx, _, _⟩ := hI.get hlt1
          have hbl := World.block_lt_of_cell? w _ cx
          have cx0 := (hBk.cell (p := ⟨b, o + k, none⟩) hbl).trans cx
          have HX := Lib.hid hx
          clear hx cx
          have hlt2' : (k : Int) < 20 := by omega
          have hlt1' : (k : Int) < (nI : Int) := by omega
          go_wp2_with fail
          go_region_held3 (fun w' => w'.cell? ⟨b, o + k, none⟩ = some (.int .i64 x)) (first | exact cx0 | exact cx1 | exact cx2 | exact cx3) (first | (go_at_call 29; refine (hPk.drew.num 3 x).mono ?_; rintro en v1 ⟨rfl, hP1, hBB1⟩; have cx1 := (hBB1.cell (p := ⟨b, o + k, none⟩) hbl).trans cx0; have hB1 := hBk.drew.trans hBB1) | (go_at_call 31; refine (hP1.count x).mono ?_; rintro en v2 ⟨rfl, hP2, hBB2⟩; have cx2 := (hBB2.cell (p := ⟨b, o + k, none⟩) hbl).trans cx1; have hB2 := hB1.trans hBB2; have hs2 := HS.out.old hB2) | (go_at_call 33; refine (hP2.text hs2 (fun hz b hb => HS.out.lt hz b hb) (by have := HM.out; omega)).mono ?_; rintro en v3 ⟨rfl, hP3, hBB3⟩; have cx3 := (hBB3.cell (p := ⟨b, o + k, none⟩) hbl).trans cx2; have hB3 := hB2.trans hBB3))
          clear hP1 hP2 cx1 cx2 hB1 hB2 hBB1 hBB2 hs2 cx0
          go_wp2_with fail
          go_region_held3 (fun w' => w'.cell? ⟨b, o + k, none⟩ = some (.int .i64 x)) (first | exact cx3 | exact cx4 | exact cx5 | exact cx6 | exact cx7) (first | (go_at_call 51; refine (hP3.drew.rnum 1).mono ?_; rintro en v4 ⟨rfl, hP4, hBB4⟩; have cx4 := (hBB4.cell (p := ⟨b, o + k, none⟩) hbl).trans cx3; have hB4 := hB3.drew.trans hBB4) | (go_at_call 46; refine (hP4.rcount x).mono ?_; rintro en v5 ⟨rfl, hP5, hBB5⟩; have cx5 := (hBB5.cell (p := ⟨b, o + k, none⟩) hbl).trans cx4; have hB5 := hB4.trans hBB5) | (go_at_call 54; refine (hP5.rtext x).mono ?_; rintro en v6 ⟨A6, c6, rfl, hP6, hBB6⟩; have cx6 := (hBB6.cell (p := ⟨b, o + k, none⟩) hbl).trans cx5; have hB6 := hB5.trans hBB6) | (go_at_call 56; refine (hP6.rraw x).mono ?_; rintro en v7 ⟨A7, c7, rfl, hP7, hBB7⟩; have cx7 := (hBB7.cell (p := ⟨b, o + k, none⟩) hbl).trans cx6; have hB7 := hB6.trans hBB7))
          clear hP3 hP4 hP5 hP6 cx3 cx4 cx5 cx6 cx7 hBB3 hBB4 hBB5 hBB6 hBB7 hB3 hB4 hB5 hB6
          go_wp2
          go_roundw
          case rel => exact ⟨k + 1, by go_num, by omega, by omega, hP7, hB7⟩
          case measure => simp [intOf]; omega
        · obtain ⟨A9, n9, c9, hW9, _⟩ := hPk.w_
          obtain ⟨A10, n10, c10, hR10⟩ := hPk.r_
          have hew0 := hPk.e_
          have hsw0 := hPk.s_
          have hswl := hPk.l_
          have q1 := Lib.hid (wbytes_any _ hW9 (by have := hW9.len; omega))
          rw [if_neg hew0] at q1
          have hlt' : (decide ((k : Int) < (nI : Int)) && decide ((k : Int) < 20)) = false := by simp; omega
          have hlt2 : ¬ (k : Int) < (nI : Int) ∨ (k : Int) < (nI : Int) ∧ ¬ (k : Int) < 20 := by omega
          clear hPk hlt' hew0 hsw0 hlt
          rcases hlt2 with hl1 | ⟨hl1, hl2⟩
          all_goals
            go_wp2_with fail
            refine q1.out.mono ?_
            rintro en w9 ⟨A11, c11, rfl, _, hB9⟩
            have hR11 := hR10.old hB9
            have B9 := hBk.trans (hB9.mono hBk.size)
            obtain rfl := hew.out
            obtain rfl := hsw.out
            go_wp2_with fail
            refine (rErr_any _ hR11).mono ?_
            rintro en w10 ⟨rfl, rfl⟩
            go_wp2_with fail
            refine (rEnd_any _ hR11).mono ?_
            rintro en w10 ⟨rfl, rfl⟩
            go_wp2_with fail
            refine (rLeft_any _ hR11).mono ?_
            rintro en w10 ⟨rfl, rfl⟩
            go_wp2_with fail
            refine (nworks_any _).mono ?_
            rintro en w10 ⟨rfl, hB10⟩
            go_wp2
            go_ret
            exact ⟨rfl, B9.trans (hB10.mono B9.size)⟩
    · go_wp2_with fail
      refine (hT.count 9007199254740992 9 (by omega) (by decide +kernel) (by decide +kernel)).mono ?_
      rintro en w7 ⟨rfl, hT7, hB7⟩
      go_wp2_with fail
      refine (hT7.rraw _ (by simp; omega) (s' := ⟨0, [128]⟩) (by unfold rawS; rw [if_pos rfl, if_neg (by omega), if_neg (by have := HM.out; simp; omega)]; congr 1; exact drop_one lb _ (by have := HM.out; omega)) (fun _ => by simp)).mono ?_
      rintro en w8 ⟨A8, n8, c8, rfl, hT7b, hB7b⟩
      replace hB7 := hB7.trans hB7b
      go_wp2_with fail
      refine (hT7b.rcount 5 0 (by decide) (s' := ⟨4, []⟩) (by rfl) (fun h => absurd rfl h)).mono ?_
      rintro en wk ⟨rfl, hT8, hB8⟩
      clear hT7b hB7b
      obtain ⟨ew, sw, hew, hsw, hPr⟩ := (hT8.pair (by decide) (by decide) rfl (by omega)).name
      have Bk := (B5.trans hB7).trans hB8
      have hsm := (HS.out.old Bk)
      clear hT hT7 hT8 hB7 hB8 B5 hlen5
      go_wp2_with fail
      go_loopw [11] (fun vi wr => ∃ k : Nat, vi = .int .i64 k ∧ k ≤ nI ∧ k ≤ 20 ∧ Pair wr w.heap.size w.heap.size P ew lb sw ∧ Below w.heap.size w wr) (fun vi _ => nI - (intOf vi).toNat)
      case atStart => exact ⟨0, rfl, by omega, by omega, hPr, Bk⟩
      case round =>
        obtain ⟨k, rfl, hk1, hk2, hPk, hBk⟩ := hrel
        have hIk := hI.old hBk
        have hsmk := HS.out.old hBk
        clear hPr Bk hsm
        by_cases hlt : k < nI ∧ k < 20
        · obtain ⟨hlt1, hlt2⟩ := hlt
          obtain ⟨b, o, x, rfl, hx, cx, _, _⟩ := hI.get hlt1
          have hbl := World.block_lt_of_cell? w _ cx
          have cx0 := (hBk.cell (p := ⟨b, o + k, none⟩) hbl).trans cx
          have HX := Lib.hid hx
          clear hx cx
          have hlt2' : (k : Int) < 20 := by omega
          have hlt1' : (k : Int) < (nI : Int) := by omega
          go_wp2_with fail
          go_region_held3 (fun w' => w'.cell? ⟨b, o + k, none⟩ = some (.int .i64 x)) (first | exact cx0 | exact cx1 | exact cx2 | exact cx3) (first | (go_at_call 29; refine (hPk.drew.num 3 x).mono ?_; rintro en v1 ⟨rfl, hP1, hBB1⟩; have cx1 := (hBB1.cell (p := ⟨b, o + k, none⟩) hbl).trans cx0; have hB1 := hBk.drew.trans hBB1) | (go_at_call 31; refine (hP1.count x).mono ?_; rintro en v2 ⟨rfl, hP2, hBB2⟩; have cx2 := (hBB2.cell (p := ⟨b, o + k, none⟩) hbl).trans cx1; have hB2 := hB1.trans hBB2; have hs2 := HS.out.old hB2) | (go_at_call 33; refine (hP2.text hs2 (fun hz b hb => HS.out.lt hz b hb) (by have := HM.out; omega)).mono ?_; rintro en v3 ⟨rfl, hP3, hBB3⟩; have cx3 := (hBB3.cell (p := ⟨b, o + k, none⟩) hbl).trans cx2; have hB3 := hB2.trans hBB3))
          clear hP1 hP2 cx1 cx2 hB1 hB2 hBB1 hBB2 hs2 cx0
          go_wp2_with fail
          go_region_held3 (fun w' => w'.cell? ⟨b, o + k, none⟩ = some (.int .i64 x)) (first | exact cx3 | exact cx4 | exact cx5 | exact cx6 | exact cx7) (first | (go_at_call 51; refine (hP3.drew.rnum 1).mono ?_; rintro en v4 ⟨rfl, hP4, hBB4⟩; have cx4 := (hBB4.cell (p := ⟨b, o + k, none⟩) hbl).trans cx3; have hB4 := hB3.drew.trans hBB4) | (go_at_call 46; refine (hP4.rcount x).mono ?_; rintro en v5 ⟨rfl, hP5, hBB5⟩; have cx5 := (hBB5.cell (p := ⟨b, o + k, none⟩) hbl).trans cx4; have hB5 := hB4.trans hBB5) | (go_at_call 54; refine (hP5.rtext x).mono ?_; rintro en v6 ⟨A6, c6, rfl, hP6, hBB6⟩; have cx6 := (hBB6.cell (p := ⟨b, o + k, none⟩) hbl).trans cx5; have hB6 := hB5.trans hBB6) | (go_at_call 56; refine (hP6.rraw x).mono ?_; rintro en v7 ⟨A7, c7, rfl, hP7, hBB7⟩; have cx7 := (hBB7.cell (p := ⟨b, o + k, none⟩) hbl).trans cx6; have hB7 := hB6.trans hBB7))
          clear hP3 hP4 hP5 hP6 cx3 cx4 cx5 cx6 cx7 hBB3 hBB4 hBB5 hBB6 hBB7 hB3 hB4 hB5 hB6
          go_wp2
          go_roundw
          case rel => exact ⟨k + 1, by go_num, by omega, by omega, hP7, hB7⟩
          case measure => simp [intOf]; omega
        · obtain ⟨A9, n9, c9, hW9, _⟩ := hPk.w_
          obtain ⟨A10, n10, c10, hR10⟩ := hPk.r_
          have hew0 := hPk.e_
          have hsw0 := hPk.s_
          have hswl := hPk.l_
          have q1 := Lib.hid (wbytes_any _ hW9 (by have := hW9.len; omega))
          rw [if_neg hew0] at q1
          have hlt' : (decide ((k : Int) < (nI : Int)) && decide ((k : Int) < 20)) = false := by simp; omega
          have hlt2 : ¬ (k : Int) < (nI : Int) ∨ (k : Int) < (nI : Int) ∧ ¬ (k : Int) < 20 := by omega
          clear hPk hlt' hew0 hsw0 hlt
          rcases hlt2 with hl1 | ⟨hl1, hl2⟩
          all_goals
            go_wp2_with fail
            refine q1.out.mono ?_
            rintro en w9 ⟨A11, c11, rfl, _, hB9⟩
            have hR11 := hR10.old hB9
            have B9 := hBk.trans (hB9.mono hBk.size)
            obtain rfl := hew.out
            obtain rfl := hsw.out
            go_wp2_with fail
            refine (rErr_any _ hR11).mono ?_
            rintro en w10 ⟨rfl, rfl⟩
            go_wp2_with fail
            refine (rEnd_any _ hR11).mono ?_
            rintro en w10 ⟨rfl, rfl⟩
            go_wp2_with fail
            refine (rLeft_any _ hR11).mono ?_
            rintro en w10 ⟨rfl, rfl⟩
            go_wp2_with fail
            refine (nworks_any _).mono ?_
            rintro en w10 ⟨rfl, hB10⟩
            go_wp2
            go_ret
            exact ⟨rfl, B9.trans (hB10.mono B9.size)⟩
    · go_wp2_with fail
      refine (hT.num 8 (-1) 9 (by omega) (by decide +kernel) (by decide +kernel)).mono ?_
      rintro en w7 ⟨rfl, hT7, hB7⟩
      go_wp2_with fail
      refine (hT7.rraw _ (by simp; omega) (s' := ⟨2, []⟩) (by unfold rawS; rw [if_pos rfl, if_pos (by omega)]) (fun h => absurd rfl h)).mono ?_
      rintro en wk ⟨A8, n8, c8, rfl, hT8, hB8⟩
      obtain ⟨ew, sw, hew, hsw, hPr⟩ := (hT8.pair (by decide) (by decide) rfl (by omega)).name
      have Bk := (B5.trans hB7).trans hB8
      have hsm := (HS.out.old Bk)
      clear hT hT7 hT8 hB7 hB8 B5 hlen5
      go_wp2_with fail
      go_loopw [11] (fun vi wr => ∃ k : Nat, vi = .int .i64 k ∧ k ≤ nI ∧ k ≤ 20 ∧ Pair wr w.heap.size w.heap.size P ew lb sw ∧ Below w.heap.size w wr) (fun vi _ => nI - (intOf vi).toNat)
      case atStart => exact ⟨0, rfl, by omega, by omega, hPr, Bk⟩
      case round =>
        obtain ⟨k, rfl, hk1, hk2, hPk, hBk⟩ := hrel
        have hIk := hI.old hBk
        have hsmk := HS.out.old hBk
        clear hPr Bk hsm
        by_cases hlt : k < nI ∧ k < 20
        · obtain ⟨hlt1, hlt2⟩ := hlt
          obtain ⟨b, o, x, rfl, hx, cx, _, _⟩ := hI.get hlt1
          have hbl := World.block_lt_of_cell? w _ cx
          have cx0 := (hBk.cell (p := ⟨b, o + k, none⟩) hbl).trans cx
          have HX := Lib.hid hx
          clear hx cx
          have hlt2' : (k : Int) < 20 := by omega
          have hlt1' : (k : Int) < (nI : Int) := by omega
          go_wp2_with fail
          go_region_held3 (fun w' => w'.cell? ⟨b, o + k, none⟩ = some (.int .i64 x)) (first | exact cx0 | exact cx1 | exact cx2 | exact cx3) (first | (go_at_call 29; refine (hPk.drew.num 3 x).mono ?_; rintro en v1 ⟨rfl, hP1, hBB1⟩; have cx1 := (hBB1.cell (p := ⟨b, o + k, none⟩) hbl).trans cx0; have hB1 := hBk.drew.trans hBB1) | (go_at_call 31; refine (hP1.count x).mono ?_; rintro en v2 ⟨rfl, hP2, hBB2⟩; have cx2 := (hBB2.cell (p := ⟨b, o + k, none⟩) hbl).trans cx1; have hB2 := hB1.trans hBB2; have hs2 := HS.out.old hB2) | (go_at_call 33; refine (hP2.text hs2 (fun hz b hb => HS.out.lt hz b hb) (by have := HM.out; omega)).mono ?_; rintro en v3 ⟨rfl, hP3, hBB3⟩; have cx3 := (hBB3.cell (p := ⟨b, o + k, none⟩) hbl).trans cx2; have hB3 := hB2.trans hBB3))
          clear hP1 hP2 cx1 cx2 hB1 hB2 hBB1 hBB2 hs2 cx0
          go_wp2_with fail
          go_region_held3 (fun w' => w'.cell? ⟨b, o + k, none⟩ = some (.int .i64 x)) (first | exact cx3 | exact cx4 | exact cx5 | exact cx6 | exact cx7) (first | (go_at_call 51; refine (hP3.drew.rnum 1).mono ?_; rintro en v4 ⟨rfl, hP4, hBB4⟩; have cx4 := (hBB4.cell (p := ⟨b, o + k, none⟩) hbl).trans cx3; have hB4 := hB3.drew.trans hBB4) | (go_at_call 46; refine (hP4.rcount x).mono ?_; rintro en v5 ⟨rfl, hP5, hBB5⟩; have cx5 := (hBB5.cell (p := ⟨b, o + k, none⟩) hbl).trans cx4; have hB5 := hB4.trans hBB5) | (go_at_call 54; refine (hP5.rtext x).mono ?_; rintro en v6 ⟨A6, c6, rfl, hP6, hBB6⟩; have cx6 := (hBB6.cell (p := ⟨b, o + k, none⟩) hbl).trans cx5; have hB6 := hB5.trans hBB6) | (go_at_call 56; refine (hP6.rraw x).mono ?_; rintro en v7 ⟨A7, c7, rfl, hP7, hBB7⟩; have cx7 := (hBB7.cell (p := ⟨b, o + k, none⟩) hbl).trans cx6; have hB7 := hB6.trans hBB7))
          clear hP3 hP4 hP5 hP6 cx3 cx4 cx5 cx6 cx7 hBB3 hBB4 hBB5 hBB6 hBB7 hB3 hB4 hB5 hB6
          go_wp2
          go_roundw
          case rel => exact ⟨k + 1, by go_num, by omega, by omega, hP7, hB7⟩
          case measure => simp [intOf]; omega
        · obtain ⟨A9, n9, c9, hW9, _⟩ := hPk.w_
          obtain ⟨A10, n10, c10, hR10⟩ := hPk.r_
          have hew0 := hPk.e_
          have hsw0 := hPk.s_
          have hswl := hPk.l_
          have q1 := Lib.hid (wbytes_any _ hW9 (by have := hW9.len; omega))
          rw [if_neg hew0] at q1
          have hlt' : (decide ((k : Int) < (nI : Int)) && decide ((k : Int) < 20)) = false := by simp; omega
          have hlt2 : ¬ (k : Int) < (nI : Int) ∨ (k : Int) < (nI : Int) ∧ ¬ (k : Int) < 20 := by omega
          clear hPk hlt' hew0 hsw0 hlt
          rcases hlt2 with hl1 | ⟨hl1, hl2⟩
          all_goals
            go_wp2_with fail
            refine q1.out.mono ?_
            rintro en w9 ⟨A11, c11, rfl, _, hB9⟩
            have hR11 := hR10.old hB9
            have B9 := hBk.trans (hB9.mono hBk.size)
            obtain rfl := hew.out
            obtain rfl := hsw.out
            go_wp2_with fail
            refine (rErr_any _ hR11).mono ?_
            rintro en w10 ⟨rfl, rfl⟩
            go_wp2_with fail
            refine (rEnd_any _ hR11).mono ?_
            rintro en w10 ⟨rfl, rfl⟩
            go_wp2_with fail
            refine (rLeft_any _ hR11).mono ?_
            rintro en w10 ⟨rfl, rfl⟩
            go_wp2_with fail
            refine (nworks_any _).mono ?_
            rintro en w10 ⟨rfl, hB10⟩
            go_wp2
            go_ret
            exact ⟨rfl, B9.trans (hB10.mono B9.size)⟩
end Go.Proofs.Ytblpnlobicjccaa
