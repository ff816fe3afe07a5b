/- The reference's reader (package sealchainref01), method by method, over the same states as the program's. -/
import Derived.Test.YtblpnlobicjccaaRefW
import Derived.Deep.LoopGhost
namespace Go.Proofs.Ytblpnlobicjccaa
open Go.RowKit

section
variable {P : Nat} {s : RS} {A : Option Addr} {n c : Nat}
set_option maxHeartbeats 400000 in
theorem rrErr_any (w : World) (h : Rr 90 w P s A n c) :
    Calls Try.prog 59 #[.pointer (some ⟨P, 0, none⟩)] w fun e w' => e = .returned (.int .i64 s.e) ∧ w = w' := by
  have c1 : w.cell? ⟨P, 1, none⟩ = some (.int .i64 s.e) := h.blk.cell 1
  clear h
  go_enter Try.func59, Try.ntmps59
  go_wp2
  go_ret
  exact ⟨rfl, rfl⟩

set_option maxHeartbeats 400000 in
theorem rrLeft_any (w : World) (h : Rr 90 w P s A n c) :
    Calls Try.prog 58 #[.pointer (some ⟨P, 0, none⟩)] w fun e w' => e = .returned (.int .i64 s.l.length) ∧ w = w' := by
  have c0 : w.cell? ⟨P, 0, none⟩ = some (.slice A n c) := h.blk.cell 0
  have H := Lib.hid h.sl.len
  clear h
  go_enter Try.func58, Try.ntmps58
  go_wp2
  go_ret
  exact ⟨by rw [← H.out]; rfl, rfl⟩

set_option maxHeartbeats 400000 in
theorem rrEnd_any (w : World) (h : Rr 90 w P s A n c) :
    Calls Try.prog 60 #[.pointer (some ⟨P, 0, none⟩)] w fun e w' => e = .returned (.int .i64 (endE s)) ∧ w = w' := by
  have c1 : w.cell? ⟨P, 1, none⟩ = some (.int .i64 s.e) := h.blk.cell 1
  have c0 : w.cell? ⟨P, 0, none⟩ = some (.slice A n c) := h.blk.cell 0
  have hn := h.sl.len
  have HE := Lib.hid (show endE s = if s.e = 0 ∧ 0 < s.l.length then 4 else s.e from rfl)
  generalize endE s = v at *
  clear h
  by_cases he : s.e = 0
  · by_cases hl : 0 < s.l.length
    · have HV := Lib.hid (show v = 4 by rw [HE.out, if_pos ⟨he, hl⟩])
      have hl' : (0 : Int) < (n : Int) := by omega
      clear hl hn
      go_enter Try.func60, Try.ntmps60
      go_wp2
      go_ret
      exact ⟨by rw [HV.out]; rfl, rfl⟩
    · have HV := Lib.hid (show v = 0 by rw [HE.out, if_neg (fun h => hl h.2), he])
      have hl' : ¬ (0 : Int) < (n : Int) := by omega
      clear hl hn
      go_enter Try.func60, Try.ntmps60
      go_wp2
      go_ret
      exact ⟨by rw [HV.out]; rfl, rfl⟩
  · have HV := Lib.hid (show v = s.e by rw [HE.out, if_neg (fun h => he h.1)])
    have he' : (s.e == 0) = false := by simpa using he
    clear hn
    go_enter Try.func60, Try.ntmps60
    go_wp2
    go_ret
    exact ⟨by rw [HV.out]; rfl, rfl⟩

set_option maxHeartbeats 400000 in
theorem rrFail_any (e1 : Int) (w : World) (h : Rr 90 w P s A n c) :
    Calls Try.prog 83 #[.pointer (some ⟨P, 0, none⟩), .int .i64 e1] w fun en w' => en = .returned (.tuple #[]) ∧ RrSt 90 w P A (failS e1 s) w' := by
  have c1 : w.cell? ⟨P, 1, none⟩ = some (.int .i64 s.e) := h.blk.cell 1
  have c0 : w.cell? ⟨P, 0, none⟩ = some (.slice A n c) := h.blk.cell 0
  have f0 := h.blk.frozen 0
  have f1 := h.blk.frozen 1
  by_cases he : s.e = 0
  · have hb : (s.e == 0) = true := by simpa using he
    have hblk := ((h.blk.set_ 1 (.int .i64 e1)).set_ 0 (.slice none 0 0))
    have hfr : Fr (fun k => k = P) w ((w.setCell ⟨P, 1, none⟩ (.int .i64 e1)).setCell ⟨P, 0, none⟩ (.slice none 0 0)) :=
      (((Fr.refl (fun k => k = P) w).setCell (p := ⟨P, 1, none⟩) (.inl rfl) _).setCell (p := ⟨P, 0, none⟩) (.inl rfl) _)
    have hs : (failS e1 s).e = e1 := by unfold failS orI; rw [if_pos he]
    have K : RrSt 90 w P A (failS e1 s) ((w.setCell ⟨P, 1, none⟩ (.int .i64 e1)).setCell ⟨P, 0, none⟩ (.slice none 0 0)) :=
      ⟨⟨none, 0, 0, ⟨by rw [hs]; exact hblk, Sl.nil _, by simp [blkOf]⟩, fun k hk => by cases hk⟩, hfr⟩
    have K := Lib.hid K
    clear hblk hfr hs h he
    go_enter Try.func83, Try.ntmps83
    go_wp2
    go_end0
    exact ⟨rfl, K.out⟩
  · have hb : (s.e == 0) = false := by simpa using he
    have hblk := (h.blk.set_ 0 (.slice none 0 0))
    have hfr : Fr (fun k => k = P) w (w.setCell ⟨P, 0, none⟩ (.slice none 0 0)) :=
      ((Fr.refl (fun k => k = P) w).setCell (p := ⟨P, 0, none⟩) (.inl rfl) _)
    have hs : (failS e1 s).e = s.e := by unfold failS orI; rw [if_neg he]
    have K : RrSt 90 w P A (failS e1 s) (w.setCell ⟨P, 0, none⟩ (.slice none 0 0)) :=
      ⟨⟨none, 0, 0, ⟨by rw [hs]; exact hblk, Sl.nil _, by simp [blkOf]⟩, fun k hk => by cases hk⟩, hfr⟩
    have K := Lib.hid K
    clear hblk hfr hs h he
    go_enter Try.func83, Try.ntmps83
    go_wp2
    go_end0
    exact ⟨rfl, K.out⟩

set_option maxHeartbeats 1000000 in
theorem rrRaw_any (k : Int) (w : World) (h : Rr 90 w P s A n c) (hlen : n ≤ 140737488355328) :
    Calls Try.prog 57 #[.pointer (some ⟨P, 0, none⟩), .int .i64 k] w (RrPostB 90 w P A (rawO k s) (rawS k s)) := by
  have c0 : w.cell? ⟨P, 0, none⟩ = some (.slice A n c) := h.blk.cell 0
  have c1 : w.cell? ⟨P, 1, none⟩ = some (.int .i64 s.e) := h.blk.cell 1
  have f0 := h.blk.frozen 0
  have hl := h.sl.len
  have QF := Lib.hid (fun e1 => rrFail_any e1 w h)
  by_cases he : s.e = 0
  · have qe : (s.e == 0) = true := by simpa using he
    have hfe : ∀ e1 : Int, (failS e1 s).e = e1 := fun e1 => by unfold failS orI; rw [if_pos he]
    by_cases hk : k < 0
    · have e1 : rawO k s = [] := by unfold rawO; rw [if_neg (by omega)]
      have e2 : rawS k s = failS 2 s := by unfold rawS failS; rw [if_pos he, if_pos hk, he, orI_zero]
      rw [e1, e2]
      have HFE := Lib.hid (hfe 2)
      clear hl e1 e2 he h hfe
      go_enter Try.func57, Try.ntmps57
      go_wp2_with fail
      refine (QF.out _).mono ?_
      rintro en w' ⟨rfl, hst⟩
      obtain ⟨⟨A1, n1, c1', hR1, hA1⟩, hfr⟩ := hst
      have d1 : w'.cell? ⟨P, 1, none⟩ = some (.int .i64 2) := by have := hR1.blk.cell 1; rw [HFE.out] at this; exact this
      have HR1 := Lib.hid hR1
      have HF := Lib.hid hfr
      clear hR1 hfr c0 c1 f0
      go_wp2
      go_ret
      exact ⟨none, 0, rfl, Own.nil _ _ _, ⟨A1, n1, c1', HR1.out, hA1⟩, HF.out⟩
    · by_cases hn : (n : Int) < k
      · have e1 : rawO k s = [] := by unfold rawO; rw [if_neg (by omega)]
        have e2 : rawS k s = failS 3 s := by unfold rawS failS; rw [if_pos he, if_neg hk, if_pos (by omega), he, orI_zero]
        rw [e1, e2]
        have HFE := Lib.hid (hfe 3)
        clear hl e1 e2 he h hfe
        go_enter Try.func57, Try.ntmps57
        go_wp2_with fail
        refine (QF.out _).mono ?_
        rintro en w' ⟨rfl, hst⟩
        obtain ⟨⟨A1, n1, c1', hR1, hA1⟩, hfr⟩ := hst
        have d1 : w'.cell? ⟨P, 1, none⟩ = some (.int .i64 3) := by have := hR1.blk.cell 1; rw [HFE.out] at this; exact this
        have HR1 := Lib.hid hR1
        have HF := Lib.hid hfr
        clear hR1 hfr c0 c1 f0
        go_wp2
        go_ret
        exact ⟨none, 0, rfl, Own.nil _ _ _, ⟨A1, n1, c1', HR1.out, hA1⟩, HF.out⟩
      · obtain ⟨kn, rfl⟩ := Int.eq_ofNat_of_zero_le (show 0 ≤ k by omega)
        have hkn : kn ≤ n := by omega
        have e1 : rawO kn s = s.l.take kn := by unfold rawO; rw [if_pos ⟨he, by omega, by omega⟩]; rfl
        have e2 : rawS kn s = ⟨0, s.l.drop kn⟩ := by unfold rawS; rw [if_pos he, if_neg hk, if_neg (by omega)]; rfl
        rw [e1, e2]
        have hcap := h.sl.cap
        have r1 := fun w => run_cut_hi w A n c kn (by omega)
        have r2 := fun w => run_cut_lo w A n c kn hkn
        have hq := Lib.hid (copyb_any w (h.sl.take hkn) (by omega))
        have H := Lib.hid h
        have E := Lib.hid he
        clear hl e1 e2 he h hfe
        go_enter Try.func57, Try.ntmps57
        go_wp2_with fail
        refine hq.out.mono ?_
        rintro en w1 ⟨A1, c1, rfl, hown, hB⟩
        have hb1 := H.out.blk.below hB H.out.blk.lt
        have d0 : w1.cell? ⟨P, 0, none⟩ = some (.slice A n c) := hb1.cell 0
        have g0 := hb1.frozen 0
        have hne : blkOf A1 ≠ some P := fun e' => by have := (hown.lt P e').1; have := H.out.blk.lt; omega
        have hown2 := hown.far (p := ⟨P, 0, none⟩) hne (.slice (cutA A c kn) (n - kn) (c - kn))
        have hb2 := hb1.set_ 0 (.slice (cutA A c kn) (n - kn) (c - kn))
        have hs2 := (H.out.sl.cut hkn).old hB
        have hs3 := hs2.far (p := ⟨P, 0, none⟩) (by rw [blkOf_cutA]; exact H.out.ne) (.slice (cutA A c kn) (n - kn) (c - kn))
        have hfr : Fr (fun k => k = P) w (w1.setCell ⟨P, 0, none⟩ (.slice (cutA A c kn) (n - kn) (c - kn))) := (Fr.of_below (S := fun k => k = P) hB).setCell (p := ⟨P, 0, none⟩) (.inl rfl) _
        clear hb1 hown hs2 hq QF r1
        go_wp2
        go_ret
        refine ⟨A1, c1, by simp, hown2, ⟨cutA A c kn, n - kn, c - kn, ⟨?_, hs3, by rw [blkOf_cutA]; exact H.out.ne⟩, fun b hb => by rw [blkOf_cutA] at hb; exact hb⟩, hfr⟩
        rw [E.out] at hb2
        exact hb2
  · have e1 : rawO k s = [] := by unfold rawO; rw [if_neg (fun h => he h.1)]
    have e2 : rawS k s = s := by unfold rawS; rw [if_neg he]
    rw [e1, e2]
    have qe : (s.e != 0) = true := by simpa using he
    have qe2 : (s.e == 0) = false := by simpa using he
    have H := Lib.hid h
    clear e1 e2 h hl
    go_enter Try.func57, Try.ntmps57
    go_wp2
    go_ret
    exact ⟨none, 0, rfl, Own.nil _ _ _, ⟨A, n, c, H.out, fun _ hk => hk⟩, Fr.refl _ _⟩

set_option maxRecDepth 100000 in
set_option maxHeartbeats 1000000 in
theorem rrNum_wide (wd : Int) (w : World) (h : Rr 90 w P s A n c) (hlen : n ≤ 140737488355328) (hw : ¬ (s.e = 0 ∧ wideB wd = false)) (h8 : (rawO wd s).length ≤ 8) :
    Calls Try.prog 52 #[.pointer (some ⟨P, 0, none⟩), .int .i64 wd] w (RrPost 90 w P A (numV wd s) (numS wd s)) := by
  have c1 : w.cell? ⟨P, 1, none⟩ = some (.int .i64 s.e) := h.blk.cell 1
  have QR := Lib.hid (rrRaw_any wd w h hlen)
  have hv : numV wd s = if 9007199254740991 < beNat (rawO wd s) then 0 else (beNat (rawO wd s) : Int) := by unfold numV; rw [if_neg hw]
  have hs : numS wd s = if 9007199254740991 < beNat (rawO wd s) then failS 9 (rawS wd s) else rawS wd s := by unfold numS; rw [if_neg hw]
  have HV := Lib.hid hv
  have HS := Lib.hid hs
  clear hv hs h
  generalize numV wd s = vv at *
  generalize numS wd s = ss at *
  generalize rawO wd s = out at *
  generalize rawS wd s = s1 at *
  have H8 := Lib.hid h8
  have hB : ((s.e == 0) = true ∧ wideB wd = true) ∨ (s.e == 0) = false := by
    by_cases hx : s.e = 0
    · exact .inl ⟨by simpa using hx, by by_cases hy : wideB wd = true; exact hy; exact absurd ⟨hx, by simpa using hy⟩ hw⟩
    · exact .inr (by simpa using hx)
  clear hw h8
  rcases hB with ⟨hb1, hb2⟩ | hb1
  all_goals
    go_enter Try.func52, Try.ntmps52
    go_wp2_with (go_at_call 69; refine (rwide_any _ _).mono ?_; rintro en w' ⟨rfl, rfl⟩)
    refine QR.out.mono ?_
    rintro en w1 ⟨A2, c2, rfl, hown, ⟨A3, n3, c3, hR, hA3⟩, hfr⟩
    go_wp2_with fail
    go_loop [6, 7] (fun vv vi => ∃ (k v : Nat), vi = .int .i64 k ∧ vv = .int .u64 v ∧ k ≤ out.length ∧ k ≤ 8 ∧ Hid (v = beNat (out.take k)) ∧ v < 18446744073709551616 ∧ Hid (v < 2 ^ (8 * k))) (fun _ vi => out.length - (intOf vi).toNat)
    case atStart => exact ⟨0, 0, rfl, rfl, by omega, by omega, rfl, by omega, (by decide : 0 < 2 ^ (8 * 0))⟩
    case round =>
      obtain ⟨k, v, rfl, rfl, hk, hk8, hv, hv64, hvk⟩ := hrel
      by_cases hlt : k < out.length
      · obtain ⟨g, rfl⟩ := hown.at_ (by omega)
        obtain ⟨x, hx, cx, fx⟩ := hown.get rfl hlt
        have hxb : x.toNat < 256 := x.toNat_lt
        have Hx := Lib.hid hx
        have hk7 : k < 8 := by have := H8.out; omega
        have hv56 : v < 72057594037927936 := by
          have := hvk.out
          have h2 : 2 ^ (8 * k) ≤ 2 ^ 56 := Nat.pow_le_pow_right (by decide) (by omega)
          omega
        have HV64 := Lib.hid (show v * 256 + x.toNat < 18446744073709551616 by omega)
        have e1 : IntKind.u64.wrap (256 * (v : Int)) = ((v * 256 : Nat) : Int) := by rw [IntKind.wrap_u64]; omega
        have e2 : IntKind.u64.wrap (((v * 256 : Nat) : Int) + (x.toNat : Int)) = ((v * 256 + x.toNat : Nat) : Int) := by rw [IntKind.wrap_u64]; omega
        generalize hq : v * 256 + x.toNat = q at *
        generalize hq1 : v * 256 = q1 at *
        have HQ := Lib.hid hq
        have HQ1 := Lib.hid hq1
        clear hx hq hq1 hv56 hv64
        go_wp2
        go_round
        case rel =>
          refine ⟨k + 1, q, by go_num, by go_num, by omega, by omega, ?_, HV64.out, ?_⟩
          · show _ = _
            have hkl : k < out.length := hlt
            have hxx : out[k] = x := by have := Hx.out; rw [List.getElem?_eq_getElem hkl] at this; injection this
            rw [List.take_succ_eq_append_getElem hkl, hxx, beNat_snoc, ← hv.out, HQ1.out, HQ.out]
          · show _ < _
            have := hvk.out
            have h1 := HQ.out
            have h2 := HQ1.out
            rw [show 8 * (k + 1) = 8 * k + 8 from by omega, Nat.pow_add]
            omega
        case measure => simp [intOf]; omega
      · have hve : v = beNat out := by have := hv.out; rw [List.take_of_length_le (by omega)] at this; exact this
        have HVE := Lib.hid hve
        clear hve hv hvk
        by_cases hgt : 9007199254740991 < v
        · have hgt' : (9007199254740991 : Int) < (v : Int) := by omega
          have hq := Lib.hid (rrFail_any 9 w1 hR)
          go_wp2_with fail
          refine hq.out.mono ?_
          rintro en w2 ⟨rfl, ⟨A4, n4, c4, hR4, hA4⟩, hfr4⟩
          go_wp2
          go_ret
          refine ⟨?_, ⟨A4, n4, c4, ?_, fun k hk => hA3 k (hA4 k hk)⟩, hfr.trans hfr4 (fun b hb => .inl hb)⟩
          · rw [HV.out, if_pos (by rw [← HVE.out]; exact hgt)]; rfl
          · rw [HS.out, if_pos (by rw [← HVE.out]; exact hgt)]; exact hR4
        · have hgt' : ¬ (9007199254740991 : Int) < (v : Int) := by omega
          go_wp2
          go_ret
          refine ⟨?_, ⟨A3, n3, c3, ?_, hA3⟩, hfr⟩
          · rw [HV.out, if_neg (by rw [← HVE.out]; exact hgt), ← HVE.out]; rfl
          · rw [HS.out, if_neg (by rw [← HVE.out]; exact hgt)]; exact hR

set_option maxHeartbeats 400000 in
theorem rrNum_any (wd : Int) (w : World) (h : Rr 90 w P s A n c) (hlen : n ≤ 140737488355328) :
    Calls Try.prog 52 #[.pointer (some ⟨P, 0, none⟩), .int .i64 wd] w (RrPost 90 w P A (numV wd s) (numS wd s)) := by
  by_cases hw : s.e = 0 ∧ wideB wd = false
  · have c1 : w.cell? ⟨P, 1, none⟩ = some (.int .i64 s.e) := h.blk.cell 1
    have QF := Lib.hid (rrFail_any 2 w h)
    have e1 : numV wd s = 0 := by unfold numV; rw [if_pos hw]
    have e2 : numS wd s = failS 2 s := by unfold numS; rw [if_pos hw]
    rw [e1, e2]
    have hb1 : (s.e == 0) = true := by simpa using hw.1
    have hb2 : wideB wd = false := hw.2
    have hsl := h.sl.len
    have hraw : rawO wd (failS 2 s) = [] := by unfold rawO failS orI; rw [if_pos hw.1, if_neg (by simp)]
    have hrawS : rawS wd (failS 2 s) = failS 2 s := by unfold rawS; rw [if_neg (by unfold failS orI; rw [if_pos hw.1]; decide)]
    have HR1 := Lib.hid hraw
    have HR2 := Lib.hid hrawS
    clear hw h e1 e2 hraw hrawS hsl
    go_enter Try.func52, Try.ntmps52
    go_wp2_with (go_at_call 69; refine (rwide_any _ _).mono ?_; rintro en w' ⟨rfl, rfl⟩)
    refine QF.out.mono ?_
    rintro en w' ⟨rfl, ⟨A1, n1, c1', hR1, hA1⟩, hf1⟩
    have QR := Lib.hid (rrRaw_any wd w' hR1 (by have := hR1.sl.len; rw [failS_len] at this; omega))
    rw [HR1.out, HR2.out] at QR
    clear hR1
    go_wp2_with fail
    refine QR.out.mono ?_
    rintro en w2 ⟨A2, c2, rfl, hown, ⟨A3, n3, c3, hR3, hA3⟩, hf3⟩
    clear hown
    go_wp2
    go_rounds 1
    go_ret
    exact ⟨rfl, ⟨A3, n3, c3, hR3, fun b hb => hA1 b (hA3 b hb)⟩, hf1.trans hf3 (fun b hb => .inl hb)⟩
  · exact rrNum_wide wd w h hlen hw (rawO_le8 hw)

set_option maxRecDepth 100000 in
set_option maxHeartbeats 1000000 in
theorem rrCount_ok (most : Int) (w : World) (h : Rr 90 w P s A n c) (hlen : n ≤ 140737488355328) (he : s.e = 0) :
    Calls Try.prog 53 #[.pointer (some ⟨P, 0, none⟩), .int .i64 most] w (RrPost 90 w P A (cntRun most 8 0 s).1 (cntRun most 8 0 s).2) := by
  obtain ⟨r, hr⟩ : ∃ r, cntRun most 8 0 s = r := ⟨_, rfl⟩
  rw [hr]
  have HR := Lib.hid hr
  clear hr
  go_enter Try.func53, Try.ntmps53
  go_wp2
  go_loopg [5, 6] 8 (fun g vn vi wr => ∃ (k nn : Nat) (s' : RS) (A' : Option Addr) (n' c' : Nat), vi = .int .i64 k ∧ vn = .int .i64 nn ∧ k ≤ 8 ∧ g = 8 - k ∧ Hid (nn < 2 ^ (7 * k)) ∧ Rr 90 wr P s' A' n' c' ∧ Hid (s'.e = 0) ∧ n' ≤ 140737488355328 ∧ (∀ b, blkOf A' = some b → blkOf A = some b) ∧ Fr (fun k => k = P) w wr ∧
     Hid (cntRun most (8 - k) nn s' = r))
  case atStart => exact ⟨0, 0, s, A, n, c, rfl, rfl, by omega, rfl, (by decide : 0 < 2 ^ (7 * 0)), h, he, hlen, fun _ h => h, Fr.refl _ _, HR⟩
  case round =>
    obtain ⟨k, nn, s', A', n', c', rfl, rfl, hk, rfl, hnn, hR, he', hn', hA', hfr, hrun⟩ := hrel
    have c1 : wr.cell? ⟨P, 1, none⟩ = some (.int .i64 0) := by have := hR.blk.cell 1; rw [he'.out] at this; exact this
    by_cases hlt : k < 8
    · have hnn' : nn < 562949953421312 := by
        have := hnn.out
        have h2 : 2 ^ (7 * k) ≤ 2 ^ 49 := Nat.pow_le_pow_right (by decide) (by omega)
        omega
      have hk8 : ((k : Int) == 8) = false := by simp; omega
      have QR := Lib.hid (rrRaw_any 1 wr hR hn')
      have hl1 := rawO_len 1 s'
      have hsl := Lib.hid (Nat.le_trans (rawS_len 1 s') (Nat.le_of_eq hR.sl.len.symm))
      have hstep := hrun.out
      have hes : rawO 1 s' ≠ [] → (rawS 1 s').e = 0 := fun hne => by
        unfold rawO at hne
        by_cases hc : s'.e = 0 ∧ (0 : Int) ≤ 1 ∧ (1 : Int) ≤ s'.l.length
        · unfold rawS; rw [if_pos hc.1, if_neg (by decide), if_neg (by omega)]
        · rw [if_neg hc] at hne; exact absurd rfl hne
      rw [show 8 - k = (7 - k) + 1 from by omega, cntRun] at hstep
      generalize rawO 1 s' = out at *
      generalize rawS 1 s' = s1 at *
      match out, hl1, hes with
      | [], _, _ =>
        have HS := Lib.hid hstep
        clear hstep h hR
        go_wp2_with fail
        refine QR.out.mono ?_
        rintro en w1 ⟨A2, c2, rfl, hown, ⟨A3, n3, c3, hR3, hA3⟩, hfr3⟩
        go_wp2
        go_ret
        have e := HS.out
        refine ⟨by rw [← e]; rfl, ⟨A3, n3, c3, by rw [← e]; exact hR3, fun b hb => hA' b (hA3 b hb)⟩, hfr.trans hfr3 (fun b hb => .inl hb)⟩
      | b :: rest, hl1, hes =>
        have hrest : rest = [] := by
          rcases hl1 with h | h
          · simp at h; exact List.eq_nil_of_length_eq_zero (by omega)
          · cases h
        subst hrest
        have HES := Lib.hid (hes (by simp))
        dsimp only at hstep
        have hb256 : b.toNat < 256 := b.toNat_lt
        clear hl1 h hR hes
        by_cases w1c : 7 - k = 7 ∧ b.toNat = 128
        · rw [if_pos w1c] at hstep
          have HS := Lib.hid hstep
          have hk0 : ((k : Int) == 0) = true := by simp; omega
          have hb128 : ((b.toNat : Int) == 128) = true := by simp; omega
          clear hstep w1c
          go_wp2_with fail
          refine QR.out.mono ?_
          rintro en w1 ⟨A2, c2, rfl, hown, ⟨A3, n3, c3, hR3, hA3⟩, hfr3⟩
          obtain ⟨g, rfl⟩ := hown.at_ (by simp)
          obtain ⟨x, hx, cx, fx⟩ := hown.get rfl (j := 0) (by simp)
          obtain rfl : b = x := by simpa using hx
          have hq := Lib.hid (rrFail_any 4 w1 hR3)
          go_wp2_with fail
          refine hq.out.mono ?_
          rintro en w2 ⟨rfl, ⟨A4, n4, c4, hR4, hA4⟩, hfr4⟩
          go_wp2
          go_ret
          have e := HS.out
          exact ⟨by rw [← e]; rfl, ⟨A4, n4, c4, by rw [← e]; exact hR4, fun b hb => hA' b (hA3 b (hA4 b hb))⟩, (hfr.trans hfr3 (fun b hb => .inl hb)).trans hfr4 (fun b hb => .inl hb)⟩
        · rw [if_neg w1c] at hstep
          have HW := Lib.hid w1c
          clear w1c
          have hk0 : ((k : Int) == 0) = true ∧ ((b.toNat : Int) == 128) = false ∨ ((k : Int) == 0) = false := by
            by_cases h0 : k = 0
            · left; have := HW.out; subst h0; simp at this; simp; omega
            · right; simp; omega
          have hm1 : IntKind.i64.wrap (128 * (nn : Int)) = 128 * (nn : Int) := by rw [IntKind.wrap_i64]; omega
          obtain ⟨q, hq⟩ : ∃ q : Nat, q = nn * 128 + b.toNat % 128 := ⟨_, rfl⟩
          have hm2 : 128 * (nn : Int) + (b.toNat : Int) % 128 = (q : Int) := by omega
          have hqb : q < 72057594037927936 := by omega
          have hm3 : IntKind.i64.wrap (q : Int) = (q : Int) := by rw [IntKind.wrap_i64]; omega
          rw [← hq] at hstep
          have HQ := Lib.hid hq
          clear hq
          by_cases w2c : 128 ≤ b.toNat
          · rw [if_pos w2c] at hstep
            have HS := Lib.hid hstep
            have hge : (128 : Int) ≤ (b.toNat : Int) := by omega
            clear hstep
            rcases hk0 with ⟨hk0, hb128⟩ | hk0
            all_goals
              go_wp2_with fail
              refine QR.out.mono ?_
              rintro en w1 ⟨A2, c2, rfl, hown, ⟨A3, n3, c3, hR3, hA3⟩, hfr3⟩
              obtain ⟨g, rfl⟩ := hown.at_ (by simp)
              obtain ⟨x, hx, cx, fx⟩ := hown.get rfl (j := 0) (by simp)
              obtain rfl : b = x := by simpa using hx
              go_wp2
              go_roundg (8 - (k + 1))
              case measure => omega
              case rel =>
                refine ⟨k + 1, q, s1, A3, n3, c3, by go_num, by go_num, by omega, rfl, ?_, hR3, HES.out, ?_, fun b hb => hA' b (hA3 b hb), hfr.trans hfr3 (fun b hb => .inl hb), ?_⟩
                · show _ < _
                  have := hnn.out
                  have := HQ.out
                  rw [show 7 * (k + 1) = 7 * k + 7 from by omega, Nat.pow_add]
                  omega
                · have := hsl.out; have := hR3.sl.len; omega
                · show _ = _; rw [show 8 - (k + 1) = 7 - k from by omega]; exact HS.out
          · rw [if_neg w2c] at hstep
            have hge : ¬ (128 : Int) ≤ (b.toNat : Int) := by omega
            by_cases w3c : 9007199254740991 < q
            · rw [if_pos w3c] at hstep
              have HS := Lib.hid hstep
              have h3 : (9007199254740991 : Int) < (q : Int) := by omega
              clear hstep
              rcases hk0 with ⟨hk0, hb128⟩ | hk0
              all_goals
                go_wp2_with fail
                refine QR.out.mono ?_
                rintro en w1 ⟨A2, c2, rfl, hown, ⟨A3, n3, c3, hR3, hA3⟩, hfr3⟩
                obtain ⟨g, rfl⟩ := hown.at_ (by simp)
                obtain ⟨x, hx, cx, fx⟩ := hown.get rfl (j := 0) (by simp)
                obtain rfl : b = x := by simpa using hx
                have hq := Lib.hid (rrFail_any 9 w1 hR3)
                go_wp2_with fail
                refine hq.out.mono ?_
                rintro en w2 ⟨rfl, ⟨A4, n4, c4, hR4, hA4⟩, hfr4⟩
                go_wp2
                go_ret
                have e := HS.out
                exact ⟨by rw [← e]; rfl, ⟨A4, n4, c4, by rw [← e]; exact hR4, fun b hb => hA' b (hA3 b (hA4 b hb))⟩, (hfr.trans hfr3 (fun b hb => .inl hb)).trans hfr4 (fun b hb => .inl hb)⟩
            · rw [if_neg w3c] at hstep
              have h3 : ¬ (9007199254740991 : Int) < (q : Int) := by omega
              by_cases w4c : most < (q : Nat)
              · rw [if_pos w4c] at hstep
                have HS := Lib.hid hstep
                have h4 : most < (q : Int) := by omega
                clear hstep
                rcases hk0 with ⟨hk0, hb128⟩ | hk0
                all_goals
                  go_wp2_with fail
                  refine QR.out.mono ?_
                  rintro en w1 ⟨A2, c2, rfl, hown, ⟨A3, n3, c3, hR3, hA3⟩, hfr3⟩
                  obtain ⟨g, rfl⟩ := hown.at_ (by simp)
                  obtain ⟨x, hx, cx, fx⟩ := hown.get rfl (j := 0) (by simp)
                  obtain rfl : b = x := by simpa using hx
                  have hq := Lib.hid (rrFail_any 5 w1 hR3)
                  go_wp2_with fail
                  refine hq.out.mono ?_
                  rintro en w2 ⟨rfl, ⟨A4, n4, c4, hR4, hA4⟩, hfr4⟩
                  go_wp2
                  go_ret
                  have e := HS.out
                  exact ⟨by rw [← e]; rfl, ⟨A4, n4, c4, by rw [← e]; exact hR4, fun b hb => hA' b (hA3 b (hA4 b hb))⟩, (hfr.trans hfr3 (fun b hb => .inl hb)).trans hfr4 (fun b hb => .inl hb)⟩
              · rw [if_neg w4c] at hstep
                have HS := Lib.hid hstep
                have h4 : ¬ most < (q : Int) := by omega
                clear hstep
                rcases hk0 with ⟨hk0, hb128⟩ | hk0
                all_goals
                  go_wp2_with fail
                  refine QR.out.mono ?_
                  rintro en w1 ⟨A2, c2, rfl, hown, ⟨A3, n3, c3, hR3, hA3⟩, hfr3⟩
                  obtain ⟨g, rfl⟩ := hown.at_ (by simp)
                  obtain ⟨x, hx, cx, fx⟩ := hown.get rfl (j := 0) (by simp)
                  obtain rfl : b = x := by simpa using hx
                  go_wp2
                  go_ret
                  have e := HS.out
                  exact ⟨by rw [← e]; rfl, ⟨A3, n3, c3, by rw [← e]; exact hR3, fun b hb => hA' b (hA3 b hb)⟩, hfr.trans hfr3 (fun b hb => .inl hb)⟩
    · have hrun0 := hrun.out
      obtain rfl : k = 8 := by omega
      rw [show 8 - 8 = 0 from by omega, cntRun] at hrun0
      have HS := Lib.hid hrun0
      have hq := Lib.hid (rrFail_any 4 wr hR)
      clear hrun0
      go_wp2_with fail
      refine hq.out.mono ?_
      rintro en w2 ⟨rfl, ⟨A4, n4, c4, hR4, hA4⟩, hfr4⟩
      go_wp2
      go_ret
      have e := HS.out
      exact ⟨by rw [← e]; rfl, ⟨A4, n4, c4, by rw [← e]; exact hR4, fun b hb => hA' b (hA4 b hb)⟩, hfr.trans hfr4 (fun b hb => .inl hb)⟩

set_option maxHeartbeats 400000 in
theorem rrCount_any (most : Int) (w : World) (h : Rr 90 w P s A n c) (hlen : n ≤ 140737488355328) :
    Calls Try.prog 53 #[.pointer (some ⟨P, 0, none⟩), .int .i64 most] w (RrPost 90 w P A (cntRun most 8 0 s).1 (cntRun most 8 0 s).2) := by
  by_cases he : s.e = 0
  · exact rrCount_ok most w h hlen he
  · have c1 : w.cell? ⟨P, 1, none⟩ = some (.int .i64 s.e) := h.blk.cell 1
    have hb : (s.e == 0) = false := by simpa using he
    have e1 : rawO 1 s = [] := by unfold rawO; rw [if_neg (fun h => he h.1)]
    have e2 : rawS 1 s = s := by unfold rawS; rw [if_neg he]
    have e3 : cntRun most 8 0 s = (0, s) := by rw [cntRun, e1, e2]
    rw [e3]
    have H := Lib.hid h
    clear h e1 e2 e3
    go_enter Try.func53, Try.ntmps53
    go_wp2
    go_rounds 1
    go_ret
    exact ⟨rfl, ⟨A, n, c, H.out, fun _ hb => hb⟩, Fr.refl _ _⟩

set_option maxHeartbeats 1000000 in
theorem rrText_any (most : Int) (w : World) (h : Rr 90 w P s A n c) (hlen : n ≤ 140737488355328) :
    Calls Try.prog 55 #[.pointer (some ⟨P, 0, none⟩), .int .i64 most] w (RrPostB 90 w P A (textO most s) (textS most s)) := by
  have QC := Lib.hid (rrCount_any most w h hlen)
  have ho : textO most s = if (cntRun most 8 0 s).2.e = 0 then rawO (cntRun most 8 0 s).1 (cntRun most 8 0 s).2 else [] := rfl
  have hs : textS most s = if (cntRun most 8 0 s).2.e = 0 then rawS (cntRun most 8 0 s).1 (cntRun most 8 0 s).2 else (cntRun most 8 0 s).2 := rfl
  have hl := Lib.hid (show (cntRun most 8 0 s).2.l.length ≤ 140737488355328 by have := cntRun_len most 8 0 s; have := h.sl.len; omega)
  rw [ho, hs]
  clear ho hs h
  generalize cntRun most 8 0 s = r at *
  obtain ⟨v, s1⟩ := r
  dsimp only at *
  by_cases he : s1.e = 0
  · rw [if_pos he, if_pos he]
    have hb : (s1.e == 0) = true := by simpa using he
    clear he
    go_enter Try.func55, Try.ntmps55
    go_wp2_with fail
    refine QC.out.mono ?_
    rintro en w1 ⟨rfl, ⟨A1, n1, c1, hR1, hA1⟩, hf1⟩
    have d1 : w1.cell? ⟨P, 1, none⟩ = some (.int .i64 s1.e) := hR1.blk.cell 1
    have Q2 := Lib.hid (rrRaw_any v w1 hR1 (by have := hR1.sl.len; have := hl.out; omega))
    go_wp2_with fail
    refine Q2.out.mono ?_
    rintro en w2 ⟨A2, c2, rfl, hown, ⟨A3, n3, c3, hR3, hA3⟩, hf3⟩
    go_wp2
    go_ret
    exact ⟨A2, c2, rfl, hown.mono hf1.size, ⟨A3, n3, c3, hR3, fun b hb => hA1 b (hA3 b hb)⟩, hf1.trans hf3 (fun b hb => .inl hb)⟩
  · rw [if_neg he, if_neg he]
    have hb : (s1.e == 0) = false := by simpa using he
    clear he
    go_enter Try.func55, Try.ntmps55
    go_wp2_with fail
    refine QC.out.mono ?_
    rintro en w1 ⟨rfl, ⟨A1, n1, c1, hR1, hA1⟩, hf1⟩
    have d1 : w1.cell? ⟨P, 1, none⟩ = some (.int .i64 s1.e) := hR1.blk.cell 1
    go_wp2
    go_ret
    exact ⟨none, 0, rfl, Own.nil _ _ _, ⟨A1, n1, c1, hR1, hA1⟩, hf1⟩
end

/-- A new reader, in memory of its own; its bytes lie among the blocks that are there. -/
def NewR2 (T : TypeId) (w : World) (l : List UInt8) (en : Ending) (w' : World) : Prop :=
  ∃ P A n c, en = .returned (.pointer (some ⟨P, 0, none⟩)) ∧ w.heap.size ≤ P ∧ (∀ b, blkOf A = some b → w.heap.size ≤ b ∧ b < w'.heap.size) ∧ Rr T w' P ⟨0, l⟩ A n c ∧ Below w.heap.size w w'

set_option maxHeartbeats 400000 in
theorem rrRead_any {A : Option Addr} {n c : Nat} {l : List UInt8} (w : World) (h : Sl w A n c l) (hlen : n ≤ 140737488355328) :
    Calls Try.prog 50 #[.slice A n c] w (NewR2 90 w l) := by
  have Q := Lib.hid (copyb_any w h hlen)
  clear h
  go_enter Try.func50, Try.ntmps50
  go_wp2_with fail
  refine Q.out.mono ?_
  rintro en w1 ⟨A1, c1, rfl, hown, hB⟩
  have hne : blkOf A1 ≠ some w1.heap.size := fun e => by have := (hown.lt _ e).2; omega
  go_wp2
  go_ret
  exact ⟨w1.heap.size, A1, l.length, c1, rfl, hB.size, fun b hb => ⟨(hown.lt b hb).1, by have := (hown.lt b hb).2; simp; omega⟩, ⟨Blk.new _ _ _, (hown.alloc _).sl, hne⟩, hB.alloc hB.size _⟩

set_option maxHeartbeats 400000 in
theorem read2_any {A : Option Addr} {n c : Nat} {l : List UInt8} (w : World) (h : Sl w A n c l) (hlen : n ≤ 140737488355328) :
    Calls Try.prog 45 #[.slice A n c] w (NewR2 88 w l) := by
  have Q := Lib.hid (clone_any w h hlen)
  clear h
  go_enter Try.func45, Try.ntmps45
  go_wp2_with fail
  refine Q.out.mono ?_
  rintro en w1 ⟨A1, c1, rfl, hown, hB⟩
  have hne : blkOf A1 ≠ some w1.heap.size := fun e => by have := (hown.lt _ e).2; omega
  go_wp2
  go_ret
  exact ⟨w1.heap.size, A1, l.length, c1, rfl, hB.size, fun b hb => ⟨(hown.lt b hb).1, by have := (hown.lt b hb).2; simp; omega⟩, ⟨Blk.new _ _ _, (hown.alloc _).sl, hne⟩, hB.alloc hB.size _⟩
end Go.Proofs.Ytblpnlobicjccaa
