/- NumBack, walked. -/
import Derived.Test.YtblpnlobicjccaaNumK
import Derived.Test.YtblpnlobicjccaaArgs
import Derived.Test.YtblpnlobicjccaaBackPlain
import Derived.Test.YtblpnlobicjccaaOrderWalk
import Derived.Deep.RegionHeld3
import Derived.Deep.LoopGhost
import Derived.Deep.DeepCutAuto
namespace Go.Proofs.Ytblpnlobicjccaa
open Go.RowKit

theorem run_cutI_hi (w : World) (A : Option Addr) (n c k : Nat) (hk : k ≤ c) : (Instr.slice 73 (.slice A n c) none (some (.int .i64 (k : Int))) none).run Try.prog w = .ok (.slice A k c) w := by
  have hs : (Go.sizeOf 3).run Try.prog w = .ok 1 w := by kernel_rfl
  rw [run_slice_h (P := Try.prog) w 73 A n c (by kernel_rfl) .i64 k (by omega) (by omega)]
  rw [show Try.prog.elem 73 = 3 by kernel_rfl, hs]
  cases A <;> simp [sliced, Addr.add]
theorem Is.take {w : World} {A : Option Addr} {n c : Nat} {l : List Int} (h : Is w A n c l) {k : Nat} (hk : k ≤ n) : Is w A k c (l.take k) := by
  refine ⟨by have := h.len; simp; omega, by have := h.cap; omega, h.max, ?_, fun z hz => h.bd z (List.mem_of_mem_take hz)⟩
  rcases h.rd with e | ⟨b, o, e, hc⟩
  · left; rw [e]; simp
  · refine .inr ⟨b, o, e, fun j hj => ?_⟩
    have hj' : j < l.length := by simp at hj; omega
    rw [hc j hj']; simp

theorem numE_ok (wd x : Nat) (hw : wideB wd = true) (hx : x ≤ 9007199254740991) (hp : x < 2 ^ (8 * wd)) : numE (wd : Int) (x : Int) = 0 := by
  unfold numE
  rw [if_neg (by rw [hw]; decide), if_neg]
  rintro (h | h | h)
  · omega
  · omega
  · rw [show (8 * (wd : Int)).toNat = 8 * wd from by omega] at h
    have e : ((x : Int) / 2 ^ (8 * wd)) = ((x / 2 ^ (8 * wd) : Nat) : Int) := by simp
    rw [e, Nat.div_eq_of_lt hp] at h
    simp at h

section
variable {P : Nat} {A : Option Addr} {n c : Nat}
theorem rnum_back (wd x : Nat) (r : List UInt8) (w : World) (h : Rr 88 w P ⟨0, numBytes wd x ++ r⟩ A n c) (hw : wideB wd = true) (hx : x < 2 ^ (8 * wd)) (hm : x ≤ 9007199254740991) (hl : n ≤ 1000000) :
    Calls Try.prog 51 #[.pointer (some ⟨P, 0, none⟩), .int .i64 wd] w (RrPost 88 w P A x ⟨0, r⟩) := by
  have := rNum_any wd w h (by omega)
  rw [numV_back wd x r hw hx hm, numS_back wd x r hw hx hm] at this
  exact this
theorem rcount_back (x : Nat) (most : Int) (r : List UInt8) (w : World) (h : Rr 88 w P ⟨0, cntBytes x ++ r⟩ A n c) (hx : x ≤ 9007199254740991) (hm : (x : Int) ≤ most) (hl : n ≤ 1000000) :
    Calls Try.prog 46 #[.pointer (some ⟨P, 0, none⟩), .int .i64 most] w (RrPost 88 w P A x ⟨0, r⟩) := by
  have := rCount_any most w h (by omega)
  rw [cntRun_back most x r hx hm] at this
  exact this
theorem rtext_back (most : Int) (t r : List UInt8) (w : World) (h : Rr 88 w P ⟨0, cntBytes t.length ++ (t ++ r)⟩ A n c) (ht : t.length ≤ 9007199254740991) (hm : (t.length : Int) ≤ most) (hl : n ≤ 1000000) :
    Calls Try.prog 54 #[.pointer (some ⟨P, 0, none⟩), .int .i64 most] w (RrPostB 88 w P A t ⟨0, r⟩) := by
  have := rText_any most w h (by omega)
  rw [(text_back most t r ht hm).1, (text_back most t r ht hm).2] at this
  exact this
end

set_option maxRecDepth 100000 in
set_option maxHeartbeats 40000000 in
theorem numBack_walk {A AI : Option Addr} {n c nI cI : Nat} {l : List UInt8} {li : List Int} (w : World) (hI : Is w AI nI cI li) (h : Sl w A n c l) :
    Calls Try.prog 10 #[.slice AI nI cI, .slice A n c] w (Tells w) := by
  have hcap := h.cap
  have hcapI := hI.cap
  go_enter Try.func10, Try.ntmps10
  go_upto_region 3 with (go_at_call 39; refine (nworks_any _).mono ?_; rintro en w1 ⟨rfl, hB1⟩)
  go_cut [1] (fun v wx => ∃ m : Nat, v = .slice A m c ∧ Hid (m = min n 50) ∧ Below w.heap.size w wx)
  case first =>
    by_cases hm : n ≤ 50
    · have r1 := fun w => run_cut_hi w A n c n hcap
      have hm' : (n : Int) ≤ 50 := by omega
      go_wp2
      go_meet
      exact ⟨n, rfl, (show _ = _ by omega), hB1⟩
    · have r1 : ∀ w, (Instr.slice 26 (.slice A n c) none (some (.int .i64 50)) none).run Try.prog w = .ok (.slice A 50 c) w := fun w => run_cut_hi w A n c 50 (by omega)
      have hm' : ¬ (n : Int) ≤ 50 := by omega
      go_wp2
      go_meet
      exact ⟨50, rfl, (show _ = _ by omega), hB1⟩
  case rest =>
    clear hB1
    obtain ⟨m, rfl, hm, hB1⟩ := hcut
    go_upto_region 4 with fail
    go_cut [0] (fun v wx => ∃ m : Nat, v = .slice AI m cI ∧ Hid (m = min nI 30) ∧ Below w.heap.size w wx)
    case first =>
      by_cases hm : nI ≤ 30
      · have r1 := fun w => run_cutI_hi w AI nI cI nI hcapI
        have hm' : (nI : Int) ≤ 30 := by omega
        go_wp2
        go_meet
        exact ⟨nI, rfl, (show _ = _ by omega), hB1⟩
      · have r1 : ∀ w, (Instr.slice 73 (.slice AI nI cI) none (some (.int .i64 30)) none).run Try.prog w = .ok (.slice AI 30 cI) w := fun w => run_cutI_hi w AI nI cI 30 (by omega)
        have hm' : ¬ (nI : Int) ≤ 30 := by omega
        go_wp2
        go_meet
        exact ⟨30, rfl, (show _ = _ by omega), hB1⟩
    case rest =>
      clear hB1
      obtain ⟨mI, rfl, hmI, hB1⟩ := hcut
      obtain ⟨w1, hw1⟩ : ∃ w1, w1 = wc := ⟨_, rfl⟩
      rw [← hw1] at hB1 ⊢
      clear hw1
      have hs := (h.old hB1).take (k := m) (by have := hm.out; omega)
      have hIs := (hI.old hB1).take (k := mI) (by have := hmI.out; omega)
      have hm50 : m ≤ 50 := by have := hm.out; omega
      have hI30 : mI ≤ 30 := by have := hmI.out; omega
      clear h hI hm hmI
      generalize l.take m = b at *
      generalize li.take mI = zs at *
      have hbl := Lib.hid hs.len
      have hzl := Lib.hid hIs.len
      have hwd := Blk.new w1 3 #[.int .i64 1, .int .i64 2, .int .i64 4, .int .i64 8]
      have hs2 := hs.alloc (.cells #[.int .i64 1, .int .i64 2, .int .i64 4, .int .i64 8] 3)
      have hI2 := hIs.old ((Below.refl w1.heap.size w1).alloc (Nat.le_refl _) (.cells #[.int .i64 1, .int .i64 2, .int .i64 4, .int .i64 8] 3))
      have hB2 := hB1.alloc hB1.size (.cells #[.int .i64 1, .int .i64 2, .int .i64 4, .int .i64 8] 3)
      go_wp2_with fail
      clear hs hIs hB1
      have hB2w := hB2
      have hg : w1.heap.size < (w1.alloc (.cells #[.int .i64 1, .int .i64 2, .int .i64 4, .int .i64 8] 3)).heap.size := by simp
      generalize w1.heap.size = g at *
      generalize w1.alloc (.cells #[.int .i64 1, .int .i64 2, .int .i64 4, .int .i64 8] 3) = w2 at *
      refine (write_b _).mono ?_
      rintro en w3 ⟨rfl, hW3, hB3⟩
      go_wp2_with fail
      go_loopg [7] mI (fun q v wr => ∃ k : Nat, v = .int .i64 k ∧ q = mI - k ∧ k ≤ mI ∧ (∃ A n c, Wr 78 wr w2.heap.size w2.heap.size 0 (encL b 0 (zs.take k)) A n c) ∧ Below w2.heap.size w2 wr)
      case atStart => exact ⟨0, rfl, rfl, by omega, ⟨none, 0, 0, hW3⟩, hB3⟩
      case round =>
        obtain ⟨k, rfl, hq, hk, ⟨AW, nW, cW, hW⟩, hBk⟩ := hrel
        have HQ := Lib.hid hq
        clear hq hB3 hW3
        by_cases hlt : k < mI
        · obtain ⟨bI, oI, x, rfl, hx, cx, hx1, hx2⟩ := hI2.get hlt
          have HX := Lib.hid hx
          have hbI := World.block_lt_of_cell? _ _ cx
          have cx0 := (hBk.cell (p := ⟨bI, oI + k, none⟩) hbI).trans cx
          have hwk := hwd.below hBk hg
          have hmod : k % 4 < 4 := Nat.mod_lt _ (by decide)
          have hw0 : wr.cell? ⟨g, k % 4, none⟩ = some (.int .i64 (wdOf k)) := by
            rw [hwk.cell]
            rcases wdOf_cases k with ⟨h1, h2⟩ | ⟨h1, h2⟩ | ⟨h1, h2⟩ | ⟨h1, h2⟩ <;> (rw [h1, h2]; rfl)
          have hwle := wdOf_le k
          have HWD := Lib.hid (wdOf_cases k)
          clear hx cx hwk
          generalize hwdk : wdOf k = wd at *
          have HWK := Lib.hid hwdk
          clear hwdk
          have hel := encL_len b (by have := hbl.out; omega) (zs.take k) 0
          have hzk : (zs.take k).length ≤ 30 := by simp; have := hzl.out; omega
          have hel2 : (encL b 0 (zs.take k)).length ≤ 2400 := by omega
          obtain ⟨x2, h2⟩ := Int.eq_ofNat_of_zero_le (Int.emod_nonneg x (show (9007199254740992 : Int) ≠ 0 by decide))
          have l2 := Int.emod_lt_of_pos x (show (0 : Int) < 9007199254740992 by decide)
          obtain ⟨x3, h3⟩ := Int.eq_ofNat_of_zero_le (Int.emod_nonneg x (show ((m : Int) + 1) ≠ 0 by omega))
          have l3 := Int.emod_lt_of_pos x (show (0 : Int) < (m : Int) + 1 by omega)
          have HB2 := Lib.hid (fun W => bring_any x 9007199254740992 W (by decide) (by decide))
          have HB3 := Lib.hid (fun W => bring_any x ((m : Int) + 1) W (by omega) (by omega))
          rw [h2] at l2 HB2
          rw [h3] at l3 HB3
          have hx3 : x3 ≤ m := by omega
          have hx2 : x2 ≤ 9007199254740991 := by omega
          have HT := Lib.hid (hs2.take hx3)
          have HTl := Lib.hid (show (b.take x3).length ≤ 50 by simp; omega)
          have HE : ∀ (x1 : Nat) (pw : Int), (2 : Int) ^ (min (8 * wd) 53) = pw → x % pw = x1 → encL b 0 (zs.take (k + 1)) = encL b 0 (zs.take k) ++ (numBytes wd x1 ++ (cntBytes x2 ++ (cntBytes (b.take x3).length ++ b.take x3))) := by
            intro x1 pw e1 e2
            rw [encL_snoc b zs k x HX.out, HWK.out]
            unfold enc1
            rw [e1, e2, h2, ← hbl.out, h3]
            rfl
          have HE := Lib.hid HE
          have HX2 := Lib.hid (show cntE (x2 : Int) = 0 by unfold cntE; rw [if_neg (by omega)])
          have HC2 := Lib.hid (cntBytes_len x2 hx2)
          have H2 := Lib.hid hx2
          have hel3 := Lib.hid hel2
          have hszk := Lib.hid hBk.size
          have r3 := fun w => run_cut_hi w A m c x3 (by have := hs2.cap; omega)
          have HHT := Lib.hid (fun (hz : b.take x3 ≠ []) b' (hb' : blkOf A = some b') => HT.out.lt hz b' hb')
          clear h2 h3 l2 hx2 hel hzk hel2 l3
          have hel := encL_len b (by have := hbl.out; omega) (zs.take k) 0
          have hzk : (zs.take k).length ≤ 30 := by simp; have := hzl.out; omega
          have hel2 : (encL b 0 (zs.take k)).length ≤ 2400 := by omega
          obtain ⟨x2, h2⟩ := Int.eq_ofNat_of_zero_le (Int.emod_nonneg x (show (9007199254740992 : Int) ≠ 0 by decide))
          have l2 := Int.emod_lt_of_pos x (show (0 : Int) < 9007199254740992 by decide)
          obtain ⟨x3, h3⟩ := Int.eq_ofNat_of_zero_le (Int.emod_nonneg x (show ((m : Int) + 1) ≠ 0 by omega))
          have l3 := Int.emod_lt_of_pos x (show (0 : Int) < (m : Int) + 1 by omega)
          have HB2 := Lib.hid (fun W => bring_any x 9007199254740992 W (by decide) (by decide))
          have HB3 := Lib.hid (fun W => bring_any x ((m : Int) + 1) W (by omega) (by omega))
          rw [h2] at l2 HB2
          rw [h3] at l3 HB3
          have hx3 : x3 ≤ m := by omega
          have hx2 : x2 ≤ 9007199254740991 := by omega
          have HT := Lib.hid (hs2.take hx3)
          have HTl := Lib.hid (show (b.take x3).length ≤ 50 by simp; omega)
          have HE : ∀ (x1 : Nat) (pw : Int), (2 : Int) ^ (min (8 * wd) 53) = pw → x % pw = x1 → encL b 0 (zs.take (k + 1)) = encL b 0 (zs.take k) ++ (numBytes wd x1 ++ (cntBytes x2 ++ (cntBytes (b.take x3).length ++ b.take x3))) := by
            intro x1 pw e1 e2
            rw [encL_snoc b zs k x HX.out, HWK.out]
            unfold enc1
            rw [e1, e2, h2, ← hbl.out, h3]
            rfl
          have HE := Lib.hid HE
          have HX2 := Lib.hid (show cntE (x2 : Int) = 0 by unfold cntE; rw [if_neg (by omega)])
          have HC2 := Lib.hid (cntBytes_len x2 hx2)
          have H2 := Lib.hid hx2
          have hel3 := Lib.hid hel2
          have hszk := Lib.hid hBk.size
          have r3 := fun w => run_cut_hi w A m c x3 (by have := hs2.cap; omega)
          have HHT := Lib.hid (fun (hz : b.take x3 ≠ []) b' (hb' : blkOf A = some b') => HT.out.lt hz b' hb')
          clear h2 h3 l2 hx2 hel hzk hel2 l3
          have hel := encL_len b (by have := hbl.out; omega) (zs.take k) 0
          have hzk : (zs.take k).length ≤ 30 := by simp; have := hzl.out; omega
          have hel2 : (encL b 0 (zs.take k)).length ≤ 2400 := by omega
          obtain ⟨x2, h2⟩ := Int.eq_ofNat_of_zero_le (Int.emod_nonneg x (show (9007199254740992 : Int) ≠ 0 by decide))
          have l2 := Int.emod_lt_of_pos x (show (0 : Int) < 9007199254740992 by decide)
          obtain ⟨x3, h3⟩ := Int.eq_ofNat_of_zero_le (Int.emod_nonneg x (show ((m : Int) + 1) ≠ 0 by omega))
          have l3 := Int.emod_lt_of_pos x (show (0 : Int) < (m : Int) + 1 by omega)
          have HB2 := Lib.hid (fun W => bring_any x 9007199254740992 W (by decide) (by decide))
          have HB3 := Lib.hid (fun W => bring_any x ((m : Int) + 1) W (by omega) (by omega))
          rw [h2] at l2 HB2
          rw [h3] at l3 HB3
          have hx3 : x3 ≤ m := by omega
          have hx2 : x2 ≤ 9007199254740991 := by omega
          have HT := Lib.hid (hs2.take hx3)
          have HTl := Lib.hid (show (b.take x3).length ≤ 50 by simp; omega)
          have HE : ∀ (x1 : Nat) (pw : Int), (2 : Int) ^ (min (8 * wd) 53) = pw → x % pw = x1 → encL b 0 (zs.take (k + 1)) = encL b 0 (zs.take k) ++ (numBytes wd x1 ++ (cntBytes x2 ++ (cntBytes (b.take x3).length ++ b.take x3))) := by
            intro x1 pw e1 e2
            rw [encL_snoc b zs k x HX.out, HWK.out]
            unfold enc1
            rw [e1, e2, h2, ← hbl.out, h3]
            rfl
          have HE := Lib.hid HE
          have HX2 := Lib.hid (show cntE (x2 : Int) = 0 by unfold cntE; rw [if_neg (by omega)])
          have HC2 := Lib.hid (cntBytes_len x2 hx2)
          have H2 := Lib.hid hx2
          have hel3 := Lib.hid hel2
          have hszk := Lib.hid hBk.size
          have r3 := fun w => run_cut_hi w A m c x3 (by have := hs2.cap; omega)
          have HHT := Lib.hid (fun (hz : b.take x3 ≠ []) b' (hb' : blkOf A = some b') => HT.out.lt hz b' hb')
          clear h2 h3 l2 hx2 hel hzk hel2 l3
          have hel := encL_len b (by have := hbl.out; omega) (zs.take k) 0
          have hzk : (zs.take k).length ≤ 30 := by simp; have := hzl.out; omega
          have hel2 : (encL b 0 (zs.take k)).length ≤ 2400 := by omega
          obtain ⟨x2, h2⟩ := Int.eq_ofNat_of_zero_le (Int.emod_nonneg x (show (9007199254740992 : Int) ≠ 0 by decide))
          have l2 := Int.emod_lt_of_pos x (show (0 : Int) < 9007199254740992 by decide)
          obtain ⟨x3, h3⟩ := Int.eq_ofNat_of_zero_le (Int.emod_nonneg x (show ((m : Int) + 1) ≠ 0 by omega))
          have l3 := Int.emod_lt_of_pos x (show (0 : Int) < (m : Int) + 1 by omega)
          have HB2 := Lib.hid (fun W => bring_any x 9007199254740992 W (by decide) (by decide))
          have HB3 := Lib.hid (fun W => bring_any x ((m : Int) + 1) W (by omega) (by omega))
          rw [h2] at l2 HB2
          rw [h3] at l3 HB3
          have hx3 : x3 ≤ m := by omega
          have hx2 : x2 ≤ 9007199254740991 := by omega
          have HT := Lib.hid (hs2.take hx3)
          have HTl := Lib.hid (show (b.take x3).length ≤ 50 by simp; omega)
          have HE : ∀ (x1 : Nat) (pw : Int), (2 : Int) ^ (min (8 * wd) 53) = pw → x % pw = x1 → encL b 0 (zs.take (k + 1)) = encL b 0 (zs.take k) ++ (numBytes wd x1 ++ (cntBytes x2 ++ (cntBytes (b.take x3).length ++ b.take x3))) := by
            intro x1 pw e1 e2
            rw [encL_snoc b zs k x HX.out, HWK.out]
            unfold enc1
            rw [e1, e2, h2, ← hbl.out, h3]
            rfl
          have HE := Lib.hid HE
          have HX2 := Lib.hid (show cntE (x2 : Int) = 0 by unfold cntE; rw [if_neg (by omega)])
          have HC2 := Lib.hid (cntBytes_len x2 hx2)
          have H2 := Lib.hid hx2
          have hel3 := Lib.hid hel2
          have hszk := Lib.hid hBk.size
          have r3 := fun w => run_cut_hi w A m c x3 (by have := hs2.cap; omega)
          have HHT := Lib.hid (fun (hz : b.take x3 ≠ []) b' (hb' : blkOf A = some b') => HT.out.lt hz b' hb')
          clear h2 h3 l2 hx2 hel hzk hel2 l3
          have hel := encL_len b (by have := hbl.out; omega) (zs.take k) 0
          have hzk : (zs.take k).length ≤ 30 := by simp; have := hzl.out; omega
          have hel2 : (encL b 0 (zs.take k)).length ≤ 2400 := by omega
          obtain ⟨x2, h2⟩ := Int.eq_ofNat_of_zero_le (Int.emod_nonneg x (show (9007199254740992 : Int) ≠ 0 by decide))
          have l2 := Int.emod_lt_of_pos x (show (0 : Int) < 9007199254740992 by decide)
          obtain ⟨x3, h3⟩ := Int.eq_ofNat_of_zero_le (Int.emod_nonneg x (show ((m : Int) + 1) ≠ 0 by omega))
          have l3 := Int.emod_lt_of_pos x (show (0 : Int) < (m : Int) + 1 by omega)
          have HB2 := Lib.hid (fun W => bring_any x 9007199254740992 W (by decide) (by decide))
          have HB3 := Lib.hid (fun W => bring_any x ((m : Int) + 1) W (by omega) (by omega))
          rw [h2] at l2 HB2
          rw [h3] at l3 HB3
          have hx3 : x3 ≤ m := by omega
          have hx2 : x2 ≤ 9007199254740991 := by omega
          have HT := Lib.hid (hs2.take hx3)
          have HTl := Lib.hid (show (b.take x3).length ≤ 50 by simp; omega)
          have HE : ∀ (x1 : Nat) (pw : Int), (2 : Int) ^ (min (8 * wd) 53) = pw → x % pw = x1 → encL b 0 (zs.take (k + 1)) = encL b 0 (zs.take k) ++ (numBytes wd x1 ++ (cntBytes x2 ++ (cntBytes (b.take x3).length ++ b.take x3))) := by
            intro x1 pw e1 e2
            rw [encL_snoc b zs k x HX.out, HWK.out]
            unfold enc1
            rw [e1, e2, h2, ← hbl.out, h3]
            rfl
          have HE := Lib.hid HE
          have HX2 := Lib.hid (show cntE (x2 : Int) = 0 by unfold cntE; rw [if_neg (by omega)])
          have HC2 := Lib.hid (cntBytes_len x2 hx2)
          have H2 := Lib.hid hx2
          have hel3 := Lib.hid hel2
          have hszk := Lib.hid hBk.size
          have r3 := fun w => run_cut_hi w A m c x3 (by have := hs2.cap; omega)
          have HHT := Lib.hid (fun (hz : b.take x3 ≠ []) b' (hb' : blkOf A = some b') => HT.out.lt hz b' hb')
          clear h2 h3 l2 hx2 hel hzk hel2 l3
          have hel := encL_len b (by have := hbl.out; omega) (zs.take k) 0
          have hzk : (zs.take k).length ≤ 30 := by simp; have := hzl.out; omega
          have hel2 : (encL b 0 (zs.take k)).length ≤ 2400 := by omega
          obtain ⟨x2, h2⟩ := Int.eq_ofNat_of_zero_le (Int.emod_nonneg x (show (9007199254740992 : Int) ≠ 0 by decide))
          have l2 := Int.emod_lt_of_pos x (show (0 : Int) < 9007199254740992 by decide)
          obtain ⟨x3, h3⟩ := Int.eq_ofNat_of_zero_le (Int.emod_nonneg x (show ((m : Int) + 1) ≠ 0 by omega))
          have l3 := Int.emod_lt_of_pos x (show (0 : Int) < (m : Int) + 1 by omega)
          have HB2 := Lib.hid (fun W => bring_any x 9007199254740992 W (by decide) (by decide))
          have HB3 := Lib.hid (fun W => bring_any x ((m : Int) + 1) W (by omega) (by omega))
          rw [h2] at l2 HB2
          rw [h3] at l3 HB3
          have hx3 : x3 ≤ m := by omega
          have hx2 : x2 ≤ 9007199254740991 := by omega
          have HT := Lib.hid (hs2.take hx3)
          have HTl := Lib.hid (show (b.take x3).length ≤ 50 by simp; omega)
          have HE : ∀ (x1 : Nat) (pw : Int), (2 : Int) ^ (min (8 * wd) 53) = pw → x % pw = x1 → encL b 0 (zs.take (k + 1)) = encL b 0 (zs.take k) ++ (numBytes wd x1 ++ (cntBytes x2 ++ (cntBytes (b.take x3).length ++ b.take x3))) := by
            intro x1 pw e1 e2
            rw [encL_snoc b zs k x HX.out, HWK.out]
            unfold enc1
            rw [e1, e2, h2, ← hbl.out, h3]
            rfl
          have HE := Lib.hid HE
          have HX2 := Lib.hid (show cntE (x2 : Int) = 0 by unfold cntE; rw [if_neg (by omega)])
          have HC2 := Lib.hid (cntBytes_len x2 hx2)
          have H2 := Lib.hid hx2
          have hel3 := Lib.hid hel2
          have hszk := Lib.hid hBk.size
          have r3 := fun w => run_cut_hi w A m c x3 (by have := hs2.cap; omega)
          have HHT := Lib.hid (fun (hz : b.take x3 ≠ []) b' (hb' : blkOf A = some b') => HT.out.lt hz b' hb')
          have HXE := Lib.hid h2
          clear h2 h3 l2 hx2 hel hzk hel2 l3
          have hel := encL_len b (by have := hbl.out; omega) (zs.take k) 0
          have hzk : (zs.take k).length ≤ 30 := by simp; have := hzl.out; omega
          have hel2 : (encL b 0 (zs.take k)).length ≤ 2400 := by omega
          obtain ⟨x2, h2⟩ := Int.eq_ofNat_of_zero_le (Int.emod_nonneg x (show (9007199254740992 : Int) ≠ 0 by decide))
          have l2 := Int.emod_lt_of_pos x (show (0 : Int) < 9007199254740992 by decide)
          obtain ⟨x3, h3⟩ := Int.eq_ofNat_of_zero_le (Int.emod_nonneg x (show ((m : Int) + 1) ≠ 0 by omega))
          have l3 := Int.emod_lt_of_pos x (show (0 : Int) < (m : Int) + 1 by omega)
          have HB2 := Lib.hid (fun W => bring_any x 9007199254740992 W (by decide) (by decide))
          have HB3 := Lib.hid (fun W => bring_any x ((m : Int) + 1) W (by omega) (by omega))
          rw [h2] at l2 HB2
          rw [h3] at l3 HB3
          have hx3 : x3 ≤ m := by omega
          have hx2 : x2 ≤ 9007199254740991 := by omega
          have HT := Lib.hid (hs2.take hx3)
          have HTl := Lib.hid (show (b.take x3).length ≤ 50 by simp; omega)
          have HE : ∀ (x1 : Nat) (pw : Int), (2 : Int) ^ (min (8 * wd) 53) = pw → x % pw = x1 → encL b 0 (zs.take (k + 1)) = encL b 0 (zs.take k) ++ (numBytes wd x1 ++ (cntBytes x2 ++ (cntBytes (b.take x3).length ++ b.take x3))) := by
            intro x1 pw e1 e2
            rw [encL_snoc b zs k x HX.out, HWK.out]
            unfold enc1
            rw [e1, e2, h2, ← hbl.out, h3]
            rfl
          have HE := Lib.hid HE
          have HX2 := Lib.hid (show cntE (x2 : Int) = 0 by unfold cntE; rw [if_neg (by omega)])
          have HC2 := Lib.hid (cntBytes_len x2 hx2)
          have H2 := Lib.hid hx2
          have hel3 := Lib.hid hel2
          have hszk := Lib.hid hBk.size
          have r3 := fun w => run_cut_hi w A m c x3 (by have := hs2.cap; omega)
          have HHT := Lib.hid (fun (hz : b.take x3 ≠ []) b' (hb' : blkOf A = some b') => HT.out.lt hz b' hb')
          have HXE := Lib.hid h2
          clear h2 h3 l2 hx2 hel hzk hel2 l3
          go_upto_region 11 with fail
          · generalize encL b 0 (zs.take k) = pre at *
            generalize hpost : encL b 0 (zs.take (k + 1)) = post at *
            have HPO := Lib.hid hpost
            clear hpost
            generalize hbt : b.take x3 = t at *
            rcases HWD.out with ⟨_, rfl⟩ | ⟨_, rfl⟩ | ⟨_, rfl⟩ | ⟨_, rfl⟩
            · obtain ⟨x1, h1⟩ := Int.eq_ofNat_of_zero_le (Int.emod_nonneg x (show (256 : Int) ≠ 0 by decide))
              have l1 := Int.emod_lt_of_pos x (show (0 : Int) < 256 by decide)
              have HB1 := Lib.hid (fun W => bring_any x 256 W (by decide) (by decide))
              have HP := Lib.hid (HE.out x1 256 (by decide) h1)
              rw [h1] at l1 HB1
              have HN := Lib.hid (show numE (1 : Int) (x1 : Int) = 0 from numE_ok 1 x1 (by decide) (by omega) (by omega))
              clear h1 l1
              have hWd : Wr 78 wr.drew w2.heap.size w2.heap.size 0 pre AW nW cW := ⟨hW.blk, hW.own.drew⟩
              have hwa : IntKind.i64.wrap 8 = 8 := IntWalk.i64_in _ (by omega)
              have hwb : IntKind.i64.wrap 256 = 256 := IntWalk.i64_in _ (by omega)
              have hwc : IntKind.i64.wrap ((m : Int) + 1) = (m : Int) + 1 := IntWalk.i64_in _ (by omega)
              go_region_held3 (fun w' => w'.cell? ⟨bI, oI + k, none⟩ = some (.int .i64 x)) (first | exact cx0 | exact cx1 | exact cx2 | exact cx3) (first | (go_at_call 14; ((with_reducible refine (HB1.out _).mono ?_); rintro en v ⟨rfl, rfl⟩)) | (go_at_call 14; ((with_reducible refine (HB2.out _).mono ?_); rintro en v ⟨rfl, rfl⟩)) | (go_at_call 14; ((with_reducible refine (HB3.out _).mono ?_); rintro en v ⟨rfl, rfl⟩)) | (go_at_call 29; refine (num_b 1 x1 0 (pre ++ numBytes 1 x1) _ hWd (Nat.le_refl _) hszk.out (by have := hel3.out; omega) (by rw [HN.out]; rfl) (by rw [HN.out]; rfl)).mono ?_; rintro en v1 ⟨rfl, A1, n1, c1, hW1, hBB1⟩; have cx1 := (hBB1.cell (p := ⟨bI, oI + k, none⟩) hbI).trans cx0; have hB1 := hBk.drew.trans hBB1) | (go_at_call 31; refine (count_b x2 0 (pre ++ numBytes 1 x1 ++ cntBytes x2) _ hW1 (Nat.le_refl _) hB1.size (by have := hel3.out; simp only [List.length_append, numBytes_len]; omega) (by rw [HX2.out]; rfl) (by rw [HX2.out]; rfl)).mono ?_; rintro en v2 ⟨rfl, A2, n2, c2, hW2, hBB2⟩; have cx2 := (hBB2.cell (p := ⟨bI, oI + k, none⟩) hbI).trans cx1; have hB2 := hB1.trans hBB2) | (go_at_call 33; refine (text_b (pre ++ numBytes 1 x1 ++ cntBytes x2 ++ (cntBytes t.length ++ t)) _ hW2 (HT.out.old hB2) (fun hz b' hb' hf => by have h9 := HHT.out hz b' hb'; rcases hf with hf | hf; omega; have := (hW2.own.lt _ hf).1; omega) (Nat.le_refl _) hB2.size (by have := hel3.out; have := HC2.out; simp only [List.length_append, numBytes_len]; omega) (by have := HTl.out; omega) rfl).mono ?_; rintro en v3 ⟨rfl, A3, n3, c3, hW3, hBB3⟩; have cx3 := (hBB3.cell (p := ⟨bI, oI + k, none⟩) hbI).trans cx2; have hB3 := hB2.trans hBB3))
              all_goals
                clear hW1 hW2 cx0 cx1 cx2 cx3 hB1 hB2 hBB1 hBB2 hBB3 r3 hWd hW
                go_wp2_with fail
                go_roundg (mI - (k + 1))
                case measure => have := HQ.out; omega
                case rel => exact ⟨k + 1, by go_num, rfl, by omega, ⟨A3, n3, c3, by rw [HPO.out, HP.out]; simpa only [List.append_assoc] using hW3⟩, hB3⟩
            · obtain ⟨x1, h1⟩ := Int.eq_ofNat_of_zero_le (Int.emod_nonneg x (show (65536 : Int) ≠ 0 by decide))
              have l1 := Int.emod_lt_of_pos x (show (0 : Int) < 65536 by decide)
              have HB1 := Lib.hid (fun W => bring_any x 65536 W (by decide) (by decide))
              have HP := Lib.hid (HE.out x1 65536 (by decide) h1)
              rw [h1] at l1 HB1
              have HN := Lib.hid (show numE (2 : Int) (x1 : Int) = 0 from numE_ok 2 x1 (by decide) (by omega) (by omega))
              clear h1 l1
              have hWd : Wr 78 wr.drew w2.heap.size w2.heap.size 0 pre AW nW cW := ⟨hW.blk, hW.own.drew⟩
              have hwa : IntKind.i64.wrap 16 = 16 := IntWalk.i64_in _ (by omega)
              have hwb : IntKind.i64.wrap 65536 = 65536 := IntWalk.i64_in _ (by omega)
              have hwc : IntKind.i64.wrap ((m : Int) + 1) = (m : Int) + 1 := IntWalk.i64_in _ (by omega)
              go_region_held3 (fun w' => w'.cell? ⟨bI, oI + k, none⟩ = some (.int .i64 x)) (first | exact cx0 | exact cx1 | exact cx2 | exact cx3) (first | (go_at_call 14; ((with_reducible refine (HB1.out _).mono ?_); rintro en v ⟨rfl, rfl⟩)) | (go_at_call 14; ((with_reducible refine (HB2.out _).mono ?_); rintro en v ⟨rfl, rfl⟩)) | (go_at_call 14; ((with_reducible refine (HB3.out _).mono ?_); rintro en v ⟨rfl, rfl⟩)) | (go_at_call 29; refine (num_b 2 x1 0 (pre ++ numBytes 2 x1) _ hWd (Nat.le_refl _) hszk.out (by have := hel3.out; omega) (by rw [HN.out]; rfl) (by rw [HN.out]; rfl)).mono ?_; rintro en v1 ⟨rfl, A1, n1, c1, hW1, hBB1⟩; have cx1 := (hBB1.cell (p := ⟨bI, oI + k, none⟩) hbI).trans cx0; have hB1 := hBk.drew.trans hBB1) | (go_at_call 31; refine (count_b x2 0 (pre ++ numBytes 2 x1 ++ cntBytes x2) _ hW1 (Nat.le_refl _) hB1.size (by have := hel3.out; simp only [List.length_append, numBytes_len]; omega) (by rw [HX2.out]; rfl) (by rw [HX2.out]; rfl)).mono ?_; rintro en v2 ⟨rfl, A2, n2, c2, hW2, hBB2⟩; have cx2 := (hBB2.cell (p := ⟨bI, oI + k, none⟩) hbI).trans cx1; have hB2 := hB1.trans hBB2) | (go_at_call 33; refine (text_b (pre ++ numBytes 2 x1 ++ cntBytes x2 ++ (cntBytes t.length ++ t)) _ hW2 (HT.out.old hB2) (fun hz b' hb' hf => by have h9 := HHT.out hz b' hb'; rcases hf with hf | hf; omega; have := (hW2.own.lt _ hf).1; omega) (Nat.le_refl _) hB2.size (by have := hel3.out; have := HC2.out; simp only [List.length_append, numBytes_len]; omega) (by have := HTl.out; omega) rfl).mono ?_; rintro en v3 ⟨rfl, A3, n3, c3, hW3, hBB3⟩; have cx3 := (hBB3.cell (p := ⟨bI, oI + k, none⟩) hbI).trans cx2; have hB3 := hB2.trans hBB3))
              all_goals
                clear hW1 hW2 cx0 cx1 cx2 cx3 hB1 hB2 hBB1 hBB2 hBB3 r3 hWd hW
                go_wp2_with fail
                go_roundg (mI - (k + 1))
                case measure => have := HQ.out; omega
                case rel => exact ⟨k + 1, by go_num, rfl, by omega, ⟨A3, n3, c3, by rw [HPO.out, HP.out]; simpa only [List.append_assoc] using hW3⟩, hB3⟩
            · obtain ⟨x1, h1⟩ := Int.eq_ofNat_of_zero_le (Int.emod_nonneg x (show (4294967296 : Int) ≠ 0 by decide))
              have l1 := Int.emod_lt_of_pos x (show (0 : Int) < 4294967296 by decide)
              have HB1 := Lib.hid (fun W => bring_any x 4294967296 W (by decide) (by decide))
              have HP := Lib.hid (HE.out x1 4294967296 (by decide) h1)
              rw [h1] at l1 HB1
              have HN := Lib.hid (show numE (4 : Int) (x1 : Int) = 0 from numE_ok 4 x1 (by decide) (by omega) (by omega))
              clear h1 l1
              have hWd : Wr 78 wr.drew w2.heap.size w2.heap.size 0 pre AW nW cW := ⟨hW.blk, hW.own.drew⟩
              have hwa : IntKind.i64.wrap 32 = 32 := IntWalk.i64_in _ (by omega)
              have hwb : IntKind.i64.wrap 4294967296 = 4294967296 := IntWalk.i64_in _ (by omega)
              have hwc : IntKind.i64.wrap ((m : Int) + 1) = (m : Int) + 1 := IntWalk.i64_in _ (by omega)
              go_region_held3 (fun w' => w'.cell? ⟨bI, oI + k, none⟩ = some (.int .i64 x)) (first | exact cx0 | exact cx1 | exact cx2 | exact cx3) (first | (go_at_call 14; ((with_reducible refine (HB1.out _).mono ?_); rintro en v ⟨rfl, rfl⟩)) | (go_at_call 14; ((with_reducible refine (HB2.out _).mono ?_); rintro en v ⟨rfl, rfl⟩)) | (go_at_call 14; ((with_reducible refine (HB3.out _).mono ?_); rintro en v ⟨rfl, rfl⟩)) | (go_at_call 29; refine (num_b 4 x1 0 (pre ++ numBytes 4 x1) _ hWd (Nat.le_refl _) hszk.out (by have := hel3.out; omega) (by rw [HN.out]; rfl) (by rw [HN.out]; rfl)).mono ?_; rintro en v1 ⟨rfl, A1, n1, c1, hW1, hBB1⟩; have cx1 := (hBB1.cell (p := ⟨bI, oI + k, none⟩) hbI).trans cx0; have hB1 := hBk.drew.trans hBB1) | (go_at_call 31; refine (count_b x2 0 (pre ++ numBytes 4 x1 ++ cntBytes x2) _ hW1 (Nat.le_refl _) hB1.size (by have := hel3.out; simp only [List.length_append, numBytes_len]; omega) (by rw [HX2.out]; rfl) (by rw [HX2.out]; rfl)).mono ?_; rintro en v2 ⟨rfl, A2, n2, c2, hW2, hBB2⟩; have cx2 := (hBB2.cell (p := ⟨bI, oI + k, none⟩) hbI).trans cx1; have hB2 := hB1.trans hBB2) | (go_at_call 33; refine (text_b (pre ++ numBytes 4 x1 ++ cntBytes x2 ++ (cntBytes t.length ++ t)) _ hW2 (HT.out.old hB2) (fun hz b' hb' hf => by have h9 := HHT.out hz b' hb'; rcases hf with hf | hf; omega; have := (hW2.own.lt _ hf).1; omega) (Nat.le_refl _) hB2.size (by have := hel3.out; have := HC2.out; simp only [List.length_append, numBytes_len]; omega) (by have := HTl.out; omega) rfl).mono ?_; rintro en v3 ⟨rfl, A3, n3, c3, hW3, hBB3⟩; have cx3 := (hBB3.cell (p := ⟨bI, oI + k, none⟩) hbI).trans cx2; have hB3 := hB2.trans hBB3))
              all_goals
                clear hW1 hW2 cx0 cx1 cx2 cx3 hB1 hB2 hBB1 hBB2 hBB3 r3 hWd hW
                go_wp2_with fail
                go_roundg (mI - (k + 1))
                case measure => have := HQ.out; omega
                case rel => exact ⟨k + 1, by go_num, rfl, by omega, ⟨A3, n3, c3, by rw [HPO.out, HP.out]; simpa only [List.append_assoc] using hW3⟩, hB3⟩
            · have HP := Lib.hid (HE.out x2 9007199254740992 (by decide) HXE.out)
              have l1 := H2.out
              have HN := Lib.hid (show numE (8 : Int) (x2 : Int) = 0 from numE_ok 8 x2 (by decide) (by omega) (by omega))
              clear l1
              have hWd : Wr 78 wr.drew w2.heap.size w2.heap.size 0 pre AW nW cW := ⟨hW.blk, hW.own.drew⟩
              have hwa : IntKind.i64.wrap 64 = 64 := IntWalk.i64_in _ (by omega)
              have hwb : IntKind.i64.wrap 9007199254740992 = 9007199254740992 := IntWalk.i64_in _ (by omega)
              have hwc : IntKind.i64.wrap ((m : Int) + 1) = (m : Int) + 1 := IntWalk.i64_in _ (by omega)
              go_region_held3 (fun w' => w'.cell? ⟨bI, oI + k, none⟩ = some (.int .i64 x)) (first | exact cx0 | exact cx1 | exact cx2 | exact cx3) (first | (go_at_call 14; ((with_reducible refine (HB2.out _).mono ?_); rintro en v ⟨rfl, rfl⟩)) | (go_at_call 14; ((with_reducible refine (HB3.out _).mono ?_); rintro en v ⟨rfl, rfl⟩)) | (go_at_call 29; refine (num_b 8 x2 0 (pre ++ numBytes 8 x2) _ hWd (Nat.le_refl _) hszk.out (by have := hel3.out; omega) (by rw [HN.out]; rfl) (by rw [HN.out]; rfl)).mono ?_; rintro en v1 ⟨rfl, A1, n1, c1, hW1, hBB1⟩; have cx1 := (hBB1.cell (p := ⟨bI, oI + k, none⟩) hbI).trans cx0; have hB1 := hBk.drew.trans hBB1) | (go_at_call 31; refine (count_b x2 0 (pre ++ numBytes 8 x2 ++ cntBytes x2) _ hW1 (Nat.le_refl _) hB1.size (by have := hel3.out; simp only [List.length_append, numBytes_len]; omega) (by rw [HX2.out]; rfl) (by rw [HX2.out]; rfl)).mono ?_; rintro en v2 ⟨rfl, A2, n2, c2, hW2, hBB2⟩; have cx2 := (hBB2.cell (p := ⟨bI, oI + k, none⟩) hbI).trans cx1; have hB2 := hB1.trans hBB2) | (go_at_call 33; refine (text_b (pre ++ numBytes 8 x2 ++ cntBytes x2 ++ (cntBytes t.length ++ t)) _ hW2 (HT.out.old hB2) (fun hz b' hb' hf => by have h9 := HHT.out hz b' hb'; rcases hf with hf | hf; omega; have := (hW2.own.lt _ hf).1; omega) (Nat.le_refl _) hB2.size (by have := hel3.out; have := HC2.out; simp only [List.length_append, numBytes_len]; omega) (by have := HTl.out; omega) rfl).mono ?_; rintro en v3 ⟨rfl, A3, n3, c3, hW3, hBB3⟩; have cx3 := (hBB3.cell (p := ⟨bI, oI + k, none⟩) hbI).trans cx2; have hB3 := hB2.trans hBB3))
              all_goals
                clear hW1 hW2 cx0 cx1 cx2 cx3 hB1 hB2 hBB1 hBB2 hBB3 r3 hWd hW
                go_wp2_with fail
                go_roundg (mI - (k + 1))
                case measure => have := HQ.out; omega
                case rel => exact ⟨k + 1, by go_num, rfl, by omega, ⟨A3, n3, c3, by rw [HPO.out, HP.out]; simpa only [List.append_assoc] using hW3⟩, hB3⟩
        · have ek : zs.take k = zs := List.take_of_length_le (by have := hzl.out; omega)
          rw [ek] at hW
          have hel := encL_len b (by have := hbl.out; omega) zs 0
          have hel2 : (encL b 0 zs).length ≤ 2400 := by have := hzl.out; omega
          have hblm := hbl.out
          have hb50 : b.length ≤ 50 := by omega
          have hszk := hBk.size
          clear ek hel
          have HS2 := Lib.hid hs2
          have Q1 := Lib.hid (raw_b (encL b 0 zs ++ b) _ hW (hs2.old hBk) (fun hz e => by have := hs2.lt hz _ e; omega) (Nat.le_refl _) hBk.size (by omega) (by omega) rfl)
          have hallm : (encL b 0 zs ++ b).length ≤ 2500 := by simp; omega
          generalize hall : encL b 0 zs ++ b = all at *
          have HALL := Lib.hid hall
          clear hall hblm hW hs2
          go_wp2_with fail
          refine Q1.out.mono ?_
          rintro en v1 ⟨rfl, A1, n1, c1, hW1, hBB1⟩
          have hB1 := hBk.trans hBB1
          go_wp2_with fail
          refine (wbytes_any _ hW1 (by have := hW1.len; omega)).mono ?_
          rintro en v2 ⟨A2, c2, rfl, hown2, hBB2⟩
          rw [if_pos rfl] at hown2
          have hB2 := hB1.trans (hBB2.mono hB1.size)
          clear hW1 hBB1 hBB2 hBk
          go_wp2_with fail
          refine (read_any _ hown2.sl (by omega)).mono ?_
          rintro en v3 ⟨P, A3, n3, c3, rfl, hP3, hA3, hR3, hBB3⟩
          have hB3 := hB2.trans (hBB3.mono hB2.size)
          have hP2 : w2.heap.size ≤ P := by have := hB2.size; omega
          clear hown2 hBB3 hB1 hB2 hA3 hP3
          go_wp2_with fail
          go_loopg [12] mI (fun q v wr => ∃ j : Nat, v = .int .i64 j ∧ q = mI - j ∧ j ≤ mI ∧ (∃ A n c, Rr 88 wr P ⟨0, encL b j (zs.drop j) ++ b⟩ A n c) ∧ Below w2.heap.size w2 wr)
          case atStart => exact ⟨0, rfl, rfl, by omega, ⟨A3, n3, c3, by rw [List.drop_zero, HALL.out]; exact hR3⟩, hB3⟩
          case round =>
            obtain ⟨j, rfl, hq, hj, ⟨AR, nR, cR, hR⟩, hBj⟩ := hrel
            have HQ := Lib.hid hq
            clear hq hB3 hR3
            by_cases hlt : j < mI
            · obtain ⟨bI, oI, x, rfl, hx, cx, hx1, hx2⟩ := hI2.get hlt
              have HX := Lib.hid hx
              have hbI := World.block_lt_of_cell? _ _ cx
              have cx0 := (hBj.cell (p := ⟨bI, oI + j, none⟩) hbI).trans cx
              have hwk := hwd.below hBj hg
              have hmod : j % 4 < 4 := Nat.mod_lt _ (by decide)
              have hw0 : wr.cell? ⟨g, j % 4, none⟩ = some (.int .i64 (wdOf j)) := by
                rw [hwk.cell]
                rcases wdOf_cases j with ⟨h1, h2⟩ | ⟨h1, h2⟩ | ⟨h1, h2⟩ | ⟨h1, h2⟩ <;> (rw [h1, h2]; rfl)
              have hwle := wdOf_le j
              have HWD := Lib.hid (wdOf_cases j)
              obtain ⟨x2, h2⟩ := Int.eq_ofNat_of_zero_le (Int.emod_nonneg x (show (9007199254740992 : Int) ≠ 0 by decide))
              have l2 := Int.emod_lt_of_pos x (show (0 : Int) < 9007199254740992 by decide)
              obtain ⟨x3, h3⟩ := Int.eq_ofNat_of_zero_le (Int.emod_nonneg x (show ((m : Int) + 1) ≠ 0 by omega))
              have l3 := Int.emod_lt_of_pos x (show (0 : Int) < (m : Int) + 1 by omega)
              have HB2 := Lib.hid (fun W => bring_any x 9007199254740992 W (by decide) (by decide))
              have HB3 := Lib.hid (fun W => bring_any x ((m : Int) + 1) W (by omega) (by omega))
              rw [h2] at l2 HB2
              rw [h3] at l3 HB3
              have hx3 : x3 ≤ m := by omega
              have hx2 : x2 ≤ 9007199254740991 := by omega
              have HT := Lib.hid (HS2.out.take hx3)
              have htl : (b.take x3).length ≤ 50 := by simp; omega
              have hrl := encL_len b hb50 (zs.drop (j + 1)) (j + 1)
              have hrl2 : (encL b (j + 1) (zs.drop (j + 1)) ++ b).length ≤ 2500 := by simp at hrl ⊢; have := hzl.out; omega
              have HE : ∀ (x1 : Nat) (pw : Int), (2 : Int) ^ (min (8 * wdOf j) 53) = pw → x % pw = x1 → encL b j (zs.drop j) ++ b = numBytes (wdOf j) x1 ++ (cntBytes x2 ++ (cntBytes (b.take x3).length ++ (b.take x3 ++ (encL b (j + 1) (zs.drop (j + 1)) ++ b)))) := by
                intro x1 pw e1 e2
                rw [encL_drop b zs j x HX.out]
                unfold enc1
                rw [e1, e2, h2, ← hbl.out, h3]
                simp only [List.append_assoc]
                rfl
              have HE := Lib.hid HE
              have HC2 := Lib.hid (cntBytes_len x2 hx2)
              have H2 := Lib.hid hx2
              have HXE := Lib.hid h2
              have r3 := fun w => run_cut_hi w A m c x3 (by have := HS2.out.cap; omega)
              have HRL := Lib.hid hrl2
              have HTL := Lib.hid htl
              have HREST := Lib.hid (rfl : encL b (j + 1) (zs.drop (j + 1)) ++ b = encL b (j + 1) (zs.drop (j + 1)) ++ b)
              clear h2 h3 l2 hx2 hrl hrl2 l3 hx cx hwk htl
              generalize hrest : encL b (j + 1) (zs.drop (j + 1)) ++ b = rest at *
              have HRE := Lib.hid hrest
              clear hrest HREST
              generalize b.take x3 = t at *
              generalize encL b j (zs.drop j) ++ b = cur at *
              generalize wdOf j = wd at *
              go_wp2_with (go_at_call 14; ((with_reducible refine (HB2.out _).mono ?_); rintro en v ⟨rfl, rfl⟩))
              rcases HWD.out with ⟨_, rfl⟩ | ⟨_, rfl⟩ | ⟨_, rfl⟩ | ⟨_, rfl⟩
              · obtain ⟨x1, h1⟩ := Int.eq_ofNat_of_zero_le (Int.emod_nonneg x (show (256 : Int) ≠ 0 by decide))
                have l1 := Int.emod_lt_of_pos x (show (0 : Int) < 256 by decide)
                have HB1 := Lib.hid (fun W => bring_any x 256 W (by decide) (by decide))
                have HP := Lib.hid (HE.out x1 256 (by decide) h1)
                rw [h1] at l1 HB1
                have HX1 := Lib.hid (show x1 < 2 ^ (8 * 1) by omega)
                have HM1 := Lib.hid (show x1 ≤ 9007199254740991 by omega)
                clear h1 l1
                rw [HP.out] at hR
                have hRd : Rr 88 wr.drew P ⟨0, numBytes 1 x1 ++ (cntBytes x2 ++ (cntBytes t.length ++ (t ++ rest)))⟩ AR nR cR := ⟨hR.blk, hR.sl.drew, hR.ne⟩
                have L3 := Lib.hid (show (cntBytes t.length ++ (t ++ rest)).length ≤ 10000 by have := HRL.out; have := HTL.out; have := cntBytes_len t.length (by omega); simp only [List.length_append]; omega)
                have L2 := Lib.hid (show (cntBytes x2 ++ (cntBytes t.length ++ (t ++ rest))).length ≤ 10010 by have := HC2.out; have := L3.out; rw [List.length_append]; omega)
                have L1 := Lib.hid (show nR ≤ 1000000 by have h9 := hR.sl.len; have := L2.out; rw [show nR = (numBytes 1 x1 ++ (cntBytes x2 ++ (cntBytes t.length ++ (t ++ rest)))).length from h9, List.length_append, numBytes_len]; omega)
                have hwa : IntKind.i64.wrap 8 = 8 := IntWalk.i64_in _ (by omega)
                have hwb : IntKind.i64.wrap 256 = 256 := IntWalk.i64_in _ (by omega)
                have hwc : IntKind.i64.wrap ((m : Int) + 1) = (m : Int) + 1 := IntWalk.i64_in _ (by omega)
                go_region_held3 (fun w' => w'.cell? ⟨bI, oI + j, none⟩ = some (.int .i64 x)) (first | exact cx0 | exact cx1 | exact cx2 | exact cx3) (first | (go_at_call 14; ((with_reducible refine (HB1.out _).mono ?_); rintro en v ⟨rfl, rfl⟩)) | (go_at_call 14; ((with_reducible refine (HB3.out _).mono ?_); rintro en v ⟨rfl, rfl⟩)) | (go_at_call 51; refine (rnum_back 1 x1 _ _ hRd (by decide) HX1.out HM1.out L1.out).mono ?_; rintro en v1 ⟨rfl, ⟨A1, n1, c1, hR1, _⟩, hf1⟩; have hBB1 := hf1.to_below (B := w2.heap.size) hBj.size (fun b hb => hb ▸ hP2); have cx1 := (hBB1.cell (p := ⟨bI, oI + j, none⟩) hbI).trans cx0; have hB1 := hBj.drew.trans hBB1) | (go_at_call 46; refine (rcount_back x2 _ _ _ hR1 H2.out (Int.le_refl _) (by have := hR1.sl.len; have := L2.out; (try dsimp only at *); omega)).mono ?_; rintro en v2 ⟨rfl, ⟨A2, n2, c2, hR2, _⟩, hf2⟩; have hBB2 := hf2.to_below (B := w2.heap.size) hB1.size (fun b hb => hb ▸ hP2); have cx2 := (hBB2.cell (p := ⟨bI, oI + j, none⟩) hbI).trans cx1; have hB2 := hB1.trans hBB2) | (go_at_call 54; refine (rtext_back 50 _ _ _ hR2 (by have := HTL.out; omega) (by have := HTL.out; omega) (by have := hR2.sl.len; have := L3.out; (try dsimp only at *); omega)).mono ?_; rintro en v3 ⟨A3, c3, rfl, hown3, ⟨A4, n4, c4, hR4, _⟩, hf3⟩; have hBB3 := hf3.to_below (B := w2.heap.size) hB2.size (fun b hb => hb ▸ hP2); have cx3 := (hBB3.cell (p := ⟨bI, oI + j, none⟩) hbI).trans cx2; have hB3 := hB2.trans hBB3) | (go_at_call 25; refine (eqb_any _ hown3.sl (HT.out.old hB3)).mono ?_; rintro en v4 ⟨rfl, rfl⟩))
                all_goals
                  clear hR1 hR2 hown3 cx0 cx1 cx2 cx3 hB1 hB2 hBB1 hBB2 hBB3 r3 hRd hf1 hf2 hf3
                  go_wp2_with fail
                  go_roundg (mI - (j + 1))
                  case measure => have := HQ.out; omega
                  case rel => exact ⟨j + 1, by go_num, rfl, by omega, ⟨A4, n4, c4, by rw [HRE.out]; exact hR4⟩, hB3⟩
              · obtain ⟨x1, h1⟩ := Int.eq_ofNat_of_zero_le (Int.emod_nonneg x (show (65536 : Int) ≠ 0 by decide))
                have l1 := Int.emod_lt_of_pos x (show (0 : Int) < 65536 by decide)
                have HB1 := Lib.hid (fun W => bring_any x 65536 W (by decide) (by decide))
                have HP := Lib.hid (HE.out x1 65536 (by decide) h1)
                rw [h1] at l1 HB1
                have HX1 := Lib.hid (show x1 < 2 ^ (8 * 2) by omega)
                have HM1 := Lib.hid (show x1 ≤ 9007199254740991 by omega)
                clear h1 l1
                rw [HP.out] at hR
                have hRd : Rr 88 wr.drew P ⟨0, numBytes 2 x1 ++ (cntBytes x2 ++ (cntBytes t.length ++ (t ++ rest)))⟩ AR nR cR := ⟨hR.blk, hR.sl.drew, hR.ne⟩
                have L3 := Lib.hid (show (cntBytes t.length ++ (t ++ rest)).length ≤ 10000 by have := HRL.out; have := HTL.out; have := cntBytes_len t.length (by omega); simp only [List.length_append]; omega)
                have L2 := Lib.hid (show (cntBytes x2 ++ (cntBytes t.length ++ (t ++ rest))).length ≤ 10010 by have := HC2.out; have := L3.out; rw [List.length_append]; omega)
                have L1 := Lib.hid (show nR ≤ 1000000 by have h9 := hR.sl.len; have := L2.out; rw [show nR = (numBytes 2 x1 ++ (cntBytes x2 ++ (cntBytes t.length ++ (t ++ rest)))).length from h9, List.length_append, numBytes_len]; omega)
                have hwa : IntKind.i64.wrap 16 = 16 := IntWalk.i64_in _ (by omega)
                have hwb : IntKind.i64.wrap 65536 = 65536 := IntWalk.i64_in _ (by omega)
                have hwc : IntKind.i64.wrap ((m : Int) + 1) = (m : Int) + 1 := IntWalk.i64_in _ (by omega)
                go_region_held3 (fun w' => w'.cell? ⟨bI, oI + j, none⟩ = some (.int .i64 x)) (first | exact cx0 | exact cx1 | exact cx2 | exact cx3) (first | (go_at_call 14; ((with_reducible refine (HB1.out _).mono ?_); rintro en v ⟨rfl, rfl⟩)) | (go_at_call 14; ((with_reducible refine (HB3.out _).mono ?_); rintro en v ⟨rfl, rfl⟩)) | (go_at_call 51; refine (rnum_back 2 x1 _ _ hRd (by decide) HX1.out HM1.out L1.out).mono ?_; rintro en v1 ⟨rfl, ⟨A1, n1, c1, hR1, _⟩, hf1⟩; have hBB1 := hf1.to_below (B := w2.heap.size) hBj.size (fun b hb => hb ▸ hP2); have cx1 := (hBB1.cell (p := ⟨bI, oI + j, none⟩) hbI).trans cx0; have hB1 := hBj.drew.trans hBB1) | (go_at_call 46; refine (rcount_back x2 _ _ _ hR1 H2.out (Int.le_refl _) (by have := hR1.sl.len; have := L2.out; (try dsimp only at *); omega)).mono ?_; rintro en v2 ⟨rfl, ⟨A2, n2, c2, hR2, _⟩, hf2⟩; have hBB2 := hf2.to_below (B := w2.heap.size) hB1.size (fun b hb => hb ▸ hP2); have cx2 := (hBB2.cell (p := ⟨bI, oI + j, none⟩) hbI).trans cx1; have hB2 := hB1.trans hBB2) | (go_at_call 54; refine (rtext_back 50 _ _ _ hR2 (by have := HTL.out; omega) (by have := HTL.out; omega) (by have := hR2.sl.len; have := L3.out; (try dsimp only at *); omega)).mono ?_; rintro en v3 ⟨A3, c3, rfl, hown3, ⟨A4, n4, c4, hR4, _⟩, hf3⟩; have hBB3 := hf3.to_below (B := w2.heap.size) hB2.size (fun b hb => hb ▸ hP2); have cx3 := (hBB3.cell (p := ⟨bI, oI + j, none⟩) hbI).trans cx2; have hB3 := hB2.trans hBB3) | (go_at_call 25; refine (eqb_any _ hown3.sl (HT.out.old hB3)).mono ?_; rintro en v4 ⟨rfl, rfl⟩))
                all_goals
                  clear hR1 hR2 hown3 cx0 cx1 cx2 cx3 hB1 hB2 hBB1 hBB2 hBB3 r3 hRd hf1 hf2 hf3
                  go_wp2_with fail
                  go_roundg (mI - (j + 1))
                  case measure => have := HQ.out; omega
                  case rel => exact ⟨j + 1, by go_num, rfl, by omega, ⟨A4, n4, c4, by rw [HRE.out]; exact hR4⟩, hB3⟩
              · obtain ⟨x1, h1⟩ := Int.eq_ofNat_of_zero_le (Int.emod_nonneg x (show (4294967296 : Int) ≠ 0 by decide))
                have l1 := Int.emod_lt_of_pos x (show (0 : Int) < 4294967296 by decide)
                have HB1 := Lib.hid (fun W => bring_any x 4294967296 W (by decide) (by decide))
                have HP := Lib.hid (HE.out x1 4294967296 (by decide) h1)
                rw [h1] at l1 HB1
                have HX1 := Lib.hid (show x1 < 2 ^ (8 * 4) by omega)
                have HM1 := Lib.hid (show x1 ≤ 9007199254740991 by omega)
                clear h1 l1
                rw [HP.out] at hR
                have hRd : Rr 88 wr.drew P ⟨0, numBytes 4 x1 ++ (cntBytes x2 ++ (cntBytes t.length ++ (t ++ rest)))⟩ AR nR cR := ⟨hR.blk, hR.sl.drew, hR.ne⟩
                have L3 := Lib.hid (show (cntBytes t.length ++ (t ++ rest)).length ≤ 10000 by have := HRL.out; have := HTL.out; have := cntBytes_len t.length (by omega); simp only [List.length_append]; omega)
                have L2 := Lib.hid (show (cntBytes x2 ++ (cntBytes t.length ++ (t ++ rest))).length ≤ 10010 by have := HC2.out; have := L3.out; rw [List.length_append]; omega)
                have L1 := Lib.hid (show nR ≤ 1000000 by have h9 := hR.sl.len; have := L2.out; rw [show nR = (numBytes 4 x1 ++ (cntBytes x2 ++ (cntBytes t.length ++ (t ++ rest)))).length from h9, List.length_append, numBytes_len]; omega)
                have hwa : IntKind.i64.wrap 32 = 32 := IntWalk.i64_in _ (by omega)
                have hwb : IntKind.i64.wrap 4294967296 = 4294967296 := IntWalk.i64_in _ (by omega)
                have hwc : IntKind.i64.wrap ((m : Int) + 1) = (m : Int) + 1 := IntWalk.i64_in _ (by omega)
                go_region_held3 (fun w' => w'.cell? ⟨bI, oI + j, none⟩ = some (.int .i64 x)) (first | exact cx0 | exact cx1 | exact cx2 | exact cx3) (first | (go_at_call 14; ((with_reducible refine (HB1.out _).mono ?_); rintro en v ⟨rfl, rfl⟩)) | (go_at_call 14; ((with_reducible refine (HB3.out _).mono ?_); rintro en v ⟨rfl, rfl⟩)) | (go_at_call 51; refine (rnum_back 4 x1 _ _ hRd (by decide) HX1.out HM1.out L1.out).mono ?_; rintro en v1 ⟨rfl, ⟨A1, n1, c1, hR1, _⟩, hf1⟩; have hBB1 := hf1.to_below (B := w2.heap.size) hBj.size (fun b hb => hb ▸ hP2); have cx1 := (hBB1.cell (p := ⟨bI, oI + j, none⟩) hbI).trans cx0; have hB1 := hBj.drew.trans hBB1) | (go_at_call 46; refine (rcount_back x2 _ _ _ hR1 H2.out (Int.le_refl _) (by have := hR1.sl.len; have := L2.out; (try dsimp only at *); omega)).mono ?_; rintro en v2 ⟨rfl, ⟨A2, n2, c2, hR2, _⟩, hf2⟩; have hBB2 := hf2.to_below (B := w2.heap.size) hB1.size (fun b hb => hb ▸ hP2); have cx2 := (hBB2.cell (p := ⟨bI, oI + j, none⟩) hbI).trans cx1; have hB2 := hB1.trans hBB2) | (go_at_call 54; refine (rtext_back 50 _ _ _ hR2 (by have := HTL.out; omega) (by have := HTL.out; omega) (by have := hR2.sl.len; have := L3.out; (try dsimp only at *); omega)).mono ?_; rintro en v3 ⟨A3, c3, rfl, hown3, ⟨A4, n4, c4, hR4, _⟩, hf3⟩; have hBB3 := hf3.to_below (B := w2.heap.size) hB2.size (fun b hb => hb ▸ hP2); have cx3 := (hBB3.cell (p := ⟨bI, oI + j, none⟩) hbI).trans cx2; have hB3 := hB2.trans hBB3) | (go_at_call 25; refine (eqb_any _ hown3.sl (HT.out.old hB3)).mono ?_; rintro en v4 ⟨rfl, rfl⟩))
                all_goals
                  clear hR1 hR2 hown3 cx0 cx1 cx2 cx3 hB1 hB2 hBB1 hBB2 hBB3 r3 hRd hf1 hf2 hf3
                  go_wp2_with fail
                  go_roundg (mI - (j + 1))
                  case measure => have := HQ.out; omega
                  case rel => exact ⟨j + 1, by go_num, rfl, by omega, ⟨A4, n4, c4, by rw [HRE.out]; exact hR4⟩, hB3⟩
              · obtain ⟨x1, h1⟩ := Int.eq_ofNat_of_zero_le (Int.emod_nonneg x (show (9007199254740992 : Int) ≠ 0 by decide))
                have l1 := Int.emod_lt_of_pos x (show (0 : Int) < 9007199254740992 by decide)
                have HB1 := Lib.hid (fun W => bring_any x 9007199254740992 W (by decide) (by decide))
                have HP := Lib.hid (HE.out x1 9007199254740992 (by decide) h1)
                rw [h1] at l1 HB1
                have HX1 := Lib.hid (show x1 < 2 ^ (8 * 8) by omega)
                have HM1 := Lib.hid (show x1 ≤ 9007199254740991 by omega)
                clear h1 l1
                rw [HP.out] at hR
                have hRd : Rr 88 wr.drew P ⟨0, numBytes 8 x1 ++ (cntBytes x2 ++ (cntBytes t.length ++ (t ++ rest)))⟩ AR nR cR := ⟨hR.blk, hR.sl.drew, hR.ne⟩
                have L3 := Lib.hid (show (cntBytes t.length ++ (t ++ rest)).length ≤ 10000 by have := HRL.out; have := HTL.out; have := cntBytes_len t.length (by omega); simp only [List.length_append]; omega)
                have L2 := Lib.hid (show (cntBytes x2 ++ (cntBytes t.length ++ (t ++ rest))).length ≤ 10010 by have := HC2.out; have := L3.out; rw [List.length_append]; omega)
                have L1 := Lib.hid (show nR ≤ 1000000 by have h9 := hR.sl.len; have := L2.out; rw [show nR = (numBytes 8 x1 ++ (cntBytes x2 ++ (cntBytes t.length ++ (t ++ rest)))).length from h9, List.length_append, numBytes_len]; omega)
                have hwa : IntKind.i64.wrap 64 = 64 := IntWalk.i64_in _ (by omega)
                have hwb : IntKind.i64.wrap 9007199254740992 = 9007199254740992 := IntWalk.i64_in _ (by omega)
                have hwc : IntKind.i64.wrap ((m : Int) + 1) = (m : Int) + 1 := IntWalk.i64_in _ (by omega)
                go_region_held3 (fun w' => w'.cell? ⟨bI, oI + j, none⟩ = some (.int .i64 x)) (first | exact cx0 | exact cx1 | exact cx2 | exact cx3) (first | (go_at_call 14; ((with_reducible refine (HB1.out _).mono ?_); rintro en v ⟨rfl, rfl⟩)) | (go_at_call 14; ((with_reducible refine (HB3.out _).mono ?_); rintro en v ⟨rfl, rfl⟩)) | (go_at_call 51; refine (rnum_back 8 x1 _ _ hRd (by decide) HX1.out HM1.out L1.out).mono ?_; rintro en v1 ⟨rfl, ⟨A1, n1, c1, hR1, _⟩, hf1⟩; have hBB1 := hf1.to_below (B := w2.heap.size) hBj.size (fun b hb => hb ▸ hP2); have cx1 := (hBB1.cell (p := ⟨bI, oI + j, none⟩) hbI).trans cx0; have hB1 := hBj.drew.trans hBB1) | (go_at_call 46; refine (rcount_back x2 _ _ _ hR1 H2.out (Int.le_refl _) (by have := hR1.sl.len; have := L2.out; (try dsimp only at *); omega)).mono ?_; rintro en v2 ⟨rfl, ⟨A2, n2, c2, hR2, _⟩, hf2⟩; have hBB2 := hf2.to_below (B := w2.heap.size) hB1.size (fun b hb => hb ▸ hP2); have cx2 := (hBB2.cell (p := ⟨bI, oI + j, none⟩) hbI).trans cx1; have hB2 := hB1.trans hBB2) | (go_at_call 54; refine (rtext_back 50 _ _ _ hR2 (by have := HTL.out; omega) (by have := HTL.out; omega) (by have := hR2.sl.len; have := L3.out; (try dsimp only at *); omega)).mono ?_; rintro en v3 ⟨A3, c3, rfl, hown3, ⟨A4, n4, c4, hR4, _⟩, hf3⟩; have hBB3 := hf3.to_below (B := w2.heap.size) hB2.size (fun b hb => hb ▸ hP2); have cx3 := (hBB3.cell (p := ⟨bI, oI + j, none⟩) hbI).trans cx2; have hB3 := hB2.trans hBB3) | (go_at_call 25; refine (eqb_any _ hown3.sl (HT.out.old hB3)).mono ?_; rintro en v4 ⟨rfl, rfl⟩))
                all_goals
                  clear hR1 hR2 hown3 cx0 cx1 cx2 cx3 hB1 hB2 hBB1 hBB2 hBB3 r3 hRd hf1 hf2 hf3
                  go_wp2_with fail
                  go_roundg (mI - (j + 1))
                  case measure => have := HQ.out; omega
                  case rel => exact ⟨j + 1, by go_num, rfl, by omega, ⟨A4, n4, c4, by rw [HRE.out]; exact hR4⟩, hB3⟩
            · have ek : encL b j (zs.drop j) = [] := by rw [List.drop_of_length_le (by have := hzl.out; omega)]; rfl
              rw [ek, List.nil_append] at hR
              have e1 : endE ⟨0, b⟩ = if 0 < b.length then 4 else 0 := by unfold endE; by_cases h : 0 < b.length <;> simp [h]
              have hmb : m = b.length := hbl.out
              have q1 := Lib.hid (rErr_any _ hR)
              have q2 := Lib.hid (rLeft_any _ hR)
              have q3 := Lib.hid (rEnd_any _ hR)
              have q4 := Lib.hid (rRaw_any m _ hR (by have := hR.sl.len; dsimp only at this; omega))
              have e2 : rawO (m : Int) ⟨0, b⟩ = b := by unfold rawO; rw [if_pos ⟨rfl, by omega, by simp; omega⟩, hmb]; simp
              rw [e1] at q3
              rw [e2] at q4
              have HSj := Lib.hid (HS2.out.old hBj)
              have qm : ((b.length : Int) == (m : Int)) = true := by simp; omega
              have hfin : (b.length = 0 ∧ ((m : Int) == 0) = true) ∨ (0 < b.length ∧ ((m : Int) == 0) = false) := by
                by_cases h : b.length = 0
                · left; exact ⟨h, by simp; omega⟩
                · right; exact ⟨by omega, by simp; omega⟩
              clear ek e1 e2 hR hmb
              rcases hfin with ⟨hz, qz⟩ | ⟨hz, qz⟩
              all_goals
                first
                  | rw [if_neg (by omega)] at q3
                  | rw [if_pos (by omega)] at q3
                clear hz
                go_wp2_with fail
                refine q1.out.mono ?_
                rintro en u1 ⟨rfl, rfl⟩
                go_wp2_with fail
                refine q2.out.mono ?_
                rintro en u1 ⟨rfl, rfl⟩
                go_wp2_with fail
                refine q3.out.mono ?_
                rintro en u1 ⟨rfl, rfl⟩
                go_wp2_with fail
                refine q4.out.mono ?_
                rintro en u2 ⟨A5, c5, rfl, hown5, _, hf5⟩
                have hB5 := hBj.trans (hf5.to_below (B := w2.heap.size) hBj.size (fun b hb => hb ▸ hP2))
                go_wp2_with fail
                refine (eqb_any _ hown5.sl (HS2.out.old hB5)).mono ?_
                rintro en u3 ⟨rfl, rfl⟩
                go_wp2
                go_ret
                exact ⟨by simp, hB2w.trans (hB5.mono hB2w.size)⟩
end Go.Proofs.Ytblpnlobicjccaa
