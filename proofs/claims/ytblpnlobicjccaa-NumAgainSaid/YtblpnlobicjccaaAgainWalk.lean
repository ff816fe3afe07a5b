/- NumAgain, walked. -/
import Derived.Test.YtblpnlobicjccaaNumK
import Derived.Test.YtblpnlobicjccaaAgainPlain
import Derived.Test.YtblpnlobicjccaaOrderWalk
namespace Go.Proofs.Ytblpnlobicjccaa
open Go.RowKit

set_option maxRecDepth 100000 in
set_option maxHeartbeats 2000000 in
theorem numAgain_walk {A : Option Addr} {n c : Nat} {l : List UInt8} (w : World) (h : Sl w A n c l) : Calls Try.prog 8 #[.slice A n c] w (Tells w) := by
  have hn := h.len
  have hcap := h.cap
  have hs0 := h.take (k := min n 12) (by omega)
  have HR := Lib.hid (fun w (k : Nat) (hk : k ≤ c) => run_cut_hi w A n c k hk)
  obtain ⟨r, hr⟩ : ∃ r, cntRun 9007199254740991 8 0 ⟨0, l.take (min n 12)⟩ = r := ⟨_, rfl⟩
  have HOK := Lib.hid (cntRun_ok 9007199254740991 8 0 ⟨0, l.take (min n 12)⟩ rfl (.inr rfl))
  have HERR := Lib.hid (cntRun_err 9007199254740991 8 0 ⟨0, l.take (min n 12)⟩ rfl)
  have hll : (l.take (min n 12)).length ≤ 12 := by simp; omega
  rw [hr] at HOK HERR
  have HR2 := Lib.hid hr
  obtain ⟨v, s1⟩ := r
  clear hr
  generalize l.take (min n 12) = l' at *
  dsimp only at *
  have hm : (n ≤ 12 ∧ min n 12 = n) ∨ (¬ n ≤ 12 ∧ min n 12 = 12) := by omega
  by_cases he : s1.e = 0
  · obtain ⟨x, d, rfl, hx, _, hd, hc⟩ := HOK.out he
    have hd : l' = d ++ s1.l := hd
    have hc : d = cntBytes x := by simpa [cntHi] using hc
    have qe : (s1.e != 0) = false := by simpa using he
    have CX := Lib.hid (fun W => ncount_any x hx W)
    rw [← hc] at CX
    have hlen : d.length + s1.l.length = l'.length := by rw [hd]; simp
    have hdl : d.length ≤ 12 := by omega
    have hsl : s1.l.length ≤ 12 := by omega
    have htake : l'.take d.length = d := by rw [hd]; simp
    have HT := Lib.hid htake
    have HL := Lib.hid hlen
    have hs0l := hs0.len
    have QN := Lib.hid (show n ≤ 12 → (n : Int) - (s1.l.length : Int) = (d.length : Int) from fun hm => by omega)
    have Q12 := Lib.hid (show ¬ n ≤ 12 → (12 : Int) - (s1.l.length : Int) = (d.length : Int) from fun hm => by omega)
    clear hs0l
    clear hc hd he hlen htake hx hn HERR HOK h
    rcases hm with ⟨hm1, hm2⟩ | ⟨hm1, hm2⟩
    all_goals
      rw [hm2] at hs0
      have r1 := fun w => HR.out w _ hs0.cap
      have HM := Lib.hid (show _ = l'.length from hs0.len)
      have HS := Lib.hid hs0
      clear hm2 hs0
      go_enter Try.func8, Try.ntmps8
      go_wp2_with fail
      refine (read_any _ HS.out (by omega)).mono ?_
      rintro en w1 ⟨P, A1, n1, c1, rfl, hP, hA1, hR1, hB1⟩
      go_wp2_with fail
      refine (rcount_c 9007199254740991 x _ hR1 (by have := hR1.sl.len; dsimp only at this; omega) HR2.out).mono ?_
      rintro en w2 ⟨rfl, ⟨A2, n2, c2, hR2, hA2⟩, hf2⟩
      have hB2 : Below w.heap.size w w2 := Fr.below hB1 hf2 hB1.size (fun b hb => by omega)
      clear hf2 hB1 hR1
      go_wp2_with fail
      refine (rErr_any _ hR2).mono ?_
      rintro en w3 ⟨rfl, rfl⟩
      go_wp2_with fail
      refine (CX.out _).mono ?_
      rintro en w3 ⟨A3, c3, rfl, hown3, hB3⟩
      have hR3 := hR2.old hB3
      have hs3 := (HS.out.old hB2).old hB3
      have B3 := hB2.trans (hB3.mono hB2.size)
      clear hR2 hB2 hB3
      go_wp2_with fail
      refine (rLeft_any _ hR3).mono ?_
      rintro en w4 ⟨rfl, rfl⟩
      have r2 := fun w => HR.out w d.length (by have := HS.out.cap; have := HM.out; have := HL.out; omega)
      have hst : Sl w3 A d.length c d := by
        have := hs3.take (k := d.length) (by have := HM.out; have := HL.out; omega)
        rw [HT.out] at this; exact this
      first
        | have q := QN.out hm1
        | have q := Q12.out hm1
      clear hs3
      go_wp2_with fail
      refine (eqb_any _ hown3.sl hst).mono ?_
      rintro en w4 ⟨rfl, rfl⟩
      go_wp2_with fail
      refine (nworks_any _).mono ?_
      rintro en w4 ⟨rfl, hB4⟩
      go_wp2
      go_ret
      exact ⟨rfl, B3.trans (hB4.mono B3.size)⟩
  · have hv := (HERR.out he)
    obtain ⟨rfl, hs1⟩ := hv
    have qe : (s1.e != 0) = true := by simpa using he
    have qe0 : (s1.e == 0) = false := by simpa using he
    have hend : endE s1 = s1.e := by unfold endE; rw [if_neg (fun h => he h.1)]
    have hleft : (s1.l.length : Int) = 0 := by rw [hs1]; rfl
    have HE := Lib.hid hend
    have HLf := Lib.hid hleft
    have hll2 : l'.length ≤ 12 := hll
    clear hend hleft hn HERR HOK h hs1 he
    rcases hm with ⟨hm1, hm2⟩ | ⟨hm1, hm2⟩
    all_goals
      rw [hm2] at hs0
      have r1 := fun w => HR.out w _ hs0.cap
      have HM := Lib.hid (show _ = l'.length from hs0.len)
      have HS := Lib.hid hs0
      clear hm2 hs0
      go_enter Try.func8, Try.ntmps8
      go_wp2_with fail
      refine (read_any _ HS.out (by omega)).mono ?_
      rintro en w1 ⟨P, A1, n1, c1, rfl, hP, hA1, hR1, hB1⟩
      go_wp2_with fail
      refine (rcount_c 9007199254740991 0 _ hR1 (by have := hR1.sl.len; dsimp only at this; omega) HR2.out).mono ?_
      rintro en w2 ⟨rfl, ⟨A2, n2, c2, hR2, hA2⟩, hf2⟩
      have hB2 : Below w.heap.size w w2 := Fr.below hB1 hf2 hB1.size (fun b hb => by omega)
      clear hf2 hB1 hR1
      go_wp2_with fail
      refine (rErr_any _ hR2).mono ?_
      rintro en w3 ⟨rfl, rfl⟩
      go_wp2_with fail
      refine (rLeft_any _ hR2).mono ?_
      rw [HLf.out]
      rintro en w4 ⟨rfl, rfl⟩
      go_wp2_with fail
      refine (rEnd_any _ hR2).mono ?_
      rw [HE.out]
      rintro en w4 ⟨rfl, rfl⟩
      go_wp2_with fail
      refine (rErr_any _ hR2).mono ?_
      rintro en w4 ⟨rfl, rfl⟩
      go_wp2_with fail
      refine (nworks_any _).mono ?_
      rintro en w4 ⟨rfl, hB4⟩
      go_wp2
      go_ret
      exact ⟨rfl, hB2.trans (hB4.mono hB2.size)⟩
end Go.Proofs.Ytblpnlobicjccaa
