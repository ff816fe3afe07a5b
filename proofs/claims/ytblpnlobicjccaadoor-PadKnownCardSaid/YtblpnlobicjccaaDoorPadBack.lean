/- Package pad: the law's PadBack. -/
import Derived.Test.YtblpnlobicjccaaDoorPadOpens
namespace Go.Proofs.YtblpnlobicjccaaDoor
open Go.RowKit

/-- The plain law: what was padded is opened as it was. -/
theorem pad_open (v : List UInt8) (t : Bool) (hv : v.length ≤ 250) (ht : t = true → v = []) :
    padE v t = 0 ∧ opE (padV v t) = 0 ∧ opV (padV v t) = v ∧ opT (padV v t) = t ∧ ((padV v t).length : Int) = clsI v.length := by
  have hcl : clsI v.length ≠ 0 := by rcases clsI_cases (v.length : Int) with ⟨a, e⟩ | ⟨a, b, e⟩ | ⟨a, b, e⟩ | ⟨a, b, e⟩ <;> omega
  have h0 : padE v t = 0 := (padE_zero v t).2 ⟨fun q => q.2 (ht q.1), hcl⟩
  have hC : 16 ≤ (clsI v.length).toNat ∧ v.length + 3 ≤ (clsI v.length).toNat := by rcases clsI_cases (v.length : Int) with ⟨a, e⟩ | ⟨a, b, e⟩ | ⟨a, b, e⟩ | ⟨a, b, e⟩ <;> omega
  have eV : padV v t = padL v t := by unfold padV; rw [if_pos h0]
  have b1 := byteOf_toNat ((v.length : Int) / 256)
  have b2 := byteOf_toNat (v.length : Int)
  have g0 : (padL v t).getD 0 0 = if t then 1 else 0 := rfl
  have g1 : (padL v t).getD 1 0 = byteOf ((v.length : Int) / 256) := rfl
  have g2 : (padL v t).getD 2 0 = byteOf (v.length : Int) := rfl
  have hN : opN (padL v t) = v.length := by unfold opN; rw [g1, g2]; omega
  have hlen : (padL v t).length = (clsI v.length).toNat := by unfold padL; simp; omega
  have hW : opW (padL v t) = v := by
    unfold opW; rw [hN]; unfold padL; simp
  have hL : opL (padL v t) = t := by unfold opL; rw [g0]; cases t <;> rfl
  have hok : opOk (padL v t) = true := (opOk_iff _).2 ⟨by omega, by rw [g0]; cases t <;> decide, by omega, by rw [hW, hL]; exact h0, by rw [hW, hL, eV]⟩
  rw [eV, opE_ok hok, opV_ok hok, opT_ok hok, hW, hL, hlen]
  exact ⟨h0, rfl, rfl, rfl, by omega⟩

theorem clsI_le (n : Int) : clsI n ≤ 256 := by
  rcases clsI_cases n with ⟨a, e⟩ | ⟨a, b, e⟩ | ⟨a, b, e⟩ | ⟨a, b, e⟩ <;> omega

set_option maxHeartbeats 2000000 in
theorem padback_any {A : Option Addr} {n c : Nat} {l : List UInt8} (t : Bool) (w : World) (hT : Tab w) (h : Sl w A n c l) (hl : n ≤ 400) :
    Calls Tryd.prog 5 #[.slice A n c, .bool t] w fun e w' => e = .returned (.bool true) ∧ Below w.heap.size w w' := by
  obtain rfl := h.len
  obtain ⟨m, hmm⟩ : ∃ m, (m = l.length ∧ l.length ≤ 250) ∨ (m = 250 ∧ 250 < l.length) := by
    by_cases q : l.length ≤ 250
    · exact ⟨_, .inl ⟨rfl, q⟩⟩
    · exact ⟨250, .inr ⟨rfl, by omega⟩⟩
  have hml : m ≤ l.length := by omega
  have hcap := h.cap
  have hs := h.take hml
  have hv : (l.take m).length = m := by simp; omega
  generalize l.take m = v at *
  have hm2 : m ≤ 250 := by omega
  have HW := Lib.hid (pworks_any w hT)
  have HT := Lib.hid hT
  have HV := Lib.hid hv
  clear hT hv
  cases t with
  | false =>
    have q := pad_open v false (by have := HV.out; omega) (by simp)
    rw [HV.out] at q
    have HQ := Lib.hid q
    clear q
    rcases hmm with ⟨rfl, hle⟩ | ⟨rfl, hle⟩
    · go_enter Tryd.func5, Tryd.ntmps5
      go_wp2_with fail
      refine HW.out.mono ?_
      rintro e w1 ⟨rfl, hB1⟩
      have hP := pad_any false w1 (HT.out.old hB1) (hs.old hB1) (by omega)
      unfold PadPost at hP
      rw [HQ.out.1] at hP
      have HP := Lib.hid hP
      have HB1 := Lib.hid hB1
      clear hB1 hP
      go_wp2_with fail
      refine HP.out.mono ?_
      rintro e w2 ⟨A2, n2, c2, rfl, hO2, hB2⟩
      have HB2 := Lib.hid (HB1.out.trans (hB2.mono HB1.out.size))
      have hq := open_any w2 (HT.out.old HB2.out) hO2.sl (by have := hO2.len; have := HQ.out.2.2.2.2; have := clsI_le ((l.length : Nat) : Int); omega)
      unfold OpenPost at hq
      rw [HQ.out.2.1, HQ.out.2.2.1, HQ.out.2.2.2.1] at hq
      have HN2 : Hid ((n2 : Int) = clsI ((l.length : Nat) : Int)) := by have := hO2.len; have := HQ.out.2.2.2.2; exact (by omega : (n2 : Int) = clsI ((l.length : Nat) : Int))
      have HOp := Lib.hid hq
      clear hq hO2 hB2 HP
      go_wp2_with fail
      refine HOp.out.mono ?_
      rintro e w3 ⟨A3, n3, c3, rfl, hO3, hB3⟩
      have HB3 := Lib.hid (HB2.out.trans (hB3.mono HB2.out.size))
      have HC := Lib.hid (class_any ((l.length : Nat) : Int) w3 (HT.out.old HB3.out) (by omega) (by omega))
      have HE := Lib.hid (eqb_any w3 hO3.sl (hs.old HB3.out))
      have hn2 := HN2.out
      clear hO3 hB3 HOp HW HB1 HB2 HN2 HQ
      generalize clsI ((l.length : Nat) : Int) = C at *
      go_wp2_with (first | (go_at_call 12; refine HC.out.mono ?_; rintro e w' ⟨rfl, rfl⟩) | (go_at_call 11; refine HE.out.mono ?_; rintro e w' ⟨rfl, rfl⟩))
      go_ret
      exact ⟨by simp, HB3.out⟩
    · go_enter Tryd.func5, Tryd.ntmps5
      go_wp2_with fail
      refine HW.out.mono ?_
      rintro e w1 ⟨rfl, hB1⟩
      have hP := pad_any false w1 (HT.out.old hB1) (hs.old hB1) (by omega)
      unfold PadPost at hP
      rw [HQ.out.1] at hP
      have HP := Lib.hid hP
      have HB1 := Lib.hid hB1
      clear hB1 hP
      go_wp2_with fail
      refine HP.out.mono ?_
      rintro e w2 ⟨A2, n2, c2, rfl, hO2, hB2⟩
      have HB2 := Lib.hid (HB1.out.trans (hB2.mono HB1.out.size))
      have hq := open_any w2 (HT.out.old HB2.out) hO2.sl (by have := hO2.len; have := HQ.out.2.2.2.2; have := clsI_le ((250 : Nat) : Int); omega)
      unfold OpenPost at hq
      rw [HQ.out.2.1, HQ.out.2.2.1, HQ.out.2.2.2.1] at hq
      have HN2 : Hid ((n2 : Int) = clsI ((250 : Nat) : Int)) := by have := hO2.len; have := HQ.out.2.2.2.2; exact (by omega : (n2 : Int) = clsI ((250 : Nat) : Int))
      have HOp := Lib.hid hq
      clear hq hO2 hB2 HP
      go_wp2_with fail
      refine HOp.out.mono ?_
      rintro e w3 ⟨A3, n3, c3, rfl, hO3, hB3⟩
      have HB3 := Lib.hid (HB2.out.trans (hB3.mono HB2.out.size))
      have HC := Lib.hid (class_any ((250 : Nat) : Int) w3 (HT.out.old HB3.out) (by omega) (by omega))
      have HE := Lib.hid (eqb_any w3 hO3.sl (hs.old HB3.out))
      have hn2 := HN2.out
      clear hO3 hB3 HOp HW HB1 HB2 HN2 HQ
      generalize clsI ((250 : Nat) : Int) = C at *
      go_wp2_with (first | (go_at_call 12; refine HC.out.mono ?_; rintro e w' ⟨rfl, rfl⟩) | (go_at_call 11; refine HE.out.mono ?_; rintro e w' ⟨rfl, rfl⟩))
      go_ret
      exact ⟨by simp, HB3.out⟩
  | true =>
    have q := pad_open ([] : List UInt8) true (by decide) (by simp)
    have HQ : Hid (_ ∧ _ ∧ _ ∧ _ ∧ ((padV [] true).length : Int) = clsI ((0 : Nat) : Int)) := q
    clear q
    rcases hmm with ⟨rfl, hle⟩ | ⟨rfl, hle⟩
    · go_enter Tryd.func5, Tryd.ntmps5
      go_wp2_with fail
      refine HW.out.mono ?_
      rintro e w1 ⟨rfl, hB1⟩
      have hP := pad_any true w1 (HT.out.old hB1) (Sl.nil w1) (by omega)
      unfold PadPost at hP
      rw [HQ.out.1] at hP
      have HP := Lib.hid hP
      have HB1 := Lib.hid hB1
      clear hB1 hP
      go_wp2_with fail
      refine HP.out.mono ?_
      rintro e w2 ⟨A2, n2, c2, rfl, hO2, hB2⟩
      have HB2 := Lib.hid (HB1.out.trans (hB2.mono HB1.out.size))
      have hq := open_any w2 (HT.out.old HB2.out) hO2.sl (by have := hO2.len; have := HQ.out.2.2.2.2; have := clsI_le ((0 : Nat) : Int); omega)
      unfold OpenPost at hq
      rw [HQ.out.2.1, HQ.out.2.2.1, HQ.out.2.2.2.1] at hq
      have HN2 : Hid ((n2 : Int) = clsI ((0 : Nat) : Int)) := by have := hO2.len; have := HQ.out.2.2.2.2; exact (by omega : (n2 : Int) = clsI ((0 : Nat) : Int))
      have HOp := Lib.hid hq
      clear hq hO2 hB2 HP
      go_wp2_with fail
      refine HOp.out.mono ?_
      rintro e w3 ⟨A3, n3, c3, rfl, hO3, hB3⟩
      have HB3 := Lib.hid (HB2.out.trans (hB3.mono HB2.out.size))
      have HC := Lib.hid (class_any ((0 : Nat) : Int) w3 (HT.out.old HB3.out) (by omega) (by omega))
      have HE := Lib.hid (eqb_any w3 hO3.sl (Sl.nil w3))
      have hn2 := HN2.out
      clear hO3 hB3 HOp HW HB1 HB2 HN2 HQ
      generalize clsI ((0 : Nat) : Int) = C at *
      go_wp2_with (first | (go_at_call 12; refine HC.out.mono ?_; rintro e w' ⟨rfl, rfl⟩) | (go_at_call 11; refine HE.out.mono ?_; rintro e w' ⟨rfl, rfl⟩))
      go_ret
      exact ⟨by simp, HB3.out⟩
    · go_enter Tryd.func5, Tryd.ntmps5
      go_wp2_with fail
      refine HW.out.mono ?_
      rintro e w1 ⟨rfl, hB1⟩
      have hP := pad_any true w1 (HT.out.old hB1) (Sl.nil w1) (by omega)
      unfold PadPost at hP
      rw [HQ.out.1] at hP
      have HP := Lib.hid hP
      have HB1 := Lib.hid hB1
      clear hB1 hP
      go_wp2_with fail
      refine HP.out.mono ?_
      rintro e w2 ⟨A2, n2, c2, rfl, hO2, hB2⟩
      have HB2 := Lib.hid (HB1.out.trans (hB2.mono HB1.out.size))
      have hq := open_any w2 (HT.out.old HB2.out) hO2.sl (by have := hO2.len; have := HQ.out.2.2.2.2; have := clsI_le ((0 : Nat) : Int); omega)
      unfold OpenPost at hq
      rw [HQ.out.2.1, HQ.out.2.2.1, HQ.out.2.2.2.1] at hq
      have HN2 : Hid ((n2 : Int) = clsI ((0 : Nat) : Int)) := by have := hO2.len; have := HQ.out.2.2.2.2; exact (by omega : (n2 : Int) = clsI ((0 : Nat) : Int))
      have HOp := Lib.hid hq
      clear hq hO2 hB2 HP
      go_wp2_with fail
      refine HOp.out.mono ?_
      rintro e w3 ⟨A3, n3, c3, rfl, hO3, hB3⟩
      have HB3 := Lib.hid (HB2.out.trans (hB3.mono HB2.out.size))
      have HC := Lib.hid (class_any ((0 : Nat) : Int) w3 (HT.out.old HB3.out) (by omega) (by omega))
      have HE := Lib.hid (eqb_any w3 hO3.sl (Sl.nil w3))
      have hn2 := HN2.out
      clear hO3 hB3 HOp HW HB1 HB2 HN2 HQ
      generalize clsI ((0 : Nat) : Int) = C at *
      go_wp2_with (first | (go_at_call 12; refine HC.out.mono ?_; rintro e w' ⟨rfl, rfl⟩) | (go_at_call 11; refine HE.out.mono ?_; rintro e w' ⟨rfl, rfl⟩))
      go_ret
      exact ⟨by simp, HB3.out⟩
end Go.Proofs.YtblpnlobicjccaaDoor
