/- NumOrder, walked. -/
import Derived.Test.YtblpnlobicjccaaNumK
import Derived.Test.YtblpnlobicjccaaOrderPlain
namespace Go.Proofs.Ytblpnlobicjccaa
open Go.RowKit

set_option maxHeartbeats 400000 in
theorem ncount_any (x : Nat) (hx : x ≤ 9007199254740991) (w : World) : Calls Try.prog 40 #[.int .i64 x] w (Fresh w (cntBytes x)) := by
  have hc : cntE (x : Int) = 0 := by unfold cntE; rw [if_neg (by omega)]
  go_enter Try.func40, Try.ntmps40
  go_wp2_with fail
  refine (write_b _).mono ?_
  rintro en w1 ⟨rfl, hW, hB1⟩
  go_wp2_with fail
  refine (count_b x 0 (cntBytes x) _ hW (Nat.le_refl _) hB1.size (by decide) (by rw [hc]; rfl) (by rw [hc]; rfl)).mono ?_
  clear hW
  rintro en w2 ⟨rfl, A2, n2, c2, hW, hB2⟩
  have hl := cntBytes_len x hx
  go_wp2_with fail
  refine (wbytes_any _ hW (by have := hW.len; omega)).mono ?_
  have B2 := hB1.trans hB2
  clear hW
  rintro en w3 ⟨A3, c3, rfl, hown, hB3⟩
  rw [if_pos rfl] at hown
  have B3 := B2.trans (hB3.mono B2.size)
  have hown := hown.mono B2.size
  go_wp2
  go_ret
  exact ⟨A3, c3, rfl, hown, B3⟩

def Tells (w : World) (en : Ending) (w' : World) : Prop := en = .returned (.bool true) ∧ Below w.heap.size w w'

set_option maxRecDepth 100000 in
set_option maxHeartbeats 1000000 in
theorem numOrder_walk (a b : Int) (w : World) : Calls Try.prog 5 #[.int .i64 a, .int .i64 b] w (Tells w) := by
  have ha0 := Int.emod_nonneg a (show (9007199254740992 : Int) ≠ 0 by decide)
  have ha1 := Int.emod_lt_of_pos a (show (0 : Int) < 9007199254740992 by decide)
  have hb0 := Int.emod_nonneg b (show (9007199254740992 : Int) ≠ 0 by decide)
  have hb1 := Int.emod_lt_of_pos b (show (0 : Int) < 9007199254740992 by decide)
  have QA := Lib.hid (fun W => bring_any a 9007199254740992 W (by decide) (by decide))
  have QB := Lib.hid (fun W => bring_any b 9007199254740992 W (by decide) (by decide))
  generalize a % 9007199254740992 = a1 at *
  generalize b % 9007199254740992 = b1 at *
  obtain ⟨x, rfl⟩ := Int.eq_ofNat_of_zero_le ha0
  obtain ⟨y, rfl⟩ := Int.eq_ofNat_of_zero_le hb0
  have hx := cntBytes_len x (by omega)
  have hy := cntBytes_len y (by omega)
  have CX := Lib.hid (fun W => ncount_any x (by omega) W)
  have CY := Lib.hid (fun W => ncount_any y (by omega) W)
  have HXY := Lib.hid (fun h => cnt_before x y h)
  have HYX := Lib.hid (fun h => cnt_before y x h)
  have HE := Lib.hid (fun h : x = y => congrArg cntBytes h)
  generalize cntBytes x = lx at *
  generalize cntBytes y = ly at *
  clear ha0 ha1 hb0 hb1
  rcases Nat.lt_trichotomy x y with hxy | hxy | hxy
  · have hc := hxy
    clear hxy
    have hlt : (x : Int) < (y : Int) := by omega
    have heq : ((x : Int) == (y : Int)) = false := by simp; omega
    have heq2 : ((y : Int) == (x : Int)) = false := by simp; omega
    have h8 : (ly.length : Int) ≤ 8 := by omega
    rcases HXY.out hc with h1 | ⟨h1, h2⟩
    · have h1' : (lx.length : Int) < (ly.length : Int) := by omega
      go_enter Try.func5, Try.ntmps5
      go_wp2_with fail
      refine (QA.out _).mono ?_
      rintro en w1 ⟨rfl, rfl⟩
      go_wp2_with fail
      refine (QB.out _).mono ?_
      rintro en w1 ⟨rfl, rfl⟩
      go_wp2_with fail
      refine (CX.out _).mono ?_
      rintro en w1 ⟨A1, c1, rfl, hown1, hB1⟩
      go_wp2_with fail
      refine (CY.out _).mono ?_
      rintro en w2 ⟨A2, c2, rfl, hown2, hB2⟩
      have hs1 := hown1.sl.old hB2
      have hs2 := hown2.sl
      have B := hB1.trans (hB2.mono hB1.size)
      clear hown1 hown2 hB1 hB2
      go_wp2_with fail
      refine (nworks_any _).mono ?_
      rintro en w3 ⟨rfl, hB3⟩
      go_wp2
      go_ret
      exact ⟨rfl, B.trans (hB3.mono B.size)⟩
    · have h1' : ¬ (lx.length : Int) < (ly.length : Int) := by omega
      have h1q : ((lx.length : Int) == (ly.length : Int)) = true := by simp; omega
      clear h1
      go_enter Try.func5, Try.ntmps5
      go_wp2_with fail
      refine (QA.out _).mono ?_
      rintro en w1 ⟨rfl, rfl⟩
      go_wp2_with fail
      refine (QB.out _).mono ?_
      rintro en w1 ⟨rfl, rfl⟩
      go_wp2_with fail
      refine (CX.out _).mono ?_
      rintro en w1 ⟨A1, c1, rfl, hown1, hB1⟩
      go_wp2_with fail
      refine (CY.out _).mono ?_
      rintro en w2 ⟨A2, c2, rfl, hown2, hB2⟩
      have hs1 := hown1.sl.old hB2
      have hs2 := hown2.sl
      have B := hB1.trans (hB2.mono hB1.size)
      clear hown1 hown2 hB1 hB2
      have g1 := hs1.convert (P := Try.prog) 26 9 5 Try.underlying26 Try.underlying5 Try.underlying9
      have g2 := hs2.convert (P := Try.prog) 26 9 5 Try.underlying26 Try.underlying5 Try.underlying9
      have hl : Op.bytesLess (txt lx).toList (txt ly).toList = true := by rw [txt_toList, txt_toList]; exact h2
      clear hs1 hs2 h2
      go_wp2_with fail
      refine (nworks_any _).mono ?_
      rintro en w3 ⟨rfl, hB3⟩
      go_wp2
      go_ret
      exact ⟨rfl, B.trans (hB3.mono B.size)⟩
  · obtain rfl := HE.out hxy
    subst hxy
    clear CY HXY HYX HE
    go_enter Try.func5, Try.ntmps5
    go_wp2_with fail
    refine (QA.out _).mono ?_
    rintro en w1 ⟨rfl, rfl⟩
    go_wp2_with fail
    refine (QB.out _).mono ?_
    rintro en w1 ⟨rfl, rfl⟩
    go_wp2_with fail
    refine (CX.out _).mono ?_
    rintro en w1 ⟨A1, c1, rfl, hown1, hB1⟩
    go_wp2_with fail
    refine (CX.out _).mono ?_
    rintro en w2 ⟨A2, c2, rfl, hown2, hB2⟩
    have hs1 := hown1.sl.old hB2
    have hs2 := hown2.sl
    have B := hB1.trans (hB2.mono hB1.size)
    clear hown1 hown2 hB1 hB2
    go_wp2_with fail
    refine (eqb_any _ hs1 hs2).mono ?_
    rintro en w4 ⟨rfl, rfl⟩
    go_wp2_with fail
    refine (nworks_any _).mono ?_
    rintro en w3 ⟨rfl, hB3⟩
    go_wp2
    go_ret
    exact ⟨rfl, B.trans (hB3.mono B.size)⟩
  · have hc := hxy
    clear hxy
    have hlt : (y : Int) < (x : Int) := by omega
    have heq : ((y : Int) == (x : Int)) = false := by simp; omega
    have heq2 : ((x : Int) == (y : Int)) = false := by simp; omega
    have h8 : (lx.length : Int) ≤ 8 := by omega
    rcases HYX.out hc with h1 | ⟨h1, h2⟩
    · have h1' : (ly.length : Int) < (lx.length : Int) := by omega
      go_enter Try.func5, Try.ntmps5
      go_wp2_with fail
      refine (QA.out _).mono ?_
      rintro en w1 ⟨rfl, rfl⟩
      go_wp2_with fail
      refine (QB.out _).mono ?_
      rintro en w1 ⟨rfl, rfl⟩
      go_wp2_with fail
      refine (CX.out _).mono ?_
      rintro en w1 ⟨A1, c1, rfl, hown1, hB1⟩
      go_wp2_with fail
      refine (CY.out _).mono ?_
      rintro en w2 ⟨A2, c2, rfl, hown2, hB2⟩
      have hs1 := hown1.sl.old hB2
      have hs2 := hown2.sl
      have B := hB1.trans (hB2.mono hB1.size)
      clear hown1 hown2 hB1 hB2
      go_wp2_with fail
      refine (nworks_any _).mono ?_
      rintro en w3 ⟨rfl, hB3⟩
      go_wp2
      go_ret
      exact ⟨rfl, B.trans (hB3.mono B.size)⟩
    · have h1' : ¬ (ly.length : Int) < (lx.length : Int) := by omega
      have h1q : ((ly.length : Int) == (lx.length : Int)) = true := by simp; omega
      clear h1
      go_enter Try.func5, Try.ntmps5
      go_wp2_with fail
      refine (QA.out _).mono ?_
      rintro en w1 ⟨rfl, rfl⟩
      go_wp2_with fail
      refine (QB.out _).mono ?_
      rintro en w1 ⟨rfl, rfl⟩
      go_wp2_with fail
      refine (CX.out _).mono ?_
      rintro en w1 ⟨A1, c1, rfl, hown1, hB1⟩
      go_wp2_with fail
      refine (CY.out _).mono ?_
      rintro en w2 ⟨A2, c2, rfl, hown2, hB2⟩
      have hs1 := hown1.sl.old hB2
      have hs2 := hown2.sl
      have B := hB1.trans (hB2.mono hB1.size)
      clear hown1 hown2 hB1 hB2
      have g1 := hs1.convert (P := Try.prog) 26 9 5 Try.underlying26 Try.underlying5 Try.underlying9
      have g2 := hs2.convert (P := Try.prog) 26 9 5 Try.underlying26 Try.underlying5 Try.underlying9
      have hl : Op.bytesLess (txt ly).toList (txt lx).toList = true := by rw [txt_toList, txt_toList]; exact h2
      clear hs1 hs2 h2
      go_wp2_with fail
      refine (nworks_any _).mono ?_
      rintro en w3 ⟨rfl, hB3⟩
      go_wp2
      go_ret
      exact ⟨rfl, B.trans (hB3.mono B.size)⟩
end Go.Proofs.Ytblpnlobicjccaa
