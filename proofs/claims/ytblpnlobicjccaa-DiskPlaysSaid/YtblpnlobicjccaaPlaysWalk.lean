/- The law DiskPlays. -/
import Derived.Test.YtblpnlobicjccaaSameWalk
namespace Go.Proofs.Ytblpnlobicjccaa
open Go.RowKit

/-- A slice of calls (Do), each number an int. -/
def Dos2 (w : World) (A : Option Addr) (n c : Nat) : Prop :=
  n ≤ c ∧ c ≤ maxLen ∧ ∀ i, i < n → ∃ b o x y z m, A = some ⟨b, o, none⟩ ∧ El w b (o + i * 4) (.int .i64 x) (.int .i64 y) (.bool z) m ∧ y ≤ 9223372036854775807

set_option maxRecDepth 100000 in
set_option maxHeartbeats 4000000 in
theorem diskPlays_walk {A : Option Addr} {n c : Nat} (w : World) (h : Dos2 w A n c) :
    Calls Try.prog 6 #[.slice A n c] w fun e w' => e = .returned (.bool true) ∧ Below w.heap.size w w' := by
  obtain ⟨hnc, hcm, hel⟩ := h
  have HE := Lib.hid hel
  clear hel
  go_enter Try.func6, Try.ntmps6
  go_wp2_with fail
  refine (dnew_any w).mono ?_
  rintro en w1 ⟨rfl, rfl⟩
  have hD := dnew_dk w
  have hB1 := (Below.refl w.heap.size w).alloc (Nat.le_refl _) (.cells #[.slice none 0 0, .int .i64 0, .bool false, .func (.func 61) #[] #[], .slice none 0 0] 65)
  obtain ⟨P, hP⟩ : ∃ P, P = w.heap.size := ⟨_, rfl⟩
  rw [← hP] at hD ⊢
  have HP := Lib.hid hP
  clear hP
  generalize w.alloc (.cells #[.slice none 0 0, .int .i64 0, .bool false, .func (.func 61) #[] #[], .slice none 0 0] 65) = w1 at *
  go_wp2_with fail
  refine (rdnew_any w1).mono ?_
  rintro en w2 ⟨rfl, rfl⟩
  have hR := (rdnew_rk w1).lower (show P ≤ w1.heap.size by have := hB1.size; have := HP.out; omega)
  have hD2 := hD.fr ((Fr.refl (fun _ => False) w1).alloc (.cells #[.slice none 0 0, .int .i64 0, .bool false, .int .i64 (-1), .slice none 0 0] 87)) (fun _ _ => id)
  have hB2 := hB1.alloc hB1.size (.cells #[.slice none 0 0, .int .i64 0, .bool false, .int .i64 (-1), .slice none 0 0] 87)
  have hT : TwoD (w1.alloc (.cells #[.slice none 0 0, .int .i64 0, .bool false, .int .i64 (-1), .slice none 0 0] 87)) P P w1.heap.size (fun _ => False) S0 S0 :=
    ⟨_, _, hD2, hR, fun b hb hb' => by have := (hD.lt b hb).2; omega, fun _ hb => hb.elim⟩
  generalize w1.alloc (.cells #[.slice none 0 0, .int .i64 0, .bool false, .int .i64 (-1), .slice none 0 0] 87) = w2 at *
  generalize w1.heap.size = P' at *
  have HT := Lib.hid hT
  have HB := Lib.hid hB2
  clear hD hR hD2 hB1 hB2 hT
  go_wp2_with fail
  go_loopg [5] 80 (fun g v4 wr => ∃ (i : Nat) (s : DS), v4 = .int .i64 i ∧ i ≤ n ∧ i ≤ 80 ∧ g = 80 - i ∧ Hid (TwoD wr P P P' (fun _ => False) s s) ∧ Hid (s.t.length ≤ i) ∧ Hid (Below w.heap.size w wr))
  case atStart => exact ⟨0, S0, rfl, by omega, by omega, rfl, HT.out, Nat.le_refl _, HB.out⟩
  case round =>
    obtain ⟨i, s, rfl, hin, hi80, rfl, hTr, htl, hBr⟩ := hrel
    by_cases hlt : i < n ∧ i < 80
    · obtain ⟨hl1, hl2⟩ := hlt
      obtain ⟨b, o, x, y, z, m, rfl, hE, hy⟩ := HE.out i hl1
      obtain ⟨c0, c1, c2, _⟩ := hE.old hBr.out
      obtain ⟨A2, n2, c2', d3, hSw⟩ := hE.c3
      have c3 := (hBr.out.cell (p := ⟨b, o + i * 4 + 3, none⟩) (World.block_lt_of_cell? w _ d3)).trans d3
      have HST := Lib.hid (dstep_any x y z hTr.out (hSw.old hBr.out) (fun b hb hz => by rw [HP.out]; exact hSw.lt hz b hb) hy (by have := htl.out; omega))
      clear d3 hSw hE hy
      go_wp2_with fail
      refine HST.out.mono ?_
      rintro en w5 ⟨rfl, ⟨s1, hT1, ht1⟩, hB5⟩
      have HSA := Lib.hid (dsame_any hT1)
      have HT1 := Lib.hid ht1
      have HB5 := Lib.hid (hBr.out.trans (hB5.mono (Nat.le_of_eq HP.out.symm)))
      clear hT1 ht1 hB5 HST c0 c1 c2 c3
      go_wp2_with fail
      refine HSA.out.mono ?_
      rintro en w6 ⟨rfl, hT6, hB6⟩
      have HT6 := Lib.hid hT6
      have HB6 := Lib.hid (HB5.out.trans (hB6.mono HB5.out.size))
      clear hT6 hB6 HSA
      go_wp2
      go_roundg (80 - (i + 1))
      case measure => omega
      case rel => exact ⟨i + 1, s1, by go_num, by omega, by omega, rfl, HT6.out, (by show _ ≤ _; have := HT1.out; have := htl.out; omega), HB6.out⟩
    · have HSA := Lib.hid (dsame_any hTr.out)
      have hd : (i : Int) < (n : Int) ∧ ¬ (i : Int) < 80 ∨ ¬ (i : Int) < (n : Int) := by omega
      rcases hd with ⟨hd1, hd2⟩ | hd1
      all_goals
        go_wp2_with fail
        refine HSA.out.mono ?_
        rintro en w6 ⟨rfl, hT6, hB6⟩
        have HW := Lib.hid (dworks_any w6)
        have HB6 := Lib.hid (hBr.out.trans (hB6.mono hBr.out.size))
        clear hT6 hB6
        go_wp2_with fail
        refine HW.out.mono ?_
        rintro en w7 ⟨rfl, hB7⟩
        go_wp2
        go_ret
        exact ⟨rfl, HB6.out.trans (hB7.mono HB6.out.size)⟩
end Go.Proofs.Ytblpnlobicjccaa
