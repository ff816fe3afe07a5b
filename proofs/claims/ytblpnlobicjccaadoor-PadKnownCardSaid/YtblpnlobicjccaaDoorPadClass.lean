/- Package pad's table of classes: Class, and slices.Contains over it. -/
import Derived.Test.YtblpnlobicjccaaDoorBytes
import Derived.Handy
import Derived.BigQuiet
namespace Go.Proofs.YtblpnlobicjccaaDoor
open Go.RowKit

/-- The table of classes (block 0: the package's variable) reads as the text lays it. -/
structure Tab (w : World) : Prop where
  c0 : w.cell? ⟨0, 0, none⟩ = some (.int .i64 16)
  c1 : w.cell? ⟨0, 1, none⟩ = some (.int .i64 64)
  c2 : w.cell? ⟨0, 2, none⟩ = some (.int .i64 256)
theorem Tab.pos {w : World} (h : Tab w) : 0 < w.heap.size := World.block_lt_of_cell? w _ h.c0
theorem Tab.below {w w' : World} {B : Nat} (h : Tab w) (k : Below B w w') (hB : 0 < B) : Tab w' :=
  ⟨(k.cell (p := ⟨0, 0, none⟩) hB).trans h.c0, (k.cell (p := ⟨0, 1, none⟩) hB).trans h.c1, (k.cell (p := ⟨0, 2, none⟩) hB).trans h.c2⟩
theorem Tab.old {w w' : World} (h : Tab w) (k : Below w.heap.size w w') : Tab w' := h.below k h.pos

set_option maxHeartbeats 400000 in
theorem cnan_any (x : Int) (w : World) : Calls Tryd.prog 22 #[.int .i64 x] w fun e w' => e = .returned (.bool false) ∧ w = w' := by
  go_enter Tryd.func22, Tryd.ntmps22
  go_wp2
  go_ret
  exact ⟨by simp, rfl⟩
set_option maxHeartbeats 400000 in
theorem snan_any (x : Int) (w : World) : Calls Tryd.prog 20 #[.int .i64 x] w fun e w' => e = .returned (.bool false) ∧ w = w' := by
  go_enter Tryd.func20, Tryd.ntmps20
  go_wp2
  go_ret
  exact ⟨by simp, rfl⟩
set_option maxHeartbeats 400000 in
theorem less_any (x y : Int) (w : World) : Calls Tryd.prog 19 #[.int .i64 x, .int .i64 y] w fun e w' => e = .returned (.bool (decide (x < y))) ∧ w = w' := by
  go_enter Tryd.func19, Tryd.ntmps19
  go_wp2_with (go_at_call 22; refine (cnan_any _ _).mono ?_; rintro e w' ⟨rfl, rfl⟩)
  go_ret
  exact ⟨by simp, rfl⟩

/-- What BinarySearch answers: the place, and something. -/
def Found (w : World) (i : Int) (e : Ending) (w' : World) : Prop := ∃ b, e = .returned (.tuple #[.int .i64 i, .bool b]) ∧ w = w'
def place (t : Int) : Int := if t ≤ 16 then 0 else if t ≤ 64 then 1 else 2
set_option maxHeartbeats 1000000 in
theorem bsearch_any (t : Int) (w : World) (h : Tab w) (h0 : 3 ≤ t) (h1 : t ≤ 253) :
    Calls Tryd.prog 16 #[.slice (some ⟨0, 0, none⟩) 3 3, .int .i64 t] w (Found w (place t)) := by
  obtain ⟨c0, c1, c2⟩ := h
  have HP := Lib.hid (rfl : place t = place t)
  have hcase : (t ≤ 16 ∧ place t = 0) ∨ (16 < t ∧ t ≤ 64 ∧ place t = 1) ∨ (64 < t ∧ place t = 2) := by
    unfold place; split
    · left; omega
    · split <;> omega
  rcases hcase with ⟨a, e⟩ | ⟨a, a2, e⟩ | ⟨a, e⟩
  all_goals
    rw [e]
    clear e HP
    go_enter Tryd.func16, Tryd.ntmps16
    go_wp2_with (go_at_call 19; refine (less_any _ _ _).mono ?_; rintro e w' ⟨rfl, rfl⟩)
    refine wp_loop_rounds 3 ?_
    repeat any_goals (rw [rounds_succ]; go_wp2_with (go_at_call 19; refine (less_any _ _ _).mono ?_; rintro e w' ⟨rfl, rfl⟩))
    all_goals
      go_wp2_with (go_at_call 20; refine (snan_any _ _).mono ?_; rintro e w' ⟨rfl, rfl⟩)
      go_ret2
      exact ⟨_, rfl, rfl⟩

def clsI (n : Int) : Int := if n < 0 ∨ 250 < n then 0 else if n ≤ 13 then 16 else if n ≤ 61 then 64 else 256
theorem clsI_cases (n : Int) : ((n < 0 ∨ 250 < n) ∧ clsI n = 0) ∨ (0 ≤ n ∧ n ≤ 13 ∧ clsI n = 16) ∨ (13 < n ∧ n ≤ 61 ∧ clsI n = 64) ∨ (61 < n ∧ n ≤ 250 ∧ clsI n = 256) := by
  unfold clsI; split
  · left; omega
  · split
    · right; left; omega
    · split <;> omega
set_option maxHeartbeats 1000000 in
theorem class_any (n : Int) (w : World) (h : Tab w) (hb : -9223372036854775808 ≤ n) (hb' : n ≤ 9223372036854775807) :
    Calls Tryd.prog 12 #[.int .i64 n] w fun e w' => e = .returned (.int .i64 (clsI n)) ∧ w = w' := by
  obtain ⟨c0, c1, c2⟩ := id h
  have HQ := Lib.hid (fun h0 h1 => bsearch_any (n + 3) w h h0 h1)
  have hp : (0 ≤ n ∧ n ≤ 13 → place (n + 3) = 0) ∧ (13 < n ∧ n ≤ 61 → place (n + 3) = 1) ∧ (61 < n → place (n + 3) = 2) := by
    unfold place
    refine ⟨fun _ => by rw [if_pos (by omega)], fun _ => by rw [if_neg (by omega), if_pos (by omega)], fun _ => by rw [if_neg (by omega), if_neg (by omega)]⟩
  rcases clsI_cases n with ⟨a, e⟩ | ⟨a, b, e⟩ | ⟨a, b, e⟩ | ⟨a, b, e⟩
  · rw [e]
    clear e hp HQ hb hb'
    rcases a with a | a
    · go_enter Tryd.func12, Tryd.ntmps12
      go_wp2_with fail
      go_ret
      exact ⟨rfl, rfl⟩
    · have a' : ¬ n < 0 := by omega
      go_enter Tryd.func12, Tryd.ntmps12
      go_wp2_with fail
      go_ret
      exact ⟨rfl, rfl⟩
  · rw [e]
    have hq := HQ.out (by omega) (by omega)
    rw [hp.1 ⟨a, b⟩] at hq
    have HQ2 := Lib.hid hq
    clear e hp hq HQ hb hb'
    go_enter Tryd.func12, Tryd.ntmps12
    go_wp2_with fail
    refine HQ2.out.mono ?_
    rintro e w' ⟨b, rfl, rfl⟩
    go_wp2
    go_ret
    exact ⟨rfl, rfl⟩
  · rw [e]
    have hq := HQ.out (by omega) (by omega)
    rw [hp.2.1 ⟨a, b⟩] at hq
    have HQ2 := Lib.hid hq
    clear e hp hq HQ hb hb'
    go_enter Tryd.func12, Tryd.ntmps12
    go_wp2_with fail
    refine HQ2.out.mono ?_
    rintro e w' ⟨b, rfl, rfl⟩
    go_wp2
    go_ret
    exact ⟨rfl, rfl⟩
  · rw [e]
    have hq := HQ.out (by omega) (by omega)
    rw [hp.2.2 a] at hq
    have HQ2 := Lib.hid hq
    clear e hp hq HQ hb hb'
    go_enter Tryd.func12, Tryd.ntmps12
    go_wp2_with fail
    refine HQ2.out.mono ?_
    rintro e w' ⟨b, rfl, rfl⟩
    go_wp2
    go_ret
    exact ⟨rfl, rfl⟩

set_option maxHeartbeats 1000000 in
theorem rclass_any (n : Int) (w : World) : Calls Tryd.prog 13 #[.int .i64 n] w fun e w' => e = .returned (.int .i64 (clsI n)) ∧ w = w' := by
  rcases clsI_cases n with ⟨a, e⟩ | ⟨a, b, e⟩ | ⟨a, b, e⟩ | ⟨a, b, e⟩
  · rw [e]
    clear e
    rcases a with a | a
    · go_enter Tryd.func13, Tryd.ntmps13
      go_wp2_with fail
      go_ret
      exact ⟨rfl, rfl⟩
    · have a' : ¬ n < 0 := by omega
      go_enter Tryd.func13, Tryd.ntmps13
      go_wp2_with fail
      go_ret
      exact ⟨rfl, rfl⟩
  all_goals
    rw [e]
    clear e
    go_enter Tryd.func13, Tryd.ntmps13
    go_wp2_with fail
    go_ret
    exact ⟨rfl, rfl⟩

/-- Is that a class? -/
def isCls (n : Int) : Bool := n == 16 || n == 64 || n == 256
def idxI (n : Int) : Int := if n = 16 then 0 else if n = 64 then 1 else if n = 256 then 2 else -1
set_option maxHeartbeats 1000000 in
theorem index_any (n : Int) (w : World) (h : Tab w) : Calls Tryd.prog 21 #[.slice (some ⟨0, 0, none⟩) 3 3, .int .i64 n] w fun e w' => e = .returned (.int .i64 (idxI n)) ∧ w = w' := by
  obtain ⟨c0, c1, c2⟩ := h
  have hc : (n = 16 ∧ idxI n = 0) ∨ (n = 64 ∧ idxI n = 1) ∨ (n = 256 ∧ idxI n = 2) ∨ ((n == 16) = false ∧ (n == 64) = false ∧ (n == 256) = false ∧ idxI n = -1) := by
    unfold idxI
    by_cases a : n = 16
    · left; simp [a]
    · by_cases b : n = 64
      · right; left; simp [b]
      · by_cases c : n = 256
        · right; right; left; simp [c]
        · right; right; right; simp [a, b, c]
  rcases hc with ⟨a, e⟩ | ⟨a, e⟩ | ⟨a, e⟩ | ⟨a, b, c, e⟩
  all_goals
    rw [e]
    clear e
    try subst a
    go_enter Tryd.func21, Tryd.ntmps21
    go_wp2
    refine wp_loop_rounds 4 ?_
    repeat any_goals (rw [rounds_succ]; go_wp2)
    go_ret
    exact ⟨rfl, rfl⟩
set_option maxHeartbeats 1000000 in
theorem contains_any (n : Int) (w : World) (h : Tab w) : Calls Tryd.prog 17 #[.slice (some ⟨0, 0, none⟩) 3 3, .int .i64 n] w fun e w' => e = .returned (.bool (isCls n)) ∧ w = w' := by
  have HQ := Lib.hid (index_any n w h)
  have e : isCls n = decide ((0 : Int) ≤ idxI n) := by
    unfold isCls idxI
    by_cases a : n = 16
    · simp [a]
    · by_cases b : n = 64
      · simp [b]
      · by_cases c : n = 256
        · simp [c]
        · simp [a, b, c]
  rw [e]
  clear e h
  go_enter Tryd.func17, Tryd.ntmps17
  go_wp2_with fail
  refine HQ.out.mono ?_
  rintro e w' ⟨rfl, rfl⟩
  go_wp2
  go_ret
  exact ⟨rfl, rfl⟩
end Go.Proofs.YtblpnlobicjccaaDoor
