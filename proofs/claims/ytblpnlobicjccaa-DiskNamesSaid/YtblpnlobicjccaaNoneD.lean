/- Package disk: disks that are none: each method's answer. -/
import Derived.Test.YtblpnlobicjccaaDiskW
namespace Go.Proofs.Ytblpnlobicjccaa
open Go.RowKit

/-- A nil pointer, or one to a disk whose function value is nil. -/
def NoneD (w : World) (p : Option Addr) : Prop := p = none ∨ ∃ P, p = some ⟨P, 0, none⟩ ∧ w.cell? ⟨P, 3, none⟩ = some .nilFunc
theorem NoneD.old {w w' : World} {p : Option Addr} (h : NoneD w p) (k : Below w.heap.size w w') : NoneD w' p := by
  rcases h with h | ⟨P, h, hc⟩
  · exact .inl h
  · exact .inr ⟨P, h, (k.cell (p := ⟨P, 3, none⟩) (World.block_lt_of_cell? w _ hc)).trans hc⟩

set_option maxHeartbeats 400000 in
theorem nnone_any {w : World} {p : Option Addr} (h : NoneD w p) : Calls Try.prog 62 #[.pointer p] w fun en w' => en = .returned (.bool true) ∧ w = w' := by
  rcases h with rfl | ⟨P, rfl, hc⟩
  · go_enter Try.func62, Try.ntmps62
    go_wp2
    go_ret
    exact ⟨rfl, rfl⟩
  · have hq := fun (w : World) => (show (binOp .eql 63 .nilFunc .nilFunc).run Try.prog w = .ok (.bool true) w from rfl)
    go_enter Try.func62, Try.ntmps62
    go_wp2
    go_ret
    exact ⟨rfl, rfl⟩

set_option maxHeartbeats 400000 in
theorem nlive_any {w : World} {p : Option Addr} (h : NoneD w p) : Calls Try.prog 63 #[.pointer p] w fun en w' => en = .returned (.int .i64 1) ∧ w = w' := by
  have Q := Lib.hid (nnone_any h)
  clear h
  go_enter Try.func63, Try.ntmps63
  go_wp2_with (go_at_call 62; refine Q.out.mono ?_; rintro en w' ⟨rfl, rfl⟩)
  go_ret
  exact ⟨rfl, rfl⟩

set_option maxHeartbeats 400000 in
theorem nwrite_any {w : World} {p : Option Addr} {A : Option Addr} {n c : Nat} (h : NoneD w p) : Calls Try.prog 23 #[.pointer p, .slice A n c] w fun en w' => en = .returned (.int .i64 1) ∧ w = w' := by
  have Q := Lib.hid (nlive_any h)
  clear h
  go_enter Try.func23, Try.ntmps23
  go_wp2_with (go_at_call 63; refine Q.out.mono ?_; rintro en w' ⟨rfl, rfl⟩)
  go_ret
  exact ⟨rfl, rfl⟩

set_option maxHeartbeats 400000 in
theorem nsync_any {w : World} {p : Option Addr} (h : NoneD w p) : Calls Try.prog 16 #[.pointer p] w fun en w' => en = .returned (.int .i64 1) ∧ w = w' := by
  have Q := Lib.hid (nlive_any h)
  clear h
  go_enter Try.func16, Try.ntmps16
  go_wp2_with (go_at_call 63; refine Q.out.mono ?_; rintro en w' ⟨rfl, rfl⟩)
  go_ret
  exact ⟨rfl, rfl⟩

set_option maxHeartbeats 400000 in
theorem nswap_any {w : World} {p : Option Addr} {A : Option Addr} {n c : Nat} (h : NoneD w p) : Calls Try.prog 17 #[.pointer p, .slice A n c] w fun en w' => en = .returned (.int .i64 1) ∧ w = w' := by
  have Q := Lib.hid (nlive_any h)
  clear h
  go_enter Try.func17, Try.ntmps17
  go_wp2_with (go_at_call 63; refine Q.out.mono ?_; rintro en w' ⟨rfl, rfl⟩)
  go_ret
  exact ⟨rfl, rfl⟩

set_option maxHeartbeats 400000 in
theorem ncut_any {w : World} {p : Option Addr} (n : Int) (h : NoneD w p) : Calls Try.prog 19 #[.pointer p, .int .i64 n] w fun en w' => en = .returned (.int .i64 1) ∧ w = w' := by
  have Q := Lib.hid (nlive_any h)
  clear h
  go_enter Try.func19, Try.ntmps19
  go_wp2_with (go_at_call 63; refine Q.out.mono ?_; rintro en w' ⟨rfl, rfl⟩)
  go_ret
  exact ⟨rfl, rfl⟩

set_option maxHeartbeats 400000 in
theorem narm_any {w : World} {p : Option Addr} (n : Int) (h : NoneD w p) : Calls Try.prog 20 #[.pointer p, .int .i64 n] w fun en w' => en = .returned (.int .i64 1) ∧ Below w.heap.size w w' := by
  have Q := Lib.hid (nlive_any (h.old ((Below.refl _ w).alloc (Nat.le_refl _) (.cells #[.int .i64 n] 3))))
  clear h
  go_enter Try.func20, Try.ntmps20
  go_wp2_with (go_at_call 63; refine Q.out.mono ?_; rintro en w' ⟨rfl, rfl⟩)
  go_ret
  exact ⟨rfl, (Below.refl _ _).alloc (Nat.le_refl _) _⟩

set_option maxHeartbeats 400000 in
theorem ncrash_any {w : World} {p : Option Addr} (n : Int) (h : NoneD w p) : Calls Try.prog 21 #[.pointer p, .int .i64 n] w fun en w' => en = .returned (.int .i64 1) ∧ w = w' := by
  have Q := Lib.hid (nnone_any h)
  clear h
  go_enter Try.func21, Try.ntmps21
  go_wp2_with (go_at_call 62; refine Q.out.mono ?_; rintro en w' ⟨rfl, rfl⟩)
  go_ret
  exact ⟨rfl, rfl⟩

set_option maxHeartbeats 400000 in
theorem nrevive_any {w : World} {p : Option Addr} (h : NoneD w p) : Calls Try.prog 22 #[.pointer p] w fun en w' => en = .returned (.int .i64 1) ∧ w = w' := by
  have Q := Lib.hid (nnone_any h)
  clear h
  go_enter Try.func22, Try.ntmps22
  go_wp2_with (go_at_call 62; refine Q.out.mono ?_; rintro en w' ⟨rfl, rfl⟩)
  go_ret
  exact ⟨rfl, rfl⟩

set_option maxHeartbeats 400000 in
theorem nread_any {w : World} {p : Option Addr} (h : NoneD w p) : Calls Try.prog 24 #[.pointer p] w fun en w' => en = .returned (.slice none 0 0) ∧ w = w' := by
  have Q := Lib.hid (nnone_any h)
  clear h
  go_enter Try.func24, Try.ntmps24
  go_wp2_with (go_at_call 62; refine Q.out.mono ?_; rintro en w' ⟨rfl, rfl⟩)
  go_ret
  exact ⟨rfl, rfl⟩

set_option maxHeartbeats 400000 in
theorem nsynced_any {w : World} {p : Option Addr} (h : NoneD w p) : Calls Try.prog 26 #[.pointer p] w fun en w' => en = .returned (.int .i64 0) ∧ w = w' := by
  have Q := Lib.hid (nnone_any h)
  clear h
  go_enter Try.func26, Try.ntmps26
  go_wp2_with (go_at_call 62; refine Q.out.mono ?_; rintro en w' ⟨rfl, rfl⟩)
  go_ret
  exact ⟨rfl, rfl⟩

set_option maxHeartbeats 400000 in
theorem ndead_any {w : World} {p : Option Addr} (h : NoneD w p) : Calls Try.prog 15 #[.pointer p] w fun en w' => en = .returned (.bool false) ∧ w = w' := by
  have Q := Lib.hid (nnone_any h)
  clear h
  go_enter Try.func15, Try.ntmps15
  go_wp2_with (go_at_call 62; refine Q.out.mono ?_; rintro en w' ⟨rfl, rfl⟩)
  go_ret
  exact ⟨rfl, rfl⟩

set_option maxHeartbeats 400000 in
theorem ntrace_any {w : World} {p : Option Addr} (h : NoneD w p) : Calls Try.prog 44 #[.pointer p] w fun en w' => en = .returned (.slice none 0 0) ∧ w = w' := by
  have Q := Lib.hid (nnone_any h)
  clear h
  go_enter Try.func44, Try.ntmps44
  go_wp2_with (go_at_call 62; refine Q.out.mono ?_; rintro en w' ⟨rfl, rfl⟩)
  go_ret
  exact ⟨rfl, rfl⟩
end Go.Proofs.Ytblpnlobicjccaa
