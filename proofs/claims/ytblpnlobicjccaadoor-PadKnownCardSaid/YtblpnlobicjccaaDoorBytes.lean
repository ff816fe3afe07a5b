/- The small helpers on bytes: EqBytes, CopyBytes, Bring, slices.Clone, slices.Reverse, each by its contract. -/
import Derived.Test.YtblpnlobicjccaaDoorProg
import Derived.Test.YtblpnlobicjccaaDoorBase
import Derived.BigRegion
namespace Go.Proofs.YtblpnlobicjccaaDoor
open Go.RowKit

theorem infoU8 : (Tryd.prog.info? 5).map (fun i => (i.zero, i.size, i.bytes)) = some (some (.int .u8 0), 1, 1) := by kernel_rfl

section
variable {w : World} {o : Oper} {a : Act} {Q : Exit → Act → World → Prop}
theorem app_bytes {ops : Array Oper} {rest : List Oper} (hgd : o.guard = none) (s x : Operand)
    (ho : o.op = .call { callee := .builtin .append, args := #[s, x], argTypes := #[22, 22] })
    {base : Nat} {A A2 : Option Addr} {n c n2 c2 : Nat} {l m : List UInt8} (hs : a.eval s = .slice A n c) (hx : a.eval x = .slice A2 n2 c2)
    (h : Own w base 5 A n c l) (hx2 : Sl w A2 n2 c2 m) (hlen : n + n2 ≤ 140737488355328) (hbase : base ≤ w.heap.size)
    (hK : ∀ A' c' w', Own w' base 5 A' (n + n2) c' (l ++ m) → Fr (fun k => blkOf A = some k) w w' → (∀ k, blkOf A' = some k → blkOf A = some k ∨ w.heap.size ≤ k) → wpList Tryd.prog ops Q rest (a.put o.dst (.slice A' (n + n2) c')) w') :
    wpList Tryd.prog ops Q (o :: rest) a w := by
  obtain ⟨i0, hi, hz0, hz1, hz2⟩ := info_parts infoU8
  exact wpList_append_bytes hgd s x 22 5 i0 (.int .u8 0) ho Tryd.underlying22 hi hz0 hz1 hz2 rfl hs hx h hx2 hlen hbase hK
theorem step_app {ops : Array Oper} {K : Act → World → Prop} {El : Prop} (hgd : o.guard = none) (s x : Operand)
    (ho : o.op = .call { callee := .builtin .append, args := #[s, x], argTypes := #[22, 22] })
    {base : Nat} {A A2 : Option Addr} {n c n2 c2 : Nat} {l m : List UInt8} (hs : a.eval s = .slice A n c) (hx : a.eval x = .slice A2 n2 c2)
    (h : Own w base 5 A n c l) (hx2 : Sl w A2 n2 c2 m) (hlen : n + n2 ≤ 140737488355328) (hbase : base ≤ w.heap.size)
    (hK : ∀ A' c' w', Own w' base 5 A' (n + n2) c' (l ++ m) → Fr (fun k => blkOf A = some k) w w' → (∀ k, blkOf A' = some k → blkOf A = some k ∨ w.heap.size ≤ k) → K (a.put o.dst (.slice A' (n + n2) c')) w') :
    if Region.wanted o (yielded ops a.tmps) = true then Oper.wp Tryd.prog o a w K Q else El := by
  obtain ⟨i0, hi, hz0, hz1, hz2⟩ := info_parts infoU8
  exact step_append_bytes hgd s x 22 5 i0 (.int .u8 0) ho Tryd.underlying22 hi hz0 hz1 hz2 rfl hs hx h hx2 hlen hbase hK
end

/-- Bring, with b above 0, is Lean's own remainder. -/
theorem bring_tmod_neg (a b : Int) (h0 : 0 < b) (h : a.tmod b < 0) : a.tmod b + b = a % b := by
  have := Int.emod_nonneg a (Int.ne_of_gt h0); have := Int.emod_lt_of_pos a h0
  rw [Int.tmod_eq_emod] at *
  split <;> simp_all <;> omega
theorem bring_tmod_pos (a b : Int) (h0 : 0 < b) (h : 0 ≤ a.tmod b) : a.tmod b = a % b := by
  have := Int.emod_nonneg a (Int.ne_of_gt h0); have := Int.emod_lt_of_pos a h0
  rw [Int.tmod_eq_emod] at *
  split <;> simp_all <;> omega

set_option maxHeartbeats 400000 in
theorem eqb_any {A1 A2 : Option Addr} {n1 n2 c1 c2 : Nat} {l1 l2 : List UInt8} (w : World) (h1 : Sl w A1 n1 c1 l1) (h2 : Sl w A2 n2 c2 l2) :
    Calls Tryd.prog 11 #[.slice A1 n1 c1, .slice A2 n2 c2] w fun e w' => e = .returned (.bool (l1 == l2)) ∧ w = w' := by
  have g1 := h1.convert (P := Tryd.prog) 22 9 5 Tryd.underlying22 Tryd.underlying5 Tryd.underlying9
  have g2 := h2.convert (P := Tryd.prog) 22 9 5 Tryd.underlying22 Tryd.underlying5 Tryd.underlying9
  clear h1 h2
  go_enter Tryd.func11, Tryd.ntmps11
  go_wp2
  go_ret
  exact ⟨by simp [txt_toList], rfl⟩

/-- Bytes in memory of the call's own. -/
def Fresh (w : World) (l : List UInt8) (e : Ending) (w' : World) : Prop :=
  ∃ A c, e = .returned (.slice A l.length c) ∧ Own w' w.heap.size 5 A l.length c l ∧ Below w.heap.size w w'

set_option maxHeartbeats 400000 in
theorem copyb_any {A : Option Addr} {n c : Nat} {l : List UInt8} (w : World) (h : Sl w A n c l) (hl : n ≤ 140737488355328) :
    Calls Tryd.prog 8 #[.slice A n c] w (Fresh w l) := by
  have hlen := h.len
  have H := Lib.hid hlen
  clear hlen
  go_enter Tryd.func8, Tryd.ntmps8
  go_wp2_with (at_builtin; refine app_bytes rfl _ _ rfl rfl rfl (Own.nil w w.heap.size 5) h ?c1 ?c2 ?_)
  case c1 => omega
  case c2 => exact Nat.le_refl _
  intro A' c' w' hown hfr _
  have hB : Below w.heap.size w w' := hfr.to_below (Nat.le_refl _) (fun b hb => by cases hb)
  clear hfr
  go_wp2
  go_ret
  refine ⟨A', c', ?_, ?_, hB⟩
  · rw [← H.out]; simp
  · rw [← H.out]; simpa using hown
set_option maxHeartbeats 400000 in
theorem clone_any {A : Option Addr} {n c : Nat} {l : List UInt8} (w : World) (h : Sl w A n c l) (hl : n ≤ 140737488355328) :
    Calls Tryd.prog 18 #[.slice A n c] w (Fresh w l) := by
  have hlen := h.len
  have hq := fun (w : World) => Lib.run_eql_slice_nil (P := Tryd.prog) w 22 5 A n c 0 0 Tryd.underlying22
  cases A with
  | none =>
    have hl0 : l = [] := by
      rcases h.rd with e | ⟨b, o, e, _⟩
      · exact e
      · cases e
    subst hl0
    obtain rfl : n = 0 := hlen
    go_enter Tryd.func18, Tryd.ntmps18
    go_wp2
    go_ret
    exact ⟨none, 0, rfl, Own.nil _ _ _, Below.refl _ _⟩
  | some ad =>
    have H := Lib.hid hlen
    clear hlen
    have h' := h.alloc (.cells #[] 5)
    have hmade := Own.made w 5
    go_enter Tryd.func18, Tryd.ntmps18
    go_wp2_with (at_builtin; refine app_bytes rfl _ _ rfl rfl rfl hmade h' ?c1 ?c2 ?_)
    case c1 => omega
    case c2 => simp
    intro A' c' w' hown hfr _
    have hB : Below w.heap.size w w' := Fr.below ((Below.refl _ _).alloc (Nat.le_refl _) _) hfr (by simp) (fun b hb => by simp [blkOf] at hb; omega)
    clear hfr hmade h'
    go_wp2
    go_ret
    refine ⟨A', c', ?_, ?_, hB⟩
    · rw [← H.out]; simp
    · rw [← H.out]; simpa using hown

/-- Where a slice begins that is cut at k. -/
def cutA (A : Option Addr) (c k : Nat) : Option Addr := if c = k then A else A.map (·.add k)
theorem blkOf_cutA (A : Option Addr) (c k : Nat) : blkOf (cutA A c k) = blkOf A := blkOf_if A c k
theorem Sl.cut {w : World} {A : Option Addr} {n c : Nat} {l : List UInt8} (h : Sl w A n c l) {k : Nat} (hk : k ≤ n) : Sl w (cutA A c k) (n - k) (c - k) (l.drop k) := h.drop hk
theorem run_cut_hi (w : World) (A : Option Addr) (n c k : Nat) (hk : k ≤ c) : (Instr.slice 22 (.slice A n c) none (some (.int .i64 (k : Int))) none).run Tryd.prog w = .ok (.slice A k c) w := by
  have hs : (Go.sizeOf 5).run Tryd.prog w = .ok 1 w := by kernel_rfl
  rw [run_slice_h (P := Tryd.prog) w 22 A n c (by kernel_rfl) .i64 k (by omega) (by omega)]
  rw [show Tryd.prog.elem 22 = 5 by kernel_rfl, hs]
  cases A <;> simp [sliced, Addr.add]
theorem run_cut_lo (w : World) (A : Option Addr) (n c k : Nat) (hk : k ≤ n) : (Instr.slice 22 (.slice A n c) (some (.int .i64 (k : Int))) none none).run Tryd.prog w = .ok (.slice (cutA A c k) (n - k) (c - k)) w := by
  have hs : (Go.sizeOf 5).run Tryd.prog w = .ok 1 w := by kernel_rfl
  rw [run_slice_l (P := Tryd.prog) w 22 A n c (by kernel_rfl) .i64 k (by omega) (by omega)]
  rw [show Tryd.prog.elem 22 = 5 by kernel_rfl, hs]
  simp [sliced, cutA]
end Go.Proofs.YtblpnlobicjccaaDoor
