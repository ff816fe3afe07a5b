/- The small helpers on bytes: EqBytes, CopyBytes, Bring, slices.Clone, slices.Reverse, each by its contract. -/
import Derived.Test.YtblpnlobicjccaaProg
import Derived.Test.YtblpnlobicjccaaBase
import Derived.BigRegion
namespace Go.Proofs.Ytblpnlobicjccaa
open Go.RowKit

theorem infoU8 : (Try.prog.info? 5).map (fun i => (i.zero, i.size, i.bytes)) = some (some (.int .u8 0), 1, 1) := by kernel_rfl

section
variable {w : World} {o : Oper} {a : Act} {Q : Exit → Act → World → Prop}
theorem app_bytes {ops : Array Oper} {rest : List Oper} (hgd : o.guard = none) (s x : Operand)
    (ho : o.op = .call { callee := .builtin .append, args := #[s, x], argTypes := #[26, 26] })
    {base : Nat} {A A2 : Option Addr} {n c n2 c2 : Nat} {l m : List UInt8} (hs : a.eval s = .slice A n c) (hx : a.eval x = .slice A2 n2 c2)
    (h : Own w base 5 A n c l) (hx2 : Sl w A2 n2 c2 m) (hlen : n + n2 ≤ 140737488355328) (hbase : base ≤ w.heap.size)
    (hK : ∀ A' c' w', Own w' base 5 A' (n + n2) c' (l ++ m) → Fr (fun k => blkOf A = some k) w w' → (∀ k, blkOf A' = some k → blkOf A = some k ∨ w.heap.size ≤ k) → wpList Try.prog ops Q rest (a.put o.dst (.slice A' (n + n2) c')) w') :
    wpList Try.prog ops Q (o :: rest) a w := by
  obtain ⟨i0, hi, hz0, hz1, hz2⟩ := info_parts infoU8
  exact wpList_append_bytes hgd s x 26 5 i0 (.int .u8 0) ho Try.underlying26 hi hz0 hz1 hz2 rfl hs hx h hx2 hlen hbase hK
theorem step_app {ops : Array Oper} {K : Act → World → Prop} {El : Prop} (hgd : o.guard = none) (s x : Operand)
    (ho : o.op = .call { callee := .builtin .append, args := #[s, x], argTypes := #[26, 26] })
    {base : Nat} {A A2 : Option Addr} {n c n2 c2 : Nat} {l m : List UInt8} (hs : a.eval s = .slice A n c) (hx : a.eval x = .slice A2 n2 c2)
    (h : Own w base 5 A n c l) (hx2 : Sl w A2 n2 c2 m) (hlen : n + n2 ≤ 140737488355328) (hbase : base ≤ w.heap.size)
    (hK : ∀ A' c' w', Own w' base 5 A' (n + n2) c' (l ++ m) → Fr (fun k => blkOf A = some k) w w' → (∀ k, blkOf A' = some k → blkOf A = some k ∨ w.heap.size ≤ k) → K (a.put o.dst (.slice A' (n + n2) c')) w') :
    if Region.wanted o (yielded ops a.tmps) = true then Oper.wp Try.prog o a w K Q else El := by
  obtain ⟨i0, hi, hz0, hz1, hz2⟩ := info_parts infoU8
  exact step_append_bytes hgd s x 26 5 i0 (.int .u8 0) ho Try.underlying26 hi hz0 hz1 hz2 rfl hs hx h hx2 hlen hbase hK
end

/-- Bring, with b above 0, is Lean's own remainder. -/
theorem bring_tmod_neg (a b : Int) (h0 : 0 < b) (h : a.tmod b < 0) : a.tmod b + b = a % b := by
  have := Int.emod_nonneg a (Int.ne_of_gt h0); have := Int.emod_lt_of_pos a h0
  rw [Int.tmod_eq_emod] at *
  split <;> simp_all <;> omega
theorem bring_tmod_pos (a b : Int) (h0 : 0 < b) (h : 0 ≤ a.tmod b) : a.tmod b = a % b := by
  have := Int.emod_nonneg a (Int.ne_of_gt h0); have := Int.emod_lt_of_pos a h0
  rw [Int.tmod_eq_emod] at *
  split <;> simp_all <;> omega

set_option maxHeartbeats 400000 in
theorem bring_any (a b : Int) (w : World) (h0 : 0 < b) (h1 : b ≤ 9223372036854775807) :
    Calls Try.prog 14 #[.int .i64 a, .int .i64 b] w fun e w' => e = .returned (.int .i64 (a % b)) ∧ w = w' := by
  have h3 : (b == 0) = false := by simp; omega
  have hb1 := Int.emod_nonneg a (Int.ne_of_gt h0)
  have hb2 := Int.emod_lt_of_pos a h0
  have HN := Lib.hid (bring_tmod_neg a b h0)
  have HP := Lib.hid (bring_tmod_pos a b h0)
  go_enter Try.func14, Try.ntmps14
  go_wp2
  · have hn : a.tmod b < 0 := by assumption
    have e : wrap64 (a.tmod b + b) = a % b := by rw [HN.out hn]; unfold wrap64; omega
    go_ret
    exact ⟨by rw [← e]; rfl, rfl⟩
  · have hn : 0 ≤ a.tmod b := by assumption
    have e := HP.out hn
    go_ret
    exact ⟨by rw [← e]; rfl, rfl⟩

set_option maxHeartbeats 400000 in
theorem eqb_any {A1 A2 : Option Addr} {n1 n2 c1 c2 : Nat} {l1 l2 : List UInt8} (w : World) (h1 : Sl w A1 n1 c1 l1) (h2 : Sl w A2 n2 c2 l2) :
    Calls Try.prog 25 #[.slice A1 n1 c1, .slice A2 n2 c2] w fun e w' => e = .returned (.bool (l1 == l2)) ∧ w = w' := by
  have g1 := h1.convert (P := Try.prog) 26 9 5 Try.underlying26 Try.underlying5 Try.underlying9
  have g2 := h2.convert (P := Try.prog) 26 9 5 Try.underlying26 Try.underlying5 Try.underlying9
  clear h1 h2
  go_enter Try.func25, Try.ntmps25
  go_wp2
  go_ret
  exact ⟨by simp [txt_toList], rfl⟩

/-- Bytes in memory of the call's own. -/
def Fresh (w : World) (l : List UInt8) (e : Ending) (w' : World) : Prop :=
  ∃ A c, e = .returned (.slice A l.length c) ∧ Own w' w.heap.size 5 A l.length c l ∧ Below w.heap.size w w'

set_option maxHeartbeats 400000 in
theorem copyb_any {A : Option Addr} {n c : Nat} {l : List UInt8} (w : World) (h : Sl w A n c l) (hl : n ≤ 140737488355328) :
    Calls Try.prog 18 #[.slice A n c] w (Fresh w l) := by
  have hlen := h.len
  have H := Lib.hid hlen
  clear hlen
  go_enter Try.func18, Try.ntmps18
  go_wp2_with (at_builtin; refine app_bytes rfl _ _ rfl rfl rfl (Own.nil w w.heap.size 5) h ?c1 ?c2 ?_)
  case c1 => omega
  case c2 => exact Nat.le_refl _
  intro A' c' w' hown hfr _
  have hB : Below w.heap.size w w' := hfr.to_below (Nat.le_refl _) (fun b hb => by cases hb)
  clear hfr
  go_wp2
  go_ret
  refine ⟨A', c', ?_, ?_, hB⟩
  · rw [← H.out]; simp
  · rw [← H.out]; simpa using hown
set_option maxHeartbeats 400000 in
theorem clone_any {A : Option Addr} {n c : Nat} {l : List UInt8} (w : World) (h : Sl w A n c l) (hl : n ≤ 140737488355328) :
    Calls Try.prog 73 #[.slice A n c] w (Fresh w l) := by
  have hlen := h.len
  have hq := fun (w : World) => Lib.run_eql_slice_nil (P := Try.prog) w 26 5 A n c 0 0 Try.underlying26
  cases A with
  | none =>
    have hl0 : l = [] := by
      rcases h.rd with e | ⟨b, o, e, _⟩
      · exact e
      · cases e
    subst hl0
    obtain rfl : n = 0 := hlen
    go_enter Try.func73, Try.ntmps73
    go_wp2
    go_ret
    exact ⟨none, 0, rfl, Own.nil _ _ _, Below.refl _ _⟩
  | some ad =>
    have H := Lib.hid hlen
    clear hlen
    have h' := h.alloc (.cells #[] 5)
    have hmade := Own.made w 5
    go_enter Try.func73, Try.ntmps73
    go_wp2_with (at_builtin; refine app_bytes rfl _ _ rfl rfl rfl hmade h' ?c1 ?c2 ?_)
    case c1 => omega
    case c2 => simp
    intro A' c' w' hown hfr _
    have hB : Below w.heap.size w w' := Fr.below ((Below.refl _ _).alloc (Nat.le_refl _) _) hfr (by simp) (fun b hb => by simp [blkOf] at hb; omega)
    clear hfr hmade h'
    go_wp2
    go_ret
    refine ⟨A', c', ?_, ?_, hB⟩
    · rw [← H.out]; simp
    · rw [← H.out]; simpa using hown

set_option maxHeartbeats 1000000 in
theorem reverse_any {base : Nat} {A : Option Addr} {n c : Nat} {l : List UInt8} (w : World) (h : Own w base 5 A n c l) (hl : n ≤ 140737488355328) :
    Calls Try.prog 71 #[.slice A n c] w fun e w' => e = .returned (.tuple #[]) ∧ Own w' base 5 A n c l.reverse ∧ Fr (fun k => blkOf A = some k) w w' := by
  have hlen := h.len
  have H := Lib.hid hlen
  clear hlen
  go_enter Try.func71, Try.ntmps71
  go_wp2
  go_loopw [2, 3] (fun vi vj wr => ∃ (k : Nat) (j : Int) (l' : List UInt8), vi = .int .i64 k ∧ vj = .int .i64 j ∧ Hid (j = n - 1 - k) ∧ k ≤ n ∧ 2 * k ≤ n + 1 ∧ Own wr base 5 A n c l' ∧ Fr (fun k => blkOf A = some k) w wr ∧
      Hid (∀ i, i < n → l'[i]? = if i < k ∨ n - k ≤ i then l[n - 1 - i]? else l[i]?))
    (fun vi _ _ => n - (intOf vi).toNat)
  case atStart =>
    refine ⟨0, _, l, rfl, rfl, ?_, by omega, by omega, h, Fr.refl _ _, ?_⟩
    · show _ = _; omega
    · intro i hi; rw [if_neg (by omega)]
  case round =>
    obtain ⟨k, j, l', rfl, rfl, hj, hk, hk2, hown, hfr, hpt⟩ := hrel
    by_cases hlt : (k : Int) < j
    · have hj' : 0 ≤ j := by omega
      obtain ⟨m, rfl⟩ := Int.eq_ofNat_of_zero_le hj'
      have hkm : k < m := by omega
      have hmn : m + k + 1 = n := by have := hj.out; omega
      obtain ⟨g, rfl⟩ := hown.at_ (by omega)
      obtain ⟨x, hx, cx, fx⟩ := hown.get rfl (j := k) (by omega)
      obtain ⟨y, hy, cy, fy⟩ := hown.get rfl (j := m) (by omega)
      have hm1 : m < n := by omega
      have hk1 : k < n := by omega
      have Hx := Lib.hid hx
      have Hy := Lib.hid hy
      have Hm := Lib.hid hmn
      clear hx hy hmn h H
      have hne : ¬ k = m := by omega
      have hne' : ¬ m = k := by omega
      go_wp2
      go_region
      go_wp2
      go_roundw
      case rel =>
        refine ⟨k + 1, ↑m - 1, (l'.set k y).set m x, by go_num, by go_num, ?_, by omega, by have := Hm.out; omega, ?_, ?_, ?_⟩
        · show _ = _; have := Hm.out; omega
        · exact ((hown.set_ rfl (j := k) hk1 y).set_ rfl (j := m) hm1 x).drew
        · exact ((hfr.setCell (p := ⟨g, k, none⟩) (.inl rfl) (bv y)).setCell (p := ⟨g, m, none⟩) (.inl rfl) (bv x)).drew
        · intro i hi
          have hll := hown.len
          have hm := Hm.out
          have px := hpt.out k (by omega)
          have py := hpt.out m (by omega)
          rw [Hx.out, if_neg (by omega)] at px
          rw [Hy.out, if_neg (by omega)] at py
          rw [List.getElem?_set]
          by_cases e1 : m = i
          · subst e1
            rw [if_pos rfl, if_pos (by simp; omega), if_pos (by omega), px]; congr 1; omega
          · rw [if_neg e1, List.getElem?_set]
            by_cases e2 : k = i
            · subst e2
              rw [if_pos rfl, if_pos (by omega), if_pos (by omega), py]; congr 1; omega
            · rw [if_neg e2, hpt.out i hi]
              by_cases e3 : i < k ∨ n - k ≤ i
              · rw [if_pos e3, if_pos (by omega)]
              · rw [if_neg e3, if_neg (by omega)]
      case measure => simp [intOf]; omega
    · go_wp2
      go_end0
      refine ⟨rfl, ?_, hfr⟩
      have e : l' = l.reverse := by
        have hll := hown.len
        have hl0 := H.out
        apply List.ext_getElem?
        intro i
        by_cases hi : i < n
        · have := hj.out
          rw [hpt.out i hi, List.getElem?_reverse (by omega)]
          by_cases e3 : i < k ∨ n - k ≤ i
          · rw [if_pos e3]; congr 1; omega
          · rw [if_neg e3]; congr 1; omega
        · rw [List.getElem?_eq_none (by omega), List.getElem?_eq_none (by simp; omega)]
      rw [← e]; exact hown

/-- Where a slice begins that is cut at k. -/
def cutA (A : Option Addr) (c k : Nat) : Option Addr := if c = k then A else A.map (·.add k)
theorem blkOf_cutA (A : Option Addr) (c k : Nat) : blkOf (cutA A c k) = blkOf A := blkOf_if A c k
theorem Sl.cut {w : World} {A : Option Addr} {n c : Nat} {l : List UInt8} (h : Sl w A n c l) {k : Nat} (hk : k ≤ n) : Sl w (cutA A c k) (n - k) (c - k) (l.drop k) := h.drop hk
theorem run_cut_hi (w : World) (A : Option Addr) (n c k : Nat) (hk : k ≤ c) : (Instr.slice 26 (.slice A n c) none (some (.int .i64 (k : Int))) none).run Try.prog w = .ok (.slice A k c) w := by
  have hs : (Go.sizeOf 5).run Try.prog w = .ok 1 w := by kernel_rfl
  rw [run_slice_h (P := Try.prog) w 26 A n c (by kernel_rfl) .i64 k (by omega) (by omega)]
  rw [show Try.prog.elem 26 = 5 by kernel_rfl, hs]
  cases A <;> simp [sliced, Addr.add]
theorem run_cut_lo (w : World) (A : Option Addr) (n c k : Nat) (hk : k ≤ n) : (Instr.slice 26 (.slice A n c) (some (.int .i64 (k : Int))) none none).run Try.prog w = .ok (.slice (cutA A c k) (n - k) (c - k)) w := by
  have hs : (Go.sizeOf 5).run Try.prog w = .ok 1 w := by kernel_rfl
  rw [run_slice_l (P := Try.prog) w 26 A n c (by kernel_rfl) .i64 k (by omega) (by omega)]
  rw [show Try.prog.elem 26 = 5 by kernel_rfl, hs]
  simp [sliced, cutA]
end Go.Proofs.Ytblpnlobicjccaa
