/- Package pad: the words for PadKnown's rounds. -/
import Derived.Test.YtblpnlobicjccaaDoorPadZeros
import Derived.Lib.AppendZeros
import Derived.Deep.OwnRows
namespace Go.Proofs.YtblpnlobicjccaaDoor
open Go.RowKit

/-- The row 'full' lies at g, 300 bytes; the table is as it was; nothing old has turned. -/
structure Fu (w : World) (g : Nat) (l : List UInt8) (wr : World) : Prop where
  hB : Below w.heap.size w wr
  hO : Own wr w.heap.size 5 (some ⟨g, 0, none⟩) 300 300 l
  hT : Tab wr
  hp : 0 < w.heap.size
section
variable {w wr w' : World} {g : Nat} {l : List UInt8}
theorem Fu.step (h : Fu w g l wr) (k : Below wr.heap.size wr w') : Fu w g l w' := ⟨h.hB.trans (k.mono h.hB.size), h.hO.below_at k, h.hT.old k, h.hp⟩
theorem Fu.alloc (h : Fu w g l wr) (o : Obj) : Fu w g l (wr.alloc o) := h.step ((Below.refl _ _).alloc (Nat.le_refl _) o)
theorem Fu.sl (h : Fu w g l wr) {k : Nat} (hk : k ≤ 300) : Sl wr (some ⟨g, 0, none⟩) k 300 (l.take k) := h.hO.sl.take hk
theorem Fu.pads (h : Fu w g l wr) (t : Bool) (z : Int) {k : Nat} (hk : k ≤ 300) (h0 : -9223372036854775808 ≤ z) (h1 : z ≤ 9223372036854775807) :
    Calls Tryd.prog 4 #[.slice (some ⟨g, 0, none⟩) k 300, .bool t, .int .i64 z] wr fun e w' => e = .returned (.bool true) ∧ Fu w g l w' :=
  (padpads_any t z wr h.hT (h.sl hk) (by omega) h0 h1).mono (fun _ _ q => ⟨q.1, h.step q.2⟩)
theorem Fu.back (h : Fu w g l wr) (t : Bool) {k : Nat} (hk : k ≤ 300) :
    Calls Tryd.prog 5 #[.slice (some ⟨g, 0, none⟩) k 300, .bool t] wr fun e w' => e = .returned (.bool true) ∧ Fu w g l w' :=
  (padback_any t wr h.hT (h.sl hk) (by omega)).mono (fun _ _ q => ⟨q.1, h.step q.2⟩)
theorem Fu.opens (h : Fu w g l wr) {A : Option Addr} {n c : Nat} {m : List UInt8} (hs : Sl wr A n c m) (hn : n ≤ 400) :
    Calls Tryd.prog 6 #[.slice A n c] wr fun e w' => e = .returned (.bool true) ∧ Fu w g l w' :=
  (padopens_any wr h.hT hs hn).mono (fun _ _ q => ⟨q.1, h.step q.2⟩)
theorem Fu.opensB (h : Fu w g l wr) {A : Option Addr} {n c B E : Nat} {m : List UInt8} (hs : Own wr B E A n c m) (hn : n ≤ 400) {k : Nat} (hk : k ≤ n) :
    Calls Tryd.prog 6 #[.slice A k c] wr fun e w' => e = .returned (.bool true) ∧ Fu w g l w' ∧ Own w' B E A n c m ∧ Below wr.heap.size wr w' :=
  (padopens_any wr h.hT (hs.sl.take hk) (by omega)).mono (fun _ _ q => ⟨q.1, h.step q.2, hs.below_at q.2, q.2⟩)
theorem padE_fit (m : List UInt8) (hm : m.length ≤ 250) : padE m false = 0 ∧ 16 ≤ (padV m false).length ∧ (padV m false).length ≤ 256 := by
  obtain ⟨h1, _, _, _, h5⟩ := pad_open m false hm (by simp)
  have := clsI_le (m.length : Int)
  refine ⟨h1, ?_, by omega⟩
  rcases clsI_cases (m.length : Int) with ⟨a, e⟩ | ⟨a, b, e⟩ | ⟨a, b, e⟩ | ⟨a, b, e⟩ <;> omega
theorem Fu.pad (h : Fu w g l wr) {k : Nat} (hk : k ≤ 250) :
    Calls Tryd.prog 7 #[.slice (some ⟨g, 0, none⟩) k 300, .bool false] wr fun e w' => ∃ A n c m, e = .returned (.tuple #[.slice A n c, .int .i64 0]) ∧ Fu w g l w' ∧ Own w' w.heap.size 5 A n c m ∧ 16 ≤ n ∧ n ≤ 256 := by
  have hlt : (l.take k).length ≤ 250 := by simp; omega
  obtain ⟨h1, h2, h3⟩ := padE_fit (l.take k) hlt
  refine (pad_any false wr h.hT (h.sl (by omega)) (by omega)).mono ?_
  rintro e w' ⟨A, n, c, he, hO, hB⟩
  rw [h1] at he
  have := hO.len
  exact ⟨A, n, c, _, he, h.step hB, hO.mono h.hB.size, by omega, by omega⟩
theorem Fu.copy (h : Fu w g l wr) {A : Option Addr} {n c : Nat} {m : List UInt8} (hs : Own wr w.heap.size 5 A n c m) (hn : n ≤ 256) :
    Calls Tryd.prog 8 #[.slice A n c] wr fun e w' => ∃ A' c', e = .returned (.slice A' n c') ∧ Fu w g l w' ∧ Own w' w.heap.size 5 A n c m ∧ Own w' wr.heap.size 5 A' n c' m := by
  obtain rfl := hs.len
  refine (copyb_any wr hs.sl (by omega)).mono ?_
  rintro e w' ⟨A', c', he, hO, hB⟩
  exact ⟨A', c', he, h.step hB, hs.below_at hB, hO⟩
theorem Fu.works (h : Fu w g l wr) : Calls Tryd.prog 9 #[] wr fun e w' => e = .returned (.bool true) ∧ Fu w g l w' :=
  (pworks_any wr h.hT).mono (fun _ _ q => ⟨q.1, h.step q.2⟩)
end
/-- 'make([]byte, k)' as a run equation, and its row. -/
theorem run_make_bytes (k : Nat) (hk : k ≤ 1000) (w : World) : (Instr.makeSlice 22 (.int .i64 (k : Int)) (.int .i64 (k : Int))).run Tryd.prog w = .ok (.slice (some ⟨w.heap.size, 0, none⟩) k k) (w.alloc (.cells (madeCells #[.int .u8 0] k) 5)) :=
  run_make_row' (P := Tryd.prog) 22 5 (.int .u8 0) 1 Tryd.underlying22 infoU8 rfl .i64 .i64 k (by omega) (by omega) w
theorem Own.madeN (w : World) (k : Nat) (hk : k ≤ 1000) : Own (w.alloc (.cells (madeCells #[.int .u8 0] k) 5)) w.heap.size 5 (some ⟨w.heap.size, 0, none⟩) k k (zs k) := by
  refine ⟨by simp [zs], by simp [zs], .inr ⟨w.heap.size, k, madeCells #[.int .u8 0] k, rfl, Nat.le_refl _, heap_alloc_new w _, Nat.le_refl _, by unfold maxLen; omega, by simp [size_madeCells], ?_⟩⟩
  rw [toList_madeCells_one]; simp [zs]
theorem run_cut_hi' (w : World) (A : Option Addr) (n c k : Nat) (hk : k ≤ c) (z : Int) (hz : z = (k : Int)) : (Instr.slice 22 (.slice A n c) none (some (.int .i64 z)) none).run Tryd.prog w = .ok (.slice A k c) w := by
  subst hz; exact run_cut_hi w A n c k hk

section
variable {w : World} {o : Oper} {a : Act} {Q : Exit → Act → World → Prop}
/-- append where the operation stands behind a guard that says yes. -/
theorem app_bytes_w {ops : Array Oper} {rest : List Oper} (hw : Region.wanted o (yielded ops a.tmps) = true) (s x : Operand)
    (ho : o.op = .call { callee := .builtin .append, args := #[s, x], argTypes := #[22, 22] })
    {base : Nat} {A A2 : Option Addr} {n c n2 c2 : Nat} {l m : List UInt8} (hs : a.eval s = .slice A n c) (hx : a.eval x = .slice A2 n2 c2)
    (h : Own w base 5 A n c l) (hx2 : Sl w A2 n2 c2 m) (hlen : n + n2 ≤ 140737488355328) (hbase : base ≤ w.heap.size)
    (hK : ∀ A' c' w', Own w' base 5 A' (n + n2) c' (l ++ m) → Fr (fun k => blkOf A = some k) w w' → wpList Tryd.prog ops Q rest (a.put o.dst (.slice A' (n + n2) c')) w') :
    wpList Tryd.prog ops Q (o :: rest) a w := by
  obtain ⟨i0, hi, hz0, hz1, hz2⟩ := info_parts infoU8
  exact BigFrame.wpList_want hw fun K hK' => wp_append_bytes s x 22 5 i0 _ ho Tryd.underlying22 hi hz0 hz1 hz2 rfl hs hx h hx2 hlen hbase fun A' c' w' h1 h2 _ => hK' _ _ (hK A' c' w' h1 h2)
theorem app_zs_w {ops : Array Oper} {rest : List Oper} (hw : Region.wanted o (yielded ops a.tmps) = true) (s x : Operand) (ti : TypeId) {kd : IntKind} (hti : Tryd.prog.underlying ti = some (.int kd))
    (ho : o.op = .call { callee := .builtin .append, args := #[s, x], argTypes := #[22, ti] })
    {base : Nat} {A : Option Addr} {n c : Nat} {l : List UInt8} (m : Nat) (hs : a.eval s = .slice A n c) (hx : a.eval x = .int .i64 (m : Int)) (h0 : 0 < m)
    (h : Own w base 5 A n c l) (hlen : n + m ≤ 140737488355328) (hbase : base ≤ w.heap.size)
    (hK : ∀ A' c' w', Own w' base 5 A' (n + m) c' (l ++ zs m) → Fr (fun k => blkOf A = some k) w w' → wpList Tryd.prog ops Q rest (a.put o.dst (.slice A' (n + m) c')) w') :
    wpList Tryd.prog ops Q (o :: rest) a w := by
  obtain ⟨i0, hi, hz0, hz1, hz2⟩ := info_parts infoU8
  obtain ⟨A', c', w', hr, h1, h2⟩ := run_append_zs (P := Tryd.prog) w 22 ti o.type 5 i0 Tryd.underlying22 hti hi hz0 hz1 hz2 h m h0 hlen hbase
  exact BigFrame.wpList_want hw fun K hK' => Lib.wp_append_run w s x 22 ti ho _ _ hs hx _ w' hr (hK' _ _ (hK A' c' w' h1 h2))
end
/-- Behind such an append. -/
theorem Fu.fr {w wr w' : World} {g : Nat} {l : List UInt8} {A : Option Addr} {n c B : Nat} {m : List UInt8} (h : Fu w g l wr) (k : Fr (fun b => blkOf A = some b) wr w') (hA : Own wr B 5 A n c m) (hB : w.heap.size ≤ B) (hg : g < B) : Fu w g l w' := by
  have kb : Below w.heap.size wr w' := k.to_below h.hB.size fun b hb => by have := (hA.lt b hb).1; omega
  refine ⟨h.hB.trans kb, h.hO.fr k (fun b hb hA' => ?_), h.hT.below kb h.hp, h.hp⟩
  have := (hA.lt b hA').1
  have : g = b := by simpa [blkOf] using hb
  omega
theorem fr_part {w w' : World} {B : Nat} (k : Below B w w') : Fr (fun b => B ≤ b) w w' := ⟨k.os, k.tape, k.output, k.size, fun b _ hn => k.block b (Nat.lt_of_not_le hn)⟩
theorem Fu.part {w wr w' : World} {g B : Nat} {l : List UInt8} (h : Fu w g l wr) (k : Below B wr w') (hB : w.heap.size ≤ B) (hg : g < B) : Fu w g l w' :=
  ⟨h.hB.trans (k.mono hB), h.hO.fr (fr_part k) (fun b hb hn => (show ∀ q : g = b, False from fun q => by have := hg; omega) (by simpa [blkOf] using hb)), h.hT.below (k.mono hB) h.hp, h.hp⟩
theorem Fu.padsNil {w wr : World} {g : Nat} {l : List UInt8} (h : Fu w g l wr) (z : Int) (h0 : -9223372036854775808 ≤ z) (h1 : z ≤ 9223372036854775807) :
    Calls Tryd.prog 4 #[.slice none 0 0, .bool false, .int .i64 z] wr fun e w' => e = .returned (.bool true) ∧ Fu w g l w' ∧ Below wr.heap.size wr w' :=
  (padpads_any false z wr h.hT (Sl.nil wr) (by omega) h0 h1).mono (fun _ _ q => ⟨q.1, h.step q.2, q.2⟩)
/-- Another row of the call's own, behind such an append. -/
theorem Own.past {w8 wr w' : World} {base B E : Nat} {A A3 : Option Addr} {n c n3 c3 n8 c8 : Nat} {m m3 m8 : List UInt8} (h : Own wr base E A n c m) (k : Fr (fun b => blkOf A3 = some b) wr w') (h8 : Own w8 base E A n8 c8 m8) (h3 : Own wr B E A3 n3 c3 m3) (hB : w8.heap.size ≤ B) : Own w' base E A n c m :=
  h.fr k (fun b hb h3' => by have := (h8.lt b hb).2; have := (h3.lt b h3').1; have := hB; omega)
end Go.Proofs.YtblpnlobicjccaaDoor
