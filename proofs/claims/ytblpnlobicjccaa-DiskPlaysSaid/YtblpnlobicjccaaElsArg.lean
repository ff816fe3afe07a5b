/- A slice of structs (three plain cells, a slice of bytes) that came in as an argument: what the walk is told of it. -/
import Derived.Test.YtblpnlobicjccaaPuts
import Derived.Lib.SmallJoins
namespace Go.Proofs.Ytblpnlobicjccaa
open Go.RowKit Go.ChangeShapes Go.WideShapes

section
variable {H : Type} {enc : TypeId × Value → H} {w : World} {base : Nat}
theorem cellsU8 : Try.prog.cellsOf 5 = 1 := by kernel_rfl
theorem cellsBs : Try.prog.cellsOf 26 = 1 := by kernel_rfl
theorem cellsInt : Try.prog.cellsOf 3 = 1 := by kernel_rfl
theorem cellsBool : Try.prog.cellsOf 4 = 1 := by kernel_rfl

/-- A cell that reads as a []byte. -/
theorem sl_of_trod {fuel : Nat} {v : Value} {y : DataW H × List MemPlace} (h : DataW.trod enc Try.prog w base (fun _ => true) true fuel 26 [v] = some y) : ∃ A n c l, v = .slice A n c ∧ Sl w A n c l := by
  rcases open_ints Try.underlying26 Try.underlying5 cellsU8 h with ⟨hcs, _⟩ | ⟨x, l, c, zs, hcs, _, hl, hm, hz, _, hcell, hwz⟩
  · obtain rfl : v = .slice none 0 0 := by simpa using hcs
    exact ⟨none, 0, 0, [], rfl, Sl.nil w⟩
  · obtain rfl : v = .slice (some x) l c := by simpa using hcs
    obtain ⟨L, hL⟩ := sl_of_ints (w := w) (a := some x) (len := l) (cap := c) (zs := zs) (.inr ⟨x, rfl, hl, hm, by simpa using hz, hcell, hwz⟩)
    exact ⟨_, _, _, L, rfl, hL⟩

/-- The same, of an argument. -/
theorem sl_of_trodS {fuel : Nat} {A : Option Addr} {n c : Nat} {y : DataW H × List MemPlace} (h : DataW.trod enc Try.prog w base (fun _ => true) true fuel 26 [.slice A n c] = some y) : ∃ l, Sl w A n c l := by
  obtain ⟨A', n', c', l, e, hs⟩ := sl_of_trod h
  injection e with e1 e2 e3
  subst e1; subst e2; subst e3
  exact ⟨l, hs⟩
/-- Where a row begins whose first cell is read. -/
theorem row_plain {x : Addr} {n : Nat} {cs : List Value} (h : w.cells? base (x.add 0) n = some cs) (hn : 0 < n) : ∃ b o, x = ⟨b, o, none⟩ := by
  obtain ⟨_, hl, hc⟩ := World.cells?_some h
  have h0 := hc 0 hn
  rw [List.getElem?_eq_getElem (by omega)] at h0
  have := World.cell?_spot h0
  obtain ⟨b, o, spot⟩ := x
  obtain rfl : spot = none := by simpa [Addr.add] using this
  exact ⟨b, o, rfl⟩
theorem cells_at {b o k n : Nat} {cs : List Value} (h : w.cells? base ((⟨b, o, none⟩ : Addr).add k) n = some cs) : ∀ i, i < n → w.cell? ⟨b, o + k + i, none⟩ = cs[i]? := by
  intro i hi
  have h0 := (World.cells?_some h).2.2 i hi
  have e : ((⟨b, o, none⟩ : Addr).add k).add i = ⟨b, o + k + i, none⟩ := by
    unfold Addr.add
    by_cases hk : k = 0 <;> by_cases hi : i = 0 <;> simp [hk, hi]
  rw [e] at h0
  exact h0

theorem list4 {α : Type} {cs : List α} (h : cs.length = 4) : ∃ c0 c1 c2 c3, cs = [c0, c1, c2, c3] := by
  match cs, h with
  | [c0, c1, c2, c3], _ => exact ⟨c0, c1, c2, c3, rfl⟩

theorem cellsPut : Try.prog.cellsOf 45 = 4 := by kernel_rfl
theorem els_of_trod {fuel : Nat} {A : Option Addr} {n c : Nat} {x : DataW H × List MemPlace} (h : DataW.trod enc Try.prog w base (fun _ => true) true fuel 39 [.slice A n c] = some x) : Els w A n c := by
  rcases Go.Deep.open_slice Try.underlying39 h with ⟨hcs, _⟩ | ⟨a, len, cap, m, f, D, Pl, hcs, _, hl, hm, hmm, _, hx⟩
  · have : Value.slice A n c = .slice none 0 0 := by simpa using hcs
    injection this with e1 e2 e3
    subst e1; subst e2; subst e3
    exact ⟨Nat.le_refl _, by decide, fun i hi => by omega⟩
  · have : Value.slice A n c = .slice (some a) len cap := by simpa using hcs
    injection this with e1 e2 e3
    subst e1; subst e2; subst e3
    simp only [if_true] at hmm
    refine ⟨hl, hm, fun i hi => ?_⟩
    obtain ⟨cs0, h0, _⟩ := hx 0 (by omega)
    rw [cellsPut] at h0
    obtain ⟨b, o, rfl⟩ := row_plain (by simpa using h0) (by decide)
    obtain ⟨cs', h1, h2⟩ := hx i (by omega)
    rw [cellsPut] at h1
    obtain ⟨c0, c1, c2, c3, rfl⟩ := list4 (World.cells?_some h1).2.1
    have k0 := cells_at h1 0 (by decide)
    have k1 := cells_at h1 1 (by decide)
    have k2 := cells_at h1 2 (by decide)
    have k3 := cells_at h1 3 (by decide)
    obtain ⟨y0, y1, y2, y3, f', _, _, t0, t1, t2, t3⟩ := Go.Joins.trod_struct4 Try.underlying45 h2
    simp only [cellsInt, cellsBs, List.drop_succ_cons, List.drop_zero, List.take_succ_cons, List.take_zero] at t0 t1 t2 t3
    obtain ⟨z0, e0, _, _⟩ := DataW.trod_int Try.underlying3 t0
    obtain ⟨z1, e1, _, _⟩ := DataW.trod_int Try.underlying3 t1
    obtain ⟨z2, e2, _, _⟩ := DataW.trod_int Try.underlying3 t2
    simp only [List.cons.injEq, and_true] at e0 e1 e2
    subst e0; subst e1; subst e2
    obtain ⟨A3, n3, c3', L, rfl, hL⟩ := sl_of_trod t3
    exact ⟨b, o, z0, z1, z2, L, rfl, k0, k1, k2, A3, n3, c3', k3, hL⟩
end
end Go.Proofs.Ytblpnlobicjccaa
