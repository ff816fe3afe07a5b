/- A slice of calls (Do) that came in as an argument. -/
import Derived.Test.YtblpnlobicjccaaElsArg
import Derived.Test.YtblpnlobicjccaaPlaysWalk
namespace Go.Proofs.Ytblpnlobicjccaa
open Go.RowKit Go.ChangeShapes Go.WideShapes

section
variable {H : Type} {enc : TypeId × Value → H} {w : World} {base : Nat}
theorem cellsDo : Try.prog.cellsOf 28 = 4 := by kernel_rfl
theorem dos2_of_trod {fuel : Nat} {A : Option Addr} {n c : Nat} {x : DataW H × List MemPlace} (h : DataW.trod enc Try.prog w base (fun _ => true) true fuel 22 [.slice A n c] = some x) : Dos2 w A n c := by
  rcases Go.Deep.open_slice Try.underlying22 h with ⟨hcs, _⟩ | ⟨a, len, cap, m, f, D, Pl, hcs, _, hl, hm, hmm, _, hx⟩
  · have : Value.slice A n c = .slice none 0 0 := by simpa using hcs
    injection this with e1 e2 e3
    subst e1; subst e2; subst e3
    exact ⟨Nat.le_refl _, by decide, fun i hi => by omega⟩
  · have : Value.slice A n c = .slice (some a) len cap := by simpa using hcs
    injection this with e1 e2 e3
    subst e1; subst e2; subst e3
    simp only [if_true] at hmm
    refine ⟨hl, hm, fun i hi => ?_⟩
    obtain ⟨cs0, h0, _⟩ := hx 0 (by omega)
    rw [cellsDo] at h0
    obtain ⟨b, o, rfl⟩ := row_plain (by simpa using h0) (by decide)
    obtain ⟨cs', h1, h2⟩ := hx i (by omega)
    rw [cellsDo] at h1
    obtain ⟨c0, c1, c2, c3, rfl⟩ := list4 (World.cells?_some h1).2.1
    have k0 := cells_at h1 0 (by decide)
    have k1 := cells_at h1 1 (by decide)
    have k2 := cells_at h1 2 (by decide)
    have k3 := cells_at h1 3 (by decide)
    obtain ⟨y0, y1, y2, y3, f', _, _, t0, t1, t2, t3⟩ := Go.Joins.trod_struct4 Try.underlying28 h2
    simp only [cellsInt, cellsBool, cellsBs, List.drop_succ_cons, List.drop_zero, List.take_succ_cons, List.take_zero] at t0 t1 t2 t3
    obtain ⟨z0, e0, _, _⟩ := DataW.trod_int Try.underlying3 t0
    obtain ⟨z1, e1, _, hw1⟩ := DataW.trod_int Try.underlying3 t1
    obtain ⟨z2, e2, _⟩ := DataW.trod_bool Try.underlying4 t2
    simp only [List.cons.injEq, and_true] at e0 e1 e2
    subst e0; subst e1; subst e2
    obtain ⟨A3, n3, c3', L, rfl, hL⟩ := sl_of_trod t3
    exact ⟨b, o, z0, z1, z2, L, rfl, ⟨k0, k1, k2, A3, n3, c3', k3, hL⟩, (bounds_i64 hw1).2⟩
end
end Go.Proofs.Ytblpnlobicjccaa
