/- Two readers side by side: the program's and the reference's. -/
import Derived.Test.YtblpnlobicjccaaPuts
import Derived.Test.YtblpnlobicjccaaRefR
import Derived.Deep.LoopGhost
import Derived.Deep.DeepCutAuto
import Derived.Deep.CutBlock
import Derived.Deep.RegionLaw
namespace Go.Proofs.Ytblpnlobicjccaa
open Go.RowKit

/-- The program's reader and the reference's, apart from each other, all below 'lim'. -/
def TwoR (w : World) (base lim P P' : Nat) (s s' : RS) : Prop :=
  ∃ A n c A' n' c', Rr 88 w P s A n c ∧ Rr 90 w P' s' A' n' c' ∧ blkOf A ≠ some P' ∧ blkOf A' ≠ some P ∧ (base ≤ P ∧ base ≤ P' ∧ base ≤ w.heap.size) ∧ lim ≤ w.heap.size ∧ (P < lim ∧ P' < lim) ∧ (∀ b, blkOf A = some b → base ≤ b ∧ b < lim) ∧ ∀ b, blkOf A' = some b → base ≤ b ∧ b < lim
section
variable {w w' : World} {base lim P P' : Nat} {s s' s1 : RS}
theorem TwoR.far {S : Nat → Prop} (h : TwoR w base lim P P' s s') (k : Fr S w w') (hS : ∀ b, S b → b < base ∨ lim ≤ b) : TwoR w' base lim P P' s s' := by
  obtain ⟨A, n, c, A', n', c', h1, h2, h3, h4, ⟨h5, h5', h5''⟩, h6, ⟨h7, h7'⟩, h8, h9⟩ := h
  exact ⟨A, n, c, A', n', c', h1.fr k (fun e => by have := hS _ e; omega) (fun b hb e => by have := hS _ e; have := h8 b hb; omega),
    h2.fr k (fun e => by have := hS _ e; omega) (fun b hb e => by have := hS _ e; have := h9 b hb; omega), h3, h4, ⟨h5, h5', Nat.le_trans h5'' k.size⟩, Nat.le_trans h6 k.size, ⟨h7, h7'⟩, h8, h9⟩
theorem TwoR.old (h : TwoR w base lim P P' s s') (k : Below w.heap.size w w') : TwoR w' base lim P P' s s' := h.far (Fr.of_below (S := fun _ => False) k) (fun _ h => h.elim)
theorem TwoR.drew (h : TwoR w base lim P P' s s') : TwoR w.drew base lim P P' s s' := h.far (S := fun _ => False) ((Fr.refl _ w).drew) (fun _ h => h.elim)
theorem TwoR.prog {f : FuncId} {a : Array Value} {R : Ending → World → Prop} (h : TwoR w base lim P P' s s') (hl : s.l.length ≤ 100000)
    (C : ∀ {A n c}, Rr 88 w P s A n c → n ≤ 140737488355328 → Calls Try.prog f a w fun en w1 => R en w1 ∧ RrSt 88 w P A s1 w1) :
    Calls Try.prog f a w fun en w1 => R en w1 ∧ TwoR w1 base lim P P' s1 s' ∧ Fr (fun b => base ≤ b ∧ b < lim) w w1 := by
  obtain ⟨A, n, c, A', n', c', h1, h2, h3, h4, ⟨h5, h5', h5''⟩, h6, ⟨h7, h7'⟩, h8, h9⟩ := h
  refine (C h1 (by have := h1.sl.len; omega)).mono ?_
  rintro en w1 ⟨hR, ⟨A1, n1, c1, k1, k2⟩, k3⟩
  have hne := h1.blk.ne_ h2.blk (by decide)
  refine ⟨hR, ⟨A1, n1, c1, A', n', c', k1, h2.fr k3 (fun e => hne e.symm) (fun b hb e => h4 (e ▸ hb)), fun e => h3 (k2 _ e), h4, ⟨h5, h5', Nat.le_trans h5'' k3.size⟩, Nat.le_trans h6 k3.size, ⟨h7, h7'⟩, fun b hb => h8 b (k2 b hb), h9⟩,
    k3.mono (fun b _ e => by subst e; exact ⟨h5, h7⟩)⟩
theorem TwoR.ref {f : FuncId} {a : Array Value} {R : Ending → World → Prop} (h : TwoR w base lim P P' s s') (hl : s'.l.length ≤ 100000)
    (C : ∀ {A n c}, Rr 90 w P' s' A n c → n ≤ 140737488355328 → Calls Try.prog f a w fun en w1 => R en w1 ∧ RrSt 90 w P' A s1 w1) :
    Calls Try.prog f a w fun en w1 => R en w1 ∧ TwoR w1 base lim P P' s s1 ∧ Fr (fun b => base ≤ b ∧ b < lim) w w1 := by
  obtain ⟨A, n, c, A', n', c', h1, h2, h3, h4, ⟨h5, h5', h5''⟩, h6, ⟨h7, h7'⟩, h8, h9⟩ := h
  refine (C h2 (by have := h2.sl.len; omega)).mono ?_
  rintro en w1 ⟨hR, ⟨A1, n1, c1, k1, k2⟩, k3⟩
  have hne := h1.blk.ne_ h2.blk (by decide)
  refine ⟨hR, ⟨A, n, c, A1, n1, c1, h1.fr k3 (fun e => hne e) (fun b hb e => h3 (e ▸ hb)), k1, h3, fun e => h4 (k2 _ e), ⟨h5, h5', Nat.le_trans h5'' k3.size⟩, Nat.le_trans h6 k3.size, ⟨h7, h7'⟩, h8, fun b hb => h9 b (k2 b hb)⟩,
    k3.mono (fun b _ e => by subst e; exact ⟨h5', h7'⟩)⟩
/-- What only reads. -/
theorem TwoR.readP {f : FuncId} {a : Array Value} {v : Value} (h : TwoR w base lim P P' s s') (C : ∀ {A n c}, Rr 88 w P s A n c → Calls Try.prog f a w fun en w1 => en = .returned v ∧ w = w1) : Calls Try.prog f a w fun en w1 => en = .returned v ∧ w = w1 := by
  obtain ⟨A, n, c, A', n', c', h1, _⟩ := h
  exact C h1
theorem TwoR.readR {f : FuncId} {a : Array Value} {v : Value} (h : TwoR w base lim P P' s s') (C : ∀ {A n c}, Rr 90 w P' s' A n c → Calls Try.prog f a w fun en w1 => en = .returned v ∧ w = w1) : Calls Try.prog f a w fun en w1 => en = .returned v ∧ w = w1 := by
  obtain ⟨A, n, c, A', n', c', _, h2, _⟩ := h
  exact C h2
end
/-- Bytes of the call's own, handed back. -/
def Gives (w : World) (out : List UInt8) (en : Ending) (w1 : World) : Prop := ∃ A2 c2, en = .returned (.slice A2 out.length c2) ∧ Own w1 w.heap.size 5 A2 out.length c2 out
theorem gives_of {T : TypeId} {w : World} {P : Nat} {A : Option Addr} {out : List UInt8} {s : RS} {en : Ending} {w1 : World} (h : RrPostB T w P A out s en w1) : Gives w out en w1 ∧ RrSt T w P A s w1 := by
  obtain ⟨A2, c2, h1, h2, h3⟩ := h
  exact ⟨⟨A2, c2, h1, h2⟩, h3⟩

theorem numS_len (wd : Int) (s : RS) : (numS wd s).l.length ≤ s.l.length := by
  unfold numS
  split
  · rw [failS_len]; omega
  · split
    · rw [failS_len]; omega
    · exact rawS_len _ _
theorem textS_len (most : Int) (s : RS) : (textS most s).l.length ≤ s.l.length := by
  unfold textS
  have := cntRun_len most 8 0 s
  split
  · exact Nat.le_trans (rawS_len _ _) this
  · exact this
end Go.Proofs.Ytblpnlobicjccaa
