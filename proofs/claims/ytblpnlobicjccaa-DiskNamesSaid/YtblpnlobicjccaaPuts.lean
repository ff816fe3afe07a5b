/- A slice of structs of four cells (three plain ones, a slice of bytes) that came in; two writers side by side; a byte turned by a mask. -/
import Derived.Test.YtblpnlobicjccaaRefW
import Derived.Test.YtblpnlobicjccaaArgs
namespace Go.Proofs.Ytblpnlobicjccaa
open Go.RowKit

/-- Four cells: three values, and a slice that reads as the bytes m. -/
structure El (w : World) (b o : Nat) (v0 v1 v2 : Value) (m : List UInt8) : Prop where
  c0 : w.cell? ⟨b, o, none⟩ = some v0
  c1 : w.cell? ⟨b, o + 1, none⟩ = some v1
  c2 : w.cell? ⟨b, o + 2, none⟩ = some v2
  c3 : ∃ A n c, w.cell? ⟨b, o + 3, none⟩ = some (.slice A n c) ∧ Sl w A n c m
theorem El.old {w w' : World} {b o : Nat} {v0 v1 v2 : Value} {m : List UInt8} (h : El w b o v0 v1 v2 m) (k : Below w.heap.size w w') : El w' b o v0 v1 v2 m := by
  obtain ⟨A, n, c, h3, hs⟩ := h.c3
  have hb := World.block_lt_of_cell? w _ h.c0
  exact ⟨(k.cell (p := ⟨b, o, none⟩) hb).trans h.c0, (k.cell (p := ⟨b, o + 1, none⟩) hb).trans h.c1, (k.cell (p := ⟨b, o + 2, none⟩) hb).trans h.c2, A, n, c, (k.cell (p := ⟨b, o + 3, none⟩) hb).trans h3, hs.old k⟩
/-- A slice of such, of three ints each. -/
def Els (w : World) (A : Option Addr) (n c : Nat) : Prop :=
  n ≤ c ∧ c ≤ maxLen ∧ ∀ i, i < n → ∃ b o x y z m, A = some ⟨b, o, none⟩ ∧ El w b (o + i * 4) (.int .i64 x) (.int .i64 y) (.int .i64 z) m

/-- A byte turned by a mask. -/
theorem xorByte (x : UInt8) (k : Nat) (hk : k < 256) : ∃ y : Nat, y < 256 ∧ bits .xor .u8 (x.toNat : Int) (k : Int) = (y : Int) :=
  ⟨x.toNat ^^^ k, Nat.xor_lt_two_pow (n := 8) x.toNat_lt hk, u8_xor_nat x.toNat k x.toNat_lt hk⟩
theorem bv_byte (z : Nat) (h : z < 256) : Value.int .u8 (z : Int) = bv (UInt8.ofNat z) := by
  rw [bv, UInt8.toNat_ofNat', Nat.mod_eq_of_lt (by omega)]
/-- A byte stored into an owned row. -/
theorem Own.setByte {w : World} {base E g n c : Nat} {L : List UInt8} (h : Own w base E (some ⟨g, 0, none⟩) n c L) {j : Nat} (hj : j < n) (z : Nat) (hz : z < 256) :
    Own (w.setCell ⟨g, j, none⟩ (.int .u8 (z : Int))) base E (some ⟨g, 0, none⟩) n c (L.set j (UInt8.ofNat z)) := by
  rw [bv_byte z hz]; exact h.set_ rfl hj _
theorem Own.below_at {w w' : World} {base E : Nat} {A : Option Addr} {n c : Nat} {l : List UInt8} (h : Own w base E A n c l) (k : Below w.heap.size w w') : Own w' base E A n c l := h.below k (Nat.le_refl _)
/-- Two owned rows, the second begun later: they are not the same block. -/
theorem Own.apart {w w' : World} {base B E : Nat} {A A' : Option Addr} {n c n' c' : Nat} {l l' : List UInt8} (h : Own w base E A n c l) (k : Own w' B E A' n' c' l') (hB : w.heap.size ≤ B) : ∀ b, blkOf A' = some b → ¬ blkOf A = some b := by
  intro b hb ha
  have := (h.lt b ha).2
  have := (k.lt b hb).1
  omega

/-- The program's writer and the reference's, each with its error and its bytes, apart from each other; they lie from 'base' on and at none of the blocks V. -/
def Two (w : World) (base : Nat) (V : Nat → Prop) (P P' : Nat) (e : Int) (l : List UInt8) (e' : Int) (l' : List UInt8) : Prop :=
  ∃ A n c A' n' c', Wr 78 w base P e l A n c ∧ Wr 80 w base P' e' l' A' n' c' ∧ (∀ b, blkOf A = some b → ¬ blkOf A' = some b) ∧ base ≤ w.heap.size ∧
    (∀ b, V b → b < w.heap.size) ∧ (∀ b, foot P A b → base ≤ b ∧ ¬ V b) ∧ (∀ b, foot P' A' b → base ≤ b ∧ ¬ V b)
section
variable {w w' : World} {base P P' : Nat} {V : Nat → Prop} {e e' e1 : Int} {l l' l1 : List UInt8}
theorem foot_lt {T : TypeId} {w : World} {base P : Nat} {e : Int} {l : List UInt8} {A : Option Addr} {n c : Nat} (h : Wr T w base P e l A n c) : ∀ b, foot P A b → b < w.heap.size := by
  rintro b (rfl | e)
  · exact h.blk.lt
  · exact (h.own.lt b e).2
/-- What the two lie apart from may turn. -/
theorem Two.far {S : Nat → Prop} (h : Two w base V P P' e l e' l') (k : Fr S w w') (hS : ∀ b, S b → V b ∨ w.heap.size ≤ b) : Two w' base V P P' e l e' l' := by
  obtain ⟨A, n, c, A', n', c', h1, h2, h3, h6, h7, h8, h9⟩ := h
  have n1 : ∀ b, foot P A b → ¬ S b := fun b hb hs => (hS b hs).elim (h8 b hb).2 (fun e => by have := foot_lt h1 b hb; omega)
  have n2 : ∀ b, foot P' A' b → ¬ S b := fun b hb hs => (hS b hs).elim (h9 b hb).2 (fun e => by have := foot_lt h2 b hb; omega)
  exact ⟨A, n, c, A', n', c', h1.fr k (n1 P (.inl rfl)) (fun b hb => n1 b (.inr hb)), h2.fr k (n2 P' (.inl rfl)) (fun b hb => n2 b (.inr hb)), h3, Nat.le_trans h6 k.size, fun b hb => Nat.lt_of_lt_of_le (h7 b hb) k.size, h8, h9⟩
theorem Two.old (h : Two w base V P P' e l e' l') (k : Below w.heap.size w w') : Two w' base V P P' e l e' l' := h.far (Fr.of_below (S := fun _ => False) k) (fun _ h => h.elim)
/-- From here on the two are told to lie apart from all that came behind w. -/
theorem Two.avoid (h : Two w base V P P' e l e' l') (k : Below w.heap.size w w') : Two w' base (fun b => w.heap.size ≤ b ∧ b < w'.heap.size) P P' e l e' l' := by
  obtain ⟨A, n, c, A', n', c', h1, h2, h3, h6, h7, h8, h9⟩ := h.old k
  obtain ⟨B, m, d, B', m', d', k1, k2, _⟩ := h
  refine ⟨A, n, c, A', n', c', h1, h2, h3, h6, fun b hb => hb.2, fun b hb => ⟨(h8 b hb).1, fun hv => ?_⟩, fun b hb => ⟨(h9 b hb).1, fun hv => ?_⟩⟩
  · rcases hb with rfl | hb
    · have := k1.blk.lt; omega
    · have e1 := k1.blk.below k k1.blk.lt
      have e2 := h1.blk
      unfold Blk at e1 e2
      rw [e1] at e2
      injection e2 with e2
      injection e2 with e2
      injection e2 with e2
      injection e2 with e2
      injection e2 with e2
      subst e2
      have := (k1.own.lt b hb).2; omega
  · rcases hb with rfl | hb
    · have := k2.blk.lt; omega
    · have e1 := k2.blk.below k k2.blk.lt
      have e2 := h2.blk
      unfold Blk at e1 e2
      rw [e1] at e2
      injection e2 with e2
      injection e2 with e2
      injection e2 with e2
      injection e2 with e2
      injection e2 with e2
      subst e2
      have := (k2.own.lt b hb).2; omega
theorem Two.free (h : Two w base V P P' e l e' l') : Two w base (fun _ => False) P P' e l e' l' := by
  obtain ⟨A, n, c, A', n', c', h1, h2, h3, h6, h7, h8, h9⟩ := h
  exact ⟨A, n, c, A', n', c', h1, h2, h3, h6, fun _ h => h.elim, fun b hb => ⟨(h8 b hb).1, id⟩, fun b hb => ⟨(h9 b hb).1, id⟩⟩
/-- The program's writer has gone on. -/
theorem Two.prog {f : FuncId} {a : Array Value} (h : Two w base V P P' e l e' l') (hl : l.length ≤ 1000000000)
    (C : ∀ {A n c}, Wr 78 w base P e l A n c → n ≤ 1000000000 → base ≤ w.heap.size → (∀ b, foot P A b → base ≤ b ∧ ¬ V b) → Calls Try.prog f a w (WrPost 78 w base P A e1 l1)) :
    Calls Try.prog f a w fun en w' => en = .returned (.pointer (some ⟨P, 0, none⟩)) ∧ Two w' base V P P' e1 l1 e' l' ∧ Fr (fun b => base ≤ b ∧ ¬ V b) w w' := by
  obtain ⟨A, n, c, A', n', c', h1, h2, h3, h6, h7, h8, h9⟩ := h
  refine (C h1 (by have := h1.len; omega) h6 h8).mono ?_
  rintro en w' ⟨rfl, A1, n1, c1, k1, k2, k3⟩
  have hne := h1.blk.ne_ h2.blk (by decide)
  have k2' := h2.fr k2 (by
    rintro (e | e)
    · exact hne e.symm
    · exact h1.own.ne_blk h2.blk (by decide) e) (by
    rintro b hb (e | e)
    · subst e; exact h2.own.ne_blk h1.blk (by decide) hb
    · exact h3 b e hb)
  refine ⟨rfl, ⟨A1, n1, c1, A', n', c', k1, k2', ?_, Nat.le_trans h6 k2.size, fun b hb => Nat.lt_of_lt_of_le (h7 b hb) k2.size, ?_, h9⟩, k2.mono (fun b _ hb => h8 b hb)⟩
  · intro b hb hb'
    rcases k3 b hb with e | e
    · exact h3 b e hb'
    · have := (h2.own.lt b hb').2; omega
  · rintro b (rfl | e)
    · exact h8 b (.inl rfl)
    · rcases k3 b e with e | e
      · exact h8 b (.inr e)
      · exact ⟨by omega, fun hv => by have := h7 b hv; omega⟩
/-- The reference's writer has gone on. -/
theorem Two.ref {f : FuncId} {a : Array Value} (h : Two w base V P P' e l e' l') (hl : l'.length ≤ 1000000000)
    (C : ∀ {A n c}, Wr 80 w base P' e' l' A n c → n ≤ 1000000000 → base ≤ w.heap.size → (∀ b, foot P' A b → base ≤ b ∧ ¬ V b) → Calls Try.prog f a w (WrPost 80 w base P' A e1 l1)) :
    Calls Try.prog f a w fun en w' => en = .returned (.pointer (some ⟨P', 0, none⟩)) ∧ Two w' base V P P' e l e1 l1 ∧ Fr (fun b => base ≤ b ∧ ¬ V b) w w' := by
  obtain ⟨A, n, c, A', n', c', h1, h2, h3, h6, h7, h8, h9⟩ := h
  refine (C h2 (by have := h2.len; omega) h6 h9).mono ?_
  rintro en w' ⟨rfl, A1, n1, c1, k1, k2, k3⟩
  have hne := h1.blk.ne_ h2.blk (by decide)
  have k1' := h1.fr k2 (by
    rintro (e | e)
    · exact hne e
    · exact h2.own.ne_blk h1.blk (by decide) e) (by
    rintro b hb (e | e)
    · subst e; exact h1.own.ne_blk h2.blk (by decide) hb
    · exact h3 b hb e)
  refine ⟨rfl, ⟨A, n, c, A1, n1, c1, k1', k1, ?_, Nat.le_trans h6 k2.size, fun b hb => Nat.lt_of_lt_of_le (h7 b hb) k2.size, h8, ?_⟩, k2.mono (fun b _ hb => h9 b hb)⟩
  · intro b hb hb'
    rcases k3 b hb' with e | e
    · exact h3 b hb e
    · have := (h1.own.lt b hb).2; omega
  · rintro b (rfl | e)
    · exact h9 b (.inl rfl)
    · rcases k3 b e with e | e
      · exact h9 b (.inr e)
      · exact ⟨by omega, fun hv => by have := h7 b hv; omega⟩
/-- What the program's writer holds, and the error. -/
theorem Two.bytes (h : Two w base V P P' e l e' l') (hl : l.length ≤ 1000000000) : Calls Try.prog 37 #[.pointer (some ⟨P, 0, none⟩)] w (FreshE w (if e = 0 then l else []) e) := by
  obtain ⟨A, n, c, A', n', c', h1, _⟩ := h
  exact wbytes_any w h1 (by have := h1.len; omega)
theorem Two.rbytes (h : Two w base V P P' e l e' l') (hl : l'.length ≤ 1000000000) : Calls Try.prog 38 #[.pointer (some ⟨P', 0, none⟩)] w (FreshE w (if e' = 0 then l' else []) e') := by
  obtain ⟨A, n, c, A', n', c', _, h2, _⟩ := h
  exact rwbytes_any w h2 (by have := h2.len; omega)
/-- Two new writers. -/
theorem Two.new {w w1 : World} (hW : Wr 78 w1 w.heap.size w.heap.size 0 [] none 0 0) (hB1 : Below w.heap.size w w1) :
    Two (w1.alloc (.cells #[.slice none 0 0, .int .i64 0] 80)) w.heap.size (fun _ => False) w.heap.size w1.heap.size 0 [] 0 [] := by
  have hlt := hW.blk.lt
  refine ⟨none, 0, 0, none, 0, 0, hW.fr (S := fun _ => False) ((Fr.refl _ w1).alloc _) id (fun _ _ => id), ⟨Blk.new _ _ _, Own.nil _ _ _⟩, fun b hb => (by cases hb), by have := hB1.size; simp; omega, fun _ h => h.elim, ?_, ?_⟩
  · rintro b (rfl | hb)
    · exact ⟨Nat.le_refl _, id⟩
    · cases hb
  · rintro b (rfl | hb)
    · exact ⟨hB1.size, id⟩
    · cases hb
end
end Go.Proofs.Ytblpnlobicjccaa
