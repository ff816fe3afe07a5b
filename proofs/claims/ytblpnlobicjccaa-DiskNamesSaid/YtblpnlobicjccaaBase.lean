/- Plain words on memory that all walks of this seat share: a frame over a set of blocks, a slice of bytes that reads as a list, an owned row of bytes, and the append onto it. -/
import Derived.WalkKit
import Derived.WalkSpells
import Derived.WalkLawsBesides
import Derived.Laws.BytesArg
import Derived.Laws.IdiomStrings
import Derived.Maps.AppendAt
import Derived.Deep.AppendLies
import Derived.Deep.Draws
import Derived.RegionTactic
import Derived.Lib.Hide
namespace Go.Proofs.Ytblpnlobicjccaa
open Go.RowKit

/-- Of what was there only blocks of S may have turned. -/
structure Fr (S : Nat → Prop) (w w' : World) : Prop where
  os : w'.os = w.os
  tape : w'.tape = w.tape
  output : w'.output = w.output
  size : w.heap.size ≤ w'.heap.size
  block : ∀ k, k < w.heap.size → ¬ S k → w'.heap[k]? = w.heap[k]?

section
variable {S S' : Nat → Prop} {w w' w1 w2 : World}
theorem Fr.refl (S : Nat → Prop) (w : World) : Fr S w w := ⟨rfl, rfl, rfl, Nat.le_refl _, fun _ _ _ => rfl⟩
theorem Fr.trans (h : Fr S w w1) (k : Fr S' w1 w2) (hs : ∀ b, S' b → S b ∨ w.heap.size ≤ b) : Fr S w w2 :=
  ⟨k.os.trans h.os, k.tape.trans h.tape, k.output.trans h.output, Nat.le_trans h.size k.size, fun b hb hn =>
    (k.block b (Nat.lt_of_lt_of_le hb h.size) (fun e => (hs b e).elim hn (by omega))).trans (h.block b hb hn)⟩
theorem Fr.mono (h : Fr S w w') (hs : ∀ b, b < w.heap.size → S b → S' b) : Fr S' w w' :=
  ⟨h.os, h.tape, h.output, h.size, fun b hb hn => h.block b hb (fun e => hn (hs b hb e))⟩
theorem Fr.of_below (h : Below w.heap.size w w') : Fr S w w' := ⟨h.os, h.tape, h.output, h.size, fun b hb _ => h.block b hb⟩
theorem Fr.of_grown {row : Option Nat} (h : w.grownBy w' row) : Fr (fun k => row = some k) w w' :=
  ⟨h.os, h.tape, h.output, h.size, fun b hb hn => h.block b hb (fun e => hn e.symm)⟩
theorem Fr.to_below {B : Nat} (h : Fr S w w') (hB : B ≤ w.heap.size) (hs : ∀ b, S b → B ≤ b) : Below B w w' :=
  ⟨h.os, h.tape, h.output, h.size, fun b hb => h.block b (by omega) (fun e => by have := hs b e; omega)⟩
theorem Fr.below {B : Nat} {w0 : World} (h : Below B w0 w) (k : Fr S w w') (hB : B ≤ w.heap.size) (hs : ∀ b, S b → B ≤ b) : Below B w0 w' := h.trans (k.to_below hB hs)
theorem Fr.drew (h : Fr S w w') : Fr S w w'.drew := ⟨h.os, h.tape, h.output, h.size, h.block⟩
theorem Fr.drewN (h : Fr S w w') (n : Nat) : Fr S w (w'.drewN n) := ⟨h.os, h.tape, h.output, h.size, h.block⟩
theorem Fr.alloc (h : Fr S w w') (o : Obj) : Fr S w (w'.alloc o) :=
  ⟨h.os, h.tape, h.output, Nat.le_trans h.size (by simp), fun b hb hn => (Below.heap_alloc w' o b (Nat.lt_of_lt_of_le hb h.size)).trans (h.block b hb hn)⟩
theorem Fr.setCell (h : Fr S w w') {p : Addr} (hp : S p.block ∨ w.heap.size ≤ p.block) (u : Value) : Fr S w (w'.setCell p u) :=
  ⟨h.os, h.tape, h.output, by simpa [World.setCell] using h.size, fun b hb hn => (Below.heap_setCell w' p u b (by
    rintro rfl
    exact hp.elim hn (by omega))).trans (h.block b hb hn)⟩
theorem Fr.cell (h : Fr S w w') {p : Addr} (hb : p.block < w.heap.size) (hn : ¬ S p.block) : w'.cell? p = w.cell? p := World.cell?_of_block (h.block p.block hb hn)
theorem Fr.frozen (h : Fr S w w') {p : Addr} (hb : p.block < w.heap.size) (hn : ¬ S p.block) : w'.frozen? p = w.frozen? p := World.frozen?_of_block (h.block p.block hb hn)
theorem Fr.cellSome (h : Fr S w w') {p : Addr} {v : Value} (hc : w.cell? p = some v) (hn : ¬ S p.block) : w'.cell? p = some v :=
  (h.cell (World.block_lt_of_cell? w p hc) hn).trans hc
end

/-- A byte as a value. -/
abbrev bv (u : UInt8) : Value := .int .u8 (u.toNat : Int)
theorem bv_oneCell (l : List UInt8) : ∀ u ∈ l.map bv, u.oneCell' = true := by
  intro u hu
  obtain ⟨x, _, rfl⟩ := List.mem_map.1 hu
  rfl

/-- A block that is known whole. -/
def Blk (w : World) (g : Nat) (t : TypeId) (cs : Array Value) : Prop := w.heap[g]? = some (.cells cs t (0, 0))
section
variable {w w' : World} {g : Nat} {t : TypeId} {cs : Array Value} {S : Nat → Prop}
theorem lt_of_heap {o : Obj} (h : w.heap[g]? = some o) : g < w.heap.size := (Array.getElem?_eq_some_iff.1 h).1
theorem Blk.lt (h : Blk w g t cs) : g < w.heap.size := lt_of_heap h
theorem Blk.cell (h : Blk w g t cs) (i : Nat) : w.cell? ⟨g, i, none⟩ = cs[i]? := cell_of_row w g i cs t (0, 0) h
theorem Blk.frozen (h : Blk w g t cs) (i : Nat) : w.frozen? ⟨g, i, none⟩ = false := by unfold Blk at h; simp [World.frozen?, h]
theorem Blk.new (w : World) (t : TypeId) (cs : Array Value) : Blk (w.alloc (.cells cs t)) w.heap.size t cs := heap_alloc_new w _
theorem Blk.drew (h : Blk w g t cs) : Blk w.drew g t cs := h
theorem Blk.drewN (h : Blk w g t cs) (n : Nat) : Blk (w.drewN n) g t cs := h
theorem Blk.alloc (h : Blk w g t cs) (o : Obj) : Blk (w.alloc o) g t cs := (Below.heap_alloc w o g h.lt).trans h
theorem Blk.set_ (h : Blk w g t cs) (i : Nat) (u : Value) : Blk (w.setCell ⟨g, i, none⟩ u) g t (cs.setIfInBounds i u) := by
  unfold Blk at h ⊢
  simp [World.setCell, Array.getElem?_modify, h]
theorem Blk.far (h : Blk w g t cs) {p : Addr} (hp : g ≠ p.block) (u : Value) : Blk (w.setCell p u) g t cs := (Below.heap_setCell w p u g hp).trans h
theorem Blk.fr (h : Blk w g t cs) (k : Fr S w w') (hn : ¬ S g) : Blk w' g t cs := (k.block g h.lt hn).trans h
theorem Blk.below {B : Nat} (h : Blk w g t cs) (hb : Below B w w') (hg : g < B) : Blk w' g t cs := (hb.block g hg).trans h
theorem Blk.ne_ {g' : Nat} {t' : TypeId} {cs' : Array Value} (h : Blk w g t cs) (h' : Blk w g' t' cs') (hne : t ≠ t') : g ≠ g' := by
  rintro rfl
  unfold Blk at h h'
  rw [h] at h'
  injection h' with h'
  injection h' with _ ht
  exact hne ht
end

/-- The block at which an address lies. -/
def blkOf (A : Option Addr) : Option Nat := A.map (·.block)

/-- The slice at A reads as the bytes l. -/
def Rd (w : World) (A : Option Addr) (l : List UInt8) : Prop :=
  l = [] ∨ ∃ b o, A = some ⟨b, o, none⟩ ∧ ∀ j (h : j < l.length), w.cell? ⟨b, o + j, none⟩ = some (bv l[j])
section
variable {w w' : World} {A : Option Addr} {l : List UInt8} {S : Nat → Prop}
theorem Rd.nil (w : World) (A : Option Addr) : Rd w A [] := .inl rfl
theorem Rd.fr (h : Rd w A l) (k : Fr S w w') (hn : ∀ b, blkOf A = some b → ¬ S b) : Rd w' A l := by
  rcases h with rfl | ⟨b, o, rfl, hc⟩
  · exact .inl rfl
  · exact .inr ⟨b, o, rfl, fun j hj => k.cellSome (hc j hj) (hn b rfl)⟩
theorem Rd.lt (h : Rd w A l) (hl : l ≠ []) : ∃ b, blkOf A = some b ∧ b < w.heap.size := by
  rcases h with rfl | ⟨b, o, rfl, hc⟩
  · exact absurd rfl hl
  · have : 0 < l.length := List.length_pos_iff.2 hl
    exact ⟨b, rfl, World.block_lt_of_cell? w _ (hc 0 this)⟩
/-- What lies wholly below is read as it was. -/
theorem Rd.below {B : Nat} (h : Rd w A l) (k : Below B w w') (hb : ∀ b, blkOf A = some b → b < B) : Rd w' A l := by
  rcases h with rfl | ⟨b, o, rfl, hc⟩
  · exact .inl rfl
  · exact .inr ⟨b, o, rfl, fun j hj => (k.cell (p := ⟨b, o + j, none⟩) (hb b rfl)).trans (hc j hj)⟩
theorem Rd.alloc (h : Rd w A l) (o : Obj) : Rd (w.alloc o) A l := h.fr ((Fr.refl (fun _ => False) w).alloc o) (fun _ _ => id)
theorem Rd.drew (h : Rd w A l) : Rd w.drew A l := h
theorem Rd.drewN (h : Rd w A l) (n : Nat) : Rd (w.drewN n) A l := h
theorem Rd.far (h : Rd w A l) {p : Addr} (hp : blkOf A ≠ some p.block) (u : Value) : Rd (w.setCell p u) A l :=
  h.fr ((Fr.refl (fun k => k = p.block) w).setCell (.inl rfl) u) (fun b hb e => hp (by rw [hb, e]))
theorem Rd.take (h : Rd w A l) (k : Nat) : Rd w A (l.take k) := by
  rcases h with rfl | ⟨b, o, rfl, hc⟩
  · exact .inl (by simp)
  · exact .inr ⟨b, o, rfl, fun j hj => by
      have hj' : j < l.length := by simp at hj; omega
      rw [hc j hj']; simp⟩
theorem Rd.drop (h : Rd w A l) (k : Nat) : Rd w (A.map (·.add k)) (l.drop k) := by
  rcases h with rfl | ⟨b, o, rfl, hc⟩
  · exact .inl (by simp)
  · have e : (⟨b, o, none⟩ : Addr).add k = ⟨b, o + k, none⟩ := by unfold Addr.add; split <;> simp_all
    exact .inr ⟨b, o + k, by simp [e], fun j hj => by
      have hj' : k + j < l.length := by simp at hj; omega
      rw [Nat.add_assoc, hc (k + j) hj']; simp⟩
theorem Rd.dropIf (h : Rd w A l) (k c : Nat) (hc : l.length ≤ c) : Rd w (if c = k then A else A.map (·.add k)) (l.drop k) := by
  split
  · exact .inl (by rw [List.drop_eq_nil_iff]; omega)
  · exact h.drop k
theorem Rd.cell (h : Rd w A l) {j : Nat} (hj : j < l.length) : ∃ b o, A = some ⟨b, o, none⟩ ∧ w.cell? ⟨b, o + j, none⟩ = some (bv l[j]) := by
  rcases h with rfl | ⟨b, o, rfl, hc⟩
  · simp at hj
  · exact ⟨b, o, rfl, hc j hj⟩
theorem Rd.cells (h : Rd w A l) {ad : Addr} (hA : A = some ad) : ∀ j u, (l.map bv)[j]? = some u → w.cell? (ad.add j) = some u := by
  intro j u hu
  rcases h with rfl | ⟨b, o, rfl, hc⟩
  · simp at hu
  · injection hA with hA
    subst hA
    rw [List.getElem?_map] at hu
    rcases Nat.lt_or_ge j l.length with hj | hj
    · rw [List.getElem?_eq_getElem hj] at hu
      have hu : bv l[j] = u := by simpa using hu
      subst hu
      have e : (⟨b, o, none⟩ : Addr).add j = ⟨b, o + j, none⟩ := by unfold Addr.add; split <;> simp_all
      rw [e]; exact hc j hj
    · rw [List.getElem?_eq_none hj] at hu; simp at hu
end

/-- The bytes of a text. -/
def txt (l : List UInt8) : ByteArray := ⟨l.toArray⟩
theorem txt_inj {a b : List UInt8} : txt a = txt b ↔ a = b := by
  constructor
  · intro h
    have : a.toArray = b.toArray := congrArg ByteArray.data h
    simpa using this
  · rintro rfl; rfl
theorem txt_toList (l : List UInt8) : (txt l).toList = l := by
  exact ByteArray.toList_mk l

theorem Rd.convert {P : Program} {w : World} {A : Option Addr} {l : List UInt8} (h : Rd w A l) (src dst e : TypeId) (n c : Nat) (hn : n = l.length)
    (hs : P.underlying src = some (.slice e)) (he : P.underlying e = some (.int .u8)) (hd : P.underlying dst = some .string) :
    (Go.convert src dst (.slice A n c)).run P w = .ok (.string (txt l)) w := by
  subst hn
  rcases h with rfl | ⟨b, o, rfl, hc⟩
  · cases A with
    | none => exact run_convert_bytes_nil (P := P) w src e hs he _ c dst hd
    | some ad => exact run_convert_bytes_back (P := P) w src dst e ad c [] hs he hd (fun j hj => by simp at hj)
  · exact run_convert_bytes_back (P := P) w src dst e ⟨b, o, none⟩ c l hs he hd (fun j hj => by
      have e : (⟨b, o, none⟩ : Addr).add j = ⟨b, o + j, none⟩ := by unfold Addr.add; split <;> simp_all
      rw [e]; exact hc j hj)

/-- The slice value '.slice A n c' reads as the bytes l. -/
structure Sl (w : World) (A : Option Addr) (n c : Nat) (l : List UInt8) : Prop where
  len : n = l.length
  cap : n ≤ c
  max : c ≤ maxLen
  rd : Rd w A l
section
variable {w w' : World} {A : Option Addr} {n c : Nat} {l : List UInt8} {S : Nat → Prop}
theorem Sl.nil (w : World) : Sl w none 0 0 [] := ⟨rfl, Nat.le_refl _, by decide, .inl rfl⟩
theorem Sl.fr (h : Sl w A n c l) (k : Fr S w w') (hn : ∀ b, blkOf A = some b → ¬ S b) : Sl w' A n c l := ⟨h.len, h.cap, h.max, h.rd.fr k hn⟩
theorem Sl.below {B : Nat} (h : Sl w A n c l) (k : Below B w w') (hb : ∀ b, blkOf A = some b → b < B) : Sl w' A n c l := ⟨h.len, h.cap, h.max, h.rd.below k hb⟩
theorem Sl.alloc (h : Sl w A n c l) (o : Obj) : Sl (w.alloc o) A n c l := ⟨h.len, h.cap, h.max, h.rd.alloc o⟩
theorem Sl.drew (h : Sl w A n c l) : Sl w.drew A n c l := ⟨h.len, h.cap, h.max, h.rd⟩
theorem Sl.drewN (h : Sl w A n c l) (k : Nat) : Sl (w.drewN k) A n c l := ⟨h.len, h.cap, h.max, h.rd⟩
theorem Sl.far (h : Sl w A n c l) {p : Addr} (hp : blkOf A ≠ some p.block) (u : Value) : Sl (w.setCell p u) A n c l := ⟨h.len, h.cap, h.max, h.rd.far hp u⟩
theorem Sl.take (h : Sl w A n c l) {k : Nat} (hk : k ≤ n) : Sl w A k c (l.take k) := ⟨by have := h.len; simp; omega, by have := h.cap; omega, h.max, h.rd.take k⟩
theorem Sl.drop (h : Sl w A n c l) {k : Nat} (hk : k ≤ n) : Sl w (if c = k then A else A.map (·.add k)) (n - k) (c - k) (l.drop k) :=
  ⟨by have := h.len; simp; omega, by have := h.cap; omega, by have := h.max; omega, h.rd.dropIf k c (by have := h.len; have := h.cap; omega)⟩
theorem Sl.fr' (h : Sl w A n c l) (k : Fr S w w') (hn : l ≠ [] → ∀ b, blkOf A = some b → ¬ S b) : Sl w' A n c l := by
  by_cases hz : l = []
  · exact ⟨h.len, h.cap, h.max, .inl hz⟩
  · exact h.fr k (hn hz)
theorem Sl.far' (h : Sl w A n c l) {p : Addr} (hp : l ≠ [] → blkOf A ≠ some p.block) (u : Value) : Sl (w.setCell p u) A n c l := by
  by_cases hz : l = []
  · exact ⟨h.len, h.cap, h.max, .inl hz⟩
  · exact h.far (hp hz) u
/-- Where it is not empty it lies among the blocks that are there. -/
theorem Sl.lt (h : Sl w A n c l) (hl : l ≠ []) : ∀ b, blkOf A = some b → b < w.heap.size := by
  obtain ⟨b, hb, hlt⟩ := h.rd.lt hl
  intro b' hb'
  rw [hb] at hb'
  injection hb' with e
  omega
/-- What was there reads as it did, where nothing that was there has turned. -/
theorem Sl.old (h : Sl w A n c l) (k : Below w.heap.size w w') : Sl w' A n c l := by
  by_cases hz : l = []
  · exact ⟨h.len, h.cap, h.max, .inl hz⟩
  · obtain ⟨b, hb, hlt⟩ := h.rd.lt hz
    exact h.below k (fun b' hb' => by rw [hb] at hb'; injection hb' with e; omega)
theorem Sl.convert {P : Program} (h : Sl w A n c l) (src dst e : TypeId)
    (hs : P.underlying src = some (.slice e)) (he : P.underlying e = some (.int .u8)) (hd : P.underlying dst = some .string) :
    (Go.convert src dst (.slice A n c)).run P w = .ok (.string (txt l)) w := h.rd.convert src dst e n c h.len hs he hd
theorem blkOf_if (A : Option Addr) (c k : Nat) : blkOf (if c = k then A else A.map (·.add k)) = blkOf A := by
  split
  · rfl
  · cases A with
    | none => rfl
    | some a => simp [blkOf, Addr.add]; split <;> rfl
end

/-- The slice value '.slice A n c' is a row of the call's own (a block from 'base' on, known from its head, not frozen), of the bytes l. E: the number of the type 'byte'. -/
structure Own (w : World) (base E : Nat) (A : Option Addr) (n c : Nat) (l : List UInt8) : Prop where
  len : n = l.length
  row : w.ownsRow base E 1 (.slice A n c) n (l.map bv)
theorem ownBlock_slice (A : Option Addr) (n c : Nat) : (Value.slice A n c).ownBlock = blkOf A := by cases A <;> rfl
section
variable {w w' : World} {base E : Nat} {A : Option Addr} {n c : Nat} {l : List UInt8} {S : Nat → Prop}
theorem Own.nil (w : World) (base E : Nat) : Own w base E none 0 0 [] := ⟨rfl, World.ownsRow_nil w base E 1⟩
theorem Own.lt (h : Own w base E A n c l) : ∀ k, blkOf A = some k → base ≤ k ∧ k < w.heap.size := fun k hk => h.row.lt k (by rw [ownBlock_slice]; exact hk)
theorem Own.cap (h : Own w base E A n c l) : n ≤ c ∧ c ≤ maxLen := by
  rcases h.row.2 with ⟨hv, h0⟩ | ⟨g, cap, cur, hv, _, _, h1, h2, _⟩
  · injection hv with _ h1 h2; subst h2; subst h0; exact ⟨Nat.le_refl _, by decide⟩
  · injection hv with _ _ e; subst e; exact ⟨h1, h2⟩
theorem Own.sl (h : Own w base E A n c l) : Sl w A n c l := by
  refine ⟨h.len, h.cap.1, h.cap.2, ?_⟩
  rcases h.row.2 with ⟨hv, h0⟩ | ⟨g, cap, cur, hv, _⟩
  · exact .inl (List.eq_nil_of_length_eq_zero (by have := h.len; omega))
  · injection hv with hA
    refine .inr ⟨g, 0, hA, fun j hj => ?_⟩
    have hc := h.row.cells (g := g) (by rw [ownBlock_slice, hA]; rfl) j (bv l[j]) (by simp [List.getElem?_eq_getElem hj])
    have e : (⟨g, 0, none⟩ : Addr).add j = ⟨g, 0 + j, none⟩ := by unfold Addr.add; split <;> simp_all
    rw [← e]; exact hc
theorem Own.frozen (h : Own w base E A n c l) (k o : Nat) (hk : blkOf A = some k) : w.frozen? ⟨k, o, none⟩ = false := by
  rcases h.row.2 with ⟨hv, h0⟩ | ⟨g, cap, cur, hv, _, hg, _⟩
  · injection hv with hA; subst hA; cases hk
  · injection hv with hA; subst hA
    have : g = k := by simpa [blkOf] using hk
    subst this
    simp [World.frozen?, hg]
theorem Own.fr (h : Own w base E A n c l) (k : Fr S w w') (hn : ∀ b, blkOf A = some b → ¬ S b) : Own w' base E A n c l := by
  refine ⟨h.len, h.row.1, ?_⟩
  rcases h.row.2 with hv | ⟨g, cap, cur, hv, hb, hg, rest⟩
  · exact .inl hv
  · refine .inr ⟨g, cap, cur, hv, hb, ?_, rest⟩
    have hA : A = some ⟨g, 0, none⟩ := by injection hv
    exact (k.block g (lt_of_heap hg) (hn g (by rw [hA]; rfl))).trans hg
theorem Own.mono {base' : Nat} (h : Own w base E A n c l) (hb : base' ≤ base) : Own w base' E A n c l := by
  refine ⟨h.len, h.row.1, ?_⟩
  rcases h.row.2 with hv | ⟨g, cap, cur, hv, hb, hg, rest⟩
  · exact .inl hv
  · exact .inr ⟨g, cap, cur, hv, by omega, hg, rest⟩
theorem Own.below {B : Nat} (h : Own w base E A n c l) (k : Below B w w') (hb : w.heap.size ≤ B) : Own w' base E A n c l :=
  h.fr (Fr.of_below (S := fun _ => False) (k.mono hb)) (fun _ _ => id)
theorem Own.alloc (h : Own w base E A n c l) (o : Obj) : Own (w.alloc o) base E A n c l := h.fr ((Fr.refl (fun _ => False) w).alloc o) (fun _ _ => id)
theorem Own.drew (h : Own w base E A n c l) : Own w.drew base E A n c l := ⟨h.len, h.row⟩
theorem Own.drewN (h : Own w base E A n c l) (k : Nat) : Own (w.drewN k) base E A n c l := ⟨h.len, h.row⟩
theorem Own.far (h : Own w base E A n c l) {p : Addr} (hp : blkOf A ≠ some p.block) (u : Value) : Own (w.setCell p u) base E A n c l :=
  h.fr ((Fr.refl (fun k => k = p.block) w).setCell (.inl rfl) u) (fun b hb e => hp (by rw [hb, e]))
/-- Where the slice has elements it is known at which block. -/
theorem Own.at_ (h : Own w base E A n c l) (hn : 0 < n) : ∃ g, A = some ⟨g, 0, none⟩ := by
  rcases h.row.2 with ⟨_, h0⟩ | ⟨g, cap, cur, hv, _⟩
  · omega
  · injection hv with hA; exact ⟨g, hA⟩
theorem Own.set_ (h : Own w base E A n c l) {g : Nat} (hA : A = some ⟨g, 0, none⟩) {j : Nat} (hj : j < n) (u : UInt8) : Own (w.setCell ⟨g, j, none⟩ (bv u)) base E A n c (l.set j u) := by
  subst hA
  have hl := h.len
  refine ⟨by simp [hl], by simpa using h.row.1, ?_⟩
  rcases h.row.2 with ⟨hv, h0⟩ | ⟨g', cap, cur, hv, hb, hg, h1, h2, h3, h4⟩
  · omega
  · have e1 : g = g' := by injection hv with e; injection e with e; injection e
    have e2 : c = cap := by injection hv
    subst e1; subst e2
    refine .inr ⟨g, c, cur.setIfInBounds j (bv u), rfl, hb, ?_, h1, h2, by simpa using h3, ?_⟩
    · have := (Blk.set_ (w := w) (g := g) (t := E) (cs := cur) hg j (bv u)); exact this
    · rw [Array.toList_setIfInBounds, List.take_set, h4, List.map_set]
/-- The j-th byte and its cell. -/
theorem Own.get (h : Own w base E A n c l) {g : Nat} (hA : A = some ⟨g, 0, none⟩) {j : Nat} (hj : j < n) : ∃ x, l[j]? = some x ∧ w.cell? ⟨g, j, none⟩ = some (bv x) ∧ w.frozen? ⟨g, j, none⟩ = false := by
  have hl := h.len
  have hjl : j < l.length := by omega
  refine ⟨l[j], List.getElem?_eq_getElem hjl, ?_, h.frozen g j (by rw [hA]; rfl)⟩
  rcases h.sl.rd with e | ⟨b, o, e, hc⟩
  · subst e; simp at hjl
  · have hg := hc j hjl
    rcases h.row.2 with ⟨hv, h0⟩ | ⟨g', cap, cur, hv, hb, hg', h1, h2, h3, h4⟩
    · omega
    · have e1 : g = g' := by subst hA; injection hv with e; injection e with e; injection e
      subst e1
      have hcc := h.row.cells (g := g) (by rw [ownBlock_slice, hA]; rfl) j (bv l[j]) (by simp [List.getElem?_eq_getElem hjl])
      have e : (⟨g, 0, none⟩ : Addr).add j = ⟨g, j, none⟩ := by unfold Addr.add; split <;> simp_all
      rw [e] at hcc
      exact hcc
theorem Own.made (w : World) (E : Nat) : Own (w.alloc (.cells #[] E)) w.heap.size E (some ⟨w.heap.size, 0, none⟩) 0 0 [] :=
  ⟨rfl, World.ownsRow_made w #[] 0 (Nat.le_refl _) (by decide) rfl⟩
theorem Own.ne_blk {g : Nat} {t : TypeId} {cs : Array Value} (h : Own w base E A n c l) (hg : Blk w g t cs) (hne : E ≠ t) : blkOf A ≠ some g := by
  rcases h.row.2 with ⟨hv, h0⟩ | ⟨g', cap, cur, hv, _, hh, _⟩
  · injection hv with hA; subst hA; simp [blkOf]
  · injection hv with hA; subst hA
    intro he
    have : g' = g := by simpa [blkOf] using he
    subst this
    exact Blk.ne_ (t := E) hh hg hne rfl
end

/-- 'append(s, x...)' where s is a row of the call's own and x reads as bytes. -/
theorem run_append_bytes {P : Program} (w : World) (t ty E : TypeId) (i : TypeInfo) (z : Value) (ht : P.underlying t = some (.slice E)) (hi : P.info? E = some i) (hz : i.zero = some z)
    (hsize : i.size = 1) (hby : i.bytes = 1) (hzs : z.cells.size = 1) {base : Nat} {A A2 : Option Addr} {n c n2 c2 : Nat} {l m : List UInt8}
    (h : Own w base E A n c l) (hx : Sl w A2 n2 c2 m) (hlen : n + n2 ≤ 140737488355328) (hbase : base ≤ w.heap.size) :
    ∃ A' c' w', (Builtin.append_ #[t, t] ty #[.slice A n c, .slice A2 n2 c2]).run P w = .ok (.slice A' (n + n2) c') w' ∧ Own w' base E A' (n + n2) c' (l ++ m) ∧
      Fr (fun k => blkOf A = some k) w w' ∧ (∀ k, blkOf A' = some k → blkOf A = some k ∨ w.heap.size ≤ k) := by
  have hln := h.len
  have hlm := hx.len
  cases A2 with
  | none =>
    have hm : m = [] := by
      rcases hx.rd with e | ⟨b, o, e, _⟩
      · exact e
      · cases e
    subst hm
    simp only [List.length_nil] at hlm
    subst hlm
    refine ⟨A, c, w, ?_, by simpa using h, Fr.refl _ _, fun k hk => .inl hk⟩
    rcases h.row.2 with ⟨hv, h0⟩ | ⟨g, cap, cur, hv, _, _, hnc, _⟩
    · injection hv with e1 e2 e3; subst e1; subst e2; subst e3
      simp [Builtin.append_, run_underlying ht, sizeOf, typeInfo, hi, Builtin.lenOf, Builtin.firstCells]
    · injection hv with e1 e2 e3; subst e1; subst e3
      simp [Builtin.append_, run_underlying ht, sizeOf, typeInfo, hi, Builtin.lenOf, Builtin.firstCells, hnc, storeCells]
  | some ad =>
    obtain ⟨v', w', hrun, h2, h3, _, h5⟩ := run_append_own_at (P := P) w base t ty E i z 1 1 ht hi hz hsize hby hzs (by decide) (.slice A n c) n (l.map bv) h.row ad n2 c2 (m.map bv) (by simp [hlm]) (hx.rd.cells rfl) (bv_oneCell m)
      (by unfold maxLen; omega) (by omega) hbase
    have hform : ∃ A' c', v' = .slice A' (n + n2) c' := by
      rcases h2.2 with ⟨hv, h0⟩ | ⟨g, cap, cur, hv, _⟩
      · exact ⟨none, 0, by rw [hv, h0]⟩
      · exact ⟨_, _, hv⟩
    obtain ⟨A', c', rfl⟩ := hform
    refine ⟨A', c', w', hrun, ⟨by simp [hln, hlm], by rw [List.map_append]; exact h2⟩, (Fr.of_grown h3).mono (fun b _ e => by rw [ownBlock_slice] at e; exact e), fun k hk => ?_⟩
    rw [ownBlock_slice, ownBlock_slice] at h5
    rcases h5 with h5 | h5
    · exact .inl (by rw [← h5]; exact hk)
    · refine .inr ?_
      rw [hk] at h5
      injection h5 with h5
      omega

section
variable {P : Program} {w : World} {o : Oper} {a : Act} {Q : Exit → Act → World → Prop}
theorem wp_append_bytes {K : Act → World → Prop} (s x : Operand) (t E : TypeId) (i : TypeInfo) (z : Value)
    (ho : o.op = .call { callee := .builtin .append, args := #[s, x], argTypes := #[t, t] })
    (ht : P.underlying t = some (.slice E)) (hi : P.info? E = some i) (hz : i.zero = some z) (hsize : i.size = 1) (hby : i.bytes = 1) (hzs : z.cells.size = 1)
    {base : Nat} {A A2 : Option Addr} {n c n2 c2 : Nat} {l m : List UInt8} (hs : a.eval s = .slice A n c) (hx : a.eval x = .slice A2 n2 c2)
    (h : Own w base E A n c l) (hx2 : Sl w A2 n2 c2 m) (hlen : n + n2 ≤ 140737488355328) (hbase : base ≤ w.heap.size)
    (hK : ∀ A' c' w', Own w' base E A' (n + n2) c' (l ++ m) → Fr (fun k => blkOf A = some k) w w' → (∀ k, blkOf A' = some k → blkOf A = some k ∨ w.heap.size ≤ k) → K (a.put o.dst (.slice A' (n + n2) c')) w') :
    o.wp P a w K Q := by
  obtain ⟨A', c', w', hr, h1, h2, h3⟩ := run_append_bytes (P := P) w t o.type E i z ht hi hz hsize hby hzs h hx2 hlen hbase
  unfold Oper.wp execOp
  simp only [ho, resolve, invoke, builtin, Sem.run_bind, Sem.run_pure, Result.andThen_ok, List.map_toArray, List.map_cons, List.map_nil, hs, hx, hr]
  exact hK A' c' w' h1 h2 h3
theorem wpList_append_bytes {ops : Array Oper} {rest : List Oper} (hgd : o.guard = none) (s x : Operand) (t E : TypeId) (i : TypeInfo) (z : Value)
    (ho : o.op = .call { callee := .builtin .append, args := #[s, x], argTypes := #[t, t] })
    (ht : P.underlying t = some (.slice E)) (hi : P.info? E = some i) (hz : i.zero = some z) (hsize : i.size = 1) (hby : i.bytes = 1) (hzs : z.cells.size = 1)
    {base : Nat} {A A2 : Option Addr} {n c n2 c2 : Nat} {l m : List UInt8} (hs : a.eval s = .slice A n c) (hx : a.eval x = .slice A2 n2 c2)
    (h : Own w base E A n c l) (hx2 : Sl w A2 n2 c2 m) (hlen : n + n2 ≤ 140737488355328) (hbase : base ≤ w.heap.size)
    (hK : ∀ A' c' w', Own w' base E A' (n + n2) c' (l ++ m) → Fr (fun k => blkOf A = some k) w w' → (∀ k, blkOf A' = some k → blkOf A = some k ∨ w.heap.size ≤ k) → wpList P ops Q rest (a.put o.dst (.slice A' (n + n2) c')) w') :
    wpList P ops Q (o :: rest) a w :=
  wpList_plain hgd fun _ hk => wp_append_bytes s x t E i z ho ht hi hz hsize hby hzs hs hx h hx2 hlen hbase fun A' c' w' h1 h2 h3 => hk _ _ (hK A' c' w' h1 h2 h3)
theorem step_append_bytes {ops : Array Oper} {K : Act → World → Prop} {El : Prop} (hgd : o.guard = none) (s x : Operand) (t E : TypeId) (i : TypeInfo) (z : Value)
    (ho : o.op = .call { callee := .builtin .append, args := #[s, x], argTypes := #[t, t] })
    (ht : P.underlying t = some (.slice E)) (hi : P.info? E = some i) (hz : i.zero = some z) (hsize : i.size = 1) (hby : i.bytes = 1) (hzs : z.cells.size = 1)
    {base : Nat} {A A2 : Option Addr} {n c n2 c2 : Nat} {l m : List UInt8} (hs : a.eval s = .slice A n c) (hx : a.eval x = .slice A2 n2 c2)
    (h : Own w base E A n c l) (hx2 : Sl w A2 n2 c2 m) (hlen : n + n2 ≤ 140737488355328) (hbase : base ≤ w.heap.size)
    (hK : ∀ A' c' w', Own w' base E A' (n + n2) c' (l ++ m) → Fr (fun k => blkOf A = some k) w w' → (∀ k, blkOf A' = some k → blkOf A = some k ∨ w.heap.size ≤ k) → K (a.put o.dst (.slice A' (n + n2) c')) w') :
    if Region.wanted o (yielded ops a.tmps) = true then Oper.wp P o a w K Q else El := by
  have hw : Region.wanted o (yielded ops a.tmps) = true := by simp [Region.wanted, hgd]
  rw [if_pos hw]
  exact wp_append_bytes s x t E i z ho ht hi hz hsize hby hzs hs hx h hx2 hlen hbase hK
end
end Go.Proofs.Ytblpnlobicjccaa
