/- A writer and a reader that have both met an error, side by side: what their methods do then: nothing. -/
import Derived.Test.YtblpnlobicjccaaNumK
import Derived.Test.YtblpnlobicjccaaArgs
namespace Go.Proofs.Ytblpnlobicjccaa
open Go.RowKit

theorem putE_err {e : Int} (h : e ≠ 0) (x : Int) : putE e x = e := by unfold putE orI; rw [if_neg h]
theorem putB_err1 {e : Int} (h : e ≠ 0) (x : Int) (l m : List UInt8) : putB e x l m = l := by unfold putB; rw [show orI e x = e from putE_err h x, if_neg h]
theorem rawO_err {s : RS} (h : s.e ≠ 0) (k : Int) : rawO k s = [] := by unfold rawO; rw [if_neg (fun x => h x.1)]
theorem rawS_err {s : RS} (h : s.e ≠ 0) (k : Int) : rawS k s = s := by unfold rawS; rw [if_neg h]
theorem numV_err {s : RS} (h : s.e ≠ 0) (k : Int) : numV k s = 0 := by unfold numV; rw [if_neg (fun x => h x.1), rawO_err h]; rfl
theorem numS_err {s : RS} (h : s.e ≠ 0) (k : Int) : numS k s = s := by unfold numS; rw [if_neg (fun x => h x.1), rawO_err h, rawS_err h]; rfl
theorem cntRun_err0 {s : RS} (h : s.e ≠ 0) (m : Int) : cntRun m 8 0 s = (0, s) := by rw [cntRun, rawO_err h, rawS_err h]
theorem textO_err {s : RS} (h : s.e ≠ 0) (m : Int) : textO m s = [] := by unfold textO; rw [cntRun_err0 h, if_neg h]
theorem textS_err {s : RS} (h : s.e ≠ 0) (m : Int) : textS m s = s := by unfold textS; rw [cntRun_err0 h, if_neg h]

structure Pair (w : World) (base P P2 : Nat) (e : Int) (l : List UInt8) (s : RS) : Prop where
  w_ : ∃ A n c, Wr 78 w base P e l A n c ∧ blkOf A ≠ some P2
  r_ : ∃ A n c, Rr 88 w P2 s A n c
  e_ : e ≠ 0
  s_ : s.e ≠ 0
  l_ : s.l = []
  ne : P ≠ P2
  b1 : base ≤ P
  b2 : base ≤ P2
  b0 : base ≤ w.heap.size
  len : l.length ≤ 1000

theorem Rr.fr' {T : TypeId} {w w' : World} {P : Nat} {s : RS} {A : Option Addr} {n c : Nat} {S : Nat → Prop} (h : Rr T w P s A n c) (k : Fr S w w') (h1 : ¬ S P) (h2 : s.l ≠ [] → ∀ b, blkOf A = some b → ¬ S b) : Rr T w' P s A n c :=
  ⟨h.blk.fr k h1, h.sl.fr' k h2, h.ne⟩
/-- What is left of the pair behind a call of the one or the other. -/
def PairTo (w : World) (base P P2 : Nat) (e : Int) (l : List UInt8) (s : RS) (v : Value) (en : Ending) (w' : World) : Prop :=
  en = .returned v ∧ Pair w' base P P2 e l s ∧ Below base w w'

section
variable {w w' : World} {base P P2 : Nat} {e : Int} {l : List UInt8} {s : RS} {en : Ending}
theorem Pair.of_w (h : Pair w base P P2 e l s) {A : Option Addr} {n c : Nat} (hW : Wr 78 w base P e l A n c) (hA : blkOf A ≠ some P2) (k : WrPost 78 w base P A e l en w') :
    PairTo w base P P2 e l s (.pointer (some ⟨P, 0, none⟩)) en w' := by
  obtain ⟨rfl, A', n', c', h1, h2, h3⟩ := k
  obtain ⟨A2, n2, c2, hR⟩ := h.r_
  have hB : Below base w w' := h2.to_below h.b0 (fun b hb => hb.elim (fun e => e ▸ h.b1) (fun e => (hW.own.lt b e).1))
  refine ⟨rfl, ⟨⟨A', n', c', h1, fun e' => ?_⟩, ⟨A2, n2, c2, hR.fr' h2 (fun e' => e'.elim (fun x => h.ne x.symm) hA) (fun hz => absurd h.l_ hz)⟩, h.e_, h.s_, h.l_, h.ne, h.b1, h.b2, Nat.le_trans h.b0 hB.size, h.len⟩, hB⟩
  rcases h3 _ e' with e' | e'
  · exact hA e'
  · have := hR.blk.lt; omega
theorem Pair.of_r (h : Pair w base P P2 e l s) {A : Option Addr} (k : RrSt 88 w P2 A s w') : Pair w' base P P2 e l s ∧ Below base w w' := by
  obtain ⟨⟨A2, n2, c2, hR, _⟩, hf⟩ := k
  obtain ⟨A', n', c', hW, hA⟩ := h.w_
  have hB : Below base w w' := hf.to_below h.b0 (fun b hb => hb ▸ h.b2)
  exact ⟨⟨⟨A', n', c', hW.fr hf h.ne (fun b hb e' => hA (by rw [hb, e'])), hA⟩, ⟨A2, n2, c2, hR⟩, h.e_, h.s_, h.l_, h.ne, h.b1, h.b2, Nat.le_trans h.b0 hB.size, h.len⟩, hB⟩

theorem Pair.num (h : Pair w base P P2 e l s) (wd x : Int) : Calls Try.prog 29 #[.pointer (some ⟨P, 0, none⟩), .int .i64 wd, .int .i64 x] w (PairTo w base P P2 e l s (.pointer (some ⟨P, 0, none⟩))) := by
  obtain ⟨A, n, c, hW, hA⟩ := h.w_
  have := num_any wd x w hW (by have := hW.len; have := h.len; omega) h.b0
  rw [putE_err h.e_, putB_err1 h.e_] at this
  exact this.mono fun _ _ k => h.of_w hW hA k
theorem Pair.count (h : Pair w base P P2 e l s) (x : Int) : Calls Try.prog 31 #[.pointer (some ⟨P, 0, none⟩), .int .i64 x] w (PairTo w base P P2 e l s (.pointer (some ⟨P, 0, none⟩))) := by
  obtain ⟨A, n, c, hW, hA⟩ := h.w_
  have := count_any x w hW (by have := hW.len; have := h.len; omega) h.b0
  rw [putE_err h.e_, putB_err1 h.e_] at this
  exact this.mono fun _ _ k => h.of_w hW hA k
theorem Pair.text (h : Pair w base P P2 e l s) {A2 : Option Addr} {n2 c2 : Nat} {m : List UInt8} (hm : Sl w A2 n2 c2 m) (hb : m ≠ [] → ∀ b, blkOf A2 = some b → b < base) (hl : n2 ≤ 1000) :
    Calls Try.prog 33 #[.pointer (some ⟨P, 0, none⟩), .slice A2 n2 c2] w (PairTo w base P P2 e l s (.pointer (some ⟨P, 0, none⟩))) := by
  obtain ⟨A, n, c, hW, hA⟩ := h.w_
  have := text_any w hW hm (fun hz b hb' hf => by
    have h1 := hb hz b hb'
    rcases hf with hf | hf
    · have := h.b1; omega
    · have := (hW.own.lt b hf).1; omega) (by have := hW.len; have := h.len; omega) h.b0
  rw [okB_err h.e_] at this
  exact this.mono fun _ _ k => h.of_w hW hA k
theorem Pair.rnum (h : Pair w base P P2 e l s) (wd : Int) : Calls Try.prog 51 #[.pointer (some ⟨P2, 0, none⟩), .int .i64 wd] w (PairTo w base P P2 e l s (.int .i64 0)) := by
  obtain ⟨A, n, c, hR⟩ := h.r_
  have := rNum_any wd w hR (by have := hR.sl.len; rw [h.l_] at this; simp at this; omega)
  rw [numV_err h.s_, numS_err h.s_] at this
  exact this.mono fun _ _ ⟨h1, h2⟩ => ⟨h1, h.of_r h2⟩
theorem Pair.rcount (h : Pair w base P P2 e l s) (m : Int) : Calls Try.prog 46 #[.pointer (some ⟨P2, 0, none⟩), .int .i64 m] w (PairTo w base P P2 e l s (.int .i64 0)) := by
  obtain ⟨A, n, c, hR⟩ := h.r_
  have := rCount_any m w hR (by have := hR.sl.len; rw [h.l_] at this; simp at this; omega)
  rw [cntRun_err0 h.s_] at this
  exact this.mono fun _ _ ⟨h1, h2⟩ => ⟨h1, h.of_r h2⟩
/-- An empty slice, and the pair as it was. -/
def PairNil (w : World) (base P P2 : Nat) (e : Int) (l : List UInt8) (s : RS) (en : Ending) (w' : World) : Prop :=
  ∃ A c, en = .returned (.slice A 0 c) ∧ Pair w' base P P2 e l s ∧ Below base w w'
theorem Pair.rtext (h : Pair w base P P2 e l s) (m : Int) : Calls Try.prog 54 #[.pointer (some ⟨P2, 0, none⟩), .int .i64 m] w (PairNil w base P P2 e l s) := by
  obtain ⟨A, n, c, hR⟩ := h.r_
  have := rText_any m w hR (by have := hR.sl.len; rw [h.l_] at this; simp at this; omega)
  rw [textO_err h.s_, textS_err h.s_] at this
  exact this.mono fun _ _ ⟨A', c', h1, _, h2⟩ => ⟨A', c', h1, h.of_r h2⟩
theorem Pair.rraw (h : Pair w base P P2 e l s) (m : Int) : Calls Try.prog 56 #[.pointer (some ⟨P2, 0, none⟩), .int .i64 m] w (PairNil w base P P2 e l s) := by
  obtain ⟨A, n, c, hR⟩ := h.r_
  have := rRaw_any m w hR (by have := hR.sl.len; rw [h.l_] at this; simp at this; omega)
  rw [rawO_err h.s_, rawS_err h.s_] at this
  exact this.mono fun _ _ ⟨A', c', h1, _, h2⟩ => ⟨A', c', h1, h.of_r h2⟩
end

/-- A writer and a reader side by side. -/
structure Two (w : World) (base P P2 : Nat) (e : Int) (l : List UInt8) (s : RS) : Prop where
  x_ : ∃ A n c A2 n2 c2, Wr 78 w base P e l A n c ∧ Rr 88 w P2 s A2 n2 c2 ∧ blkOf A ≠ some P2 ∧ (s.l ≠ [] → ∀ b, blkOf A2 = some b → b ≠ P ∧ blkOf A ≠ some b)
  ne : P ≠ P2
  b1 : base ≤ P
  b2 : base ≤ P2
  b0 : base ≤ w.heap.size
def TwoTo (w : World) (base P P2 : Nat) (e : Int) (l : List UInt8) (s : RS) (v : Value) (en : Ending) (w' : World) : Prop :=
  en = .returned v ∧ Two w' base P P2 e l s ∧ Below base w w'
section
variable {w w' : World} {base P P2 : Nat} {e e' : Int} {l l' : List UInt8} {s s' : RS} {en : Ending}
theorem Two.of_w (h : Two w base P P2 e l s) {A A2 : Option Addr} {n c n2 c2 : Nat} (hW : Wr 78 w base P e l A n c) (hR : Rr 88 w P2 s A2 n2 c2) (hA : blkOf A ≠ some P2) (hA2 : s.l ≠ [] → ∀ b, blkOf A2 = some b → b ≠ P ∧ blkOf A ≠ some b)
    (k : WrPost 78 w base P A e' l' en w') : TwoTo w base P P2 e' l' s (.pointer (some ⟨P, 0, none⟩)) en w' := by
  obtain ⟨rfl, A', n', c', h1, h2, h3⟩ := k
  have hB : Below base w w' := h2.to_below h.b0 (fun b hb => hb.elim (fun e => e ▸ h.b1) (fun e => (hW.own.lt b e).1))
  have hP2 := hR.blk.lt
  refine ⟨rfl, ⟨⟨A', n', c', A2, n2, c2, h1, hR.fr' h2 (fun e' => e'.elim (fun x => h.ne x.symm) hA) (fun hz b hb hf => ?_), fun e' => ?_, fun hz b hb => ⟨(hA2 hz b hb).1, fun e' => ?_⟩⟩, h.ne, h.b1, h.b2, Nat.le_trans h.b0 hB.size⟩, hB⟩
  · rcases hf with hf | hf
    · exact (hA2 hz b hb).1 hf
    · exact (hA2 hz b hb).2 hf
  · rcases h3 _ e' with e' | e'
    · exact hA e'
    · omega
  · rcases h3 _ e' with e' | e'
    · exact (hA2 hz b hb).2 e'
    · have := hR.sl.lt hz b hb; omega
theorem Two.of_r (h : Two w base P P2 e l s) {A A2 : Option Addr} {n c : Nat} (hW : Wr 78 w base P e l A n c) (hA : blkOf A ≠ some P2) (hA2 : s.l ≠ [] → ∀ b, blkOf A2 = some b → b ≠ P ∧ blkOf A ≠ some b) (hs : s'.l ≠ [] → s.l ≠ []) (k : RrSt 88 w P2 A2 s' w') :
    Two w' base P P2 e l s' ∧ Below base w w' := by
  obtain ⟨⟨A3, n3, c3, hR, hsub⟩, hf⟩ := k
  have hB : Below base w w' := hf.to_below h.b0 (fun b hb => hb ▸ h.b2)
  exact ⟨⟨⟨A, n, c, A3, n3, c3, hW.fr hf h.ne (fun b hb e' => hA (by rw [hb, e'])), hR, hA, fun hz b hb => hA2 (hs hz) b (hsub b hb)⟩, h.ne, h.b1, h.b2, Nat.le_trans h.b0 hB.size⟩, hB⟩
theorem Two.pair (h : Two w base P P2 e l s) (he : e ≠ 0) (hs : s.e ≠ 0) (hl : s.l = []) (hlen : l.length ≤ 1000) : Pair w base P P2 e l s := by
  obtain ⟨A, n, c, A2, n2, c2, hW, hR, hA, _⟩ := h.x_
  exact ⟨⟨A, n, c, hW, hA⟩, ⟨A2, n2, c2, hR⟩, he, hs, hl, h.ne, h.b1, h.b2, h.b0, hlen⟩
theorem Two.num (h : Two w base P P2 e l s) (wd x e' : Int) (hl : l.length ≤ 1000) (he : putE e (numE wd x) = e') (h0 : numE wd x ≠ 0) :
    Calls Try.prog 29 #[.pointer (some ⟨P, 0, none⟩), .int .i64 wd, .int .i64 x] w (TwoTo w base P P2 e' l s (.pointer (some ⟨P, 0, none⟩))) := by
  obtain ⟨A, n, c, A2, n2, c2, hW, hR, hA, hA2⟩ := h.x_
  have := num_any wd x w hW (by have := hW.len; omega) h.b0
  rw [he, putB_err h0] at this
  exact this.mono fun _ _ k => h.of_w hW hR hA hA2 k
theorem Two.count (h : Two w base P P2 e l s) (x e' : Int) (hl : l.length ≤ 1000) (he : putE e (cntE x) = e') (h0 : cntE x ≠ 0) :
    Calls Try.prog 31 #[.pointer (some ⟨P, 0, none⟩), .int .i64 x] w (TwoTo w base P P2 e' l s (.pointer (some ⟨P, 0, none⟩))) := by
  obtain ⟨A, n, c, A2, n2, c2, hW, hR, hA, hA2⟩ := h.x_
  have := count_any x w hW (by have := hW.len; omega) h.b0
  rw [he, putB_err h0] at this
  exact this.mono fun _ _ k => h.of_w hW hR hA hA2 k
/-- A slice, and the two. -/
def TwoB (w : World) (base P P2 : Nat) (e : Int) (l : List UInt8) (s : RS) (en : Ending) (w' : World) : Prop :=
  ∃ A n c, en = .returned (.slice A n c) ∧ Two w' base P P2 e l s ∧ Below base w w'
theorem Two.rraw (h : Two w base P P2 e l s) (k : Int) (hl : s.l.length ≤ 1000) (hs : rawS k s = s') (hz : s'.l ≠ [] → s.l ≠ []) :
    Calls Try.prog 56 #[.pointer (some ⟨P2, 0, none⟩), .int .i64 k] w (TwoB w base P P2 e l s') := by
  obtain ⟨A, n, c, A2, n2, c2, hW, hR, hA, hA2⟩ := h.x_
  have := rRaw_any k w hR (by have := hR.sl.len; omega)
  rw [hs] at this
  exact this.mono fun _ _ ⟨A', c', h1, _, h2⟩ => ⟨A', _, c', h1, h.of_r hW hA hA2 hz h2⟩
theorem Two.rnum (h : Two w base P P2 e l s) (k v : Int) (hl : s.l.length ≤ 1000) (hv : numV k s = v) (hs : numS k s = s') (hz : s'.l ≠ [] → s.l ≠ []) :
    Calls Try.prog 51 #[.pointer (some ⟨P2, 0, none⟩), .int .i64 k] w (TwoTo w base P P2 e l s' (.int .i64 v)) := by
  obtain ⟨A, n, c, A2, n2, c2, hW, hR, hA, hA2⟩ := h.x_
  have := rNum_any k w hR (by have := hR.sl.len; omega)
  rw [hs, hv] at this
  exact this.mono fun _ _ ⟨h1, h2⟩ => ⟨h1, h.of_r hW hA hA2 hz h2⟩
theorem Two.rcount (h : Two w base P P2 e l s) (k v : Int) (hl : s.l.length ≤ 1000) (hv : cntRun k 8 0 s = (v, s')) (hz : s'.l ≠ [] → s.l ≠ []) :
    Calls Try.prog 46 #[.pointer (some ⟨P2, 0, none⟩), .int .i64 k] w (TwoTo w base P P2 e l s' (.int .i64 v)) := by
  obtain ⟨A, n, c, A2, n2, c2, hW, hR, hA, hA2⟩ := h.x_
  have := rCount_any k w hR (by have := hR.sl.len; omega)
  rw [hv] at this
  exact this.mono fun _ _ ⟨h1, h2⟩ => ⟨h1, h.of_r hW hA hA2 hz h2⟩
end
theorem Pair.name {w : World} {base P P2 : Nat} {e : Int} {l : List UInt8} {s : RS} (h : Pair w base P P2 e l s) : ∃ ew sw, Hid (ew = e) ∧ Hid (sw = s) ∧ Pair w base P P2 ew l sw := ⟨e, s, rfl, rfl, h⟩
theorem Pair.drew {w : World} {base P P2 : Nat} {e : Int} {l : List UInt8} {s : RS} (h : Pair w base P P2 e l s) : Pair w.drew base P P2 e l s := by
  obtain ⟨A, n, c, hW, hA⟩ := h.w_
  obtain ⟨A2, n2, c2, hR⟩ := h.r_
  exact ⟨⟨A, n, c, ⟨hW.blk, hW.own.drew⟩, hA⟩, ⟨A2, n2, c2, ⟨hR.blk, hR.sl.drew, hR.ne⟩⟩, h.e_, h.s_, h.l_, h.ne, h.b1, h.b2, h.b0, h.len⟩
end Go.Proofs.Ytblpnlobicjccaa
