/- Package disk: a disk in memory; its small parts (none, live, copied, tear). -/
import Derived.Test.YtblpnlobicjccaaRow
import Derived.Test.YtblpnlobicjccaaPuts
import Derived.Laws.CopyOwn
import Derived.Laws.EntriesVeiled
import Derived.BigRegion
import Derived.BigQuiet
import Derived.Deep.RegionLaw
namespace Go.Proofs.Ytblpnlobicjccaa
open Go.RowKit

/-- n zero bytes. -/
def zs (n : Nat) : List UInt8 := List.replicate n 0
theorem zs_len (n : Nat) : (zs n).length = n := by simp [zs]
/-- 'make([]byte, C)': a row of zeros, of the call's own. -/
theorem make_bytes {P : Program} {w : World} {ops : Array Oper} {rest : List Oper} {o : Oper} {a : Act} {Q : Exit → Act → World → Prop}
    (hg : o.guard = none) (l c : Operand) (t : TypeId) (hop : o.op = Op.makeSlice t l c) (E : TypeId) (h1 : P.underlying t = some (.slice E)) (h2 : (P.info? E).map (fun i => (i.zero, i.size, i.bytes)) = some (some (.int .u8 0), 1, 1))
    {L C : Int} (n : Nat) (hl : a.eval l = .int .i64 L) (hc : a.eval c = .int .i64 C) (hL : L = (n : Int)) (hC : C = (n : Int)) (hn : n ≤ 140737488355328)
    (hK : ∀ g w', w.heap.size ≤ g → Own w' w.heap.size E (some ⟨g, 0, none⟩) n n (zs n) → Below w.heap.size w w' → wpList P ops Q rest (a.put o.dst (.slice (some ⟨g, 0, none⟩) n n)) w') :
    wpList P ops Q (o :: rest) a w := by
  obtain ⟨i, hi, hzz⟩ := Option.map_eq_some_iff.1 h2
  simp only [Prod.mk.injEq] at hzz
  obtain ⟨hz, hs, hb⟩ := hzz
  refine wpList_make_full w hg l c t hop w.heap.size E i _ 1 h1 hi hz hs .i64 .i64 L C n hl hc hL hC (by rw [hb]; omega) (by unfold maxLen; omega) (Nat.le_refl _) fun w' hr hgr => ?_
  refine hK _ w' (Nat.le_refl _) ⟨by simp [zs], ?_⟩ ((Fr.of_grown hgr).to_below (Nat.le_refl _) (fun b hb => by cases hb))
  have e : (madeCells (Value.int .u8 0).cells (n * 1)).toList = (zs n).map bv := by
    rw [Nat.mul_one, show (Value.int IntKind.u8 0).cells = #[.int .u8 0] from rfl, toList_madeCells_one]; simp [zs]
  rw [← e]; exact hr

/-- The bytes m laid over L from place off on. -/
theorem copy_bytes {P : Program} {w : World} {ops : Array Oper} {rest : List Oper} {o : Oper} {a : Act} {Q : Exit → Act → World → Prop} (hgd : o.guard = none) (d s : Operand) (dT sT : TypeId)
    (ho : o.op = .call { callee := .builtin .copy, args := #[d, s], argTypes := #[dT, sT] }) (E : TypeId) (hu : P.underlying dT = some (.slice E)) (hsz : (P.info? E).map (·.size) = some 1)
    {g off dLen dCap n c m cm base : Nat} {sp : Option Addr} {L l : List UInt8} (hd : a.eval d = .slice (some ⟨g, off, none⟩) dLen dCap) (hs : a.eval s = .slice sp m cm)
    (hO : Own w base E (some ⟨g, 0, none⟩) n c L) (hx : Sl w sp m cm l) (hm : m ≤ dLen) (hfit : off + m ≤ n)
    (h : ∀ w', Own w' base E (some ⟨g, 0, none⟩) n c (splice L off l) → Below base w w' → wpList P ops Q rest (a.put o.dst (goInt m)) w') : wpList P ops Q (o :: rest) a w := by
  have hl := hO.len
  have hlm := hx.len
  rcases hO.row.2 with ⟨hv, h0⟩ | ⟨g', cap, cur, hv, hb, hg, h1, h2, h3, h4⟩
  · injection hv with e; cases e
  · have e1 : g = g' := by injection hv with e; injection e with e; injection e
    have e2 : c = cap := by injection hv
    subst e1; subst e2
    have hlen : (l.map bv).length = m := by simp [hlm]
    refine wpList_copy_splice hgd d s dT sT ho E hu hsz _ _ dLen dCap m cm hd hs g off cur.toList E hg (l.map bv) ?_ ?_ ?_ (bv_oneCell l) base w (Below.refl _ _) hb ?_
    · rw [hlen]; simp [Nat.min_def]; omega
    · intro hp
      refine ⟨rfl, ?_⟩
      rcases hx.rd with e | ⟨b, o', e, _⟩
      · subst e; simp at hp
      · exact ⟨_, e, hx.rd.cells e⟩
    · rw [hlen]; simp; omega
    · intro w' hg' hb'
      rw [hlen]
      refine h w' ⟨?_, ?_, ?_⟩ hb'
      · rw [length_splice L off l (by omega)]; exact hl
      · rw [List.length_map, length_splice L off l (by omega)]; omega
      · refine .inr ⟨g, c, (splice cur.toList off (l.map bv)).toArray, rfl, hb, hg'.out, h1, h2, ?_, ?_⟩
        · simp only [List.size_toArray]
          rw [length_splice _ _ _ (by rw [hlen]; simp; omega)]; simpa using h3
        · have hL : L.map bv = cur.toList.take n := by simpa using h4.symm
          have : (splice L off l).map bv = splice (L.map bv) off (l.map bv) := by simp [splice]
          rw [this, hL]
          have hcl : n ≤ cur.toList.length := by simp; omega
          have hto : (cur.toList.take off).length = off := by rw [List.length_take]; omega
          simp only [splice]
          simp only [Nat.mul_one]
          rw [List.take_append, List.take_append, hto, hlen, List.take_take, List.take_take, List.drop_take, Nat.min_eq_left (show off ≤ n by omega), Nat.min_eq_right (show off ≤ n by omega), List.take_of_length_le (l := l.map bv) (by rw [hlen]; omega), show n - off - m = n - (off + m) by omega]
theorem splice_whole {α : Type} (L l : List α) (h : L.length = l.length) : splice L 0 l = l := by simp [splice, ← h]
theorem infoSz : (Try.prog.info? 5).map (·.size) = some 1 := by kernel_rfl

set_option maxHeartbeats 400000 in
theorem copied_any {A : Option Addr} {n c : Nat} {l : List UInt8} (w : World) (h : Sl w A n c l) (hl : n ≤ 140737488355328) :
    Calls Try.prog 64 #[.slice A n c] w (Fresh w l) := by
  have hlen := h.len
  have H := Lib.hid hlen
  clear hlen
  go_enter Try.func64, Try.ntmps64
  go_wp2_with (first | (at_make; refine make_bytes rfl _ _ _ rfl 5 Try.underlying26 infoU8 n rfl rfl rfl rfl hl ?_; intro g w1 hg hO hB) | (refine copy_bytes rfl _ _ _ _ rfl 5 Try.underlying26 infoSz rfl rfl hO (h.old hB) (Nat.le_refl _) (by omega) ?_; intro w2 hO2 hB2))
  rw [splice_whole _ _ (by rw [zs_len]; exact H.out)] at hO2
  have HB := Lib.hid (hB.trans (hB2.mono (Nat.le_refl _)))
  have HO := Lib.hid hO2
  clear hO hB hB2 hO2 hg
  go_wp2
  go_ret
  exact ⟨_, n, by rw [← H.out]; rfl, by rw [← H.out]; exact HO.out, HB.out⟩

/-- What a disk holds: its bytes, how many are synced, whether it is dead, how it is armed, its trace. -/
structure DS where
  b : List UInt8
  n : Nat
  dead : Bool
  arm : Option Nat
  t : List (List UInt8)
/-- The function value that tells whether a sync holds: always, or (armed) a closure over a box. -/
def Held (w : World) (F : Nat → Prop) (arm : Option Nat) (hv : Value) : Prop :=
  match arm with
  | none => hv = .func (.func 61) #[] #[]
  | some k => ∃ B, hv = .func (.func 65) #[] #[.pointer (some ⟨B, 0, none⟩)] ∧ Blk w B 3 #[.int .i64 k] ∧ F B ∧ k ≤ 9223372036854775807
/-- How the reference is armed. -/
def armI (arm : Option Nat) : Int := match arm with | none => -1 | some k => k
/-- A slice value that reads as bytes, at a block of F. -/
def SlV (w : World) (F : Nat → Prop) (v : Value) (l : List UInt8) : Prop := ∃ A n c, v = .slice A n c ∧ Sl w A n c l ∧ (∀ b, blkOf A = some b → F b) ∧ n ≤ 1048576
/-- Lists of like length whose elements stand to each other. -/
def All2 {α β : Type} (R : α → β → Prop) (l : List α) (m : List β) : Prop := l.length = m.length ∧ ∀ (i : Nat) (x : α) (y : β), l[i]? = some x → m[i]? = some y → R x y
theorem All2.nil {α β : Type} (R : α → β → Prop) : All2 R [] [] := ⟨rfl, fun i x y h => by simp at h⟩
theorem All2.mono {α β : Type} {R R' : α → β → Prop} {l : List α} {m : List β} (h : All2 R l m) (k : ∀ x y, R x y → R' x y) : All2 R' l m := ⟨h.1, fun i x y a b => k x y (h.2 i x y a b)⟩
theorem All2.snoc {α β : Type} {R : α → β → Prop} {l : List α} {m : List β} (h : All2 R l m) {x : α} {y : β} (hr : R x y) : All2 R (l ++ [x]) (m ++ [y]) := by
  refine ⟨by simp [h.1], fun i x' y' h1 h2 => ?_⟩
  by_cases hi : i < l.length
  · rw [List.getElem?_append_left hi] at h1
    rw [List.getElem?_append_left (by rw [← h.1]; exact hi)] at h2
    exact h.2 i x' y' h1 h2
  · have e : i = l.length := by
      have := (List.getElem?_eq_some_iff.1 h1).1
      simp at this; omega
    subst e
    rw [List.getElem?_append_right (Nat.le_refl _)] at h1
    rw [h.1, List.getElem?_append_right (Nat.le_refl _)] at h2
    simp at h1 h2
    subst h1; subst h2
    exact hr

/-- A disk's parts in memory, but for the fourth field: its struct (of type T) at block P, its bytes, its trace; all at blocks of F. -/
structure Core (T : TypeId) (w : World) (base : Nat) (F : Nat → Prop) (P : Nat) (hv : Value) (s : DS) (A : Option Addr) (c : Nat) (TA : Option Addr) (cT : Nat) (vs : List Value) : Prop where
  blk : Blk w P T #[.slice A s.b.length c, .int .i64 s.n, .bool s.dead, hv, .slice TA s.t.length cT]
  own : Own w base 5 A s.b.length c s.b
  tr : Row w base 26 1 TA s.t.length cT vs
  els : All2 (fun v l => ∃ Z : Nat → Prop, SlV w Z v l ∧ ∀ b, Z b → F b ∧ b ≠ P ∧ blkOf A ≠ some b ∧ blkOf TA ≠ some b) vs s.t
  fP : F P
  fA : ∀ b, blkOf A = some b → F b
  fT : ∀ b, blkOf TA = some b → F b
  lt : ∀ b, F b → base ≤ b ∧ b < w.heap.size
  base_ : base ≤ w.heap.size
  syn : s.n ≤ s.b.length
  len : s.b.length ≤ 1048576
  tlen : s.t.length ≤ 1000

/-- The program's disk; the reference's. -/
def Dk (w : World) (base : Nat) (F : Nat → Prop) (P : Nat) (s : DS) : Prop := ∃ hv A c TA cT vs, Core 65 w base F P hv s A c TA cT vs ∧ Held w (fun b => F b ∧ b ≠ P ∧ blkOf A ≠ some b ∧ blkOf TA ≠ some b) s.arm hv
def Rk (w : World) (base : Nat) (F : Nat → Prop) (P : Nat) (s : DS) : Prop := ∃ A c TA cT vs, Core 87 w base F P (.int .i64 (armI s.arm)) s A c TA cT vs
section
variable {T : TypeId} {w w' : World} {base P : Nat} {F S : Nat → Prop} {hv : Value} {s : DS} {A : Option Addr} {c : Nat} {TA : Option Addr} {cT : Nat} {vs : List Value} {arm : Option Nat}
theorem SlV.fr {v : Value} {l : List UInt8} (h : SlV w F v l) (k : Fr S w w') (hS : ∀ b, F b → ¬ S b) : SlV w' F v l := by
  obtain ⟨A, n, c, rfl, h1, h2, h3⟩ := h
  exact ⟨A, n, c, rfl, h1.fr k (fun b hb => hS b (h2 b hb)), h2, h3⟩
theorem Held.fr (h : Held w F arm hv) (k : Fr S w w') (hS : ∀ b, F b → ¬ S b) : Held w' F arm hv := by
  cases arm with
  | none => exact h
  | some n =>
    obtain ⟨B, h1, h2, h3, h4⟩ := h
    exact ⟨B, h1, h2.fr k (hS B h3), h3, h4⟩
theorem Held.mono {F' : Nat → Prop} (h : Held w F arm hv) (k : ∀ b, F b → F' b) : Held w F' arm hv := by
  cases arm with
  | none => exact h
  | some n =>
    obtain ⟨B, h1, h2, h3, h4⟩ := h
    exact ⟨B, h1, h2, k B h3, h4⟩
theorem Core.fr (h : Core T w base F P hv s A c TA cT vs) (k : Fr S w w') (hS : ∀ b, F b → ¬ S b) : Core T w' base F P hv s A c TA cT vs :=
  ⟨h.blk.fr k (hS P h.fP), h.own.fr k (fun b hb => hS b (h.fA b hb)), h.tr.fr k (fun b hb => hS b (h.fT b hb)), h.els.mono (fun _ _ ⟨Z, h1, h2⟩ => ⟨Z, h1.fr k (fun b hb => hS b (h2 b hb).1), h2⟩), h.fP, h.fA, h.fT,
    fun b hb => ⟨(h.lt b hb).1, Nat.lt_of_lt_of_le (h.lt b hb).2 k.size⟩, Nat.le_trans h.base_ k.size, h.syn, h.len, h.tlen⟩
theorem Dk.fr (h : Dk w base F P s) (k : Fr S w w') (hS : ∀ b, F b → ¬ S b) : Dk w' base F P s := by
  obtain ⟨hv, A, c, TA, cT, vs, h1, h2⟩ := h
  exact ⟨hv, A, c, TA, cT, vs, h1.fr k hS, h2.fr k (fun b hb => hS b hb.1)⟩
theorem Rk.fr (h : Rk w base F P s) (k : Fr S w w') (hS : ∀ b, F b → ¬ S b) : Rk w' base F P s := by
  obtain ⟨A, c, TA, cT, vs, h1⟩ := h
  exact ⟨A, c, TA, cT, vs, h1.fr k hS⟩
theorem Dk.old (h : Dk w base F P s) (k : Below w.heap.size w w') : Dk w' base F P s := h.fr (Fr.of_below (S := fun _ => False) k) (fun _ _ => id)
theorem Rk.old (h : Rk w base F P s) (k : Below w.heap.size w w') : Rk w' base F P s := h.fr (Fr.of_below (S := fun _ => False) k) (fun _ _ => id)
theorem Core.drew (h : Core T w base F P hv s A c TA cT vs) : Core T w.drew base F P hv s A c TA cT vs := h.fr ((Fr.refl (fun _ => False) w).drew) (fun _ _ => id)
theorem Core.neA (h : Core T w base F P hv s A c TA cT vs) (hT : 5 ≠ T) : blkOf A ≠ some P := h.own.ne_blk h.blk hT
theorem Core.neT (h : Core T w base F P hv s A c TA cT vs) (hT : 26 ≠ T) : blkOf TA ≠ some P := h.tr.ne_blk h.blk hT
theorem Core.neAT (h : Core T w base F P hv s A c TA cT vs) : ∀ b, blkOf TA = some b → ¬ blkOf A = some b := h.tr.ne_row h.own.toRow (by decide)
end

/-- What the tear of a tail leaves. -/
def tearS (k : Nat) (s : DS) : DS := { s with n := s.n + min k (s.b.length - s.n), b := s.b.take (s.n + min k (s.b.length - s.n)), dead := true }
/-- The struct's own cells turned: bytes cut to the first m, synced set, dead or not. -/
theorem Core.turn {T : TypeId} {w w' : World} {base P : Nat} {F : Nat → Prop} {hv hv' : Value} {s : DS} {A : Option Addr} {c : Nat} {TA : Option Addr} {cT : Nat} {vs : List Value} (h : Core T w base F P hv s A c TA cT vs) (hT : 5 ≠ T) (hT2 : 26 ≠ T)
    (k : Fr (fun b => b = P) w w') (m n' : Nat) (hm : m ≤ s.b.length) (hn : n' ≤ m) (d : Bool) (arm' : Option Nat) (hb : Blk w' P T #[.slice A m c, .int .i64 n', .bool d, hv', .slice TA s.t.length cT]) :
    Core T w' base F P hv' ⟨s.b.take m, n', d, arm', s.t⟩ A c TA cT vs := by
  have hl : (s.b.take m).length = m := by simp; omega
  refine ⟨by rw [hl]; exact hb, ?_, h.tr.fr k (fun b hb e => h.neT hT2 (e ▸ hb)), h.els.mono (fun _ _ ⟨Z, h1, h2⟩ => ⟨Z, h1.fr k (fun b hb => (h2 b hb).2.1), h2⟩), h.fP, h.fA, h.fT,
    fun b hb => ⟨(h.lt b hb).1, Nat.lt_of_lt_of_le (h.lt b hb).2 k.size⟩, Nat.le_trans h.base_ k.size, by rw [hl]; exact hn, by rw [hl]; have := h.len; omega, h.tlen⟩
  rw [hl]
  exact (h.own.take hm).fr k (fun b hb e => h.neA hT (e ▸ hb))

set_option maxHeartbeats 1000000 in
theorem tear_core {w : World} {base P : Nat} {F : Nat → Prop} {hv : Value} {s : DS} {A : Option Addr} {c : Nat} {TA : Option Addr} {cT : Nat} {vs : List Value} (h : Core 65 w base F P hv s A c TA cT vs) (k : Nat) :
    Calls Try.prog 66 #[.pointer (some ⟨P, 0, none⟩), .int .i64 k] w fun en w' => en = .returned (.tuple #[]) ∧ Core 65 w' base F P hv (tearS k s) A c TA cT vs ∧ Fr (fun b => b = P) w w' := by
  have hsyn := h.syn
  have hlen := h.len
  have c0 : w.cell? ⟨P, 0, none⟩ = some (.slice A s.b.length c) := h.blk.cell 0
  have c1 : w.cell? ⟨P, 1, none⟩ = some (.int .i64 s.n) := h.blk.cell 1
  have c2 : w.cell? ⟨P, 2, none⟩ = some (.bool s.dead) := h.blk.cell 2
  have f0 := h.blk.frozen 0
  have f1 := h.blk.frozen 1
  have f2 := h.blk.frozen 2
  have hcap := h.own.cap
  obtain ⟨L, hL⟩ : ∃ L, s.b.length = L := ⟨_, rfl⟩
  obtain ⟨n, hn⟩ : ∃ n, s.n = n := ⟨_, rfl⟩
  obtain ⟨q, hq⟩ : ∃ q, q = min k (s.b.length - s.n) := ⟨_, rfl⟩
  rw [hL] at c0 hcap
  rw [hn] at c1
  obtain ⟨r, hr⟩ : ∃ r, r = L - n := ⟨_, rfl⟩
  obtain ⟨m, hm⟩ : ∃ m, m = n + q := ⟨_, rfl⟩
  have hnq : m ≤ L := by omega
  have HM0 := Lib.hid (show m ≤ s.b.length by omega)
  have hmc : m ≤ c := by omega
  have e1 : IntKind.i64.wrap ((L : Int) - (n : Int)) = (r : Int) := by rw [IntKind.wrap_i64]; omega
  have e2 : (if r < k then (r : Int) else (k : Int)) = (q : Int) := by split <;> omega
  have e3 : wrap64 ((n : Int) + (q : Int)) = (m : Int) := by unfold wrap64; omega
  have hhi := fun w => run_cut_hi w A L c m hmc
  have H := Lib.hid h
  have K := Lib.hid (show tearS k s = ⟨s.b.take m, m, true, s.arm, s.t⟩ by unfold tearS; rw [← hq, hn, ← hm])
  have HM := HM0
  have HB := Lib.hid h.blk
  have HL := Lib.hid hL
  rw [K.out]
  clear h hsyn hlen hL hn hq hr hm hcap
  go_enter Try.func66, Try.ntmps66
  go_wp2_with fail
  go_region
  have hb2 : Blk (w.setCell ⟨P, 1, none⟩ (.int .i64 (m : Int))).drew P 65 #[.slice A s.b.length c, .int .i64 m, .bool s.dead, hv, .slice TA s.t.length cT] := (HB.out.set_ 1 (.int .i64 (m : Int))).drew
  have HF := Lib.hid (((Fr.refl (fun b => b = P) w).setCell (p := ⟨P, 1, none⟩) (.inl rfl) (.int .i64 (m : Int))).drew)
  generalize (w.setCell ⟨P, 1, none⟩ (.int .i64 (m : Int))).drew = w1 at *
  have d0 : w1.cell? ⟨P, 0, none⟩ = some (.slice A s.b.length c) := hb2.cell 0
  have d1 : w1.cell? ⟨P, 1, none⟩ = some (.int .i64 (m : Int)) := hb2.cell 1
  have d2 : w1.cell? ⟨P, 2, none⟩ = some (.bool s.dead) := hb2.cell 2
  have g0 := hb2.frozen 0
  have g2 := hb2.frozen 2
  have HB2 := Lib.hid hb2
  rw [HL.out] at d0
  clear c0 c1 c2 f0 f1 f2 HB hb2
  clear e1 e2 e3 hnq
  go_wp2_with fail
  go_region
  go_end0
  have k2 : Fr (fun b => b = P) w ((w1.setCell ⟨P, 0, none⟩ (.slice A m c)).setCell ⟨P, 2, none⟩ (.bool true)).drew :=
    ((HF.out.setCell (p := ⟨P, 0, none⟩) (.inl rfl) _).setCell (p := ⟨P, 2, none⟩) (.inl rfl) _).drew
  exact ⟨rfl, H.out.turn (by decide) (by decide) k2 m m HM.out (Nat.le_refl _) true s.arm ((HB2.out.set_ 0 (.slice A m c)).set_ 2 (.bool true)).drew, k2⟩

section
variable {w : World} {base P : Nat} {F : Nat → Prop} {s : DS}
/-- What a disk's method leaves. -/
def DkPost (w : World) (base : Nat) (F : Nat → Prop) (P : Nat) (v : Value) (s' : DS) (en : Ending) (w' : World) : Prop :=
  en = .returned v ∧ ∃ F' : Nat → Prop, Dk w' base F' P s' ∧ (∀ b, F' b → F b ∨ w.heap.size ≤ b) ∧ Fr F w w'
theorem DkPost.same {v : Value} (h : Dk w base F P s) : DkPost w base F P v s (.returned v) w := ⟨rfl, F, h, fun _ hb => .inl hb, Fr.refl _ _⟩

set_option maxHeartbeats 400000 in
theorem dnone_any (h : Dk w base F P s) : Calls Try.prog 62 #[.pointer (some ⟨P, 0, none⟩)] w fun en w' => en = .returned (.bool false) ∧ w = w' := by
  obtain ⟨hv, A, c, TA, cT, vs, h1, h2⟩ := h
  have c3 : w.cell? ⟨P, 3, none⟩ = some hv := h1.blk.cell 3
  clear h1
  rcases hs : s.arm with _ | k
  · rw [hs] at h2
    obtain rfl := h2
    have hq := fun (w : World) => (show (binOp .eql 63 (.func (.func 61) #[] #[]) .nilFunc).run Try.prog w = .ok (.bool false) w from rfl)
    go_enter Try.func62, Try.ntmps62
    go_wp2
    go_ret
    exact ⟨rfl, rfl⟩
  · rw [hs] at h2
    obtain ⟨B, rfl, _⟩ := h2
    have hq := fun (w : World) => (show (binOp .eql 63 (.func (.func 65) #[] #[.pointer (some ⟨B, 0, none⟩)]) .nilFunc).run Try.prog w = .ok (.bool false) w from rfl)
    go_enter Try.func62, Try.ntmps62
    go_wp2
    go_ret
    exact ⟨rfl, rfl⟩

set_option maxHeartbeats 400000 in
theorem dlive_any (h : Dk w base F P s) : Calls Try.prog 63 #[.pointer (some ⟨P, 0, none⟩)] w fun en w' => en = .returned (.int .i64 (if s.dead then 130 else 0)) ∧ w = w' := by
  have Q := Lib.hid (dnone_any h)
  obtain ⟨hv, A, c, TA, cT, vs, h1, h2⟩ := h
  have c2 : w.cell? ⟨P, 2, none⟩ = some (.bool s.dead) := h1.blk.cell 2
  clear h1 h2
  cases hd : s.dead
  all_goals
    rw [hd] at c2
    clear hd
    go_enter Try.func63, Try.ntmps63
    go_wp2_with (go_at_call 62; refine Q.out.mono ?_; rintro en w' ⟨rfl, rfl⟩)
    go_ret
    exact ⟨rfl, rfl⟩

set_option maxHeartbeats 400000 in
theorem always_any (p : Value) (w : World) : Calls Try.prog 61 #[p] w fun en w' => en = .returned (.bool true) ∧ w = w' := by
  go_enter Try.func61, Try.ntmps61
  go_wp2
  go_ret
  exact ⟨rfl, rfl⟩
end

set_option maxHeartbeats 400000 in
theorem armc_core {w : World} {base P B : Nat} {F : Nat → Prop} {hv : Value} {s : DS} {A : Option Addr} {c : Nat} {TA : Option Addr} {cT : Nat} {vs : List Value} (h : Core 65 w base F P hv s A c TA cT vs) (k : Nat) (hb : Blk w B 3 #[.int .i64 k]) :
    Calls Try.prog 65 #[.pointer (some ⟨P, 0, none⟩), .pointer (some ⟨B, 0, none⟩)] w fun en w' => en = .returned (.bool false) ∧ Core 65 w' base F P hv (tearS k s) A c TA cT vs ∧ Fr (fun b => b = P) w w' := by
  have Q := Lib.hid (tear_core h k)
  have c0 : w.cell? ⟨B, 0, none⟩ = some (.int .i64 k) := hb.cell 0
  clear h hb
  go_enter Try.func65, Try.ntmps65
  go_wp2_with fail
  refine Q.out.mono ?_
  rintro en w1 ⟨rfl, h1, h2⟩
  go_wp2
  go_ret
  exact ⟨rfl, h1, h2⟩
end Go.Proofs.Ytblpnlobicjccaa
