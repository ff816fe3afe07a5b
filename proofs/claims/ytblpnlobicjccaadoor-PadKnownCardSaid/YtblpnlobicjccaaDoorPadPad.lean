/- Package pad: Pad, of both sides. -/
import Derived.Test.YtblpnlobicjccaaDoorPadClass
import Derived.Laws.CopyOwn
namespace Go.Proofs.YtblpnlobicjccaaDoor
open Go.RowKit

/-- n zero bytes. -/
def zs (n : Nat) : List UInt8 := List.replicate n 0
theorem zs_set0 (n : Nat) : (zs n).set 0 0 = zs n := by
  cases n with
  | zero => rfl
  | succ n => rfl
/-- 'make([]byte, C)': a row of zeros, of the call's own. -/
theorem make_bytes {P : Program} {w : World} {ops : Array Oper} {rest : List Oper} {o : Oper} {a : Act} {Q : Exit → Act → World → Prop}
    (hg : o.guard = none) (l c : Operand) (t : TypeId) (hop : o.op = Op.makeSlice t l c) (E : TypeId) (h1 : P.underlying t = some (.slice E)) (h2 : (P.info? E).map (fun i => (i.zero, i.size, i.bytes)) = some (some (.int .u8 0), 1, 1))
    {L C : Int} (n : Nat) (hl : a.eval l = .int .i64 L) (hc : a.eval c = .int .i64 C) (hL : L = (n : Int)) (hC : C = (n : Int)) (hn : n ≤ 140737488355328)
    (hK : ∀ g w', w.heap.size ≤ g → Own w' w.heap.size E (some ⟨g, 0, none⟩) n n (zs n) → Below w.heap.size w w' → wpList P ops Q rest (a.put o.dst (.slice (some ⟨g, 0, none⟩) n n)) w') :
    wpList P ops Q (o :: rest) a w := by
  obtain ⟨i, hi, hzz⟩ := Option.map_eq_some_iff.1 h2
  simp only [Prod.mk.injEq] at hzz
  obtain ⟨hz, hs, hb⟩ := hzz
  refine wpList_make_full w hg l c t hop w.heap.size E i _ 1 h1 hi hz hs .i64 .i64 L C n hl hc hL hC (by rw [hb]; omega) (by unfold maxLen; omega) (Nat.le_refl _) fun w' hr hgr => ?_
  refine hK _ w' (Nat.le_refl _) ⟨by simp [zs], ?_⟩ ((Fr.of_grown hgr).to_below (Nat.le_refl _) (fun b hb => by cases hb))
  have e : (madeCells (Value.int .u8 0).cells (n * 1)).toList = (zs n).map bv := by
    rw [Nat.mul_one, show (Value.int IntKind.u8 0).cells = #[.int .u8 0] from rfl, toList_madeCells_one]; simp [zs]
  rw [← e]; exact hr

/-- The bytes m laid over L from place off on. -/
theorem copy_bytes {P : Program} {w : World} {ops : Array Oper} {rest : List Oper} {o : Oper} {a : Act} {Q : Exit → Act → World → Prop} (hgd : o.guard = none) (d s : Operand) (dT sT : TypeId)
    (ho : o.op = .call { callee := .builtin .copy, args := #[d, s], argTypes := #[dT, sT] }) (E : TypeId) (hu : P.underlying dT = some (.slice E)) (hsz : (P.info? E).map (·.size) = some 1)
    {g off dLen dCap n c m cm base : Nat} {sp : Option Addr} {L l : List UInt8} (hd : a.eval d = .slice (some ⟨g, off, none⟩) dLen dCap) (hs : a.eval s = .slice sp m cm)
    (hO : Own w base E (some ⟨g, 0, none⟩) n c L) (hx : Sl w sp m cm l) (hm : m ≤ dLen) (hfit : off + m ≤ n) (hn : 0 < n)
    (h : ∀ w', Own w' base E (some ⟨g, 0, none⟩) n c (splice L off l) → Below base w w' → wpList P ops Q rest (a.put o.dst (goInt m)) w') : wpList P ops Q (o :: rest) a w := by
  have hl := hO.len
  have hlm := hx.len
  rcases hO.row.2 with ⟨hv, h0⟩ | ⟨g', cap, cur, hv, hb, hg, h1, h2, h3, h4⟩
  · omega
  · have e1 : g = g' := by injection hv with e; injection e with e; injection e
    have e2 : c = cap := by injection hv
    subst e1; subst e2
    have hlen : (l.map bv).length = m := by simp [hlm]
    refine wpList_copy_splice hgd d s dT sT ho E hu hsz _ _ dLen dCap m cm hd hs g off cur.toList E hg (l.map bv) ?_ ?_ ?_ (bv_oneCell l) base w (Below.refl _ _) hb ?_
    · rw [hlen]; simp [Nat.min_def]; omega
    · intro hp
      refine ⟨rfl, ?_⟩
      rcases hx.rd with e | ⟨b, o', e, _⟩
      · subst e; simp at hp
      · exact ⟨_, e, hx.rd.cells e⟩
    · rw [hlen]; simp; omega
    · intro w' hg' hb'
      rw [hlen]
      refine h w' ⟨?_, ?_, ?_⟩ hb'
      · rw [length_splice L off l (by omega)]; exact hl
      · rw [List.length_map, length_splice L off l (by omega)]; omega
      · refine .inr ⟨g, c, (splice cur.toList off (l.map bv)).toArray, rfl, hb, hg'.out, h1, h2, ?_, ?_⟩
        · simp only [List.size_toArray]
          rw [length_splice _ _ _ (by rw [hlen]; simp; omega)]; simpa using h3
        · have hL : L.map bv = cur.toList.take n := by simpa using h4.symm
          have : (splice L off l).map bv = splice (L.map bv) off (l.map bv) := by simp [splice]
          rw [this, hL]
          have hcl : n ≤ cur.toList.length := by simp; omega
          have hto : (cur.toList.take off).length = off := by rw [List.length_take]; omega
          simp only [splice]
          simp only [Nat.mul_one]
          rw [List.take_append, List.take_append, hto, hlen, List.take_take, List.take_take, List.drop_take, Nat.min_eq_left (show off ≤ n by omega), Nat.min_eq_right (show off ≤ n by omega), List.take_of_length_le (l := l.map bv) (by rw [hlen]; omega), show n - off - m = n - (off + m) by omega]

/-- The byte that a number leaves. -/
def byteOf (z : Int) : UInt8 := UInt8.ofNat (z % 256).toNat
theorem byteOf_toNat (z : Int) : ((byteOf z).toNat : Int) = z % 256 := by
  have h1 := Int.emod_nonneg z (show (256 : Int) ≠ 0 by decide)
  have h2 := Int.emod_lt_of_pos z (show (0 : Int) < 256 by decide)
  unfold byteOf
  rw [UInt8.toNat_ofNat']
  omega
theorem bv_byteOf (z : Int) : Value.int .u8 (IntKind.u8.wrap z) = bv (byteOf z) := by
  rw [bv, byteOf_toNat, IntKind.wrap_u8]
theorem bv_small (z : Int) (h0 : 0 ≤ z) (h1 : z < 256) : Value.int .u8 z = bv (byteOf z) := by
  rw [bv, byteOf_toNat, Int.emod_eq_of_lt h0 h1]
theorem litSl (w : World) (l : List UInt8) (cs : Array Value) (n : Nat) (mk : Nat × Nat) (hc : cs = (l.map bv).toArray) (hn : n = l.length) (hl : l.length ≤ 1000) : Sl (w.alloc (.cells cs 5 mk)) (some ⟨w.heap.size, 0, none⟩) n n l := by
  subst hc
  refine ⟨hn, Nat.le_refl _, by unfold maxLen; omega, .inr ⟨_, 0, rfl, fun j hj => ?_⟩⟩
  have := cell_of_row (w.alloc (.cells (l.map bv).toArray 5 mk)) w.heap.size (0 + j) (l.map bv).toArray 5 mk (heap_alloc_new w _)
  rw [this]
  simp [hj]

theorem infoSz : (Tryd.prog.info? 5).map (·.size) = some 1 := by kernel_rfl
theorem Own.set_int {w w0 : World} {base E g n c : Nat} {L : List UInt8} (h : Own w base E (some ⟨g, 0, none⟩) n c L) (hB : Below base w0 w) {j : Nat} (hj : j < n) (z : Int) (h0 : 0 ≤ z) (h1 : z < 256) :
    Own (w.setCell ⟨g, j, none⟩ (.int .u8 z)) base E (some ⟨g, 0, none⟩) n c (L.set j (byteOf z)) ∧ Below base w0 (w.setCell ⟨g, j, none⟩ (.int .u8 z)) :=
  ⟨by rw [bv_small z h0 h1]; exact h.set_ rfl hj _, hB.setCell (h.lt g rfl).1 _⟩
theorem Own.set2 {w w0 : World} {base E g n c : Nat} {L : List UInt8} (h : Own w base E (some ⟨g, 0, none⟩) n c L) (hB : Below base w0 w) (hj : 2 < n) (z1 z2 : Int) (h0 : 0 ≤ z1 ∧ z1 < 256) (h1 : 0 ≤ z2 ∧ z2 < 256) :
    Own ((w.setCell ⟨g, 1, none⟩ (.int .u8 z1)).setCell ⟨g, 2, none⟩ (.int .u8 z2)) base E (some ⟨g, 0, none⟩) n c ((L.set 1 (byteOf z1)).set 2 (byteOf z2)) ∧ Below base w0 ((w.setCell ⟨g, 1, none⟩ (.int .u8 z1)).setCell ⟨g, 2, none⟩ (.int .u8 z2)) :=
  have k := h.set_int hB (show 1 < n by omega) z1 h0.1 h0.2
  k.1.set_int k.2 hj z2 h1.1 h1.2

/-- The error of a padding, and its bytes. -/
def padE (l : List UInt8) (last : Bool) : Int := if last = true ∧ l ≠ [] then 2 else if clsI l.length = 0 then 70 else 0
def padL (l : List UInt8) (last : Bool) : List UInt8 := [if last then 1 else 0, byteOf ((l.length : Int) / 256), byteOf l.length] ++ (l ++ List.replicate ((clsI l.length).toNat - (3 + l.length)) 0)
def padV (l : List UInt8) (last : Bool) : List UInt8 := if padE l last = 0 then padL l last else []
/-- What Pad leaves: bytes of its own, and the error. -/
def PadPost (w : World) (l : List UInt8) (last : Bool) (e : Ending) (w' : World) : Prop :=
  ∃ A n c, e = .returned (.tuple #[.slice A n c, .int .i64 (padE l last)]) ∧ Own w' w.heap.size 5 A n c (padV l last) ∧ Below w.heap.size w w'
theorem padL_splice (l : List UInt8) (last : Bool) (C : Nat) (hC : clsI l.length = C) (hf : 3 + l.length ≤ C) :
    splice ((((zs C).set 0 (if last then 1 else 0)).set 1 (byteOf ((l.length : Int) / 256))).set 2 (byteOf l.length)) 3 l = padL l last := by
  unfold padL splice zs
  rw [hC]
  obtain ⟨k, rfl⟩ : ∃ k, C = 3 + l.length + k := ⟨C - (3 + l.length), by omega⟩
  rw [show ((3 + l.length + k : Nat) : Int).toNat - (3 + l.length) = k by omega]
  rw [show 3 + l.length + k = (l.length + k) + 1 + 1 + 1 by omega]
  simp only [List.replicate_succ, List.set_cons_zero, List.set_cons_succ]
  rw [show 3 + l.length = l.length + 1 + 1 + 1 by omega]
  simp [List.drop_replicate]

set_option maxHeartbeats 2000000 in
theorem pad_c {A : Option Addr} {n c : Nat} {l : List UInt8} (last : Bool) (C : Nat) (w : World) (hT : Tab w) (h : Sl w A n c l) (hl : n ≤ 100000) (e : clsI l.length = C) (hfit : 3 + l.length ≤ C) (hC : C = 16 ∨ C = 64 ∨ C = 256)
    (hcase : last = false ∨ (last = true ∧ l = [])) : Calls Tryd.prog 7 #[.slice A n c, .bool last] w (PadPost w l last) := by
  have hlen := h.len
  have HC := Lib.hid (class_any (n : Int) w hT (by omega) (by omega))
  rw [show ((n : Nat) : Int) = (l.length : Int) by omega, e] at HC
  have e1 : padE l last = 0 := by
    unfold padE
    rw [if_neg, if_neg (by rcases hC with rfl | rfl | rfl <;> omega)]
    rintro ⟨rfl, h⟩
    rcases hcase with h' | ⟨_, h'⟩
    · cases h'
    · exact h h'
  have e2 : padV l last = padL l last := by simp [padV, e1]
  unfold PadPost
  rw [e1, e2, ← padL_splice l last C e hfit]
  have h3 : n ≤ C - 3 := by omega
  rcases hcase with rfl | ⟨rfl, rfl⟩
  · subst hlen
    rcases hC with rfl | rfl | rfl
    · have hn : l.length ≤ 13 := by omega
      clear h3 e e1 e2 hl
      go_enter Tryd.func7, Tryd.ntmps7
      go_wp2_with (first | (go_at_call 12; refine HC.out.mono ?_; rintro e w' ⟨rfl, rfl⟩) | (at_make; refine make_bytes rfl _ _ _ rfl 5 Tryd.underlying22 infoU8 16 rfl rfl rfl rfl (by decide) ?_; intro g w1 hg hO hB; have hO' := Lib.hid hO; obtain ⟨x0, hx0, hc0, hf0⟩ := hO.get rfl (j := 0) (by omega); obtain ⟨x1, hx1, hc1, hf1⟩ := hO.get rfl (j := 1) (by omega); obtain ⟨x2, hx2, hc2, hf2⟩ := hO.get rfl (j := 2) (by omega); clear hO hx0 hx1 hx2 hg) | (obtain ⟨k1, k2⟩ := hO'.out.set2 hB (by omega) ((l.length : Int) / 256) (l.length : Int) (by omega) (by omega); refine copy_bytes rfl _ _ _ _ rfl 5 Tryd.underlying22 infoSz rfl rfl k1 (h.old k2) (by omega) (by omega) (by omega) ?_; have hB2 := Lib.hid k2; clear k1 k2 hB hc0 hc1 hc2 hf0 hf1 hf2 hO'; intro w2 hO2 hB'; have hB3 := hB2.out.trans hB'; clear hB' hB2))
      go_ret2
      exact ⟨_, _, _, rfl, by rw [zs_set0]; exact hO2, hB3⟩
    · have hn : l.length ≤ 61 := by omega
      clear h3 e e1 e2 hl
      go_enter Tryd.func7, Tryd.ntmps7
      go_wp2_with (first | (go_at_call 12; refine HC.out.mono ?_; rintro e w' ⟨rfl, rfl⟩) | (at_make; refine make_bytes rfl _ _ _ rfl 5 Tryd.underlying22 infoU8 64 rfl rfl rfl rfl (by decide) ?_; intro g w1 hg hO hB; have hO' := Lib.hid hO; obtain ⟨x0, hx0, hc0, hf0⟩ := hO.get rfl (j := 0) (by omega); obtain ⟨x1, hx1, hc1, hf1⟩ := hO.get rfl (j := 1) (by omega); obtain ⟨x2, hx2, hc2, hf2⟩ := hO.get rfl (j := 2) (by omega); clear hO hx0 hx1 hx2 hg) | (obtain ⟨k1, k2⟩ := hO'.out.set2 hB (by omega) ((l.length : Int) / 256) (l.length : Int) (by omega) (by omega); refine copy_bytes rfl _ _ _ _ rfl 5 Tryd.underlying22 infoSz rfl rfl k1 (h.old k2) (by omega) (by omega) (by omega) ?_; have hB2 := Lib.hid k2; clear k1 k2 hB hc0 hc1 hc2 hf0 hf1 hf2 hO'; intro w2 hO2 hB'; have hB3 := hB2.out.trans hB'; clear hB' hB2))
      go_ret2
      exact ⟨_, _, _, rfl, by rw [zs_set0]; exact hO2, hB3⟩
    · have hn : l.length ≤ 253 := by omega
      clear h3 e e1 e2 hl
      go_enter Tryd.func7, Tryd.ntmps7
      go_wp2_with (first | (go_at_call 12; refine HC.out.mono ?_; rintro e w' ⟨rfl, rfl⟩) | (at_make; refine make_bytes rfl _ _ _ rfl 5 Tryd.underlying22 infoU8 256 rfl rfl rfl rfl (by decide) ?_; intro g w1 hg hO hB; have hO' := Lib.hid hO; obtain ⟨x0, hx0, hc0, hf0⟩ := hO.get rfl (j := 0) (by omega); obtain ⟨x1, hx1, hc1, hf1⟩ := hO.get rfl (j := 1) (by omega); obtain ⟨x2, hx2, hc2, hf2⟩ := hO.get rfl (j := 2) (by omega); clear hO hx0 hx1 hx2 hg) | (obtain ⟨k1, k2⟩ := hO'.out.set2 hB (by omega) ((l.length : Int) / 256) (l.length : Int) (by omega) (by omega); refine copy_bytes rfl _ _ _ _ rfl 5 Tryd.underlying22 infoSz rfl rfl k1 (h.old k2) (by omega) (by omega) (by omega) ?_; have hB2 := Lib.hid k2; clear k1 k2 hB hc0 hc1 hc2 hf0 hf1 hf2 hO'; intro w2 hO2 hB'; have hB3 := hB2.out.trans hB'; clear hB' hB2))
      go_ret2
      exact ⟨_, _, _, rfl, by rw [zs_set0]; exact hO2, hB3⟩
  · obtain rfl : C = 16 := by
      have : clsI ((([] : List UInt8).length : Nat) : Int) = 16 := by decide
      omega
    obtain rfl : n = 0 := h.len
    clear hC hlen hfit
    clear h3 e e1 e2 hl
    go_enter Tryd.func7, Tryd.ntmps7
    go_wp2_with (first | (go_at_call 12; refine HC.out.mono ?_; rintro e w' ⟨rfl, rfl⟩) | (at_make; refine make_bytes rfl _ _ _ rfl 5 Tryd.underlying22 infoU8 16 rfl rfl rfl rfl (by decide) ?_; intro g w1 hg hO hB; have hO' := Lib.hid hO; obtain ⟨x0, hx0, hc0, hf0⟩ := hO.get rfl (j := 0) (by omega); obtain ⟨x1, hx1, hc1, hf1⟩ := hO.get rfl (j := 1) (by omega); obtain ⟨x2, hx2, hc2, hf2⟩ := hO.get rfl (j := 2) (by omega); clear hO hx0 hx1 hx2 hg) | (obtain ⟨k1, k2⟩ := (hO'.out.set_int hB (show 0 < 16 by omega) 1 (by omega) (by omega)).1.set2 (hO'.out.set_int hB (show 0 < 16 by omega) 1 (by omega) (by omega)).2 (by omega) 0 0 (by omega) (by omega); refine copy_bytes rfl _ _ _ _ rfl 5 Tryd.underlying22 infoSz rfl rfl k1 (h.old k2) (by omega) (by omega) (by omega) ?_; have hB2 := Lib.hid k2; clear k1 k2 hB hc0 hc1 hc2 hf0 hf1 hf2 hO'; intro w2 hO2 hB'; have hB3 := hB2.out.trans hB'; clear hB' hB2))
    go_ret2
    exact ⟨_, _, _, rfl, hO2, hB3⟩

set_option maxHeartbeats 1000000 in
theorem pad_any {A : Option Addr} {n c : Nat} {l : List UInt8} (last : Bool) (w : World) (hT : Tab w) (h : Sl w A n c l) (hl : n ≤ 100000) :
    Calls Tryd.prog 7 #[.slice A n c, .bool last] w (PadPost w l last) := by
  have hlen := h.len
  have HC := Lib.hid (class_any (n : Int) w hT (by omega) (by omega))
  by_cases h2 : last = true ∧ l ≠ []
  · obtain ⟨rfl, h2'⟩ := h2
    have h0 : 0 < n := by cases l with
      | nil => exact absurd rfl h2'
      | cons _ _ => simp at hlen; omega
    have e1 : padE l true = 2 := if_pos ⟨rfl, h2'⟩
    have e2 : padV l true = [] := by simp [padV, e1]
    unfold PadPost
    rw [e1, e2]
    have H := Lib.hid hlen
    clear hlen e1 e2
    go_enter Tryd.func7, Tryd.ntmps7
    go_wp2_with (go_at_call 12; refine HC.out.mono ?_; rintro e w' ⟨rfl, rfl⟩)
    go_ret2
    exact ⟨none, 0, 0, rfl, Own.nil _ _ _, Below.refl _ _⟩
  · have hcase : last = false ∨ (last = true ∧ l = []) := by
      cases last
      · exact .inl rfl
      · right
        refine ⟨rfl, ?_⟩
        cases l with
        | nil => rfl
        | cons _ _ => exact absurd ⟨rfl, by simp⟩ h2
    rw [hlen] at HC
    rcases clsI_cases (l.length : Int) with ⟨a, e⟩ | ⟨a, b, e⟩ | ⟨a, b, e⟩ | ⟨a, b, e⟩
    · have e1 : padE l last = 70 := by unfold padE; rw [if_neg h2, if_pos e]
      have e2 : padV l last = [] := by simp [padV, e1]
      have hlast : last = false := by
        rcases hcase with h | ⟨_, h⟩
        · exact h
        · subst h; simp at a
      subst hlast
      unfold PadPost
      rw [e1, e2]
      rw [e] at HC
      subst hlen
      clear e e1 e2 a h2 hcase
      go_enter Tryd.func7, Tryd.ntmps7
      go_wp2_with (go_at_call 12; refine HC.out.mono ?_; rintro e w' ⟨rfl, rfl⟩)
      go_ret2
      exact ⟨none, 0, 0, rfl, Own.nil _ _ _, Below.refl _ _⟩
    · exact pad_c last 16 w hT h hl e (by omega) (by simp) hcase
    · exact pad_c last 64 w hT h hl e (by omega) (by simp) hcase
    · exact pad_c last 256 w hT h hl e (by omega) (by simp) hcase
end Go.Proofs.YtblpnlobicjccaaDoor
