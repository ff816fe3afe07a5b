/- The program's writer (package num), method by method: each by its contract over the state (error, bytes). -/
import Derived.Test.YtblpnlobicjccaaBytes
import Derived.Handy
import Derived.BigQuiet
namespace Go.Proofs.Ytblpnlobicjccaa
open Go.RowKit

/-- cmp.Or of two. -/
def orI (x y : Int) : Int := if x = 0 then y else x
theorem orI_zero (y : Int) : orI 0 y = y := rfl

set_option maxHeartbeats 400000 in
theorem or_any (g c : Nat) (x y : Int) (w : World) (h0 : w.cell? ⟨g, 0, none⟩ = some (.int .i64 x)) (h1 : w.cell? ⟨g, 1, none⟩ = some (.int .i64 y)) :
    Calls Try.prog 84 #[.slice (some ⟨g, 0, none⟩) 2 c] w fun e w' => e = .returned (.int .i64 (orI x y)) ∧ w = w' := by
  by_cases hx : x = 0
  · subst hx
    by_cases hy : y = 0
    · subst hy
      go_enter Try.func84, Try.ntmps84
      go_wp2
      go_rounds 3
      go_ret
      exact ⟨rfl, rfl⟩
    · have hy' : (y == 0) = false := by simpa using hy
      have hy2 : (y != 0) = true := by simpa using hy
      go_enter Try.func84, Try.ntmps84
      go_wp2
      go_rounds 3
      go_ret
      exact ⟨rfl, rfl⟩
  · have hy' : (x == 0) = false := by simpa using hx
    have hy2 : (x != 0) = true := by simpa using hx
    go_enter Try.func84, Try.ntmps84
    go_wp2
    go_rounds 3
    go_ret
    exact ⟨by simp [orI, hx], rfl⟩

def wideB (n : Int) : Bool := n == 1 || n == 2 || n == 4 || n == 8
set_option maxHeartbeats 400000 in
theorem wide_any (n : Int) (w : World) : Calls Try.prog 67 #[.int .i64 n] w fun e w' => e = .returned (.bool (wideB n)) ∧ w = w' := by
  go_enter Try.func67, Try.ntmps67
  go_wp2
  all_goals go_ret
  all_goals refine ⟨?_, rfl⟩
  all_goals first | rfl | simp [wideB, *]

/-- A writer (of whichever package: T is its struct's number) at block P: its error, its bytes. -/
structure Wr (T : TypeId) (w : World) (base P : Nat) (e : Int) (l : List UInt8) (A : Option Addr) (n c : Nat) : Prop where
  blk : Blk w P T #[.slice A n c, .int .i64 e]
  own : Own w base 5 A n c l
section
variable {T : TypeId} {w w' : World} {base P : Nat} {e : Int} {l : List UInt8} {A : Option Addr} {n c : Nat} {S : Nat → Prop}
theorem Wr.fr (h : Wr T w base P e l A n c) (k : Fr S w w') (h1 : ¬ S P) (h2 : ∀ b, blkOf A = some b → ¬ S b) : Wr T w' base P e l A n c := ⟨h.blk.fr k h1, h.own.fr k h2⟩
end
/-- The blocks that a writer's methods may turn. -/
def foot (P : Nat) (A : Option Addr) (k : Nat) : Prop := k = P ∨ blkOf A = some k
/-- What each method of a writer leaves. -/
def WrPost (T : TypeId) (w : World) (base P : Nat) (A : Option Addr) (e : Int) (l : List UInt8) (en : Ending) (w' : World) : Prop :=
  en = .returned (.pointer (some ⟨P, 0, none⟩)) ∧ ∃ A' n' c', Wr T w' base P e l A' n' c' ∧ Fr (foot P A) w w' ∧ ∀ k, blkOf A' = some k → blkOf A = some k ∨ w.heap.size ≤ k

/-- The error behind put. -/
def putE (e e1 : Int) : Int := orI e e1
/-- The bytes behind put. -/
def putB (e e1 : Int) (l m : List UInt8) : List UInt8 := if orI e e1 = 0 then l ++ m else l

set_option maxHeartbeats 1000000 in
theorem put_any {base P : Nat} {e : Int} {l m : List UInt8} {A A2 : Option Addr} {n c n2 c2 : Nat} (e1 : Int) (w : World) (h : Wr 78 w base P e l A n c) (hm : Sl w A2 n2 c2 m)
    (hA2 : m ≠ [] → blkOf A2 ≠ some P) (hlen : n + n2 ≤ 140737488355328) (hbase : base ≤ w.heap.size) :
    Calls Try.prog 68 #[.pointer (some ⟨P, 0, none⟩), .int .i64 e1, .slice A2 n2 c2] w (WrPost 78 w base P A (putE e e1) (putB e e1 l m)) := by
  have hP := h.blk.lt
  have hAP : blkOf A ≠ some P := h.own.ne_blk h.blk (by decide)
  have c0 : w.cell? ⟨P, 0, none⟩ = some (.slice A n c) := h.blk.cell 0
  have c1 : w.cell? ⟨P, 1, none⟩ = some (.int .i64 e) := h.blk.cell 1
  have f0 := h.blk.frozen 0
  have f1 := h.blk.frozen 1
  -- the world behind cmp.Or's own block and the store of the error
  have hfr1 : Fr (foot P A) w ((w.setCell ⟨P, 1, none⟩ (.int .i64 (orI e e1))).alloc (.cells #[.int .i64 e, .int .i64 e1] 30)) :=
    ((Fr.refl _ w).setCell (p := ⟨P, 1, none⟩) (.inl (.inl rfl)) _).alloc _
  have hblk1 : Blk ((w.setCell ⟨P, 1, none⟩ (.int .i64 (orI e e1))).alloc (.cells #[.int .i64 e, .int .i64 e1] 30)) P 78 #[.slice A n c, .int .i64 (orI e e1)] := (h.blk.set_ 1 _).alloc _
  have hown1 : Own ((w.setCell ⟨P, 1, none⟩ (.int .i64 (orI e e1))).alloc (.cells #[.int .i64 e, .int .i64 e1] 30)) base 5 A n c l := (h.own.far (p := ⟨P, 1, none⟩) hAP _).alloc _
  have hm1 : Sl ((w.setCell ⟨P, 1, none⟩ (.int .i64 (orI e e1))).alloc (.cells #[.int .i64 e, .int .i64 e1] 30)) A2 n2 c2 m := (hm.far' (p := ⟨P, 1, none⟩) hA2 _).alloc _
  clear h hm
  have q0 := (Blk.new w 30 #[.int .i64 e, .int .i64 e1]).cell 0
  have q1 := (Blk.new w 30 #[.int .i64 e, .int .i64 e1]).cell 1
  by_cases hz : orI e e1 = 0
  · rw [hz] at hfr1 hblk1 hown1 hm1
    go_enter Try.func68, Try.ntmps68
    go_wp2_with fail
    refine (or_any _ _ e e1 _ q0 q1).mono ?_
    rintro en w' ⟨rfl, rfl⟩
    clear q0 q1
    go_wp2_with (at_builtin; refine app_bytes rfl _ _ rfl rfl rfl hown1 hm1 ?c1 ?c2 ?_)
    case c1 => omega
    case c2 => simp; omega
    intro A' c' w' hown' hfr' hA'
    have hPn : ¬ blkOf A = some P := hAP
    have hblk2 := hblk1.fr hfr' hPn
    have d0 : w'.cell? ⟨P, 0, none⟩ = some (.slice A n c) := hblk2.cell 0
    have g0 := hblk2.frozen 0
    have hz2 : w.heap.size + 1 ≤ w'.heap.size := by have := hfr'.size; simpa using this
    have hA'P : blkOf A' ≠ some P := by
      intro e'
      rcases hA' P e' with e' | e'
      · exact hAP e'
      · omega
    have hfr2 : Fr (foot P A) w (w'.setCell ⟨P, 0, none⟩ (.slice A' (n + n2) c')) :=
      (hfr1.trans hfr' (fun b hb => .inl (.inr hb))).setCell (p := ⟨P, 0, none⟩) (.inl (.inl rfl)) _
    have hblk3 : Blk (w'.setCell ⟨P, 0, none⟩ (.slice A' (n + n2) c')) P 78 #[.slice A' (n + n2) c', .int .i64 0] := hblk2.set_ 0 _
    have hown3 := hown'.far (p := ⟨P, 0, none⟩) hA'P (.slice A' (n + n2) c')
    have hA3 : ∀ k, blkOf A' = some k → blkOf A = some k ∨ w.heap.size ≤ k := fun k hk => (hA' k hk).imp id (fun e' => by omega)
    clear hfr' hown1 hm1 hblk1 hown' hfr1 hA'
    go_wp2
    go_ret
    refine ⟨rfl, A', n + n2, c', ⟨by rw [putE, hz]; exact hblk3, ?_⟩, hfr2, hA3⟩
    rw [putB, if_pos hz]
    exact hown3
  · have hz' : (orI e e1 == 0) = false := by simpa using hz
    go_enter Try.func68, Try.ntmps68
    go_wp2_with fail
    refine (or_any _ _ e e1 _ q0 q1).mono ?_
    rintro en w' ⟨rfl, rfl⟩
    clear q0 q1
    go_wp2
    go_ret
    refine ⟨rfl, A, n, c, ⟨hblk1, ?_⟩, hfr1, fun k hk => .inl hk⟩
    rw [putB, if_neg hz]
    exact hown1
theorem putB_err {e e1 : Int} (h : e1 ≠ 0) (l m : List UInt8) : putB e e1 l m = l := by
  unfold putB orI
  by_cases he : e = 0 <;> simp [he, h]

/-- The byte that an int is cut to. -/
def byteOf (z : Int) : UInt8 := UInt8.ofNat (z % 256).toNat
theorem byteOf_toNat (z : Int) : ((byteOf z).toNat : Int) = z % 256 := by
  have h1 := Int.emod_nonneg z (show (256 : Int) ≠ 0 by decide)
  have h2 := Int.emod_lt_of_pos z (show (0 : Int) < 256 by decide)
  unfold byteOf
  rw [UInt8.toNat_ofNat']
  omega
theorem bv_byteOf (z : Int) : Value.int .u8 (IntKind.u8.wrap z) = bv (byteOf z) := by
  rw [bv, byteOf_toNat, IntKind.wrap_u8]
theorem oneByte (w : World) (z : Int) : Sl (w.alloc (.cells #[.int .u8 (IntKind.u8.wrap z)] 5)) (some ⟨w.heap.size, 0, none⟩) 1 1 [byteOf z] :=
  ⟨rfl, Nat.le_refl _, by decide, .inr ⟨_, 0, rfl, fun j hj => by
    have : j = 0 := by simp at hj; omega
    subst this
    have := (Blk.new w 5 #[.int .u8 (IntKind.u8.wrap z)]).cell 0
    rw [bv_byteOf] at this ⊢
    simp⟩⟩

/-- The error that Num puts. -/
def numE (wd x : Int) : Int := if wideB wd = false then 2 else if x < 0 ∨ 9007199254740991 < x ∨ (x / 2 ^ (8 * wd).toNat != 0) = true then 9 else 0
/-- The bytes of a number of a width. -/
def numBytes (wd : Nat) (x : Nat) : List UInt8 := (List.range wd).map fun i => byteOf ((x / 2 ^ (8 * (wd - 1 - i)) : Nat) : Int)
theorem numBytes_len (wd x : Nat) : (numBytes wd x).length = wd := by simp [numBytes]
theorem numBytes_snoc (wd x k : Nat) (hk : k < wd) (z : Int) (hz : z = (x : Int) / 2 ^ (8 * (wd - 1 - k))) : (numBytes wd x).take (k + 1) = (numBytes wd x).take k ++ [byteOf z] := by
  rw [List.take_succ_eq_append_getElem (by rw [numBytes_len]; exact hk)]
  congr 2
  simp only [numBytes, List.getElem_map, List.getElem_range]
  congr 1
  rw [hz]
  simp

set_option maxHeartbeats 400000 in
theorem num_ok {base P : Nat} {e : Int} {l : List UInt8} {A : Option Addr} {n c : Nat} (wd x : Nat) (w : World) (h : Wr 78 w base P e l A n c)
    (hlen : n + 8 ≤ 140737488355328) (hbase : base ≤ w.heap.size) (hw : wideB wd = true) (hx : x ≤ 9007199254740991) (hf : x / 2 ^ (8 * wd) = 0) :
    Calls Try.prog 29 #[.pointer (some ⟨P, 0, none⟩), .int .i64 wd, .int .i64 x] w (WrPost 78 w base P A (putE e 0) (putB e 0 l (numBytes wd x))) := by
  have hwr : 1 ≤ wd ∧ wd ≤ 8 := by simp [wideB] at hw; omega
  obtain ⟨h8, h9⟩ := hwr
  have c3 : ((x : Int) / 2 ^ (8 * wd) != 0) = false := by
    have : (x : Int) / 2 ^ (8 * wd) = 0 := by rw [show ((2:Int) ^ (8 * wd)) = ((2 ^ (8 * wd) : Nat) : Int) from by simp, ← Int.natCast_ediv, hf]; rfl
    simp [this]
  clear hf
  go_enter Try.func29, Try.ntmps29
  go_wp2_with (go_at_call 67; refine (wide_any _ _).mono ?_; rintro en w' ⟨rfl, rfl⟩)
  go_loopw [7, 28] (fun vb vi wr => ∃ (k : Nat) (A' : Option Addr) (n' c' : Nat), vi = .int .i64 k ∧ k ≤ wd ∧ vb = .slice A' n' c' ∧ Hid (n' = k) ∧ n' ≤ 8 ∧
     Own wr w.heap.size 5 A' n' c' ((numBytes wd x).take k) ∧ Below w.heap.size w wr)
    (fun _ vi _ => wd - (intOf vi).toNat)
  case atStart => exact ⟨0, none, 0, 0, rfl, by omega, rfl, rfl, by omega, Own.nil _ _ _, Below.refl _ _⟩
  case round =>
    obtain ⟨k, A', n', c', rfl, hk, rfl, hn', hn8, hown, hB⟩ := hrel
    by_cases hlt : k < wd
    · have hz := hB.size
      go_wp2_with (at_builtin; go_loud (refine app_bytes rfl _ _ rfl rfl rfl (hown.alloc _) (oneByte _ _) ?c1 ?c2 ?_))
      case c1 => omega
      case c2 => simp; omega
      intro A'' c'' w' hown' hfr' _
      have hB' : Below w.heap.size w w' := Fr.below (hB.alloc hz _) hfr' (by simp; omega) (fun b hb => (hown.lt b hb).1)
      clear hown hfr' hB
      go_wp2
      go_roundw
      case rel =>
        refine ⟨k + 1, A'', n' + 1, c'', by go_num, by omega, rfl, ?_, ?_, ?_, hB'⟩
        · show _ = _; have := hn'.out; omega
        · have := hn'.out; omega
        · rw [numBytes_snoc wd x k hlt _ rfl]; exact hown'
      case measure => simp [intOf]; omega
    · have ek : (numBytes wd x).take k = numBytes wd x := by rw [List.take_of_length_le]; rw [numBytes_len]; omega
      rw [ek] at hown
      have hwr := h.fr (Fr.of_below (S := fun _ => False) hB) id (fun _ _ => id)
      have hq := put_any 0 wr hwr hown.sl (fun _ e' => by have := (hown.lt P e').1; have := h.blk.lt; omega) (by omega) (by have := hB.size; omega)
      have HQ := Lib.hid hq
      clear hq hown hwr
      go_wp2_with fail
      refine HQ.out.mono ?_
      rintro en w' ⟨rfl, A1, n1, c1, h1, h2, h3⟩
      go_wp2
      go_ret
      refine ⟨rfl, A1, n1, c1, h1, (Fr.of_below hB).trans h2 (fun b hb => .inl hb), fun k hk => (h3 k hk).imp id (fun e => by have := hB.size; omega)⟩

set_option maxHeartbeats 400000 in
theorem num_err {base P : Nat} {e : Int} {l : List UInt8} {A : Option Addr} {n c : Nat} (wd x : Int) (w : World) (h : Wr 78 w base P e l A n c)
    (hlen : n + 8 ≤ 140737488355328) (hbase : base ≤ w.heap.size) (he : numE wd x ≠ 0) :
    Calls Try.prog 29 #[.pointer (some ⟨P, 0, none⟩), .int .i64 wd, .int .i64 x] w (WrPost 78 w base P A (putE e (numE wd x)) l) := by
  have hq : ∀ e1 : Int, numE wd x = e1 → Calls Try.prog 68 #[.pointer (some ⟨P, 0, none⟩), .int .i64 e1, .slice none 0 0] w (WrPost 78 w base P A (putE e (numE wd x)) l) := by
    intro e1 h1
    have := put_any e1 w h (Sl.nil w) (fun h => absurd rfl h) (by omega) hbase
    rw [← h1, putB_err he] at this
    rw [← h1]; exact this
  by_cases hw : wideB wd = false
  · have hq2 := hq 2 (by simp [numE, hw])
    have HQ := Lib.hid hq2
    clear hq hq2 he h
    go_enter Try.func29, Try.ntmps29
    go_wp2_with (go_at_call 67; refine (wide_any _ _).mono ?_; rintro en w' ⟨rfl, rfl⟩)
    refine HQ.out.mono ?_
    rintro en w' ⟨rfl, hp⟩
    go_wp2
    go_ret
    exact ⟨rfl, hp⟩
  · have hw' : wideB wd = true := by simpa using hw
    have hc : x < 0 ∨ 9007199254740991 < x ∨ (x / 2 ^ (8 * wd).toNat != 0) = true := by
      unfold numE at he; rw [if_neg hw] at he
      by_cases hc : x < 0 ∨ 9007199254740991 < x ∨ (x / 2 ^ (8 * wd).toNat != 0) = true
      · exact hc
      · rw [if_neg hc] at he; exact absurd rfl he
    have hq2 := hq 9 (by unfold numE; rw [if_neg hw, if_pos hc])
    have HQ := Lib.hid hq2
    have hwr : 1 ≤ wd ∧ wd ≤ 8 := by simp [wideB] at hw'; omega
    obtain ⟨h8, h9⟩ := hwr
    clear hq hq2 he h hw
    by_cases c1 : x < 0
    · clear hc
      go_enter Try.func29, Try.ntmps29
      go_wp2_with (go_at_call 67; refine (wide_any _ _).mono ?_; rintro en w' ⟨rfl, rfl⟩)
      refine HQ.out.mono ?_
      rintro en w' ⟨rfl, hp⟩
      go_wp2
      go_ret
      exact ⟨rfl, hp⟩
    · by_cases c2 : 9007199254740991 < x
      · clear hc
        go_enter Try.func29, Try.ntmps29
        go_wp2_with (go_at_call 67; refine (wide_any _ _).mono ?_; rintro en w' ⟨rfl, rfl⟩)
        refine HQ.out.mono ?_
        rintro en w' ⟨rfl, hp⟩
        go_wp2
        go_ret
        exact ⟨rfl, hp⟩
      · have c3 : (x / 2 ^ (8 * wd).toNat != 0) = true := by simpa [c1, c2] using hc
        clear hc
        go_enter Try.func29, Try.ntmps29
        go_wp2_with (go_at_call 67; refine (wide_any _ _).mono ?_; rintro en w' ⟨rfl, rfl⟩)
        refine HQ.out.mono ?_
        rintro en w' ⟨rfl, hp⟩
        go_wp2
        go_ret
        exact ⟨rfl, hp⟩

theorem num_any {base P : Nat} {e : Int} {l : List UInt8} {A : Option Addr} {n c : Nat} (wd x : Int) (w : World) (h : Wr 78 w base P e l A n c)
    (hlen : n + 8 ≤ 140737488355328) (hbase : base ≤ w.heap.size) :
    Calls Try.prog 29 #[.pointer (some ⟨P, 0, none⟩), .int .i64 wd, .int .i64 x] w (WrPost 78 w base P A (putE e (numE wd x)) (putB e (numE wd x) l (numBytes wd.toNat x.toNat))) := by
  by_cases he : numE wd x = 0
  · have hw : wideB wd = true := by
      by_cases hw : wideB wd = false
      · unfold numE at he; rw [if_pos hw] at he; exact absurd he (by decide)
      · simpa using hw
    have hc : ¬ (x < 0 ∨ 9007199254740991 < x ∨ (x / 2 ^ (8 * wd).toNat != 0) = true) := by
      intro hc
      unfold numE at he; rw [if_neg (by simp [hw]), if_pos hc] at he; exact absurd he (by decide)
    have hwr : 1 ≤ wd ∧ wd ≤ 8 := by simp [wideB] at hw; omega
    have hx0 : 0 ≤ x := by omega
    have hw0 : 0 ≤ wd := by omega
    obtain ⟨xn, rfl⟩ := Int.eq_ofNat_of_zero_le hx0
    obtain ⟨wn, rfl⟩ := Int.eq_ofNat_of_zero_le hw0
    rw [he, Int.toNat_natCast, Int.toNat_natCast]
    refine num_ok wn xn w h hlen hbase hw (by omega) ?_
    have h3 : ((xn : Int) / 2 ^ (8 * (wn : Int)).toNat) = 0 := by
      by_cases h3 : ((xn : Int) / 2 ^ (8 * (wn : Int)).toNat) = 0
      · exact h3
      · exact absurd (.inr (.inr (by simpa using h3))) hc
    rw [show (8 * (wn : Int)).toNat = 8 * wn from by omega] at h3
    have h4 : ((xn / 2 ^ (8 * wn) : Nat) : Int) = 0 := by rw [Int.natCast_ediv]; simpa using h3
    omega
  · rw [putB_err he]
    exact num_err wd x w h hlen hbase he

theorem i64_or_128 (a : Int) (h0 : 0 ≤ a) (h1 : a < 128) : bits .or .i64 a 128 = a + 128 := by
  obtain ⟨k, rfl⟩ := Int.eq_ofNat_of_zero_le h0
  have hk : k < 128 := by omega
  have h : ∀ k : Fin 128, bits .or .i64 ((k : Nat) : Int) 128 = ((k : Nat) : Int) + 128 := by decide +kernel
  exact h ⟨k, hk⟩

theorem bv_small (z : Int) (h0 : 0 ≤ z) (h1 : z < 256) : Value.int .u8 z = bv (byteOf z) := by
  rw [bv, byteOf_toNat, Int.emod_eq_of_lt h0 h1]
theorem oneByteS (w : World) (z : Int) (h0 : 0 ≤ z) (h1 : z < 256) : Sl (w.alloc (.cells #[.int .u8 z] 5)) (some ⟨w.heap.size, 0, none⟩) 1 1 [byteOf z] :=
  ⟨rfl, Nat.le_refl _, by decide, .inr ⟨_, 0, rfl, fun j hj => by
    have : j = 0 := by simp at hj; omega
    subst this
    have := (Blk.new w 5 #[.int .u8 z]).cell 0
    rw [bv_small z h0 h1] at this ⊢
    simp⟩⟩
theorem Own.one (w : World) (z : Int) (h0 : 0 ≤ z) (h1 : z < 256) : Own (w.alloc (.cells #[.int .u8 z] 5)) w.heap.size 5 (some ⟨w.heap.size, 0, none⟩) 1 1 [byteOf z] :=
  ⟨rfl, rfl, .inr ⟨w.heap.size, 1, #[.int .u8 z], rfl, Nat.le_refl _, heap_alloc_new w _, Nat.le_refl _, by decide, rfl, by simp [bv_small z h0 h1]⟩⟩

/-- A count's upper groups, the lowest one first. -/
def cntHi : Nat → List UInt8
  | 0 => []
  | m + 1 => byteOf (((m + 1 : Nat) : Int) % 128 + 128) :: cntHi ((m + 1) / 128)
theorem cntHi_pos (m : Nat) (h : 0 < m) : cntHi m = byteOf ((m : Int) % 128 + 128) :: cntHi (m / 128) := by
  obtain ⟨k, rfl⟩ : ∃ k, m = k + 1 := ⟨m - 1, by omega⟩
  rw [cntHi]
/-- A count's bytes. -/
def cntBytes (x : Nat) : List UInt8 := (byteOf ((x : Int) % 128) :: cntHi (x / 128)).reverse

set_option maxHeartbeats 400000 in
theorem count_ok {base P : Nat} {e : Int} {l : List UInt8} {A : Option Addr} {n c : Nat} (x : Nat) (w : World) (h : Wr 78 w base P e l A n c)
    (hlen : n + 10 ≤ 140737488355328) (hbase : base ≤ w.heap.size) (hx : x ≤ 9007199254740991) :
    Calls Try.prog 31 #[.pointer (some ⟨P, 0, none⟩), .int .i64 x] w (WrPost 78 w base P A (putE e 0) (putB e 0 l (cntBytes x))) := by
  have g1 : decide ((x : Int) < 0) = false := by simp
  have g2 : decide ((9007199254740991 : Int) < (x : Int)) = false := by simp; omega
  go_enter Try.func31, Try.ntmps31
  go_wp2
  go_loopw [1, 5] (fun vm vb wr => ∃ (m n' c' : Nat) (A' : Option Addr) (d : List UInt8), vm = .int .i64 m ∧ m ≤ 9007199254740991 ∧ vb = .slice A' n' c' ∧ n' ≤ 8 ∧ Hid (m < 2 ^ (7 * (8 - n'))) ∧
     Own wr w.heap.size 5 A' n' c' d ∧ Hid (d ++ cntHi m = byteOf ((x : Int) % 128) :: cntHi (x / 128)) ∧ Below w.heap.size w wr ∧ w.heap.size < wr.heap.size)
    (fun vm _ _ => (intOf vm).toNat)
  case atStart =>
    refine ⟨x / 128, 1, 1, _, [byteOf ((x : Int) % 128)], by go_num, by omega, rfl, by omega, ?_, Own.one w _ (by omega) (by omega), rfl, (Below.refl _ _).alloc (Nat.le_refl _) _, by simp⟩
    show _ < _; omega
  case round =>
    obtain ⟨m, n', c', A', d, rfl, hm, rfl, hn', hmb, hown, hd, hB, hsz⟩ := hrel
    by_cases hlt : 0 < m
    · have hor := i64_or_128 ((m : Int) % 128) (by omega) (by omega)
      go_wp2_with (at_builtin; go_loud (refine app_bytes rfl _ _ rfl rfl rfl (hown.alloc _) (oneByteS _ _ ?c3 ?c4) ?c1 ?c2 ?_))
      case c1 => omega
      case c2 => simp; omega
      case c3 => omega
      case c4 => omega
      intro A'' c'' w' hown' hfr' _
      have hB' : Below w.heap.size w w' := Fr.below (hB.alloc hB.size _) hfr' (by simp; omega) (fun b hb => (hown.lt b hb).1)
      have hsz' : w.heap.size < w'.heap.size := by have := hfr'.size; simp at this; omega
      clear hown hfr' hB hor hsz
      go_wp2
      go_roundw
      case rel =>
        have hb := hmb.out
        have hn7 : n' ≤ 7 := by
          rcases Nat.lt_or_ge n' 8 with h7 | h7
          · omega
          · obtain rfl : n' = 8 := by omega
            simp at hb; omega
        refine ⟨m / 128, n' + 1, c'', A'', _, by go_num, by omega, rfl, by omega, ?_, hown', ?_, hB', hsz'⟩
        · show _ < _
          rw [show 7 * (8 - n') = 7 * (8 - (n' + 1)) + 7 from by omega, Nat.pow_add] at hb
          omega
        · show _ = _
          rw [← hd.out, cntHi_pos m hlt]; simp
      case measure => simp [intOf]; omega
    · obtain rfl : m = 0 := by omega
      have hd' : d = byteOf ((x : Int) % 128) :: cntHi (x / 128) := by rw [← hd.out, cntHi]; simp
      have hq1 := Lib.hid (reverse_any wr hown (by omega))
      have hA : ∀ b, blkOf A' = some b → w.heap.size ≤ b := fun b hb => (hown.lt b hb).1
      clear hown hmb hd
      go_wp2_with fail
      refine hq1.out.mono ?_
      rintro en w2 ⟨rfl, hown2, hfr2⟩
      have hB2 : Below w.heap.size w w2 := Fr.below hB hfr2 (by omega) hA
      have hwr := h.fr (Fr.of_below (S := fun _ => False) hB2) id (fun _ _ => id)
      have hq := Lib.hid (put_any 0 w2 hwr hown2.sl (fun _ e' => by have := hA P e'; have := h.blk.lt; omega) (by omega) (by have := hB2.size; omega))
      have hde : d.reverse = cntBytes x := by rw [hd']; rfl
      rw [hde] at hq
      clear hq1 hwr hown2 hfr2 hA hd' hde hB
      go_wp2_with fail
      refine hq.out.mono ?_
      rintro en w' ⟨rfl, A1, n1, c1, h1, h2, h3⟩
      go_wp2
      go_ret
      refine ⟨rfl, A1, n1, c1, h1, (Fr.of_below hB2).trans h2 (fun b hb => .inl hb), fun k hk => (h3 k hk).imp id (fun e => by have := hB2.size; omega)⟩

theorem putE_zero (e : Int) : putE e 0 = e := by unfold putE orI; split <;> simp_all
/-- The bytes behind a thing that may be written. -/
def okB (e : Int) (l m : List UInt8) : List UInt8 := if e = 0 then l ++ m else l
theorem putB_zero (e : Int) (l m : List UInt8) : putB e 0 l m = okB e l m := by unfold putB okB; rw [show orI e 0 = e from putE_zero e]
theorem okB_err {e : Int} (h : e ≠ 0) (l m : List UInt8) : okB e l m = l := by simp [okB, h]
theorem okB_okB (e : Int) (l m k : List UInt8) : okB e (okB e l m) k = okB e l (m ++ k) := by unfold okB; split <;> simp

/-- The error that Count puts. -/
def cntE (x : Int) : Int := if x < 0 ∨ 9007199254740991 < x then 9 else 0
set_option maxHeartbeats 400000 in
theorem count_err {base P : Nat} {e : Int} {l : List UInt8} {A : Option Addr} {n c : Nat} (x : Int) (w : World) (h : Wr 78 w base P e l A n c)
    (hlen : n + 10 ≤ 140737488355328) (hbase : base ≤ w.heap.size) (hx : x < 0 ∨ 9007199254740991 < x) :
    Calls Try.prog 31 #[.pointer (some ⟨P, 0, none⟩), .int .i64 x] w (WrPost 78 w base P A (putE e 9) l) := by
  have hq : Calls Try.prog 68 #[.pointer (some ⟨P, 0, none⟩), .int .i64 9, .slice none 0 0] w (WrPost 78 w base P A (putE e 9) l) := by
    have := put_any 9 w h (Sl.nil w) (fun h => absurd rfl h) (by omega) hbase
    rw [putB_err (by decide)] at this
    exact this
  have HQ := Lib.hid hq
  clear hq h
  by_cases c1 : x < 0
  · clear hx
    go_enter Try.func31, Try.ntmps31
    go_wp2_with fail
    refine HQ.out.mono ?_
    rintro en w' ⟨rfl, hp⟩
    go_wp2
    go_ret
    exact ⟨rfl, hp⟩
  · have c2 : 9007199254740991 < x := by omega
    clear hx
    go_enter Try.func31, Try.ntmps31
    go_wp2_with fail
    refine HQ.out.mono ?_
    rintro en w' ⟨rfl, hp⟩
    go_wp2
    go_ret
    exact ⟨rfl, hp⟩

theorem count_any {base P : Nat} {e : Int} {l : List UInt8} {A : Option Addr} {n c : Nat} (x : Int) (w : World) (h : Wr 78 w base P e l A n c)
    (hlen : n + 10 ≤ 140737488355328) (hbase : base ≤ w.heap.size) :
    Calls Try.prog 31 #[.pointer (some ⟨P, 0, none⟩), .int .i64 x] w (WrPost 78 w base P A (putE e (cntE x)) (putB e (cntE x) l (cntBytes x.toNat))) := by
  by_cases hx : x < 0 ∨ 9007199254740991 < x
  · have e1 : cntE x = 9 := by unfold cntE; rw [if_pos hx]
    rw [e1, putB_err (by decide)]
    exact count_err x w h hlen hbase hx
  · have e1 : cntE x = 0 := by unfold cntE; rw [if_neg hx]
    rw [e1]
    have hx0 : 0 ≤ x := by omega
    obtain ⟨xn, rfl⟩ := Int.eq_ofNat_of_zero_le hx0
    exact count_ok xn w h hlen hbase (by omega)

set_option maxHeartbeats 400000 in
theorem raw_any {base P : Nat} {e : Int} {l m : List UInt8} {A A2 : Option Addr} {n c n2 c2 : Nat} (w : World) (h : Wr 78 w base P e l A n c) (hm : Sl w A2 n2 c2 m)
    (hA2 : m ≠ [] → blkOf A2 ≠ some P) (hlen : n + n2 ≤ 140737488355328) (hbase : base ≤ w.heap.size) :
    Calls Try.prog 35 #[.pointer (some ⟨P, 0, none⟩), .slice A2 n2 c2] w (WrPost 78 w base P A e (okB e l m)) := by
  have hq := put_any 0 w h hm hA2 hlen hbase
  rw [putE_zero, putB_zero] at hq
  have HQ := Lib.hid hq
  clear hq h hm
  go_enter Try.func35, Try.ntmps35
  go_wp2_with fail
  refine HQ.out.mono ?_
  rintro en w' ⟨rfl, hp⟩
  go_wp2
  go_ret
  exact ⟨rfl, hp⟩

theorem Wr.len {T : TypeId} {w : World} {base P : Nat} {e : Int} {l : List UInt8} {A : Option Addr} {n c : Nat} (h : Wr T w base P e l A n c) : n = l.length := h.own.len
theorem okB_len (e : Int) (l m : List UInt8) : (okB e l m).length ≤ l.length + m.length := by unfold okB; split <;> simp

theorem cntHi_len (k : Nat) : ∀ m, m < 2 ^ (7 * k) → (cntHi m).length ≤ k := by
  induction k with
  | zero => intro m h; simp at h; subst h; simp [cntHi]
  | succ k ih =>
    intro m h
    by_cases h0 : m = 0
    · subst h0; simp [cntHi]
    · rw [cntHi_pos m (by omega)]
      have := ih (m / 128) (by rw [show 7 * (k + 1) = 7 * k + 7 from by omega, Nat.pow_add] at h; omega)
      simp; omega
theorem cntBytes_len (x : Nat) (h : x ≤ 9007199254740991) : (cntBytes x).length ≤ 8 := by
  have := cntHi_len 7 (x / 128) (by omega)
  simp [cntBytes]; omega

set_option maxHeartbeats 400000 in
theorem text_any {base P : Nat} {e : Int} {l m : List UInt8} {A A2 : Option Addr} {n c n2 c2 : Nat} (w : World) (h : Wr 78 w base P e l A n c) (hm : Sl w A2 n2 c2 m)
    (hA2 : m ≠ [] → ∀ b, blkOf A2 = some b → ¬ foot P A b) (hlen : n + n2 + 10 ≤ 140737488355328) (hbase : base ≤ w.heap.size) :
    Calls Try.prog 33 #[.pointer (some ⟨P, 0, none⟩), .slice A2 n2 c2] w (WrPost 78 w base P A e (okB e l (cntBytes m.length ++ m))) := by
  have hml := hm.len
  have hq := count_ok n2 w h (by omega) hbase (by omega)
  rw [putE_zero, putB_zero] at hq
  have HQ := Lib.hid hq
  have hl := h.len
  have hcb := cntBytes_len n2 (by omega)
  have hob := okB_len e l (cntBytes n2)
  have HM := Lib.hid hml
  have HL := Lib.hid hl
  clear hq h hml hl
  go_enter Try.func33, Try.ntmps33
  go_wp2_with fail
  refine HQ.out.mono ?_
  rintro en w1 ⟨rfl, A1, n1, c1, h1, hf1, h3⟩
  have hm1 := hm.fr' hf1 hA2
  have hq := raw_any w1 h1 hm1 (fun hz e' => hA2 hz P e' (.inl rfl)) (by have := h1.len; have := HL.out; omega) (by have := hf1.size; omega)
  rw [okB_okB] at hq
  have HQ2 := Lib.hid hq
  clear hq hm1 h1 HQ hm
  go_wp2_with fail
  refine HQ2.out.mono ?_
  rintro en w2 ⟨rfl, A2, n2, c2, h4, hf2, h5⟩
  have hf3 : Fr (foot P A) w w2 := hf1.trans hf2 (fun b hb => by
    rcases hb with hb | hb
    · exact .inl (.inl hb)
    · exact (h3 b hb).imp .inr id)
  have hA : ∀ k, blkOf A2 = some k → blkOf A = some k ∨ w.heap.size ≤ k := fun k hk => by
    rcases h5 k hk with h6 | h6
    · exact h3 k h6
    · exact .inr (by have := hf1.size; omega)
  rw [HM.out] at h4
  clear h5 h3 hf1 hf2
  go_wp2
  go_ret
  exact ⟨rfl, A2, n2, c2, h4, hf3, hA⟩

/-- Bytes of the call's own, and an error. -/
def FreshE (w : World) (l : List UInt8) (e1 : Int) (en : Ending) (w' : World) : Prop :=
  ∃ A c, en = .returned (.tuple #[.slice A l.length c, .int .i64 e1]) ∧ Own w' w.heap.size 5 A l.length c l ∧ Below w.heap.size w w'

set_option maxHeartbeats 400000 in
theorem wbytes_any {base P : Nat} {e : Int} {l : List UInt8} {A : Option Addr} {n c : Nat} (w : World) (h : Wr 78 w base P e l A n c) (hlen : n ≤ 140737488355328) :
    Calls Try.prog 37 #[.pointer (some ⟨P, 0, none⟩)] w (FreshE w (if e = 0 then l else []) e) := by
  have c0 : w.cell? ⟨P, 0, none⟩ = some (.slice A n c) := h.blk.cell 0
  have c1 : w.cell? ⟨P, 1, none⟩ = some (.int .i64 e) := h.blk.cell 1
  by_cases he : e = 0
  · subst he
    have hq := clone_any w h.own.sl hlen
    have HQ := Lib.hid hq
    clear hq h
    go_enter Try.func37, Try.ntmps37
    go_wp2_with fail
    refine HQ.out.mono ?_
    rintro en w' ⟨A', c', rfl, hown, hB⟩
    go_wp2
    go_ret2
    exact ⟨A', c', rfl, hown, hB⟩
  · have he' : (e == 0) = false := by simpa using he
    have he2 : (e != 0) = true := by simpa using he
    go_enter Try.func37, Try.ntmps37
    go_wp2_with fail
    go_quiet (fail)
    go_wp2
    go_ret2
    refine ⟨none, 0, ?_, ?_, ?_⟩
    · simp
    · exact Own.nil _ _ _
    · exact below_drewN (Below.refl _ _) _

set_option maxHeartbeats 400000 in
theorem write_any (w : World) :
    Calls Try.prog 27 #[] w fun e w' => e = .returned (.pointer (some ⟨w.heap.size, 0, none⟩)) ∧ w' = w.alloc (.cells #[.slice none 0 0, .int .i64 0] 78) := by
  go_enter Try.func27, Try.ntmps27
  go_wp2
  go_ret
  exact ⟨rfl, rfl⟩
end Go.Proofs.Ytblpnlobicjccaa
