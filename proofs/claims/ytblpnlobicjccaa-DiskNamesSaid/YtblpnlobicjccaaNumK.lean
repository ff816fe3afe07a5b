/- The chapter's numbers (works), and the writer's contracts said of what lies below its own memory. -/
import Derived.Test.YtblpnlobicjccaaNumR
import Derived.Lib.SlBytesConst
namespace Go.Proofs.Ytblpnlobicjccaa
open Go.RowKit

/-- A slice literal of bytes. -/
theorem litSl (w : World) (l : List UInt8) (cs : Array Value) (n : Nat) (mk : Nat × Nat) (hc : cs = (l.map bv).toArray) (hn : n = l.length) (hl : l.length ≤ 1000) : Sl (w.alloc (.cells cs 5 mk)) (some ⟨w.heap.size, 0, none⟩) n n l := by
  subst hc
  refine ⟨hn, Nat.le_refl _, by unfold maxLen; omega, .inr ⟨_, 0, rfl, fun j hj => ?_⟩⟩
  have := cell_of_row (w.alloc (.cells (l.map bv).toArray 5 mk)) w.heap.size (0 + j) (l.map bv).toArray 5 mk (heap_alloc_new w _)
  rw [this]
  simp [hj]

theorem Wr.new (w : World) (T : TypeId) : Wr T (w.alloc (.cells #[.slice none 0 0, .int .i64 0] T)) w.heap.size w.heap.size 0 [] none 0 0 :=
  ⟨Blk.new _ _ _, Own.nil _ _ _⟩

/-- The same, said of what lies below the writer's own memory. -/
def WrB (T : TypeId) (w : World) (base P : Nat) (e : Int) (l : List UInt8) (en : Ending) (w' : World) : Prop :=
  en = .returned (.pointer (some ⟨P, 0, none⟩)) ∧ ∃ A' n' c', Wr T w' base P e l A' n' c' ∧ Below base w w'
theorem WrPost.toB {T : TypeId} {w w' : World} {base P : Nat} {e e' : Int} {l l' : List UInt8} {A : Option Addr} {n c : Nat} {en : Ending} (hw : Wr T w base P e l A n c) (hP : base ≤ P) (hb : base ≤ w.heap.size)
    (h : WrPost T w base P A e' l' en w') : WrB T w base P e' l' en w' := by
  obtain ⟨rfl, A', n', c', h1, h2, _⟩ := h
  exact ⟨rfl, A', n', c', h1, h2.to_below hb (fun b hb => hb.elim (fun e => e ▸ hP) (fun e => (hw.own.lt b e).1))⟩

set_option maxHeartbeats 400000 in
theorem wrong_any {base P : Nat} {e : Int} {l : List UInt8} {A : Option Addr} {n c : Nat} (w : World) (h : Wr 78 w base P e l A n c) (hlen : n ≤ 140737488355328) :
    Calls Try.prog 74 #[.pointer (some ⟨P, 0, none⟩)] w fun en w' => en = .returned (.int .i64 e) ∧ Below w.heap.size w w' := by
  have Q := Lib.hid (wbytes_any w h hlen)
  clear h
  by_cases he : e = 0
  · subst he
    go_enter Try.func74, Try.ntmps74
    go_wp2_with fail
    refine Q.out.mono ?_
    rintro en w' ⟨A', c', rfl, hown, hB⟩
    go_wp2
    go_ret
    exact ⟨rfl, hB⟩
  · have h1 : (e != 0) = true := by simpa using he
    have h2 : (e == 0) = false := by simpa using he
    rw [if_neg he] at Q
    go_enter Try.func74, Try.ntmps74
    go_wp2_with fail
    refine Q.out.mono ?_
    rintro en w' ⟨A', c', rfl, hown, hB⟩
    go_wp2
    go_ret
    exact ⟨rfl, hB⟩


section
variable {base P : Nat} {e : Int} {l : List UInt8} {A : Option Addr} {n c : Nat}
theorem num_b (wd x e' : Int) (l' : List UInt8) (w : World) (h : Wr 78 w base P e l A n c) (hP : base ≤ P) (hb : base ≤ w.heap.size) (hl : l.length ≤ 1000000000) (he : putE e (numE wd x) = e') (hl' : putB e (numE wd x) l (numBytes wd.toNat x.toNat) = l') :
    Calls Try.prog 29 #[.pointer (some ⟨P, 0, none⟩), .int .i64 wd, .int .i64 x] w (WrB 78 w base P e' l') := by
  rw [← he, ← hl']
  exact (num_any wd x w h (by have := h.len; omega) hb).mono fun _ _ q => WrPost.toB h hP hb q
theorem count_b (x e' : Int) (l' : List UInt8) (w : World) (h : Wr 78 w base P e l A n c) (hP : base ≤ P) (hb : base ≤ w.heap.size) (hl : l.length ≤ 1000000000) (he : putE e (cntE x) = e') (hl' : putB e (cntE x) l (cntBytes x.toNat) = l') :
    Calls Try.prog 31 #[.pointer (some ⟨P, 0, none⟩), .int .i64 x] w (WrB 78 w base P e' l') := by
  rw [← he, ← hl']
  exact (count_any x w h (by have := h.len; omega) hb).mono fun _ _ q => WrPost.toB h hP hb q
theorem text_b {A2 : Option Addr} {n2 c2 : Nat} {m : List UInt8} (l' : List UInt8) (w : World) (h : Wr 78 w base P e l A n c) (hm : Sl w A2 n2 c2 m) (hA2 : m ≠ [] → ∀ b, blkOf A2 = some b → ¬ foot P A b) (hP : base ≤ P) (hb : base ≤ w.heap.size) (hl : l.length ≤ 1000000000) (hml : m.length ≤ 1000000000)
    (hl' : okB e l (cntBytes m.length ++ m) = l') :
    Calls Try.prog 33 #[.pointer (some ⟨P, 0, none⟩), .slice A2 n2 c2] w (WrB 78 w base P e l') := by
  rw [← hl']
  exact (text_any w h hm hA2 (by have := h.len; have := hm.len; omega) hb).mono fun _ _ q => WrPost.toB h hP hb q
theorem raw_b {A2 : Option Addr} {n2 c2 : Nat} {m : List UInt8} (l' : List UInt8) (w : World) (h : Wr 78 w base P e l A n c) (hm : Sl w A2 n2 c2 m) (hA2 : m ≠ [] → blkOf A2 ≠ some P) (hP : base ≤ P) (hb : base ≤ w.heap.size) (hl : l.length ≤ 1000000000) (hml : m.length ≤ 1000000000)
    (hl' : okB e l m = l') :
    Calls Try.prog 35 #[.pointer (some ⟨P, 0, none⟩), .slice A2 n2 c2] w (WrB 78 w base P e l') := by
  rw [← hl']
  exact (raw_any w h hm hA2 (by have := h.len; have := hm.len; omega) hb).mono fun _ _ q => WrPost.toB h hP hb q
end
/-- A new writer. -/
def NewW (T : TypeId) (w : World) (en : Ending) (w' : World) : Prop := en = .returned (.pointer (some ⟨w.heap.size, 0, none⟩)) ∧ Wr T w' w.heap.size w.heap.size 0 [] none 0 0 ∧ Below w.heap.size w w'
theorem write_b (w : World) : Calls Try.prog 27 #[] w (NewW 78 w) :=
  (write_any w).mono fun _ _ ⟨h1, h2⟩ => ⟨h1, by rw [h2]; exact Wr.new w 78, by rw [h2]; exact (Below.refl _ _).alloc (Nat.le_refl _) _⟩

theorem Rr.old {T : TypeId} {w w' : World} {P : Nat} {s : RS} {A : Option Addr} {n c : Nat} (h : Rr T w P s A n c) (k : Below w.heap.size w w') : Rr T w' P s A n c := ⟨h.blk.below k h.blk.lt, h.sl.old k, h.ne⟩
theorem Rr.alloc {T : TypeId} {w : World} {P : Nat} {s : RS} {A : Option Addr} {n c : Nat} (h : Rr T w P s A n c) (o : Obj) : Rr T (w.alloc o) P s A n c := ⟨h.blk.alloc o, h.sl.alloc o, h.ne⟩
theorem rcount_c {P : Nat} {s s' : RS} {A : Option Addr} {n c : Nat} (most v : Int) (w : World) (h : Rr 88 w P s A n c) (hlen : n ≤ 140737488355328) (hv : cntRun most 8 0 s = (v, s')) :
    Calls Try.prog 46 #[.pointer (some ⟨P, 0, none⟩), .int .i64 most] w (RrPost 88 w P A v s') := by
  have := rCount_any most w h hlen
  rw [hv] at this
  exact this

set_option maxHeartbeats 2000000 in
theorem nworks_any (w : World) : Calls Try.prog 39 #[] w fun en w' => en = .returned (.bool true) ∧ Below w.heap.size w w' := by
  have kc := fun (w : World) (C : Array Value) (n c : Nat) => Lib.run_convert_bytes_const (P := Try.prog) w 26 5 C n c Try.underlying26 Try.underlying5
  go_enter Try.func39, Try.ntmps39
  go_wp2_with fail
  refine (write_b _).mono ?_
  rintro en w1 ⟨rfl, hW, B⟩
  go_wp2_with fail
  refine (num_b 2 258 0 [1, 2] _ hW (Nat.le_refl _) B.size (by decide) (by decide +kernel) (by decide +kernel)).mono ?_
  clear hW
  rintro en w2 ⟨rfl, A2, n2, c2, hW, hB⟩
  replace B := B.trans hB
  clear hB
  go_wp2_with fail
  refine (count_b 300 0 [1, 2, 130, 44] _ hW (Nat.le_refl _) B.size (by decide) (by decide +kernel) (by decide +kernel)).mono ?_
  clear hW
  rintro en w3 ⟨rfl, A3, n3, c3, hW, hB⟩
  replace B := B.trans hB
  clear hB
  have hs := litSl w3 [97, 98] #[.int .u8 97, .int .u8 98] 2 (2, 3) rfl rfl (by decide)
  have hW' := hW.fr (S := fun _ => False) ((Fr.refl _ _).alloc (.cells #[.int .u8 97, .int .u8 98] 5 (2, 3))) id (fun _ _ => id)
  replace B := B.alloc B.size (.cells #[.int .u8 97, .int .u8 98] 5 (2, 3))
  go_wp2_with fail
  refine (text_b [1, 2, 130, 44, 2, 97, 98] _ hW' hs ?_ (Nat.le_refl _) B.size (by decide) (by decide) (by decide +kernel)).mono ?_
  · intro _ b hb hf
    have : b = w3.heap.size := by simpa [blkOf] using hb.symm
    subst this
    rcases hf with hf | hf
    · have := hW.blk.lt; omega
    · have := (hW.own.lt _ hf).2; omega
  clear hW hW' hs
  rintro en w4 ⟨rfl, A4, n4, c4, hW, hB⟩
  replace B := B.trans hB
  clear hB
  go_wp2_with fail
  refine (wbytes_any _ hW (by have := hW.len; simp at this; omega)).mono ?_
  clear hW
  rintro en w5 ⟨A5, c5, rfl, hown, hB⟩
  replace B := B.trans (hB.mono B.size)
  rw [if_pos rfl] at hown
  clear hB
  go_wp2_with fail
  have hs := litSl w5 [1, 2, 130, 44, 2, 97, 98] #[.int .u8 1, .int .u8 2, .int .u8 130, .int .u8 44, .int .u8 2, .int .u8 97, .int .u8 98] 7 (0, 0) rfl rfl (by decide)
  replace B := B.alloc B.size (.cells #[.int .u8 1, .int .u8 2, .int .u8 130, .int .u8 44, .int .u8 2, .int .u8 97, .int .u8 98] 5)
  refine (eqb_any _ ((hown.alloc _).sl) hs).mono ?_
  clear hown hs
  rintro en w6 ⟨rfl, rfl⟩
  generalize w5.alloc (.cells #[.int .u8 1, .int .u8 2, .int .u8 130, .int .u8 44, .int .u8 2, .int .u8 97, .int .u8 98] 5) = wx at B ⊢
  have hz := B.size
  go_wp2_with fail
  refine (write_b _).mono ?_
  rintro en a1 ⟨rfl, hW, hB⟩
  replace B := B.trans (hB.mono hz)
  clear hB
  go_wp2_with fail
  refine (num_b 3 1 2 [] _ hW (Nat.le_refl _) (Nat.le_of_lt hW.blk.lt) (by decide) (by decide +kernel) (by decide +kernel)).mono ?_
  clear hW
  rintro en a2 ⟨rfl, A2, n2, c2, hW, hB⟩
  replace B := B.trans (hB.mono hz)
  clear hB hz
  go_wp2_with fail
  refine (wrong_any _ hW (by have := hW.len; simp at this; omega)).mono ?_
  clear hW
  rintro en a3 ⟨rfl, hB⟩
  replace B := B.trans (hB.mono B.size)
  clear hB
  have hz := B.size
  go_wp2_with fail
  refine (write_b _).mono ?_
  rintro en b1 ⟨rfl, hW, hB⟩
  replace B := B.trans (hB.mono hz)
  clear hB
  go_wp2_with fail
  refine (num_b 1 256 9 [] _ hW (Nat.le_refl _) (Nat.le_of_lt hW.blk.lt) (by decide) (by decide +kernel) (by decide +kernel)).mono ?_
  clear hW
  rintro en b2 ⟨rfl, A2, n2, c2, hW, hB⟩
  replace B := B.trans (hB.mono hz)
  clear hB hz
  go_wp2_with fail
  refine (wrong_any _ hW (by have := hW.len; simp at this; omega)).mono ?_
  clear hW
  rintro en b3 ⟨rfl, hB⟩
  replace B := B.trans (hB.mono B.size)
  clear hB
  have hz := B.size
  go_wp2_with fail
  refine (write_b _).mono ?_
  rintro en c1 ⟨rfl, hW, hB⟩
  replace B := B.trans (hB.mono hz)
  clear hB
  go_wp2_with fail
  refine (count_b (-1) 9 [] _ hW (Nat.le_refl _) (Nat.le_of_lt hW.blk.lt) (by decide) (by decide +kernel) (by decide +kernel)).mono ?_
  clear hW
  rintro en c2 ⟨rfl, A2, n2, c2, hW, hB⟩
  replace B := B.trans (hB.mono hz)
  clear hB hz
  go_wp2_with fail
  refine (wrong_any _ hW (by have := hW.len; simp at this; omega)).mono ?_
  clear hW
  rintro en c3 ⟨rfl, hB⟩
  replace B := B.trans (hB.mono B.size)
  clear hB
  have hsc := B.size
  go_wp2_with fail
  have hs := litSl c3 [128, 1] #[.int .u8 128, .int .u8 1] 2 (0, 0) rfl rfl (by decide)
  replace B := B.alloc B.size (.cells #[.int .u8 128, .int .u8 1] 5)
  have hz := B.size
  refine (read_any _ hs (by decide)).mono ?_
  clear hs
  rintro en x1 ⟨Px, Ax, nx, cx, rfl, hPx, hAx, hRx, hB⟩
  simp only [World.size_alloc] at hPx hAx
  replace B := B.trans (hB.mono hz)
  have hxn := hRx.sl.len
  simp only [List.length_cons, List.length_nil] at hxn
  clear hB hz
  have hsx := B.size
  have hPx2 := hRx.blk.lt
  have hAx2 : ∀ b, blkOf Ax = some b → b < x1.heap.size := fun b hb => by obtain ⟨b', h1, h2⟩ := hRx.sl.rd.lt (by decide); rw [hb] at h1; injection h1 with h1; omega
  go_wp2_with fail
  have hs := litSl x1 [130] #[.int .u8 130] 1 (0, 0) rfl rfl (by decide)
  replace B := B.alloc B.size (.cells #[.int .u8 130] 5)
  have hz := B.size
  refine (read_any _ hs (by decide)).mono ?_
  clear hs
  rintro en y1 ⟨Py, Ay, ny, cy, rfl, hPy, hAy, hRy, hB⟩
  simp only [World.size_alloc] at hPy hAy
  replace B := B.trans (hB.mono hz)
  replace hRx := (hRx.alloc (.cells #[.int .u8 130] 5)).old hB
  have hyn := hRy.sl.len
  simp only [List.length_cons, List.length_nil] at hyn
  clear hB hz
  have hsy := B.size
  have hPy2 := hRy.blk.lt
  have hAy2 : ∀ b, blkOf Ay = some b → b < y1.heap.size := fun b hb => by obtain ⟨b', h1, h2⟩ := hRy.sl.rd.lt (by decide); rw [hb] at h1; injection h1 with h1; omega
  go_wp2_with fail
  have hs := litSl y1 [10] #[.int .u8 10] 1 (0, 0) rfl rfl (by decide)
  replace B := B.alloc B.size (.cells #[.int .u8 10] 5)
  have hz := B.size
  refine (read_any _ hs (by decide)).mono ?_
  clear hs
  rintro en z1 ⟨Pz, Az, nz, cz, rfl, hPz, hAz, hRz, hB⟩
  simp only [World.size_alloc] at hPz hAz
  replace B := B.trans (hB.mono hz)
  replace hRx := (hRx.alloc (.cells #[.int .u8 10] 5)).old hB
  replace hRy := (hRy.alloc (.cells #[.int .u8 10] 5)).old hB
  have hzn := hRz.sl.len
  simp only [List.length_cons, List.length_nil] at hzn
  clear hB hz
  have hsz := B.size
  have hPz2 := hRz.blk.lt
  go_wp2_with fail
  refine (rcount_c (s' := ⟨4, []⟩) 9 0 _ hRx (by omega) (by rfl)).mono ?_
  rintro en x2 ⟨rfl, ⟨Ax, nx, cx, hRx', hAx'⟩, hf⟩
  replace B := Fr.below B hf B.size (fun b hb => by omega)
  replace hRy := hRy.fr hf (by omega) (fun b hb e => by have := hAy b hb; omega)
  replace hRz := hRz.fr hf (by omega) (fun b hb e => by have := hAz b hb; omega)
  clear hf hRx
  go_wp2_with fail
  refine (rErr_any _ hRx').mono ?_
  rintro en x3 ⟨rfl, rfl⟩
  go_wp2_with fail
  refine (rcount_c (s' := ⟨3, []⟩) 9 0 _ hRy (by omega) (by rfl)).mono ?_
  rintro en y2 ⟨rfl, ⟨Ay, ny, cy, hRy', hAy'⟩, hf⟩
  replace B := Fr.below B hf B.size (fun b hb => by omega)
  replace hRz := hRz.fr hf (by omega) (fun b hb e => by have := hAz b hb; omega)
  clear hf hRy
  go_wp2_with fail
  refine (rErr_any _ hRy').mono ?_
  rintro en y3 ⟨rfl, rfl⟩
  go_wp2_with fail
  refine (rcount_c (s' := ⟨5, []⟩) 9 0 _ hRz (by omega) (by rfl)).mono ?_
  rintro en z2 ⟨rfl, ⟨Az, nz, cz, hRz', hAz'⟩, hf⟩
  replace B := Fr.below B hf B.size (fun b hb => by omega)
  clear hf hRz
  go_wp2_with fail
  refine (rErr_any _ hRz').mono ?_
  rintro en z3 ⟨rfl, rfl⟩
  go_wp2
  go_ret
  exact ⟨rfl, B⟩
end Go.Proofs.Ytblpnlobicjccaa
