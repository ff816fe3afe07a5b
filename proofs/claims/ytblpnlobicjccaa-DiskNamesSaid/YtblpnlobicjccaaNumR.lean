/- The program's reader (package num), method by method: each by its contract over the state (error, bytes left). -/
import Derived.Test.YtblpnlobicjccaaNumW
import Derived.Deep.LoopGhost
namespace Go.Proofs.Ytblpnlobicjccaa
open Go.RowKit

/-- A reader's state: the first error, the bytes that are left. -/
structure RS where
  e : Int
  l : List UInt8
def failS (e1 : Int) (s : RS) : RS := ⟨orI s.e e1, []⟩
def rawO (n : Int) (s : RS) : List UInt8 := if s.e = 0 ∧ 0 ≤ n ∧ n ≤ s.l.length then s.l.take n.toNat else []
def rawS (n : Int) (s : RS) : RS := if s.e = 0 then (if n < 0 then ⟨2, []⟩ else if (s.l.length : Int) < n then ⟨3, []⟩ else ⟨0, s.l.drop n.toNat⟩) else s
def endE (s : RS) : Int := if s.e = 0 ∧ 0 < s.l.length then 4 else s.e

/-- A reader (of whichever package: T is its struct's number) at block P. -/
structure Rr (T : TypeId) (w : World) (P : Nat) (s : RS) (A : Option Addr) (n c : Nat) : Prop where
  blk : Blk w P T #[.slice A n c, .int .i64 s.e]
  sl : Sl w A n c s.l
  ne : blkOf A ≠ some P
section
variable {T : TypeId} {w w' : World} {P : Nat} {s : RS} {A : Option Addr} {n c : Nat} {S : Nat → Prop}
theorem Rr.fr (h : Rr T w P s A n c) (k : Fr S w w') (h1 : ¬ S P) (h2 : ∀ b, blkOf A = some b → ¬ S b) : Rr T w' P s A n c := ⟨h.blk.fr k h1, h.sl.fr k h2, h.ne⟩
end
/-- The state that a reader's method leaves. -/
def RrSt (T : TypeId) (w : World) (P : Nat) (A : Option Addr) (s : RS) (w' : World) : Prop :=
  (∃ A' n' c', Rr T w' P s A' n' c' ∧ ∀ k, blkOf A' = some k → blkOf A = some k) ∧ Fr (fun k => k = P) w w'
def RrPost (T : TypeId) (w : World) (P : Nat) (A : Option Addr) (v : Int) (s : RS) (en : Ending) (w' : World) : Prop :=
  en = .returned (.int .i64 v) ∧ RrSt T w P A s w'
def RrPostB (T : TypeId) (w : World) (P : Nat) (A : Option Addr) (out : List UInt8) (s : RS) (en : Ending) (w' : World) : Prop :=
  ∃ A2 c2, en = .returned (.slice A2 out.length c2) ∧ Own w' w.heap.size 5 A2 out.length c2 out ∧ RrSt T w P A s w'

set_option maxHeartbeats 400000 in
theorem rErr_any {P : Nat} {s : RS} {A : Option Addr} {n c : Nat} (w : World) (h : Rr 88 w P s A n c) :
    Calls Try.prog 47 #[.pointer (some ⟨P, 0, none⟩)] w fun e w' => e = .returned (.int .i64 s.e) ∧ w = w' := by
  have c1 : w.cell? ⟨P, 1, none⟩ = some (.int .i64 s.e) := h.blk.cell 1
  clear h
  go_enter Try.func47, Try.ntmps47
  go_wp2
  go_ret
  exact ⟨rfl, rfl⟩

set_option maxHeartbeats 400000 in
theorem rLeft_any {P : Nat} {s : RS} {A : Option Addr} {n c : Nat} (w : World) (h : Rr 88 w P s A n c) :
    Calls Try.prog 48 #[.pointer (some ⟨P, 0, none⟩)] w fun e w' => e = .returned (.int .i64 s.l.length) ∧ w = w' := by
  have c0 : w.cell? ⟨P, 0, none⟩ = some (.slice A n c) := h.blk.cell 0
  have H := Lib.hid h.sl.len
  clear h
  go_enter Try.func48, Try.ntmps48
  go_wp2
  go_ret
  exact ⟨by rw [← H.out]; rfl, rfl⟩

set_option maxHeartbeats 400000 in
theorem rEnd_any {P : Nat} {s : RS} {A : Option Addr} {n c : Nat} (w : World) (h : Rr 88 w P s A n c) :
    Calls Try.prog 49 #[.pointer (some ⟨P, 0, none⟩)] w fun e w' => e = .returned (.int .i64 (endE s)) ∧ w = w' := by
  have q1 := rErr_any w h
  have q2 := rLeft_any w h
  have HE := Lib.hid (show endE s = if s.e = 0 ∧ 0 < s.l.length then 4 else s.e from rfl)
  generalize endE s = v at *
  have Q1 := Lib.hid q1
  have Q2 := Lib.hid q2
  clear q1 q2 h
  by_cases he : s.e = 0
  · by_cases hl : 0 < s.l.length
    · have HV := Lib.hid (show v = 4 by rw [HE.out, if_pos ⟨he, hl⟩])
      have hl' : (0 : Int) < s.l.length := by omega
      go_enter Try.func49, Try.ntmps49
      go_wp2_with (first | (go_at_call 47; refine Q1.out.mono ?_; rintro en w' ⟨rfl, rfl⟩) | (go_at_call 48; refine Q2.out.mono ?_; rintro en w' ⟨rfl, rfl⟩))
      go_ret
      exact ⟨by rw [HV.out]; rfl, rfl⟩
    · have HV := Lib.hid (show v = 0 by rw [HE.out, if_neg (fun h => hl h.2), he])
      have hl' : ¬ (0 : Int) < s.l.length := by omega
      go_enter Try.func49, Try.ntmps49
      go_wp2_with (first | (go_at_call 47; refine Q1.out.mono ?_; rintro en w' ⟨rfl, rfl⟩) | (go_at_call 48; refine Q2.out.mono ?_; rintro en w' ⟨rfl, rfl⟩))
      go_ret
      exact ⟨by rw [HV.out]; rfl, rfl⟩
  · have HV := Lib.hid (show v = s.e by rw [HE.out, if_neg (fun h => he h.1)])
    have he' : (s.e == 0) = false := by simpa using he
    go_enter Try.func49, Try.ntmps49
    go_wp2_with (first | (go_at_call 47; refine Q1.out.mono ?_; rintro en w' ⟨rfl, rfl⟩) | (go_at_call 48; refine Q2.out.mono ?_; rintro en w' ⟨rfl, rfl⟩))
    go_ret
    exact ⟨by rw [HV.out]; rfl, rfl⟩

set_option maxHeartbeats 400000 in
theorem rFail_any {P : Nat} {s : RS} {A : Option Addr} {n c : Nat} (e1 : Int) (w : World) (h : Rr 88 w P s A n c) :
    Calls Try.prog 82 #[.pointer (some ⟨P, 0, none⟩), .int .i64 e1] w (RrPost 88 w P A 0 (failS e1 s)) := by
  have hP := h.blk.lt
  have c0 : w.cell? ⟨P, 0, none⟩ = some (.slice A n c) := h.blk.cell 0
  have c1 : w.cell? ⟨P, 1, none⟩ = some (.int .i64 s.e) := h.blk.cell 1
  have f0 := h.blk.frozen 0
  have f1 := h.blk.frozen 1
  have q0 := (Blk.new w 30 #[.int .i64 s.e, .int .i64 e1]).cell 0
  have q1 := (Blk.new w 30 #[.int .i64 s.e, .int .i64 e1]).cell 1
  have hblk := (((h.blk.set_ 0 (.slice none 0 0)).set_ 1 (.int .i64 (orI s.e e1))).alloc (.cells #[.int .i64 s.e, .int .i64 e1] 30))
  have hfr : Fr (fun k => k = P) w (((w.setCell ⟨P, 0, none⟩ (.slice none 0 0)).setCell ⟨P, 1, none⟩ (.int .i64 (orI s.e e1))).alloc (.cells #[.int .i64 s.e, .int .i64 e1] 30)) :=
    (((Fr.refl (fun k => k = P) w).setCell (p := ⟨P, 0, none⟩) (.inl rfl) _).setCell (p := ⟨P, 1, none⟩) (.inl rfl) _).alloc _
  clear h
  go_enter Try.func82, Try.ntmps82
  go_wp2_with fail
  refine (or_any _ _ s.e e1 _ q0 q1).mono ?_
  rintro en w' ⟨rfl, rfl⟩
  clear q0 q1
  go_wp2
  go_ret
  exact ⟨rfl, ⟨none, 0, 0, ⟨hblk, Sl.nil _, by simp [blkOf]⟩, fun k hk => by cases hk⟩, hfr⟩

set_option maxHeartbeats 400000 in
theorem rRaw_any {P : Nat} {s : RS} {A : Option Addr} {n c : Nat} (k : Int) (w : World) (h : Rr 88 w P s A n c) (hlen : n ≤ 140737488355328) :
    Calls Try.prog 56 #[.pointer (some ⟨P, 0, none⟩), .int .i64 k] w (RrPostB 88 w P A (rawO k s) (rawS k s)) := by
  have c0 : w.cell? ⟨P, 0, none⟩ = some (.slice A n c) := h.blk.cell 0
  have f0 := h.blk.frozen 0
  have hl := h.sl.len
  have Q1 := Lib.hid (rErr_any w h)
  have Q2 := Lib.hid (rLeft_any w h)
  have QF := Lib.hid (fun e1 => rFail_any e1 w h)
  have same : ∀ (k : Int), rawO k s = [] → rawS k s = s → RrPostB 88 w P A (rawO k s) (rawS k s) (.returned (.slice none 0 0)) w := fun k h1 h2 => by
    rw [h1, h2]
    exact ⟨none, 0, rfl, Own.nil _ _ _, ⟨A, n, c, h, fun _ hk => hk⟩, Fr.refl _ _⟩
  by_cases he : s.e = 0
  · by_cases hk : k < 0
    · have e1 : rawO k s = [] := by unfold rawO; rw [if_neg (by omega)]
      have e2 : rawS k s = failS 2 s := by unfold rawS failS; rw [if_pos he, if_pos hk, he, orI_zero]
      rw [e1, e2]
      have E := Lib.hid he
      have qe : (s.e != 0) = false := by simpa using he
      have qe2 : (s.e == 0) = true := by simpa using he
      clear hl same e1 e2 he h
      go_enter Try.func56, Try.ntmps56
      go_wp2_with (first | (go_at_call 47; refine Q1.out.mono ?_; rintro en w' ⟨rfl, rfl⟩) | (go_at_call 82; refine (QF.out _).mono ?_; rintro en w' ⟨rfl, hst⟩))
      go_ret
      exact ⟨none, 0, rfl, Own.nil _ _ _, hst⟩
    · by_cases hn : (n : Int) < k
      · have e1 : rawO k s = [] := by unfold rawO; rw [if_neg (by omega)]
        have e2 : rawS k s = failS 3 s := by unfold rawS failS; rw [if_pos he, if_neg hk, if_pos (by omega), he, orI_zero]
        rw [e1, e2]
        have hn' : (s.l.length : Int) < k := by omega
        have qe : (s.e != 0) = false := by simpa using he
        have qe2 : (s.e == 0) = true := by simpa using he
        clear hl same e1 e2 he h
        go_enter Try.func56, Try.ntmps56
        go_wp2_with (first | (go_at_call 47; refine Q1.out.mono ?_; rintro en w' ⟨rfl, rfl⟩) | (go_at_call 48; refine Q2.out.mono ?_; rintro en w' ⟨rfl, rfl⟩) | (go_at_call 82; refine (QF.out _).mono ?_; rintro en w' ⟨rfl, hst⟩))
        go_ret
        exact ⟨none, 0, rfl, Own.nil _ _ _, hst⟩
      · obtain ⟨kn, rfl⟩ := Int.eq_ofNat_of_zero_le (show 0 ≤ k by omega)
        have hkn : kn ≤ n := by omega
        have e1 : rawO kn s = s.l.take kn := by unfold rawO; rw [if_pos ⟨he, by omega, by omega⟩]; rfl
        have e2 : rawS kn s = ⟨0, s.l.drop kn⟩ := by unfold rawS; rw [if_pos he, if_neg hk, if_neg (by omega)]; rfl
        rw [e1, e2]
        have hn' : ¬ (s.l.length : Int) < kn := by omega
        have hcap := h.sl.cap
        have r1 := fun w => run_cut_hi w A n c kn (by omega)
        have r2 := fun w => run_cut_lo w A n c kn hkn
        have hq := Lib.hid (clone_any w (h.sl.take hkn) (by omega))
        have qe : (s.e != 0) = false := by simpa using he
        have qe2 : (s.e == 0) = true := by simpa using he
        have H := Lib.hid h
        have E := Lib.hid he
        clear hl same e1 e2 he h
        go_enter Try.func56, Try.ntmps56
        go_wp2_with (first | (go_at_call 47; refine Q1.out.mono ?_; rintro en w' ⟨rfl, rfl⟩) | (go_at_call 48; refine Q2.out.mono ?_; rintro en w' ⟨rfl, rfl⟩))
        refine hq.out.mono ?_
        rintro en w1 ⟨A1, c1, rfl, hown, hB⟩
        have hb1 := H.out.blk.below hB H.out.blk.lt
        have d0 : w1.cell? ⟨P, 0, none⟩ = some (.slice A n c) := hb1.cell 0
        have g0 := hb1.frozen 0
        have hne : blkOf A1 ≠ some P := fun e' => by have := (hown.lt P e').1; have := H.out.blk.lt; omega
        have hown2 := hown.far (p := ⟨P, 0, none⟩) hne (.slice (cutA A c kn) (n - kn) (c - kn))
        have hb2 := hb1.set_ 0 (.slice (cutA A c kn) (n - kn) (c - kn))
        have hs2 := (H.out.sl.cut hkn).old hB
        have hs3 := hs2.far (p := ⟨P, 0, none⟩) (by rw [blkOf_cutA]; exact H.out.ne) (.slice (cutA A c kn) (n - kn) (c - kn))
        have hfr : Fr (fun k => k = P) w (w1.setCell ⟨P, 0, none⟩ (.slice (cutA A c kn) (n - kn) (c - kn))) := (Fr.of_below (S := fun k => k = P) hB).setCell (p := ⟨P, 0, none⟩) (.inl rfl) _
        clear hb1 hown hs2 hq Q1 Q2 QF r1
        go_wp2
        go_ret
        refine ⟨A1, c1, by simp, hown2, ⟨cutA A c kn, n - kn, c - kn, ⟨?_, hs3, by rw [blkOf_cutA]; exact H.out.ne⟩, fun b hb => by rw [blkOf_cutA] at hb; exact hb⟩, hfr⟩
        rw [E.out] at hb2
        exact hb2
  · have e1 : rawO k s = [] := by unfold rawO; rw [if_neg (fun h => he h.1)]
    have e2 : rawS k s = s := by unfold rawS; rw [if_neg he]
    have hs := Lib.hid (same k e1 e2)
    have qe : (s.e != 0) = true := by simpa using he
    have qe2 : (s.e == 0) = false := by simpa using he
    clear same e1 e2 h hl
    go_enter Try.func56, Try.ntmps56
    go_wp2_with (go_at_call 47; refine Q1.out.mono ?_; rintro en w' ⟨rfl, rfl⟩)
    go_ret
    exact hs.out

def beNat (l : List UInt8) : Nat := l.foldl (fun a u => a * 256 + u.toNat) 0
theorem u64_join (v x : Nat) (hx : x < 256) (hv : v < 72057594037927936) : bits .or .u64 (IntKind.u64.wrap ((v : Int) * 256)) (x : Int) = ((v * 256 + x : Nat) : Int) := by
  have e : IntKind.u64.wrap ((v : Int) * 256) = ((v * 256 : Nat) : Int) := by rw [IntKind.wrap_u64]; omega
  rw [e, u64_or_nat _ _ (by omega) (by omega), nat_join 8 _ _ (by omega) (by omega)]
theorem beNat_snoc (l : List UInt8) (x : UInt8) : beNat (l ++ [x]) = beNat l * 256 + x.toNat := by simp [beNat]

def numV (wd : Int) (s : RS) : Int := if s.e = 0 ∧ wideB wd = false then 0 else if 9007199254740991 < beNat (rawO wd s) then 0 else (beNat (rawO wd s) : Int)
def numS (wd : Int) (s : RS) : RS := if s.e = 0 ∧ wideB wd = false then failS 2 s else if 9007199254740991 < beNat (rawO wd s) then failS 9 (rawS wd s) else rawS wd s

set_option maxHeartbeats 400000 in
theorem rNum_wide {P : Nat} {s : RS} {A : Option Addr} {n c : Nat} (wd : Int) (w : World) (h : Rr 88 w P s A n c) (hlen : n ≤ 140737488355328) (hw : ¬ (s.e = 0 ∧ wideB wd = false)) (h8 : (rawO wd s).length ≤ 8) :
    Calls Try.prog 51 #[.pointer (some ⟨P, 0, none⟩), .int .i64 wd] w (RrPost 88 w P A (numV wd s) (numS wd s)) := by
  have Q1 := Lib.hid (rErr_any w h)
  have QR := Lib.hid (rRaw_any wd w h hlen)
  have hv : numV wd s = if 9007199254740991 < beNat (rawO wd s) then 0 else (beNat (rawO wd s) : Int) := by unfold numV; rw [if_neg hw]
  have hs : numS wd s = if 9007199254740991 < beNat (rawO wd s) then failS 9 (rawS wd s) else rawS wd s := by unfold numS; rw [if_neg hw]
  have HV := Lib.hid hv
  have HS := Lib.hid hs
  clear hv hs h
  generalize numV wd s = vv at *
  generalize numS wd s = ss at *
  generalize rawO wd s = out at *
  generalize rawS wd s = s1 at *
  have H8 := Lib.hid h8
  have hB : ((s.e == 0) = true ∧ wideB wd = true) ∨ (s.e == 0) = false := by
    by_cases hx : s.e = 0
    · exact .inl ⟨by simpa using hx, by by_cases hy : wideB wd = true; exact hy; exact absurd ⟨hx, by simpa using hy⟩ hw⟩
    · exact .inr (by simpa using hx)
  clear hw h8
  rcases hB with ⟨hb1, hb2⟩ | hb1
  all_goals
    go_enter Try.func51, Try.ntmps51
    go_wp2_with (first | (go_at_call 47; refine Q1.out.mono ?_; rintro en w' ⟨rfl, rfl⟩) | (go_at_call 67; refine (wide_any _ _).mono ?_; rintro en w' ⟨rfl, rfl⟩))
    refine QR.out.mono ?_
    rintro en w1 ⟨A2, c2, rfl, hown, ⟨A3, n3, c3, hR, hA3⟩, hfr⟩
    go_wp2_with fail
    go_loop [5, 22] (fun vv vi => ∃ (k v : Nat), vi = .int .i64 k ∧ vv = .int .u64 v ∧ k ≤ out.length ∧ k ≤ 8 ∧ Hid (v = beNat (out.take k)) ∧ v < 18446744073709551616 ∧ Hid (v < 2 ^ (8 * k))) (fun _ vi => out.length - (intOf vi).toNat)
    case atStart => exact ⟨0, 0, rfl, rfl, by omega, by omega, rfl, by omega, (by decide : 0 < 2 ^ (8 * 0))⟩
    case round =>
      obtain ⟨k, v, rfl, rfl, hk, hk8, hv, hv64, hvk⟩ := hrel
      by_cases hlt : k < out.length
      · obtain ⟨g, rfl⟩ := hown.at_ (by omega)
        obtain ⟨x, hx, cx, fx⟩ := hown.get rfl hlt
        have hxb : x.toNat < 256 := x.toNat_lt
        have Hx := Lib.hid hx
        clear hx
        go_wp2
        go_round
        case rel =>
          have hk7 : k < 8 := by have := H8.out; omega
          have hv56 : v < 72057594037927936 := by
            have := hvk.out
            have h2 : 2 ^ (8 * k) ≤ 2 ^ 56 := Nat.pow_le_pow_right (by decide) (by omega)
            omega
          refine ⟨k + 1, v * 256 + x.toNat, by go_num, by rw [u64_join v x.toNat hxb hv56], by omega, by omega, ?_, by omega, ?_⟩
          · show _ = _
            have hkl : k < out.length := hlt
            have hxx : out[k] = x := by have := Hx.out; rw [List.getElem?_eq_getElem hkl] at this; injection this
            rw [List.take_succ_eq_append_getElem hkl, hxx, beNat_snoc, ← hv.out]
          · show _ < _
            have := hvk.out
            rw [show 8 * (k + 1) = 8 * k + 8 from by omega, Nat.pow_add]
            omega
        case measure => simp [intOf]; omega
      · have hve : v = beNat out := by have := hv.out; rw [List.take_of_length_le (by omega)] at this; exact this
        have HVE := Lib.hid hve
        clear hve hv hvk
        by_cases hgt : 9007199254740991 < v
        · have hgt' : (9007199254740991 : Int) < (v : Int) := by omega
          have hq := Lib.hid (rFail_any 9 w1 hR)
          go_wp2_with fail
          refine hq.out.mono ?_
          rintro en w2 ⟨rfl, ⟨A4, n4, c4, hR4, hA4⟩, hfr4⟩
          go_wp2
          go_ret
          refine ⟨?_, ⟨A4, n4, c4, ?_, fun k hk => hA3 k (hA4 k hk)⟩, hfr.trans hfr4 (fun b hb => .inl hb)⟩
          · rw [HV.out, if_pos (by rw [← HVE.out]; exact hgt)]; rfl
          · rw [HS.out, if_pos (by rw [← HVE.out]; exact hgt)]; exact hR4
        · have hgt' : ¬ (9007199254740991 : Int) < (v : Int) := by omega
          go_wp2
          go_ret
          refine ⟨?_, ⟨A3, n3, c3, ?_, hA3⟩, hfr⟩
          · rw [HV.out, if_neg (by rw [← HVE.out]; exact hgt), ← HVE.out]; rfl
          · rw [HS.out, if_neg (by rw [← HVE.out]; exact hgt)]; exact hR

theorem wideB_le {wd : Int} (h : wideB wd = true) : 1 ≤ wd ∧ wd ≤ 8 := by simp [wideB] at h; omega
theorem rawO_len (k : Int) (s : RS) : ((rawO k s).length : Int) ≤ k ∨ rawO k s = [] := by
  unfold rawO
  split
  · left; simp; omega
  · exact .inr rfl
theorem rawO_le8 {wd : Int} {s : RS} (hw : ¬ (s.e = 0 ∧ wideB wd = false)) : (rawO wd s).length ≤ 8 := by
  by_cases he : s.e = 0
  · have h1 : wideB wd = true := by by_cases h : wideB wd = true; exact h; exact absurd ⟨he, by simpa using h⟩ hw
    have := wideB_le h1
    rcases rawO_len wd s with h | h
    · omega
    · simp [h]
  · unfold rawO; rw [if_neg (fun h => he h.1)]; simp

set_option maxHeartbeats 400000 in
theorem rNum_any {P : Nat} {s : RS} {A : Option Addr} {n c : Nat} (wd : Int) (w : World) (h : Rr 88 w P s A n c) (hlen : n ≤ 140737488355328) :
    Calls Try.prog 51 #[.pointer (some ⟨P, 0, none⟩), .int .i64 wd] w (RrPost 88 w P A (numV wd s) (numS wd s)) := by
  by_cases hw : s.e = 0 ∧ wideB wd = false
  · have Q1 := Lib.hid (rErr_any w h)
    have QF := Lib.hid (rFail_any 2 w h)
    have e1 : numV wd s = 0 := by unfold numV; rw [if_pos hw]
    have e2 : numS wd s = failS 2 s := by unfold numS; rw [if_pos hw]
    rw [e1, e2]
    have hb1 : (s.e == 0) = true := by simpa using hw.1
    have hb2 : wideB wd = false := hw.2
    clear hw h e1 e2
    go_enter Try.func51, Try.ntmps51
    go_wp2_with (first | (go_at_call 47; refine Q1.out.mono ?_; rintro en w' ⟨rfl, rfl⟩) | (go_at_call 67; refine (wide_any _ _).mono ?_; rintro en w' ⟨rfl, rfl⟩))
    refine QF.out.mono ?_
    rintro en w' ⟨rfl, hst⟩
    go_wp2
    go_ret
    exact ⟨rfl, hst⟩
  · exact rNum_wide wd w h hlen hw (rawO_le8 hw)

theorem i64_or_nat (a b : Nat) (ha : a < 9223372036854775808) (hb : b < 9223372036854775808) : bits .or .i64 (a : Int) (b : Int) = ((a ||| b : Nat) : Int) := by
  have h1 : ∀ a : Nat, a < 9223372036854775808 → (BitVec.ofInt 64 (a : Int)).toNat = a := fun a ha => by
    rw [BitVec.ofInt_natCast, BitVec.toNat_ofNat]; exact Nat.mod_eq_of_lt (by omega)
  have hx : a ||| b < 2 ^ 63 := Nat.or_lt_two_pow (by omega) (by omega)
  show IntKind.i64.wrap ((BitVec.ofInt 64 (a : Int) ||| BitVec.ofInt 64 (b : Int)).toNat : Int) = _
  rw [BitVec.toNat_or, h1 a ha, h1 b hb, IntKind.wrap_i64]
  omega
theorem i64_join (v x : Nat) (hv : v < 562949953421312) : bits .or .i64 ((v : Int) * 128) ((x : Int) % 128) = (v : Int) * 128 + (x : Int) % 128 := by
  have := i64_or_nat (v * 128) (x % 128) (by omega) (by omega)
  rw [nat_join 7 _ _ (by omega) (by omega)] at this
  simpa using this

/-- How a count is read: the rounds that are left, what was read so far, the reader. -/
def cntRun (most : Int) : Nat → Nat → RS → Int × RS
  | 0, _, s => (0, failS 4 s)
  | k + 1, n, s =>
    match rawO 1 s with
    | [] => (0, rawS 1 s)
    | c :: _ =>
      if k = 7 ∧ c.toNat = 128 then (0, failS 4 (rawS 1 s))
      else if 128 ≤ c.toNat then cntRun most k (n * 128 + c.toNat % 128) (rawS 1 s)
      else if 9007199254740991 < n * 128 + c.toNat % 128 then (0, failS 9 (rawS 1 s))
      else if most < (n * 128 + c.toNat % 128 : Nat) then (0, failS 5 (rawS 1 s))
      else ((n * 128 + c.toNat % 128 : Nat), rawS 1 s)

theorem rawS_len (k : Int) (s : RS) : (rawS k s).l.length ≤ s.l.length := by
  unfold rawS
  repeat' split
  all_goals simp
set_option maxRecDepth 100000 in
set_option maxHeartbeats 400000 in
theorem rCount_any {P : Nat} {s : RS} {A : Option Addr} {n c : Nat} (most : Int) (w : World) (h : Rr 88 w P s A n c) (hlen : n ≤ 140737488355328) :
    Calls Try.prog 46 #[.pointer (some ⟨P, 0, none⟩), .int .i64 most] w (RrPost 88 w P A (cntRun most 8 0 s).1 (cntRun most 8 0 s).2) := by
  obtain ⟨r, hr⟩ : ∃ r, cntRun most 8 0 s = r := ⟨_, rfl⟩
  rw [hr]
  have HR := Lib.hid hr
  clear hr
  go_enter Try.func46, Try.ntmps46
  go_wp2
  go_step3
  go_wp2
  go_step3
  go_wp2
  go_loopw [4, 8] (fun vn vi wr => ∃ (k nn : Nat) (s' : RS) (A' : Option Addr) (n' c' : Nat), vi = .int .i64 k ∧ vn = .int .i64 nn ∧ k ≤ 8 ∧ Hid (nn < 2 ^ (7 * k)) ∧ Rr 88 wr P s' A' n' c' ∧ n' ≤ 140737488355328 ∧ (∀ b, blkOf A' = some b → blkOf A = some b) ∧ Fr (fun k => k = P) w wr ∧
     Hid (cntRun most (8 - k) nn s' = r)) (fun _ vi _ => 8 - (intOf vi).toNat)
  case atStart => exact ⟨0, 0, s, A, n, c, rfl, rfl, by omega, (by decide : 0 < 2 ^ (7 * 0)), h, hlen, fun _ h => h, Fr.refl _ _, HR⟩
  case round =>
    obtain ⟨k, nn, s', A', n', c', rfl, rfl, hk, hnn, hR, hn', hA', hfr, hrun⟩ := hrel
    by_cases hlt : k < 8
    · have hnn' : nn < 562949953421312 := by
        have := hnn.out
        have h2 : 2 ^ (7 * k) ≤ 2 ^ 49 := Nat.pow_le_pow_right (by decide) (by omega)
        omega
      have QR := Lib.hid (rRaw_any 1 wr hR hn')
      have hl1 := rawO_len 1 s'
      have hsl := Lib.hid (Nat.le_trans (rawS_len 1 s') (Nat.le_of_eq hR.sl.len.symm))
      have hstep := hrun.out
      rw [show 8 - k = (7 - k) + 1 from by omega, cntRun] at hstep
      generalize rawO 1 s' = out at *
      generalize rawS 1 s' = s1 at *
      match out, hl1 with
      | [], _ =>
        have HS := Lib.hid hstep
        clear hstep h hR
        go_wp2_with fail
        refine QR.out.mono ?_
        rintro en w1 ⟨A2, c2, rfl, hown, ⟨A3, n3, c3, hR3, hA3⟩, hfr3⟩
        go_wp2
        try rw [Exit.noGoto_ret]
        go_ret
        have e := HS.out
        refine ⟨by rw [← e]; rfl, ⟨A3, n3, c3, by rw [← e]; exact hR3, fun b hb => hA' b (hA3 b hb)⟩, hfr.trans hfr3 (fun b hb => .inl hb)⟩
      | b :: rest, hl1 =>
        have hrest : rest = [] := by
          rcases hl1 with h | h
          · simp at h; exact List.eq_nil_of_length_eq_zero (by omega)
          · cases h
        subst hrest
        dsimp only at hstep
        have hb256 : b.toNat < 256 := b.toNat_lt
        have hor := i64_join nn b.toNat hnn'
        clear hl1 h hR
        by_cases w1c : 7 - k = 7 ∧ b.toNat = 128
        · rw [if_pos w1c] at hstep
          have HS := Lib.hid hstep
          have hk0 : ((k : Int) == 0) = true := by simp; omega
          have hb128 : ((b.toNat : Int) == 128) = true := by simp; omega
          clear hstep w1c
          go_wp2_with fail
          refine QR.out.mono ?_
          rintro en w1 ⟨A2, c2, rfl, hown, ⟨A3, n3, c3, hR3, hA3⟩, hfr3⟩
          obtain ⟨g, rfl⟩ := hown.at_ (by simp)
          obtain ⟨x, hx, cx, fx⟩ := hown.get rfl (j := 0) (by simp)
          obtain rfl : b = x := by simpa using hx
          have hq := Lib.hid (rFail_any 4 w1 hR3)
          go_wp2_with fail
          refine hq.out.mono ?_
          rintro en w2 ⟨rfl, ⟨A4, n4, c4, hR4, hA4⟩, hfr4⟩
          go_wp2
          try rw [Exit.noGoto_ret]
          go_ret
          have e := HS.out
          exact ⟨by rw [← e]; rfl, ⟨A4, n4, c4, by rw [← e]; exact hR4, fun b hb => hA' b (hA3 b (hA4 b hb))⟩, (hfr.trans hfr3 (fun b hb => .inl hb)).trans hfr4 (fun b hb => .inl hb)⟩
        · rw [if_neg w1c] at hstep
          have HW := Lib.hid w1c
          clear w1c
          have hng : ((k : Int) == 0 && (b.toNat : Int) == 128) = false := by
            have := HW.out
            by_cases h0 : k = 0
            · subst h0; simp at this; simp; omega
            · simp; omega
          have hk0 : ((k : Int) == 0) = true ∧ ((b.toNat : Int) == 128) = false ∨ ((k : Int) == 0) = false := by
            by_cases h0 : k = 0
            · left; have := HW.out; subst h0; simp at this; simp; omega
            · right; simp; omega
          clear hng
          by_cases w2c : 128 ≤ b.toNat
          · rw [if_pos w2c] at hstep
            have HS := Lib.hid hstep
            have hge : (128 : Int) ≤ (b.toNat : Int) := by omega
            clear hstep
            rcases hk0 with ⟨hk0, hb128⟩ | hk0
            all_goals
              go_wp2_with fail
              refine QR.out.mono ?_
              rintro en w1 ⟨A2, c2, rfl, hown, ⟨A3, n3, c3, hR3, hA3⟩, hfr3⟩
              obtain ⟨g, rfl⟩ := hown.at_ (by simp)
              obtain ⟨x, hx, cx, fx⟩ := hown.get rfl (j := 0) (by simp)
              obtain rfl : b = x := by simpa using hx
              go_wp2
              go_roundw
              case rel =>
                refine ⟨k + 1, nn * 128 + b.toNat % 128, s1, A3, n3, c3, by go_num, by go_num, by omega, ?_, hR3, ?_, fun b hb => hA' b (hA3 b hb), hfr.trans hfr3 (fun b hb => .inl hb), ?_⟩
                · show _ < _
                  have := hnn.out
                  rw [show 7 * (k + 1) = 7 * k + 7 from by omega, Nat.pow_add]
                  omega
                · have := hsl.out; have := hR3.sl.len; omega
                · show _ = _; rw [show 8 - (k + 1) = 7 - k from by omega]; exact HS.out
              case measure => simp [intOf]; omega
          · rw [if_neg w2c] at hstep
            have hge : ¬ (128 : Int) ≤ (b.toNat : Int) := by omega
            by_cases w3c : 9007199254740991 < nn * 128 + b.toNat % 128
            · rw [if_pos w3c] at hstep
              have HS := Lib.hid hstep
              have h3 : (9007199254740991 : Int) < (nn : Int) * 128 + (b.toNat : Int) % 128 := by omega
              clear hstep
              rcases hk0 with ⟨hk0, hb128⟩ | hk0
              all_goals
                go_wp2_with fail
                refine QR.out.mono ?_
                rintro en w1 ⟨A2, c2, rfl, hown, ⟨A3, n3, c3, hR3, hA3⟩, hfr3⟩
                obtain ⟨g, rfl⟩ := hown.at_ (by simp)
                obtain ⟨x, hx, cx, fx⟩ := hown.get rfl (j := 0) (by simp)
                obtain rfl : b = x := by simpa using hx
                have hq := Lib.hid (rFail_any 9 w1 hR3)
                go_wp2_with fail
                refine hq.out.mono ?_
                rintro en w2 ⟨rfl, ⟨A4, n4, c4, hR4, hA4⟩, hfr4⟩
                go_wp2
                try rw [Exit.noGoto_ret]
                go_ret
                have e := HS.out
                exact ⟨by rw [← e]; rfl, ⟨A4, n4, c4, by rw [← e]; exact hR4, fun b hb => hA' b (hA3 b (hA4 b hb))⟩, (hfr.trans hfr3 (fun b hb => .inl hb)).trans hfr4 (fun b hb => .inl hb)⟩
            · rw [if_neg w3c] at hstep
              have h3 : ¬ (9007199254740991 : Int) < (nn : Int) * 128 + (b.toNat : Int) % 128 := by omega
              by_cases w4c : most < (nn * 128 + b.toNat % 128 : Nat)
              · rw [if_pos w4c] at hstep
                have HS := Lib.hid hstep
                have h4 : most < (nn : Int) * 128 + (b.toNat : Int) % 128 := by omega
                clear hstep
                rcases hk0 with ⟨hk0, hb128⟩ | hk0
                all_goals
                  go_wp2_with fail
                  refine QR.out.mono ?_
                  rintro en w1 ⟨A2, c2, rfl, hown, ⟨A3, n3, c3, hR3, hA3⟩, hfr3⟩
                  obtain ⟨g, rfl⟩ := hown.at_ (by simp)
                  obtain ⟨x, hx, cx, fx⟩ := hown.get rfl (j := 0) (by simp)
                  obtain rfl : b = x := by simpa using hx
                  have hq := Lib.hid (rFail_any 5 w1 hR3)
                  go_wp2_with fail
                  refine hq.out.mono ?_
                  rintro en w2 ⟨rfl, ⟨A4, n4, c4, hR4, hA4⟩, hfr4⟩
                  go_wp2
                  try rw [Exit.noGoto_ret]
                  go_ret
                  have e := HS.out
                  exact ⟨by rw [← e]; rfl, ⟨A4, n4, c4, by rw [← e]; exact hR4, fun b hb => hA' b (hA3 b (hA4 b hb))⟩, (hfr.trans hfr3 (fun b hb => .inl hb)).trans hfr4 (fun b hb => .inl hb)⟩
              · rw [if_neg w4c] at hstep
                have HS := Lib.hid hstep
                have h4 : ¬ most < (nn : Int) * 128 + (b.toNat : Int) % 128 := by omega
                clear hstep
                rcases hk0 with ⟨hk0, hb128⟩ | hk0
                all_goals
                  go_wp2_with fail
                  refine QR.out.mono ?_
                  rintro en w1 ⟨A2, c2, rfl, hown, ⟨A3, n3, c3, hR3, hA3⟩, hfr3⟩
                  obtain ⟨g, rfl⟩ := hown.at_ (by simp)
                  obtain ⟨x, hx, cx, fx⟩ := hown.get rfl (j := 0) (by simp)
                  obtain rfl : b = x := by simpa using hx
                  go_wp2
                  try rw [Exit.noGoto_ret]
                  go_ret
                  have e := HS.out
                  exact ⟨by rw [← e]; go_num, ⟨A3, n3, c3, by rw [← e]; exact hR3, fun b hb => hA' b (hA3 b hb)⟩, hfr.trans hfr3 (fun b hb => .inl hb)⟩
    · have hrun0 := hrun.out
      rw [show 8 - k = 0 from by omega, cntRun] at hrun0
      have HS := Lib.hid hrun0
      have hq := Lib.hid (rFail_any 4 wr hR)
      clear hrun0
      go_wp2_with fail
      refine hq.out.mono ?_
      rintro en w2 ⟨rfl, ⟨A4, n4, c4, hR4, hA4⟩, hfr4⟩
      go_wp2
      try rw [Exit.noGoto_ret]
      go_ret
      have e := HS.out
      exact ⟨by rw [← e]; rfl, ⟨A4, n4, c4, by rw [← e]; exact hR4, fun b hb => hA' b (hA4 b hb)⟩, hfr.trans hfr4 (fun b hb => .inl hb)⟩

def textO (most : Int) (s : RS) : List UInt8 := if (cntRun most 8 0 s).2.e = 0 then rawO (cntRun most 8 0 s).1 (cntRun most 8 0 s).2 else []
def textS (most : Int) (s : RS) : RS := if (cntRun most 8 0 s).2.e = 0 then rawS (cntRun most 8 0 s).1 (cntRun most 8 0 s).2 else (cntRun most 8 0 s).2
theorem failS_len (e : Int) (s : RS) : (failS e s).l.length = 0 := rfl
theorem cntRun_len (most : Int) (k : Nat) : ∀ (n : Nat) (s : RS), (cntRun most k n s).2.l.length ≤ s.l.length := by
  induction k with
  | zero => intro n s; simp [cntRun, failS_len]
  | succ k ih =>
    intro n s
    have h1 := rawS_len 1 s
    rw [cntRun]
    split
    · exact h1
    · split
      · simp [failS_len]
      · split
        · exact Nat.le_trans (ih _ _) h1
        · split
          · simp [failS_len]
          · split
            · simp [failS_len]
            · exact h1

set_option maxHeartbeats 400000 in
theorem rText_any {P : Nat} {s : RS} {A : Option Addr} {n c : Nat} (most : Int) (w : World) (h : Rr 88 w P s A n c) (hlen : n ≤ 140737488355328) :
    Calls Try.prog 54 #[.pointer (some ⟨P, 0, none⟩), .int .i64 most] w (RrPostB 88 w P A (textO most s) (textS most s)) := by
  have QC := Lib.hid (rCount_any most w h hlen)
  have ho : textO most s = if (cntRun most 8 0 s).2.e = 0 then rawO (cntRun most 8 0 s).1 (cntRun most 8 0 s).2 else [] := rfl
  have hs : textS most s = if (cntRun most 8 0 s).2.e = 0 then rawS (cntRun most 8 0 s).1 (cntRun most 8 0 s).2 else (cntRun most 8 0 s).2 := rfl
  have hl := Lib.hid (show (cntRun most 8 0 s).2.l.length ≤ 140737488355328 by have := cntRun_len most 8 0 s; have := h.sl.len; omega)
  rw [ho, hs]
  clear ho hs h
  generalize cntRun most 8 0 s = r at *
  obtain ⟨v, s1⟩ := r
  dsimp only at *
  by_cases he : s1.e = 0
  · rw [if_pos he, if_pos he]
    have hb : (s1.e == 0) = true := by simpa using he
    clear he
    go_enter Try.func54, Try.ntmps54
    go_wp2_with fail
    refine QC.out.mono ?_
    rintro en w1 ⟨rfl, ⟨A1, n1, c1, hR1, hA1⟩, hf1⟩
    have Q1 := Lib.hid (rErr_any w1 hR1)
    have Q2 := Lib.hid (rRaw_any v w1 hR1 (by have := hR1.sl.len; have := hl.out; omega))
    go_wp2_with (go_at_call 47; refine Q1.out.mono ?_; rintro en w' ⟨rfl, rfl⟩)
    refine Q2.out.mono ?_
    rintro en w2 ⟨A2, c2, rfl, hown, ⟨A3, n3, c3, hR3, hA3⟩, hf3⟩
    go_wp2
    go_ret
    exact ⟨A2, c2, rfl, hown.mono hf1.size, ⟨A3, n3, c3, hR3, fun b hb => hA1 b (hA3 b hb)⟩, hf1.trans hf3 (fun b hb => .inl hb)⟩
  · rw [if_neg he, if_neg he]
    have hb : (s1.e == 0) = false := by simpa using he
    clear he
    go_enter Try.func54, Try.ntmps54
    go_wp2_with fail
    refine QC.out.mono ?_
    rintro en w1 ⟨rfl, ⟨A1, n1, c1, hR1, hA1⟩, hf1⟩
    have Q1 := Lib.hid (rErr_any w1 hR1)
    go_wp2_with (go_at_call 47; refine Q1.out.mono ?_; rintro en w' ⟨rfl, rfl⟩)
    go_ret
    exact ⟨none, 0, rfl, Own.nil _ _ _, ⟨A1, n1, c1, hR1, hA1⟩, hf1⟩

/-- A new reader, in memory of its own. -/
def NewR (T : TypeId) (w : World) (l : List UInt8) (en : Ending) (w' : World) : Prop :=
  ∃ P A n c, en = .returned (.pointer (some ⟨P, 0, none⟩)) ∧ w.heap.size ≤ P ∧ (∀ b, blkOf A = some b → w.heap.size ≤ b) ∧ Rr T w' P ⟨0, l⟩ A n c ∧ Below w.heap.size w w'

set_option maxHeartbeats 400000 in
theorem read_any {A : Option Addr} {n c : Nat} {l : List UInt8} (w : World) (h : Sl w A n c l) (hlen : n ≤ 140737488355328) :
    Calls Try.prog 45 #[.slice A n c] w (NewR 88 w l) := by
  have Q := Lib.hid (clone_any w h hlen)
  clear h
  go_enter Try.func45, Try.ntmps45
  go_wp2_with fail
  refine Q.out.mono ?_
  rintro en w1 ⟨A1, c1, rfl, hown, hB⟩
  have hne : blkOf A1 ≠ some w1.heap.size := fun e => by have := (hown.lt _ e).2; omega
  go_wp2
  go_ret
  exact ⟨w1.heap.size, A1, l.length, c1, rfl, hB.size, fun b hb => (hown.lt b hb).1, ⟨Blk.new _ _ _, (hown.alloc _).sl, hne⟩, hB.alloc hB.size _⟩
end Go.Proofs.Ytblpnlobicjccaa
