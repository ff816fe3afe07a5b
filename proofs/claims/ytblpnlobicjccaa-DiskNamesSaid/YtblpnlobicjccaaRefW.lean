/- The reference's writer (package sealchainref01), method by method, over the same states as the program's. -/
import Derived.Test.YtblpnlobicjccaaNumK
import Derived.Deep.RegionLaw
import Derived.Deep.RegionHeld3
import Derived.BigQuiet
namespace Go.Proofs.Ytblpnlobicjccaa
open Go.RowKit

set_option maxHeartbeats 400000 in
theorem rwide_any (n : Int) (w : World) : Calls Try.prog 69 #[.int .i64 n] w fun e w' => e = .returned (.bool (wideB n)) ∧ w = w' := by
  go_enter Try.func69, Try.ntmps69
  go_wp2
  all_goals go_ret
  all_goals refine ⟨?_, rfl⟩
  all_goals first | rfl | simp [wideB, *]

set_option maxHeartbeats 400000 in
theorem rwrite_any (w : World) :
    Calls Try.prog 28 #[] w fun e w' => e = .returned (.pointer (some ⟨w.heap.size, 0, none⟩)) ∧ w' = w.alloc (.cells #[.slice none 0 0, .int .i64 0] 80) := by
  go_enter Try.func28, Try.ntmps28
  go_wp2
  go_ret
  exact ⟨rfl, rfl⟩

set_option maxHeartbeats 1000000 in
theorem rwbytes_any {base P : Nat} {e : Int} {l : List UInt8} {A : Option Addr} {n c : Nat} (w : World) (h : Wr 80 w base P e l A n c) (hlen : n ≤ 140737488355328) :
    Calls Try.prog 38 #[.pointer (some ⟨P, 0, none⟩)] w (FreshE w (if e = 0 then l else []) e) := by
  have c0 : w.cell? ⟨P, 0, none⟩ = some (.slice A n c) := h.blk.cell 0
  have c1 : w.cell? ⟨P, 1, none⟩ = some (.int .i64 e) := h.blk.cell 1
  by_cases he : e = 0
  · subst he
    have hq := copyb_any w h.own.sl hlen
    have HQ := Lib.hid hq
    clear hq h
    go_enter Try.func38, Try.ntmps38
    go_wp2_with fail
    refine HQ.out.mono ?_
    rintro en w' ⟨A', c', rfl, hown, hB⟩
    go_wp2
    go_ret2
    exact ⟨A', c', rfl, hown, hB⟩
  · have he' : (e == 0) = false := by simpa using he
    have he2 : (e != 0) = true := by simpa using he
    go_enter Try.func38, Try.ntmps38
    go_wp2_with fail
    go_quiet (fail)
    go_wp2
    go_ret2
    refine ⟨none, 0, ?_, ?_, ?_⟩
    · simp
    · exact Own.nil _ _ _
    · exact below_drewN (Below.refl _ _) _

/-- The bytes appended and stored back. -/
theorem Wr.stored {T : TypeId} {w w' : World} {base P : Nat} {e : Int} {l l' : List UInt8} {A A' : Option Addr} {n c n' c' : Nat} (h : Wr T w base P e l A n c) (hT : 5 ≠ T) (hown : Own w' base 5 A' n' c' l') (hfr : Fr (fun k => blkOf A = some k) w w')
    (hA : ∀ k, blkOf A' = some k → blkOf A = some k ∨ w.heap.size ≤ k) :
    (w'.cell? ⟨P, 0, none⟩ = some (.slice A n c) ∧ w'.frozen? ⟨P, 0, none⟩ = false) ∧ Wr T (w'.setCell ⟨P, 0, none⟩ (.slice A' n' c')) base P e l' A' n' c' ∧ Fr (foot P A) w (w'.setCell ⟨P, 0, none⟩ (.slice A' n' c')) := by
  have hAP : blkOf A ≠ some P := h.own.ne_blk h.blk hT
  have hblk2 := h.blk.fr hfr hAP
  have hA'P : blkOf A' ≠ some P := by
    intro e'
    rcases hA P e' with e' | e'
    · exact hAP e'
    · have := h.blk.lt; omega
  exact ⟨⟨hblk2.cell 0, hblk2.frozen 0⟩, ⟨hblk2.set_ 0 _, hown.far (p := ⟨P, 0, none⟩) hA'P _⟩, (hfr.mono (fun b _ hb => .inr hb)).setCell (p := ⟨P, 0, none⟩) (.inl (.inl rfl)) _⟩

set_option maxHeartbeats 1000000 in
theorem rwraw_any {base P : Nat} {e : Int} {l m : List UInt8} {A A2 : Option Addr} {n c n2 c2 : Nat} (w : World) (h : Wr 80 w base P e l A n c) (hm : Sl w A2 n2 c2 m)
    (hlen : n + n2 ≤ 140737488355328) (hbase : base ≤ w.heap.size) :
    Calls Try.prog 36 #[.pointer (some ⟨P, 0, none⟩), .slice A2 n2 c2] w (WrPost 80 w base P A e (okB e l m)) := by
  have hP := h.blk.lt
  have hAP : blkOf A ≠ some P := h.own.ne_blk h.blk (by decide)
  have c0 : w.cell? ⟨P, 0, none⟩ = some (.slice A n c) := h.blk.cell 0
  have c1 : w.cell? ⟨P, 1, none⟩ = some (.int .i64 e) := h.blk.cell 1
  have hblk := h.blk
  have hown := h.own
  by_cases he : e = 0
  · subst he
    have hh := Lib.hid h
    clear h hblk hown
    go_enter Try.func36, Try.ntmps36
    go_wp2_with (at_builtin; refine app_bytes rfl _ _ rfl rfl rfl hh.out.own hm (by omega) hbase ?_; intro A' c' w' hown' hfr' hA'; obtain ⟨⟨d0, g0⟩, k1, k2⟩ := hh.out.stored (by decide) hown' hfr' hA'; have K1 := Lib.hid k1; have K2 := Lib.hid k2; have K3 := Lib.hid hA'; clear k1 k2 hA' hown' hfr')
    go_ret
    exact ⟨rfl, A', _, c', K1.out, K2.out, K3.out⟩
  · have he' : (e == 0) = false := by simpa using he
    rw [okB_err he]
    go_enter Try.func36, Try.ntmps36
    go_wp2
    go_ret
    exact ⟨rfl, A, n, c, h, Fr.refl _ _, fun k hk => .inl hk⟩

/-- A draw turns nothing. -/
theorem belowUndrew {w w' : World} (h : Below w.drew.heap.size w.drew w') : Below w.heap.size w w' := ⟨h.os, h.tape, h.output, h.size, h.block⟩
theorem cnt_len_le {d u : List UInt8} {x : Nat} (h : u ++ d = cntBytes x) (hx : x ≤ 9007199254740991) : d.length ≤ 8 := by
  have := cntBytes_len x hx
  rw [← h] at this
  simp at this
  omega
theorem cnt_step {d : List UInt8} {x m : Nat} (h : (cntHi (m / 128)).reverse ++ d = cntBytes x) (hm : 128 ≤ m) : (cntHi (m / 128 / 128)).reverse ++ ([byteOf (128 + ((m / 128 : Nat) : Int) % 128)] ++ d) = cntBytes x := by
  rw [← h, cntHi_pos (m / 128) (by omega), List.reverse_cons, List.append_assoc, Int.add_comm]

set_option maxRecDepth 100000 in
set_option maxHeartbeats 1000000 in
theorem rgroups_any (x : Nat) (w : World) (hx : x ≤ 9007199254740991) :
    Calls Try.prog 72 #[.int .i64 x] w (Fresh w (cntBytes x)) := by
  have HX := Lib.hid hx
  have hx' : (x : Int) ≤ 9223372036854775807 := by omega
  clear hx
  go_enter Try.func72, Try.ntmps72
  go_wp2_with fail
  go_loopw [0, 3] (fun vm vb wr => ∃ (m n' c' : Nat) (A' : Option Addr) (d : List UInt8), vm = .int .i64 m ∧ Hid (m ≤ x) ∧ vb = .slice A' n' c' ∧ Hid ((cntHi (m / 128)).reverse ++ d = cntBytes x) ∧ Own wr w.heap.size 5 A' n' c' d ∧ Below w.heap.size w wr)
    (fun vm _ _ => (intOf vm).toNat)
  case atStart => exact ⟨x, 1, 1, _, [byteOf ((x : Int) % 128)], by go_num, Nat.le_refl _, rfl, (by show _ = _; unfold cntBytes; rw [List.reverse_cons]), Own.one w _ (by omega) (by omega), (Below.refl _ _).alloc (Nat.le_refl _) _⟩
  case round =>
    obtain ⟨m, n', c', A', d, rfl, hm, rfl, hd, hown, hB⟩ := hrel
    have hmb : (m : Int) ≤ 9223372036854775807 := by have := hm.out; omega
    by_cases hlt : 128 ≤ m
    · have hlt' : (128 : Int) ≤ (m : Int) := by omega
      have hz : 0 ≤ 128 + (m : Int) / 128 % 128 ∧ 128 + (m : Int) / 128 % 128 < 256 := by omega
      have hdl := cnt_len_le hd.out HX.out
      have hnl := hown.len
      have HN := Lib.hid (show n' ≤ 8 by omega)
      have HZ := Lib.hid hz
      clear hnl hz hdl
      go_wp2_with (at_builtin; refine app_bytes rfl _ _ rfl rfl rfl (Own.one wr _ HZ.out.1 HZ.out.2) (hown.sl.alloc _) (by have := HN.out; omega) (by simp) ?_; intro A2 c2 w2 hO2 hfr2 _; have hB2 : Below w.heap.size w w2 := Fr.below (hB.alloc hB.size _) hfr2 (by have := hB.size; simp; omega) (fun b hb => by have := hB.size; simp [blkOf] at hb; omega); have HO2 := Lib.hid (hO2.mono hB.size); clear hO2 hfr2 hown hB)
      go_roundw
      case rel =>
        refine ⟨m / 128, 1 + n', c2, A2, _, by go_num, ?_, rfl, ?_, HO2.out, hB2⟩
        · show _ ≤ _; have := hm.out; omega
        · show _ = _
          exact cnt_step hd.out hlt
      case measure => simp [intOf]; omega
    · have hlt' : ¬ (128 : Int) ≤ (m : Int) := by omega
      have hd0 : d = cntBytes x := by have := hd.out; rw [show m / 128 = 0 by omega] at this; simpa [cntHi] using this
      have HD := Lib.hid hd0
      clear hd0 hd
      go_wp2
      go_ret
      have hl := hown.len
      refine ⟨A', c', ?_, ?_, hB⟩
      · rw [← HD.out, ← hl]; rfl
      · rw [← HD.out, ← hl]; exact hown

set_option maxRecDepth 100000 in
set_option maxHeartbeats 1000000 in
theorem rwcount_ok {base P : Nat} {l : List UInt8} {A : Option Addr} {n c : Nat} (x : Nat) (w : World) (h : Wr 80 w base P 0 l A n c)
    (hlen : n + 8 ≤ 140737488355328) (hbase : base ≤ w.heap.size) (hx : x ≤ 9007199254740991) :
    Calls Try.prog 32 #[.pointer (some ⟨P, 0, none⟩), .int .i64 x] w (WrPost 80 w base P A 0 (l ++ cntBytes x)) := by
  have hP := h.blk.lt
  have c0 : w.cell? ⟨P, 0, none⟩ = some (.slice A n c) := h.blk.cell 0
  have c1 : w.cell? ⟨P, 1, none⟩ = some (.int .i64 0) := h.blk.cell 1
  have f0 := h.blk.frozen 0
  have HG := Lib.hid (rgroups_any x w.drew hx)
  have hl8 := cntBytes_len x hx
  have hh := Lib.hid h
  have H8 := Lib.hid hl8
  have hx2 : ¬ (9007199254740991 : Int) < (x : Int) := by omega
  clear h hx hl8
  go_enter Try.func32, Try.ntmps32
  go_wp2_with fail
  go_region_law (first | (rw [if_pos (by rfl)]; go_simp; go_at_call 72; refine HG.out.mono ?_; rintro en w1 ⟨A1, c1', rfl, hO1, hB1⟩; have q1 : w1.cell? ⟨P, 0, none⟩ = some (.slice A n c) := (hB1.cell (p := ⟨P, 0, none⟩) hP).trans c0; have f1 : w1.frozen? ⟨P, 0, none⟩ = false := (hB1.frozen (p := ⟨P, 0, none⟩) hP).trans f0; go_wp2_with fail) | (refine step_app rfl _ _ rfl rfl rfl ((hh.out.own.drew).below hB1 (Nat.le_refl _)) hO1.sl (by have := H8.out; omega) (by have := hB1.size; exact Nat.le_trans hbase this) ?_; intro A2 c2 w2 hO2 hfr2 hA2; obtain ⟨⟨d0, g0⟩, k1, k2⟩ := (Wr.fr (w := w.drew) ⟨hh.out.blk.drew, hh.out.own.drew⟩ (S := fun _ => False) (Fr.of_below hB1) id (fun _ _ => id)).stored (by decide) hO2 hfr2 hA2; have hz : w.heap.size ≤ w1.heap.size := hB1.size))
  all_goals
    have K1 := Lib.hid k1
    have K2 := Lib.hid ((Fr.of_below (S := foot P A) (belowUndrew hB1)).trans k2 (fun b hb => .inl hb))
    have K3 := Lib.hid (fun (k : Nat) (hk : blkOf A2 = some k) => (hA2 k hk).imp id (fun e => Nat.le_trans hz e))
    clear k1 k2 hA2 hO2 hfr2
    go_wp2
    go_ret
    exact ⟨rfl, A2, _, c2, K1.out, K2.out, K3.out⟩

set_option maxHeartbeats 1000000 in
/-- An error put by the reference's own store. -/
theorem rset_err {base P : Nat} {e : Int} {l : List UInt8} {A : Option Addr} {n c : Nat} {w : World} (e1 : Int) (h : Wr 80 w base P e l A n c) :
    Wr 80 (w.setCell ⟨P, 1, none⟩ (.int .i64 e1)) base P e1 l A n c ∧ Fr (foot P A) w (w.setCell ⟨P, 1, none⟩ (.int .i64 e1)) :=
  ⟨⟨h.blk.set_ 1 _, h.own.far (p := ⟨P, 1, none⟩) (h.own.ne_blk h.blk (by decide)) _⟩, (Fr.refl _ w).setCell (p := ⟨P, 1, none⟩) (.inl (.inl rfl)) _⟩
theorem putE_keeps {e e1 : Int} (h : e ≠ 0) : putE e e1 = e := by unfold putE orI; rw [if_neg h]
theorem putB_keeps {e e1 : Int} (h : e ≠ 0) (l m : List UInt8) : putB e e1 l m = l := by unfold putB orI; rw [if_neg h, if_neg h]

set_option maxHeartbeats 1000000 in
theorem rwcount_any {base P : Nat} {e : Int} {l : List UInt8} {A : Option Addr} {n c : Nat} (x : Int) (w : World) (h : Wr 80 w base P e l A n c)
    (hlen : n + 8 ≤ 140737488355328) (hbase : base ≤ w.heap.size) :
    Calls Try.prog 32 #[.pointer (some ⟨P, 0, none⟩), .int .i64 x] w (WrPost 80 w base P A (putE e (cntE x)) (putB e (cntE x) l (cntBytes x.toNat))) := by
  have c1 : w.cell? ⟨P, 1, none⟩ = some (.int .i64 e) := h.blk.cell 1
  have f1 := h.blk.frozen 1
  by_cases he : e = 0
  · subst he
    by_cases hx : x < 0 ∨ 9007199254740991 < x
    · have e1 : cntE x = 9 := by unfold cntE; rw [if_pos hx]
      rw [e1, putB_err (by decide)]
      have HK := Lib.hid (rset_err 9 h)
      clear e1 h
      by_cases hx0 : x < 0
      · clear hx
        go_enter Try.func32, Try.ntmps32
        go_wp2
        go_ret
        exact ⟨rfl, A, n, c, HK.out.1, HK.out.2, fun k hk => .inl hk⟩
      · have hx1 : 9007199254740991 < x := by omega
        clear hx
        go_enter Try.func32, Try.ntmps32
        go_wp2
        go_ret
        exact ⟨rfl, A, n, c, HK.out.1, HK.out.2, fun k hk => .inl hk⟩
    · have e1 : cntE x = 0 := by unfold cntE; rw [if_neg hx]
      obtain ⟨xn, rfl⟩ := Int.eq_ofNat_of_zero_le (show 0 ≤ x by omega)
      rw [e1]
      exact rwcount_ok xn w h hlen hbase (by omega)
  · rw [putE_keeps he, putB_keeps he]
    have he' : (e == 0) = false := by simpa using he
    have he2 : (e != 0) = true := by simpa using he
    go_enter Try.func32, Try.ntmps32
    go_wp2
    go_ret
    exact ⟨rfl, A, n, c, h, Fr.refl _ _, fun k hk => .inl hk⟩

theorem numE_in (wd x : Int) (hw : wideB wd = true) (h0 : 0 ≤ x) (h1 : x ≤ 9007199254740991) : (numE wd x == 0) = (x / 2 ^ (8 * wd).toNat == 0) := by
  unfold numE
  rw [if_neg (by simp [hw])]
  by_cases hd : x / 2 ^ (8 * wd).toNat = 0
  · rw [if_neg (by simp [hd]; omega)]; simp [hd]
  · rw [if_pos (.inr (.inr (by simpa using hd)))]; simp [hd]
theorem numE_out (wd x : Int) (hw : wideB wd = true) (h0 : x < 0 ∨ 9007199254740991 < x) : (numE wd x == 0) = false := by
  unfold numE
  rw [if_neg (by simp [hw]), if_pos (by rcases h0 with h | h; exact .inl h; exact .inr (.inl h))]
  rfl
theorem numE_b1 (x : Int) (h0 : 0 ≤ x) (h1 : x ≤ 9007199254740991) : (numE 1 x == 0) = decide (x < 256) := by
  rw [numE_in 1 x rfl h0 h1, Bool.eq_iff_iff]; simp; omega
theorem numE_b2 (x : Int) (h0 : 0 ≤ x) (h1 : x ≤ 9007199254740991) : (numE 2 x == 0) = decide (x < 65536) := by
  rw [numE_in 2 x rfl h0 h1, Bool.eq_iff_iff]; simp; omega
theorem numE_b4 (x : Int) (h0 : 0 ≤ x) (h1 : x ≤ 9007199254740991) : (numE 4 x == 0) = decide (x < 4294967296) := by
  rw [numE_in 4 x rfl h0 h1, Bool.eq_iff_iff]; simp; omega
theorem numE_b8 (x : Int) (h0 : 0 ≤ x) (h1 : x ≤ 9007199254740991) : (numE 8 x == 0) = true := by
  rw [numE_in 8 x rfl h0 h1, Bool.eq_iff_iff]; simp; omega

set_option maxHeartbeats 1000000 in
theorem rfits_any (wd x : Int) (w : World) (hw : wideB wd = true) : Calls Try.prog 70 #[.int .i64 wd, .int .i64 x] w fun e w' => e = .returned (.bool (numE wd x == 0)) ∧ w = w' := by
  have h4 : wd = 1 ∨ wd = 2 ∨ wd = 4 ∨ wd = 8 := by simpa [wideB, or_assoc] using hw
  clear hw
  by_cases h0 : 0 ≤ x
  · by_cases h1 : x ≤ 9007199254740991
    · rcases h4 with rfl | rfl | rfl | rfl
      · rw [numE_b1 x h0 h1]
        go_enter Try.func70, Try.ntmps70
        go_wp2
        go_ret
        exact ⟨rfl, rfl⟩
      · rw [numE_b2 x h0 h1]
        go_enter Try.func70, Try.ntmps70
        go_wp2
        go_ret
        exact ⟨rfl, rfl⟩
      · rw [numE_b4 x h0 h1]
        go_enter Try.func70, Try.ntmps70
        go_wp2
        go_ret
        exact ⟨rfl, rfl⟩
      · rw [numE_b8 x h0 h1]
        go_enter Try.func70, Try.ntmps70
        go_wp2
        go_ret
        exact ⟨rfl, rfl⟩
    · rw [numE_out wd x (by rcases h4 with rfl | rfl | rfl | rfl <;> rfl) (.inr (by omega))]
      go_enter Try.func70, Try.ntmps70
      go_wp2
      go_ret
      exact ⟨rfl, rfl⟩
  · rw [numE_out wd x (by rcases h4 with rfl | rfl | rfl | rfl <;> rfl) (.inl (by omega))]
    go_enter Try.func70, Try.ntmps70
    go_wp2
    go_ret
    exact ⟨rfl, rfl⟩

set_option maxRecDepth 100000 in
set_option maxHeartbeats 1000000 in
theorem rwnum_ok {base P : Nat} {l : List UInt8} {A : Option Addr} {n c : Nat} (wd x : Nat) (w : World) (h : Wr 80 w base P 0 l A n c)
    (hlen : n + 8 ≤ 140737488355328) (hbase : base ≤ w.heap.size) (hw : wideB wd = true) (hx : x ≤ 9007199254740991) (hf : numE wd x = 0) :
    Calls Try.prog 30 #[.pointer (some ⟨P, 0, none⟩), .int .i64 wd, .int .i64 x] w (WrPost 80 w base P A 0 (l ++ numBytes wd x)) := by
  have hwr : 1 ≤ wd ∧ wd ≤ 8 := by simp [wideB] at hw; omega
  obtain ⟨h8, h9⟩ := hwr
  have c1 : w.cell? ⟨P, 1, none⟩ = some (.int .i64 0) := h.blk.cell 1
  have hb : (numE (wd : Int) (x : Int) == 0) = true := by rw [hf]; rfl
  have hln := h.len
  have HL := Lib.hid hln
  have HX := Lib.hid hx
  have HQ := Lib.hid (rfits_any wd x w hw)
  have hh := Lib.hid h
  clear h hln hx hf
  go_enter Try.func30, Try.ntmps30
  go_wp2_with (go_at_call 69; refine (rwide_any _ _).mono ?_; rintro en w' ⟨rfl, rfl⟩)
  refine HQ.out.mono ?_
  rintro en w' ⟨rfl, rfl⟩
  go_wp2
  go_loopw [7] (fun vi wr => ∃ (k j : Nat) (A' : Option Addr) (n' c' : Nat), vi = .int .i64 ((j : Int) - 1) ∧ j + k = wd ∧ Hid (n' = n + k) ∧
     Wr 80 wr base P 0 (l ++ (numBytes wd x).take k) A' n' c' ∧ Fr (foot P A) w wr ∧ ∀ k, blkOf A' = some k → blkOf A = some k ∨ w.heap.size ≤ k)
    (fun vi _ => (intOf vi + 1).toNat)
  case atStart => exact ⟨0, wd, A, n, c, by go_num, by omega, rfl, by simpa using hh.out, Fr.refl _ _, fun k hk => .inl hk⟩
  case round =>
    obtain ⟨k, j, A', n', c', rfl, hjk, hn', hW, hfr, hA'⟩ := hrel
    by_cases hlt : 0 < j
    · obtain ⟨i, rfl⟩ : ∃ i, j = i + 1 := ⟨j - 1, by omega⟩
      rw [show ((i + 1 : Nat) : Int) - 1 = (i : Int) by omega]
      have hP := hW.blk.lt
      have d0 : wr.cell? ⟨P, 0, none⟩ = some (.slice A' n' c') := hW.blk.cell 0
      have g0 := hW.blk.frozen 0
      have hi : i ≤ 7 := by omega
      have HW := Lib.hid hW
      obtain ⟨q, hq⟩ : ∃ q : Nat, x / 2 ^ (8 * i) = q := ⟨_, rfl⟩
      have hsh : Op.shift .shr .i64 (x : Int) .i64 (IntKind.i64.wrap (8 * (i : Int))) = pure (.int .i64 (q : Int)) := by
        have e : IntKind.i64.wrap (8 * (i : Int)) = ((8 * i : Nat) : Int) := by rw [IntKind.wrap_i64]; omega
        rw [e, shift_shr_i64 _ _ _ (by omega) (by omega), ← hq, show (((8 * i : Nat) : Int)).toNat = 8 * i from by omega]
        simp
      have HJ := Lib.hid hjk
      have HQ2 := Lib.hid hq
      have HZ := Lib.hid hfr.size
      have hkn : k + 1 ≤ 8 := by omega
      have HK := Lib.hid hkn
      clear hW hjk hq hkn
      go_wp2_with fail
      go_region_law (refine step_app rfl _ _ rfl rfl rfl ((HW.out.own.alloc _).drew) ((oneByte _ _).drew) (by have := hn'.out; have := HK.out; omega) (by have := HZ.out; simp; omega) ?_; intro A2 c2 w2 hO2 hfr2 hA2; obtain ⟨⟨d1, g1⟩, k1, k2⟩ := (HW.out.fr (S := fun _ => False) (((Fr.refl _ wr).alloc (.cells #[.int .u8 (IntKind.u8.wrap (q : Int))] 5)).drew) id (fun _ _ => id)).stored (by decide) hO2 hfr2 hA2; clear hO2 hfr2)
      all_goals
        have hk2 : Fr (foot P A) w (w2.setCell ⟨P, 0, none⟩ (.slice A2 (n' + 1) c2)) := hfr.trans ((((Fr.refl (foot P A') wr).alloc (.cells #[.int .u8 (IntKind.u8.wrap (q : Int))] 5)).drew).trans k2 (fun b hb => .inl hb)) (fun b hb => by rcases hb with hb | hb; exact .inl (.inl hb); exact (hA' b hb).imp .inr id)
        have hA3 : ∀ b, blkOf A2 = some b → blkOf A = some b ∨ w.heap.size ≤ b := fun b hb => by
          rcases hA2 b hb with h | h
          · exact hA' b h
          · have := HZ.out; simp at h; exact .inr (by omega)
        have hbyte := numBytes_snoc wd x k (by have := HJ.out; omega) ((q : Nat) : Int) (by rw [← HQ2.out, show wd - 1 - k = i by have := HJ.out; omega]; simp)
        rw [List.append_assoc, ← hbyte] at k1
        clear k2 hA2
        go_wp2
        go_roundw
        case rel => exact ⟨k + 1, i, A2, n' + 1, c2, by go_num, by have := HJ.out; omega, (by show _ = _; have := hn'.out; omega), k1, hk2, hA3⟩
        case measure => simp [intOf]
    · obtain rfl : j = 0 := by omega
      have hlt' : ¬ (0 : Int) ≤ ((0 : Nat) : Int) - 1 := by omega
      have ek : (numBytes wd x).take k = numBytes wd x := by rw [List.take_of_length_le]; rw [numBytes_len]; omega
      rw [ek] at hW
      clear hlt hjk
      go_wp2
      go_ret
      exact ⟨rfl, A', n', c', hW, hfr, hA'⟩

theorem numE_wide {wd x : Int} (h : wideB wd = false) : numE wd x = 2 := by unfold numE; rw [if_pos h]
theorem numE_two {wd x : Int} (h : wideB wd = true) (h2 : numE wd x ≠ 0) : numE wd x = 9 := by
  unfold numE at *
  rw [if_neg (by simp [h])] at *
  split
  · rfl
  · rename_i hc; rw [if_neg hc] at h2; exact absurd rfl h2
theorem numE_zero {wd x : Int} (h : numE wd x = 0) : wideB wd = true ∧ 0 ≤ x ∧ x ≤ 9007199254740991 := by
  have hw : wideB wd = true := by
    by_cases hw : wideB wd = false
    · rw [numE_wide hw] at h; exact absurd h (by decide)
    · simpa using hw
  refine ⟨hw, ?_⟩
  unfold numE at h
  rw [if_neg (by simp [hw])] at h
  by_cases hc : x < 0 ∨ 9007199254740991 < x
  · rw [if_pos (by rcases hc with hc | hc; exact .inl hc; exact .inr (.inl hc))] at h; exact absurd h (by decide)
  · omega

set_option maxHeartbeats 1000000 in
theorem rwnum_any {base P : Nat} {e : Int} {l : List UInt8} {A : Option Addr} {n c : Nat} (wd x : Int) (w : World) (h : Wr 80 w base P e l A n c)
    (hlen : n + 8 ≤ 140737488355328) (hbase : base ≤ w.heap.size) :
    Calls Try.prog 30 #[.pointer (some ⟨P, 0, none⟩), .int .i64 wd, .int .i64 x] w (WrPost 80 w base P A (putE e (numE wd x)) (putB e (numE wd x) l (numBytes wd.toNat x.toNat))) := by
  have c1 : w.cell? ⟨P, 1, none⟩ = some (.int .i64 e) := h.blk.cell 1
  have f1 := h.blk.frozen 1
  by_cases he : e = 0
  · subst he
    by_cases h0 : numE wd x = 0
    · obtain ⟨hw, hx0, hx1⟩ := numE_zero h0
      have hwr := wideB_le hw
      obtain ⟨xn, rfl⟩ := Int.eq_ofNat_of_zero_le hx0
      obtain ⟨wn, rfl⟩ := Int.eq_ofNat_of_zero_le (show 0 ≤ wd by omega)
      rw [h0]
      exact rwnum_ok wn xn w h hlen hbase hw (by omega) h0
    · rw [putB_err h0]
      by_cases hw : wideB wd = false
      · have e1 := numE_wide (x := x) hw
        rw [e1]
        have HK := Lib.hid (rset_err 2 h)
        clear e1 h0 h
        go_enter Try.func30, Try.ntmps30
        go_wp2_with (go_at_call 69; refine (rwide_any _ _).mono ?_; rintro en w' ⟨rfl, rfl⟩)
        go_ret
        exact ⟨rfl, A, n, c, HK.out.1, HK.out.2, fun k hk => .inl hk⟩
      · have hw' : wideB wd = true := by simpa using hw
        have HF := Lib.hid (rfits_any wd x w hw')
        have hb : (numE wd x == 0) = false := by simpa using h0
        rw [numE_two hw' h0]
        have HK := Lib.hid (rset_err 9 h)
        clear hw h0 h
        go_enter Try.func30, Try.ntmps30
        go_wp2_with (go_at_call 69; refine (rwide_any _ _).mono ?_; rintro en w' ⟨rfl, rfl⟩)
        refine HF.out.mono ?_
        rintro en w' ⟨rfl, rfl⟩
        go_wp2
        go_ret
        exact ⟨rfl, A, n, c, HK.out.1, HK.out.2, fun k hk => .inl hk⟩
  · rw [putE_keeps he, putB_keeps he]
    have he' : (e == 0) = false := by simpa using he
    have he2 : (e != 0) = true := by simpa using he
    go_enter Try.func30, Try.ntmps30
    go_wp2
    go_ret
    exact ⟨rfl, A, n, c, h, Fr.refl _ _, fun k hk => .inl hk⟩

set_option maxHeartbeats 400000 in
theorem rwtext_any {base P : Nat} {e : Int} {l m : List UInt8} {A A2 : Option Addr} {n c n2 c2 : Nat} (w : World) (h : Wr 80 w base P e l A n c) (hm : Sl w A2 n2 c2 m)
    (hA2 : m ≠ [] → ∀ b, blkOf A2 = some b → ¬ foot P A b) (hlen : n + n2 + 10 ≤ 140737488355328) (hbase : base ≤ w.heap.size) :
    Calls Try.prog 34 #[.pointer (some ⟨P, 0, none⟩), .slice A2 n2 c2] w (WrPost 80 w base P A e (okB e l (cntBytes m.length ++ m))) := by
  have hml := hm.len
  have hq := rwcount_any n2 w h (by omega) hbase
  have hc0 : cntE n2 = 0 := by unfold cntE; rw [if_neg (by omega)]
  rw [hc0, putE_zero, putB_zero, Int.toNat_natCast] at hq
  have HQ := Lib.hid hq
  have hl := h.len
  have hcb := cntBytes_len n2 (by omega)
  have hob := okB_len e l (cntBytes n2)
  have HM := Lib.hid hml
  have HL := Lib.hid hl
  clear hq h hml hl hc0
  go_enter Try.func34, Try.ntmps34
  go_wp2_with fail
  refine HQ.out.mono ?_
  rintro en w1 ⟨rfl, A1, n1, c1, h1, hf1, h3⟩
  have hm1 := hm.fr' hf1 hA2
  have hq := rwraw_any w1 h1 hm1 (by have := h1.len; have := HL.out; omega) (by have := hf1.size; omega)
  rw [okB_okB] at hq
  have HQ2 := Lib.hid hq
  clear hq hm1 h1 HQ hm
  go_wp2_with fail
  refine HQ2.out.mono ?_
  rintro en w2 ⟨rfl, A2, n2, c2, h4, hf2, h5⟩
  have hf3 : Fr (foot P A) w w2 := hf1.trans hf2 (fun b hb => by
    rcases hb with hb | hb
    · exact .inl (.inl hb)
    · exact (h3 b hb).imp .inr id)
  have hA : ∀ k, blkOf A2 = some k → blkOf A = some k ∨ w.heap.size ≤ k := fun k hk => by
    rcases h5 k hk with h6 | h6
    · exact h3 k h6
    · exact .inr (by have := hf1.size; omega)
  rw [HM.out] at h4
  clear h5 h3 hf1 hf2
  go_wp2
  go_ret
  exact ⟨rfl, A2, n2, c2, h4, hf3, hA⟩
end Go.Proofs.Ytblpnlobicjccaa
