/- Package sealchainref07: Pad. -/
import Derived.Test.YtblpnlobicjccaaDoorPadPad
namespace Go.Proofs.YtblpnlobicjccaaDoor
open Go.RowKit

def lenV : Value → Nat
  | .slice _ n _ => n
  | _ => 0
theorem byteOf_mod (z : Int) : byteOf (z % 256) = byteOf z := by unfold byteOf; rw [Int.emod_emod_of_dvd _ (Int.dvd_refl _)]
/-- A literal row of bytes is one of the call's own. -/
theorem Own.lit (w : World) (l : List UInt8) (cs : Array Value) (n : Nat) (hc : cs = (l.map bv).toArray) (hn : n = l.length) (hl : l.length ≤ 1000) :
    Own (w.alloc (.cells cs 5)) w.heap.size 5 (some ⟨w.heap.size, 0, none⟩) n n l := by
  subst hc; subst hn
  exact ⟨rfl, by simp, .inr ⟨w.heap.size, l.length, (l.map bv).toArray, rfl, Nat.le_refl _, heap_alloc_new w _, Nat.le_refl _, by unfold maxLen; omega, by simp, by simp [List.take_of_length_le]⟩⟩
theorem oneZero (w : World) : Sl (w.alloc (.cells #[.int .u8 0] 5)) (some ⟨w.heap.size, 0, none⟩) 1 1 (zs 1) := litSl w (zs 1) _ 1 _ rfl rfl (by decide)

theorem head3 (w : World) (x y z : Int) (hx : 0 ≤ x ∧ x < 256) (hy : 0 ≤ y ∧ y < 256) (hz : 0 ≤ z ∧ z < 256) :
    Own (w.alloc (.cells #[.int .u8 x, .int .u8 y, .int .u8 z] 5)) w.heap.size 5 (some ⟨w.heap.size, 0, none⟩) 3 3 [byteOf x, byteOf y, byteOf z] :=
  Own.lit w _ _ 3 (by rw [bv_small x hx.1 hx.2, bv_small y hy.1 hy.2, bv_small z hz.1 hz.2]; rfl) rfl (by simp)
theorem zs_snoc (k : Nat) : zs k ++ zs 1 = zs (k + 1) := by unfold zs; rw [List.replicate_append_replicate]

set_option maxHeartbeats 2000000 in
theorem rpad_c {A : Option Addr} {n c : Nat} {l : List UInt8} (last : Bool) (C : Nat) (w : World) (h : Sl w A n c l) (hl : n ≤ 100000) (e : clsI l.length = C) (hfit : 3 + l.length ≤ C) (hC : C ≤ 256)
    (hcase : last = false ∨ (last = true ∧ l = [])) : Calls Tryd.prog 10 #[.slice A n c, .bool last] w (PadPost w l last) := by
  obtain rfl := h.len
  have HC := Lib.hid (rclass_any (l.length : Int) w)
  rw [e] at HC
  have e1 : padE l last = 0 := by
    unfold padE
    rw [if_neg, if_neg (by omega)]
    rintro ⟨rfl, h⟩
    rcases hcase with h' | ⟨_, h'⟩
    · cases h'
    · exact h h'
  have e2 : padV l last = padL l last := by simp [padV, e1]
  unfold PadPost
  rw [e1, e2]
  have hCn : ((C : Int) == 0) = false := by simp; omega
  have HE := Lib.hid e
  rcases hcase with rfl | ⟨rfl, rfl⟩
  · clear e e1 e2
    go_enter Tryd.func10, Tryd.ntmps10
    go_wp2_with (first | (go_at_call 13; refine HC.out.mono ?_; rintro e w' ⟨rfl, rfl⟩) | (at_builtin; refine app_bytes rfl _ _ rfl rfl rfl (head3 w 0 ((l.length : Int) / 256) ((l.length : Int) % 256) (by omega) (by omega) (by omega)) (h.alloc _) (by omega) (by simp) ?_; intro A1 c1 w1 hO hfr _; have hB : Below w.heap.size w w1 := Fr.below ((Below.refl _ _).alloc (Nat.le_refl _) _) hfr (by simp) (fun b hb => by simp [blkOf] at hb; omega); clear hfr))
    go_loopw [8] (fun vb wr => ∃ (k n' c' : Nat) (A' : Option Addr), vb = .slice A' n' c' ∧ Hid (n' = 3 + l.length + k) ∧ n' ≤ C ∧ Own wr w.heap.size 5 A' n' c' ([byteOf 0, byteOf ((l.length : Int) / 256), byteOf ((l.length : Int) % 256)] ++ (l ++ zs k)) ∧ Below w.heap.size w wr) (fun vb _ => C - lenV vb)
    case atStart => exact ⟨0, _, _, A1, rfl, rfl, by omega, by simpa [zs] using hO, hB⟩
    case round =>
      obtain ⟨k, n', c', A', rfl, hn', hnC, hO', hB'⟩ := hrel
      clear hO hB
      by_cases hlt : n' < C
      · have hsz := hB'.size
        go_wp2_with (at_builtin; refine app_bytes rfl _ _ rfl rfl rfl (hO'.alloc _) (oneZero _) (by omega) (by simp; omega) ?_; intro A2 c2 w2 hO2 hfr2 _; have hB2 : Below w.heap.size w w2 := Fr.below (hB'.alloc hsz _) hfr2 (by simp; omega) (fun b hb => (hO'.lt b hb).1); clear hfr2)
        go_roundw
        case rel =>
          refine ⟨k + 1, n' + 1, c2, A2, rfl, ?_, by omega, ?_, hB2⟩
          · show _ = _; have := hn'.out; omega
          · rw [← zs_snoc, ← List.append_assoc, ← List.append_assoc, List.append_assoc [byteOf 0, byteOf ((l.length : Int) / 256), byteOf ((l.length : Int) % 256)]]; exact hO2
        case measure => simp [lenV]; omega
      · go_wp2
        go_ret2
        refine ⟨_, _, _, rfl, ?_, hB'⟩
        have hk : k = C - (3 + l.length) := by have := hn'.out; omega
        subst hk
        have E := HE.out
        unfold padL; rw [E, Int.toNat_natCast]; rw [byteOf_mod] at hO'; exact hO'
  · clear e e1 e2
    go_enter Tryd.func10, Tryd.ntmps10
    go_wp2_with (first | (go_at_call 13; refine HC.out.mono ?_; rintro e w' ⟨rfl, rfl⟩) | (at_builtin; refine app_bytes rfl _ _ rfl rfl rfl (head3 w 1 0 0 (by omega) (by omega) (by omega)) (h.alloc _) (by omega) (by simp) ?_; intro A1 c1 w1 hO hfr _; have hB : Below w.heap.size w w1 := Fr.below ((Below.refl _ _).alloc (Nat.le_refl _) _) hfr (by simp) (fun b hb => by simp [blkOf] at hb; omega); clear hfr))
    go_loopw [8] (fun vb wr => ∃ (k n' c' : Nat) (A' : Option Addr), vb = .slice A' n' c' ∧ Hid (n' = 3 + 0 + k) ∧ n' ≤ C ∧ Own wr w.heap.size 5 A' n' c' ([byteOf 1, byteOf 0, byteOf 0] ++ (([] : List UInt8) ++ zs k)) ∧ Below w.heap.size w wr) (fun vb _ => C - lenV vb)
    case atStart => exact ⟨0, _, _, A1, rfl, rfl, by omega, by simpa [zs] using hO, hB⟩
    case round =>
      obtain ⟨k, n', c', A', rfl, hn', hnC, hO', hB'⟩ := hrel
      clear hO hB
      by_cases hlt : n' < C
      · have hsz := hB'.size
        go_wp2_with (at_builtin; refine app_bytes rfl _ _ rfl rfl rfl (hO'.alloc _) (oneZero _) (by omega) (by simp; omega) ?_; intro A2 c2 w2 hO2 hfr2 _; have hB2 : Below w.heap.size w w2 := Fr.below (hB'.alloc hsz _) hfr2 (by simp; omega) (fun b hb => (hO'.lt b hb).1); clear hfr2)
        go_roundw
        case rel =>
          refine ⟨k + 1, n' + 1, c2, A2, rfl, ?_, by omega, ?_, hB2⟩
          · show _ = _; have := hn'.out; omega
          · rw [← zs_snoc, ← List.append_assoc, ← List.append_assoc, List.append_assoc [byteOf 1, byteOf 0, byteOf 0]]; exact hO2
        case measure => simp [lenV]; omega
      · go_wp2
        go_ret2
        refine ⟨_, _, _, rfl, ?_, hB'⟩
        have hk : k = C - (3 + 0) := by have := hn'.out; omega
        subst hk
        have E := HE.out
        unfold padL; rw [E, Int.toNat_natCast]; exact hO'

set_option maxHeartbeats 1000000 in
theorem rpad_any {A : Option Addr} {n c : Nat} {l : List UInt8} (last : Bool) (w : World) (h : Sl w A n c l) (hl : n ≤ 100000) :
    Calls Tryd.prog 10 #[.slice A n c, .bool last] w (PadPost w l last) := by
  have hlen := h.len
  have HC := Lib.hid (rclass_any (n : Int) w)
  by_cases h2 : last = true ∧ l ≠ []
  · obtain ⟨rfl, h2'⟩ := h2
    have h0 : 0 < n := by cases l with
      | nil => exact absurd rfl h2'
      | cons _ _ => simp at hlen; omega
    have e1 : padE l true = 2 := if_pos ⟨rfl, h2'⟩
    have e2 : padV l true = [] := by simp [padV, e1]
    unfold PadPost
    rw [e1, e2]
    have H := Lib.hid hlen
    clear hlen e1 e2
    go_enter Tryd.func10, Tryd.ntmps10
    go_wp2_with (go_at_call 13; refine HC.out.mono ?_; rintro e w' ⟨rfl, rfl⟩)
    go_ret2
    exact ⟨none, 0, 0, rfl, Own.nil _ _ _, Below.refl _ _⟩
  · have hcase : last = false ∨ (last = true ∧ l = []) := by
      cases last
      · exact .inl rfl
      · right
        refine ⟨rfl, ?_⟩
        cases l with
        | nil => rfl
        | cons _ _ => exact absurd ⟨rfl, by simp⟩ h2
    rw [hlen] at HC
    rcases clsI_cases (l.length : Int) with ⟨a, e⟩ | ⟨a, b, e⟩ | ⟨a, b, e⟩ | ⟨a, b, e⟩
    · have e1 : padE l last = 70 := by unfold padE; rw [if_neg h2, if_pos e]
      have e2 : padV l last = [] := by simp [padV, e1]
      have hlast : last = false := by
        rcases hcase with h | ⟨_, h⟩
        · exact h
        · subst h; simp at a
      subst hlast
      unfold PadPost
      rw [e1, e2]
      rw [e] at HC
      subst hlen
      clear e e1 e2 a h2 hcase
      go_enter Tryd.func10, Tryd.ntmps10
      go_wp2_with (go_at_call 13; refine HC.out.mono ?_; rintro e w' ⟨rfl, rfl⟩)
      go_ret2
      exact ⟨none, 0, 0, rfl, Own.nil _ _ _, Below.refl _ _⟩
    · exact rpad_c last 16 w h hl e (by omega) (by omega) hcase
    · exact rpad_c last 64 w h hl e (by omega) (by omega) hcase
    · exact rpad_c last 256 w h hl e (by omega) (by omega) hcase
end Go.Proofs.YtblpnlobicjccaaDoor
