/- Plain: what was written is read as it was. -/
import Derived.Test.YtblpnlobicjccaaNumR
import Derived.Test.YtblpnlobicjccaaAgainPlain
namespace Go.Proofs.Ytblpnlobicjccaa
open Go.RowKit

theorem beNat_take (wd x : Nat) (h : x < 2 ^ (8 * wd)) (k : Nat) : k ≤ wd → beNat ((numBytes wd x).take k) = x / 2 ^ (8 * (wd - k)) := by
  induction k with
  | zero => intro _; simp [beNat]; rw [Nat.div_eq_of_lt h]
  | succ k ih =>
    intro hk
    rw [numBytes_snoc wd x k (by omega) _ rfl, beNat_snoc, ih (by omega)]
    have hb := byteOf_toNat ((x : Int) / 2 ^ (8 * (wd - 1 - k)))
    have e1 : ((x : Int) / 2 ^ (8 * (wd - 1 - k))) = ((x / 2 ^ (8 * (wd - 1 - k)) : Nat) : Int) := by simp
    rw [e1] at hb
    rw [e1]
    have e2 : wd - k = (wd - 1 - k) + 1 := by omega
    have e3 : wd - (k + 1) = wd - 1 - k := by omega
    rw [e2, e3, show 8 * (wd - 1 - k + 1) = 8 * (wd - 1 - k) + 8 from by omega, Nat.pow_add, ← Nat.div_div_eq_div_mul]
    generalize x / 2 ^ (8 * (wd - 1 - k)) = y at *
    omega
theorem beNat_numBytes (wd x : Nat) (h : x < 2 ^ (8 * wd)) : beNat (numBytes wd x) = x := by
  have := beNat_take wd x h wd (Nat.le_refl _)
  rw [List.take_of_length_le (by rw [numBytes_len]; exact Nat.le_refl _)] at this
  simpa using this

theorem rawO_app (k : Nat) (d r : List UInt8) (h : d.length = k) : rawO k ⟨0, d ++ r⟩ = d := by
  unfold rawO; rw [if_pos ⟨rfl, by omega, by simp; omega⟩]; subst h; simp
theorem rawS_app (k : Nat) (d r : List UInt8) (h : d.length = k) : rawS k ⟨0, d ++ r⟩ = ⟨0, r⟩ := by
  unfold rawS; rw [if_pos rfl, if_neg (by omega), if_neg (by simp; omega)]; subst h; simp
theorem numV_back (wd x : Nat) (r : List UInt8) (hw : wideB wd = true) (hx : x < 2 ^ (8 * wd)) (hm : x ≤ 9007199254740991) : numV wd ⟨0, numBytes wd x ++ r⟩ = x := by
  unfold numV
  rw [if_neg (fun h => by rw [hw] at h; cases h.2), rawO_app wd _ _ (numBytes_len wd x), beNat_numBytes wd x hx, if_neg (by omega)]
theorem numS_back (wd x : Nat) (r : List UInt8) (hw : wideB wd = true) (hx : x < 2 ^ (8 * wd)) (hm : x ≤ 9007199254740991) : numS wd ⟨0, numBytes wd x ++ r⟩ = ⟨0, r⟩ := by
  unfold numS
  rw [if_neg (fun h => by rw [hw] at h; cases h.2), rawO_app wd _ _ (numBytes_len wd x), beNat_numBytes wd x hx, if_neg (by omega), rawS_app wd _ _ (numBytes_len wd x)]

theorem hi_back (most : Int) (m : Nat) : ∀ (r : List UInt8), (cntHi m).length ≤ 8 → cntRun most 8 0 ⟨0, (cntHi m).reverse ++ r⟩ = cntRun most (8 - (cntHi m).length) m ⟨0, r⟩ := by
  induction m using Nat.strongRecOn with
  | _ m ih =>
    intro r hl
    by_cases h0 : m = 0
    · subst h0; simp [cntHi]
    · rw [cntHi_pos m (by omega)] at hl ⊢
      have hlt : m / 128 < m := by omega
      rw [List.reverse_cons, List.append_assoc, ih _ hlt _ (by simp at hl; omega)]
      simp only [List.length_cons] at hl ⊢
      rw [show 8 - (cntHi (m / 128)).length = (8 - ((cntHi (m / 128)).length + 1)) + 1 from by omega, cntRun]
      have hb := byteOf_toNat ((m : Int) % 128 + 128)
      have hbt : (byteOf ((m : Int) % 128 + 128)).toNat = m % 128 + 128 := by omega
      have e1 : rawO 1 ⟨0, [byteOf ((m : Int) % 128 + 128)] ++ r⟩ = [byteOf ((m : Int) % 128 + 128)] := rawO_app 1 [byteOf ((m : Int) % 128 + 128)] r rfl
      have e2 : rawS 1 ⟨0, [byteOf ((m : Int) % 128 + 128)] ++ r⟩ = ⟨0, r⟩ := rawS_app 1 [byteOf ((m : Int) % 128 + 128)] r rfl
      rw [e1, e2]
      dsimp only
      rw [hbt, if_neg, if_pos (by omega)]
      · congr 1; omega
      · rintro ⟨h7, h8⟩
        have hz : (cntHi (m / 128)).length = 0 := by omega
        have : m / 128 = 0 := by
          by_cases h : m / 128 = 0
          · exact h
          · rw [cntHi_pos _ (by omega)] at hz; simp at hz
        omega
theorem cntRun_back (most : Int) (x : Nat) (r : List UInt8) (hx : x ≤ 9007199254740991) (hm : (x : Int) ≤ most) : cntRun most 8 0 ⟨0, cntBytes x ++ r⟩ = ((x : Int), ⟨0, r⟩) := by
  have hl := cntHi_len 7 (x / 128) (by omega)
  rw [show cntBytes x = (cntHi (x / 128)).reverse ++ [byteOf ((x : Int) % 128)] from by simp [cntBytes], List.append_assoc, hi_back most _ _ (by omega)]
  rw [show 8 - (cntHi (x / 128)).length = (7 - (cntHi (x / 128)).length) + 1 from by omega, cntRun]
  have hb := byteOf_toNat ((x : Int) % 128)
  have hbt : (byteOf ((x : Int) % 128)).toNat = x % 128 := by omega
  have e1 : rawO 1 ⟨0, [byteOf ((x : Int) % 128)] ++ r⟩ = [byteOf ((x : Int) % 128)] := rawO_app 1 _ r rfl
  have e2 : rawS 1 ⟨0, [byteOf ((x : Int) % 128)] ++ r⟩ = ⟨0, r⟩ := rawS_app 1 _ r rfl
  rw [e1, e2]
  dsimp only
  rw [hbt, if_neg (by omega), if_neg (by omega), if_neg (by omega), if_neg (by omega)]
  congr 1
  omega
theorem text_back (most : Int) (t r : List UInt8) (ht : t.length ≤ 9007199254740991) (hm : (t.length : Int) ≤ most) :
    textO most ⟨0, cntBytes t.length ++ (t ++ r)⟩ = t ∧ textS most ⟨0, cntBytes t.length ++ (t ++ r)⟩ = ⟨0, r⟩ := by
  unfold textO textS
  rw [cntRun_back most t.length (t ++ r) ht hm]
  dsimp only
  rw [if_pos rfl, if_pos rfl, rawO_app _ _ _ rfl, rawS_app _ _ _ rfl]
  exact ⟨rfl, rfl⟩

/-- The width at a place. -/
def wdOf (i : Nat) : Nat := if i % 4 = 0 then 1 else if i % 4 = 1 then 2 else if i % 4 = 2 then 4 else 8
theorem wdOf_cases (i : Nat) : (i % 4 = 0 ∧ wdOf i = 1) ∨ (i % 4 = 1 ∧ wdOf i = 2) ∨ (i % 4 = 2 ∧ wdOf i = 4) ∨ (i % 4 = 3 ∧ wdOf i = 8) := by
  unfold wdOf
  have : i % 4 < 4 := Nat.mod_lt _ (by decide)
  by_cases h0 : i % 4 = 0
  · left; simp [h0]
  · by_cases h1 : i % 4 = 1
    · right; left; simp [h1]
    · by_cases h2 : i % 4 = 2
      · right; right; left; simp [h2]
      · right; right; right; simp [h0, h1, h2]; omega
/-- What one number becomes. -/
def enc1 (wd : Nat) (z : Int) (b : List UInt8) : List UInt8 :=
  numBytes wd (z % (2 : Int) ^ (min (8 * wd) 53)).toNat ++ (cntBytes (z % 9007199254740992).toNat ++ (cntBytes (b.take (z % ((b.length : Int) + 1)).toNat).length ++ b.take (z % ((b.length : Int) + 1)).toNat))
def encL (b : List UInt8) : Nat → List Int → List UInt8
  | _, [] => []
  | i, z :: zs => enc1 (wdOf i) z b ++ encL b (i + 1) zs
theorem encL_append (b : List UInt8) (xs : List Int) : ∀ (i : Nat) (ys : List Int), encL b i (xs ++ ys) = encL b i xs ++ encL b (i + xs.length) ys := by
  induction xs with
  | nil => intro i ys; simp [encL]
  | cons x xs ih => intro i ys; simp only [List.cons_append, encL, ih, List.append_assoc, List.length_cons]; congr 3; omega
theorem encL_snoc (b : List UInt8) (l : List Int) (k : Nat) (x : Int) (hx : l[k]? = some x) : encL b 0 (l.take (k + 1)) = encL b 0 (l.take k) ++ enc1 (wdOf k) x b := by
  obtain ⟨hk, hx⟩ := List.getElem?_eq_some_iff.1 hx
  rw [List.take_succ_eq_append_getElem hk, encL_append, hx]
  have e : 0 + (l.take k).length = k := by simp; omega
  rw [e]
  simp [encL]
theorem encL_drop (b : List UInt8) (l : List Int) (k : Nat) (x : Int) (hx : l[k]? = some x) : encL b k (l.drop k) = enc1 (wdOf k) x b ++ encL b (k + 1) (l.drop (k + 1)) := by
  obtain ⟨hk, hx⟩ := List.getElem?_eq_some_iff.1 hx
  rw [List.drop_eq_getElem_cons hk, encL, hx]
theorem enc1_len (wd : Nat) (z : Int) (b : List UInt8) (hw : wd ≤ 8) (hb : b.length ≤ 50) : (enc1 wd z b).length ≤ 80 := by
  unfold enc1
  have h1 := cntBytes_len (z % 9007199254740992).toNat (by omega)
  have h3 : (b.take (z % ((b.length : Int) + 1)).toNat).length ≤ 50 := by simp; omega
  have h2 := cntBytes_len (b.take (z % ((b.length : Int) + 1)).toNat).length (by omega)
  simp only [List.length_append, numBytes_len]
  omega
theorem wdOf_le (i : Nat) : wdOf i ≤ 8 := by rcases wdOf_cases i with h | h | h | h <;> omega
theorem encL_len (b : List UInt8) (hb : b.length ≤ 50) (xs : List Int) : ∀ i, (encL b i xs).length ≤ 80 * xs.length := by
  induction xs with
  | nil => intro i; simp [encL]
  | cons x xs ih =>
    intro i
    have := enc1_len (wdOf i) x b (wdOf_le i) hb
    have := ih (i + 1)
    simp only [encL, List.length_append, List.length_cons]
    omega
end Go.Proofs.Ytblpnlobicjccaa
