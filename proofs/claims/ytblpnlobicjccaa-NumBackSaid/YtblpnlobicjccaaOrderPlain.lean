/- Plain: greater counts have no fewer bytes, and of ra many bytes come behind in byte order. -/
import Derived.Test.YtblpnlobicjccaaNumW
namespace Go.Proofs.Ytblpnlobicjccaa
open Go.RowKit

theorem bytesLess_snoc : ∀ (a b : List UInt8) (x y : UInt8), a.length = b.length → Op.bytesLess a b = true → Op.bytesLess (a ++ [x]) (b ++ [y]) = true
  | _, [], _, _, _, h => by simp [Op.bytesLess] at h
  | [], _ :: _, _, _, hl, _ => by simp at hl
  | a :: ra, b :: rb, x, y, hl, h => by
    simp only [List.cons_append, Op.bytesLess] at h ⊢
    rw [Bool.or_eq_true, Bool.and_eq_true] at h ⊢
    rcases h with h | h
    · exact .inl h
    · exact .inr ⟨h.1, bytesLess_snoc ra rb x y (by simpa using hl) h.2⟩
theorem bytesLess_same : ∀ (a : List UInt8) (x y : UInt8), x < y → Op.bytesLess (a ++ [x]) (a ++ [y]) = true
  | [], x, y, h => by simp [Op.bytesLess, h]
  | a :: ra, x, y, h => by
    simp only [List.cons_append, Op.bytesLess]
    rw [bytesLess_same ra x y h]
    simp

def Before (a b : List UInt8) : Prop := a.length < b.length ∨ (a.length = b.length ∧ Op.bytesLess a b = true)
theorem before_snoc {a b : List UInt8} (h : Before a b) (x y : UInt8) : Before (a ++ [x]) (b ++ [y]) := by
  rcases h with h | ⟨h1, h2⟩
  · left; simpa using h
  · right; exact ⟨by simpa using h1, bytesLess_snoc a b x y h1 h2⟩
theorem before_same (a : List UInt8) {x y : UInt8} (h : x < y) : Before (a ++ [x]) (a ++ [y]) := .inr ⟨by simp, bytesLess_same a x y h⟩

theorem byteOf_lt {a b : Int} (h0 : 0 ≤ a) (h : a < b) (h1 : b < 256) : byteOf a < byteOf b := by
  rw [UInt8.lt_iff_toNat_lt]
  have h1 := byteOf_toNat a
  have h2 := byteOf_toNat b
  omega

theorem hi_snoc (m : Nat) (h : 0 < m) : (cntHi m).reverse = (cntHi (m / 128)).reverse ++ [byteOf ((m : Int) % 128 + 128)] := by rw [cntHi_pos m h]; simp
theorem hi_before (k : Nat) : ∀ m, m < k → Before (cntHi m).reverse (cntHi k).reverse := by
  induction k using Nat.strongRecOn with
  | _ k ih =>
    intro m hm
    rw [hi_snoc k (by omega)]
    by_cases h0 : m = 0
    · subst h0; left; simp [cntHi]
    · rw [hi_snoc m (by omega)]
      by_cases h1 : m / 128 < k / 128
      · exact before_snoc (ih (k / 128) (by omega) _ h1) _ _
      · have e : m / 128 = k / 128 := by omega
        rw [e]
        exact before_same _ (byteOf_lt (by omega) (by omega) (by omega))
theorem cnt_snoc (x : Nat) : cntBytes x = (cntHi (x / 128)).reverse ++ [byteOf ((x : Int) % 128)] := by simp [cntBytes]
theorem cnt_before (x y : Nat) (h : x < y) : Before (cntBytes x) (cntBytes y) := by
  rw [cnt_snoc, cnt_snoc]
  by_cases h1 : x / 128 < y / 128
  · exact before_snoc (hi_before _ _ h1) _ _
  · have e : x / 128 = y / 128 := by omega
    rw [e]
    exact before_same _ (byteOf_lt (by omega) (by omega) (by omega))
end Go.Proofs.Ytblpnlobicjccaa
