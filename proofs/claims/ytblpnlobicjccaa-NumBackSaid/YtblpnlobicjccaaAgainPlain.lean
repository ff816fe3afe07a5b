/- Plain: what is read as a count has just its bytes. -/
import Derived.Test.YtblpnlobicjccaaNumR
namespace Go.Proofs.Ytblpnlobicjccaa
open Go.RowKit

theorem byteOf_self (c : UInt8) : byteOf (c.toNat : Int) = c := by
  apply UInt8.toNat_inj.1
  have h := byteOf_toNat (c.toNat : Int)
  have := c.toNat_lt
  omega
theorem hiEnc_step (nn : Nat) (c : UInt8) (hc : 128 ≤ c.toNat) (hp : 0 < nn * 128 + c.toNat % 128) :
    (cntHi (nn * 128 + c.toNat % 128)).reverse = (cntHi nn).reverse ++ [c] := by
  rw [cntHi_pos _ hp]
  have h1 : (nn * 128 + c.toNat % 128) / 128 = nn := by omega
  have h2 : (((nn * 128 + c.toNat % 128 : Nat) : Int) % 128 + 128) = (c.toNat : Int) := by have := c.toNat_lt; omega
  rw [h1, h2, byteOf_self]
  simp
theorem cnt_of (nn : Nat) (c : UInt8) (hc : c.toNat < 128) : cntBytes (nn * 128 + c.toNat % 128) = (cntHi nn).reverse ++ [c] := by
  unfold cntBytes
  have h1 : (nn * 128 + c.toNat % 128) / 128 = nn := by omega
  have h2 : (((nn * 128 + c.toNat % 128 : Nat) : Int) % 128) = (c.toNat : Int) := by omega
  rw [h1, h2, byteOf_self]
  simp
theorem rawO1 (s : RS) (h : s.e = 0) : (s.l = [] ∧ rawO 1 s = [] ∧ rawS 1 s = ⟨3, []⟩) ∨ ∃ c r, s.l = c :: r ∧ rawO 1 s = [c] ∧ rawS 1 s = ⟨0, r⟩ := by
  obtain ⟨e, l⟩ := s
  dsimp only at h
  subst h
  cases l with
  | nil => exact .inl ⟨rfl, rfl, rfl⟩
  | cons c r =>
    refine .inr ⟨c, r, rfl, ?_, ?_⟩
    · unfold rawO; rw [if_pos ⟨rfl, by decide, by simp; omega⟩]; simp
    · unfold rawS; rw [if_pos rfl, if_neg (by decide), if_neg (by simp; omega)]; simp

/-- A count that was read: its bytes stood there. -/
theorem cntRun_ok (most : Int) (k : Nat) : ∀ (nn : Nat) (s : RS), s.e = 0 → (0 < nn ∨ k = 8) → (cntRun most k nn s).2.e = 0 →
    ∃ (v : Nat) (d : List UInt8), (cntRun most k nn s).1 = v ∧ v ≤ 9007199254740991 ∧ (v : Int) ≤ most ∧ s.l = d ++ (cntRun most k nn s).2.l ∧ (cntHi nn).reverse ++ d = cntBytes v := by
  induction k with
  | zero =>
    intro nn s he _ h
    simp [cntRun, failS, orI, he] at h
  | succ k ih =>
    intro nn s he hk h
    rw [cntRun] at h ⊢
    rcases rawO1 s he with ⟨_, h1, h2⟩ | ⟨c, r, hl, h1, h2⟩
    · rw [h1, h2] at h
      simp at h
    · rw [h1, h2] at h ⊢
      dsimp only at h ⊢
      by_cases c1 : k = 7 ∧ c.toNat = 128
      · rw [if_pos c1] at h; simp [failS, orI] at h
      · rw [if_neg c1] at h ⊢
        by_cases c2 : 128 ≤ c.toNat
        · rw [if_pos c2] at h ⊢
          have hp : 0 < nn * 128 + c.toNat % 128 := by have := c.toNat_lt; omega
          obtain ⟨v, d, e1, e2, e3, e4, e5⟩ := ih (nn * 128 + c.toNat % 128) ⟨0, r⟩ rfl (.inl hp) h
          refine ⟨v, c :: d, e1, e2, e3, ?_, ?_⟩
          · rw [hl]; simpa using e4
          · rw [hiEnc_step nn c c2 hp] at e5
            rw [← e5]; simp
        · rw [if_neg c2] at h ⊢
          by_cases c3 : 9007199254740991 < nn * 128 + c.toNat % 128
          · rw [if_pos c3] at h; simp [failS, orI] at h
          · rw [if_neg c3] at h ⊢
            by_cases c4 : most < (nn * 128 + c.toNat % 128 : Nat)
            · rw [if_pos c4] at h; simp [failS, orI] at h
            · rw [if_neg c4]
              exact ⟨_, [c], rfl, by omega, by omega, by simp [hl], (cnt_of nn c (by omega)).symm⟩
theorem cntRun_err (most : Int) (k : Nat) : ∀ (nn : Nat) (s : RS), s.e = 0 → (cntRun most k nn s).2.e ≠ 0 → (cntRun most k nn s).1 = 0 ∧ (cntRun most k nn s).2.l = [] := by
  induction k with
  | zero => intro nn s he _; simp [cntRun, failS]
  | succ k ih =>
    intro nn s he h
    rw [cntRun] at h ⊢
    rcases rawO1 s he with ⟨_, h1, h2⟩ | ⟨c, r, hl, h1, h2⟩
    · rw [h1, h2]; simp
    · rw [h1, h2] at h ⊢
      dsimp only at h ⊢
      by_cases c1 : k = 7 ∧ c.toNat = 128
      · rw [if_pos c1]; simp [failS]
      · rw [if_neg c1] at h ⊢
        by_cases c2 : 128 ≤ c.toNat
        · rw [if_pos c2] at h ⊢
          exact ih _ ⟨0, r⟩ rfl h
        · rw [if_neg c2] at h ⊢
          by_cases c3 : 9007199254740991 < nn * 128 + c.toNat % 128
          · rw [if_pos c3]; simp [failS]
          · rw [if_neg c3] at h ⊢
            by_cases c4 : most < (nn * 128 + c.toNat % 128 : Nat)
            · rw [if_pos c4]; simp [failS]
            · rw [if_neg c4] at h; exact absurd rfl h
end Go.Proofs.Ytblpnlobicjccaa
