/- DiskKeeps: the plain law. -/
import Derived.Test.YtblpnlobicjccaaDiskW
namespace Go.Proofs.Ytblpnlobicjccaa
open Go.RowKit

/-- Between two rounds: what was synced stays. -/
def KInv (s : DS) (sure : Nat) : Prop := sure ≤ s.n ∧ s.n ≤ s.b.length ∧ (s.dead = true → s.n = s.b.length)
/-- Behind a call: 'L' is what was written. -/
def KPost (s : DS) (L : List UInt8) (sure : Nat) : Prop :=
  sure ≤ s.n ∧ s.n ≤ s.b.length ∧ s.b.length ≤ L.length ∧ s.b = L.take s.b.length ∧ (s.dead = false → s.b.length = L.length) ∧ (s.dead = true → s.n = s.b.length)
theorem KInv.post {s : DS} {sure : Nat} (h : KInv s sure) : KPost s s.b sure := ⟨h.1, h.2.1, Nat.le_refl _, by simp, fun _ => rfl, h.2.2⟩
theorem KInv.tear {s : DS} {sure : Nat} (h : KInv s sure) (k : Nat) : KPost (tearS k s) s.b sure := by
  obtain ⟨h1, h2, h3⟩ := h
  unfold tearS KPost
  have e : (s.b.take (s.n + min k (s.b.length - s.n))).length = s.n + min k (s.b.length - s.n) := by simp; omega
  dsimp only
  rw [e]
  exact ⟨by omega, by omega, by omega, rfl, fun h => (by cases h), fun _ => rfl⟩
theorem sync_keeps {s : DS} {sure : Nat} (h : KInv s sure) : (syncE s = 0 ∧ KPost (syncS s) s.b s.b.length) ∨ ((syncE s == 0) = false ∧ KPost (syncS s) s.b sure) := by
  unfold syncE syncS
  cases hd : s.dead
  · rcases ha : s.arm with _ | k
    · exact .inl ⟨rfl, Nat.le_refl _, Nat.le_refl _, Nat.le_refl _, by simp, fun _ => rfl, fun _ => rfl⟩
    · exact .inr ⟨rfl, h.tear k⟩
  · exact .inr ⟨rfl, h.post⟩
theorem swap_keeps {s : DS} {sure : Nat} (h : KInv s sure) (m : List UInt8) : (swapE m s = 0 ∧ KPost (swapS m s) m m.length) ∨ ((swapE m s == 0) = false ∧ KPost (swapS m s) s.b sure) := by
  unfold swapE swapS
  cases hd : s.dead
  · by_cases hl : 1048576 < m.length
    · rw [if_neg (by decide), if_pos hl, if_neg (by decide), if_pos hl]; exact .inr ⟨rfl, h.post⟩
    · rw [if_neg (by decide), if_neg hl, if_neg (by decide), if_neg hl]
      rcases ha : s.arm with _ | k
      · exact .inl ⟨rfl, Nat.le_refl _, Nat.le_refl _, Nat.le_refl _, by simp, fun _ => rfl, fun _ => rfl⟩
      · exact .inr ⟨rfl, h.tear k⟩
  · exact .inr ⟨rfl, h.post⟩
theorem cut_keeps {s : DS} {sure : Nat} (h : KInv s sure) (q : Nat) : (cutE q s = 0 ∧ q ≤ s.b.length ∧ KPost (cutS q s) (s.b.take q) q) ∨ ((cutE q s == 0) = false ∧ KPost (cutS q s) s.b sure) := by
  unfold cutE cutS
  cases hd : s.dead
  · by_cases hl : (q : Int) < 0 ∨ (s.b.length : Int) < q
    · rw [if_neg (by decide), if_pos hl, if_neg (by decide), if_pos hl]; exact .inr ⟨rfl, h.post⟩
    · rw [if_neg (by decide), if_neg hl, if_neg (by decide), if_neg hl, Int.toNat_natCast]
      have e : (s.b.take q).length = q := by simp; omega
      refine .inl ⟨rfl, by omega, ?_⟩
      unfold KPost
      dsimp only
      rw [e]
      exact ⟨Nat.le_refl _, Nat.le_refl _, Nat.le_refl _, (List.take_of_length_le (by rw [e]; exact Nat.le_refl _)).symm, fun _ => rfl, fun _ => rfl⟩
  · exact .inr ⟨rfl, h.post⟩
theorem arm_keeps {s : DS} {sure : Nat} (h : KInv s sure) (n : Int) : KPost (armS n s) s.b sure := by
  unfold armS
  split
  · exact h.post
  · split
    · exact h.post
    · exact h.post
theorem crash_keeps {s : DS} {sure : Nat} (h : KInv s sure) (q : Nat) : crashE q = 0 ∧ (crashS q s).dead = true ∧ KPost (crashS q s) s.b sure := by
  unfold crashE crashS
  have hq : ¬ (q : Int) < 0 := by omega
  rw [if_neg hq, if_neg hq]
  cases hd : s.dead
  · exact ⟨rfl, rfl, h.tear _⟩
  · exact ⟨rfl, hd, h.post⟩
theorem revive_keeps {s : DS} {sure : Nat} (h : KInv s sure) : KPost ⟨s.b, s.n, false, none, s.t⟩ s.b sure := ⟨h.1, h.2.1, Nat.le_refl _, by simp, fun _ => rfl, fun h => (by cases h)⟩
theorem write_keeps {s : DS} {sure : Nat} (h : KInv s sure) (m : List UInt8) (hd : s.dead = false) (hl : s.b.length + m.length ≤ 1048576) : writeE m s = 0 ∧ KPost (writeS m s) (s.b ++ m) sure := by
  unfold writeE writeS
  rw [hd, if_neg (by decide), if_neg (by omega), if_neg (by decide), if_neg (by omega)]
  exact ⟨rfl, h.1, by have := h.2.1; simp; omega, Nat.le_refl _, (List.take_of_length_le (Nat.le_refl _)).symm, fun _ => rfl, fun h2 => (by cases h2)⟩
theorem write_dead {s : DS} {sure : Nat} (h : KInv s sure) (m : List UInt8) (hd : s.dead = true) : writeE m s = 130 ∧ KPost (writeS m s) s.b sure := by
  unfold writeE writeS
  rw [hd, if_pos rfl, if_pos rfl]
  exact ⟨rfl, h.post⟩
/-- The trace grows by one at most. -/
theorem tear_t (k : Nat) (s : DS) : (tearS k s).t = s.t := rfl
theorem sync_t (s : DS) : (syncS s).t = s.t := by unfold syncS; split; rfl; split <;> rfl
theorem cut_t (n : Int) (s : DS) : (cutS n s).t = s.t := by unfold cutS; split; rfl; split <;> rfl
theorem arm_t (n : Int) (s : DS) : (armS n s).t = s.t := by unfold armS; split; rfl; split <;> rfl
theorem crash_t (n : Int) (s : DS) : (crashS n s).t = s.t := by unfold crashS; split; rfl; split <;> rfl
theorem write_t (m : List UInt8) (s : DS) : (writeS m s).t.length ≤ s.t.length + 1 := by
  unfold writeS
  split
  · omega
  · split
    · omega
    · simp
theorem swap_t (m : List UInt8) (s : DS) : (swapS m s).t.length ≤ s.t.length + 1 := by
  unfold swapS
  split
  · omega
  · split
    · omega
    · split
      · rw [tear_t]; omega
      · simp
end Go.Proofs.Ytblpnlobicjccaa
