/- What comes in as an argument: a slice of bytes, a slice of ints. -/
import Derived.Test.YtblpnlobicjccaaBase
import Derived.OpenShut
namespace Go.Proofs.Ytblpnlobicjccaa
open Go.RowKit

/-- A slice of bytes that came in reads as bytes. -/
theorem sl_of_ints {w : World} {a : Option Addr} {len cap : Nat} {zs : List Int} (h : (a = none ∧ len = 0 ∧ cap = 0 ∧ zs = []) ∨
    ∃ x, a = some x ∧ len ≤ cap ∧ cap ≤ maxLen ∧ zs.length = cap ∧ (∀ i, i < zs.length → w.cell? (x.add i) = some (.int .u8 (zs.getD i 0))) ∧ ∀ n ∈ zs, (Lit.int .u8 n).wf = true) :
    ∃ l, Sl w a len cap l := by
  rcases h with ⟨rfl, rfl, rfl, rfl⟩ | ⟨x, rfl, hl, hm, hz, hc, hw⟩
  · exact ⟨[], Sl.nil w⟩
  · refine ⟨(zs.take len).map fun z => UInt8.ofNat z.toNat, by simp; omega, hl, hm, ?_⟩
    by_cases h0 : len = 0
    · left; subst h0; simp
    · obtain ⟨b, o, spot⟩ := x
      have h1 := hc 0 (by omega)
      have hs : spot = none := by simpa [Addr.add] using World.cell?_spot h1
      subst hs
      refine .inr ⟨b, o, rfl, fun j hj => ?_⟩
      have hj' : j < len := by simp at hj; omega
      have hjz : j < zs.length := by omega
      have e : (⟨b, o, none⟩ : Addr).add j = ⟨b, o + j, none⟩ := by unfold Addr.add; split <;> simp_all
      have h2 := hc j hjz
      rw [e] at h2
      rw [h2]
      have hwf := hw zs[j] (List.getElem_mem hjz)
      have hg : zs.getD j 0 = zs[j] := by simp [List.getD, List.getElem?_eq_getElem hjz]
      rw [hg]
      simp only [List.getElem_map, List.getElem_take, bv]
      congr 2
      have hb := bounds_u8 hwf
      rw [UInt8.toNat_ofNat']
      omega

/-- The slice value '.slice A n c' reads as the ints l. -/
structure Is (w : World) (A : Option Addr) (n c : Nat) (l : List Int) : Prop where
  len : n = l.length
  cap : n ≤ c
  max : c ≤ maxLen
  rd : l = [] ∨ ∃ b o, A = some ⟨b, o, none⟩ ∧ ∀ j (h : j < l.length), w.cell? ⟨b, o + j, none⟩ = some (.int .i64 l[j])
  bd : ∀ z ∈ l, -9223372036854775808 ≤ z ∧ z ≤ 9223372036854775807
theorem Is.old {w w' : World} {A : Option Addr} {n c : Nat} {l : List Int} (h : Is w A n c l) (k : Below w.heap.size w w') : Is w' A n c l := by
  refine ⟨h.len, h.cap, h.max, ?_, h.bd⟩
  rcases h.rd with e | ⟨b, o, e, hc⟩
  · exact .inl e
  · exact .inr ⟨b, o, e, fun j hj => (k.cell (p := ⟨b, o + j, none⟩) (World.block_lt_of_cell? w _ (hc j hj))).trans (hc j hj)⟩
theorem Is.get {w : World} {A : Option Addr} {n c : Nat} {l : List Int} (h : Is w A n c l) {j : Nat} (hj : j < n) :
    ∃ b o x, A = some ⟨b, o, none⟩ ∧ l[j]? = some x ∧ w.cell? ⟨b, o + j, none⟩ = some (.int .i64 x) ∧ -9223372036854775808 ≤ x ∧ x ≤ 9223372036854775807 := by
  have hjl : j < l.length := by have := h.len; omega
  rcases h.rd with e | ⟨b, o, e, hc⟩
  · subst e; simp at hjl
  · have := h.bd _ (List.getElem_mem hjl)
    exact ⟨b, o, l[j], e, List.getElem?_eq_getElem hjl, hc j hjl, this.1, this.2⟩
theorem is_of_ints {w : World} {a : Option Addr} {len cap : Nat} {zs : List Int} (h : (a = none ∧ len = 0 ∧ cap = 0 ∧ zs = []) ∨
    ∃ x, a = some x ∧ len ≤ cap ∧ cap ≤ maxLen ∧ zs.length = cap ∧ (∀ i, i < zs.length → w.cell? (x.add i) = some (.int .i64 (zs.getD i 0))) ∧ ∀ n ∈ zs, (Lit.int .i64 n).wf = true) :
    ∃ l, Is w a len cap l := by
  rcases h with ⟨rfl, rfl, rfl, rfl⟩ | ⟨x, rfl, hl, hm, hz, hc, hw⟩
  · exact ⟨[], rfl, Nat.le_refl _, by decide, .inl rfl, fun z hz => by cases hz⟩
  · refine ⟨zs.take len, by simp; omega, hl, hm, ?_, fun z hz => bounds_i64 (hw z (List.mem_of_mem_take hz))⟩
    by_cases h0 : len = 0
    · left; subst h0; simp
    · obtain ⟨b, o, spot⟩ := x
      have h1 := hc 0 (by omega)
      have hs : spot = none := by simpa [Addr.add] using World.cell?_spot h1
      subst hs
      refine .inr ⟨b, o, rfl, fun j hj => ?_⟩
      have hj' : j < len := by simp at hj; omega
      have hjz : j < zs.length := by omega
      have e : (⟨b, o, none⟩ : Addr).add j = ⟨b, o + j, none⟩ := by unfold Addr.add; split <;> simp_all
      have h2 := hc j hjz
      rw [e] at h2
      rw [h2]
      have hg : zs.getD j 0 = zs[j] := by simp [List.getD, List.getElem?_eq_getElem hjz]
      rw [hg]
      simp
end Go.Proofs.Ytblpnlobicjccaa
