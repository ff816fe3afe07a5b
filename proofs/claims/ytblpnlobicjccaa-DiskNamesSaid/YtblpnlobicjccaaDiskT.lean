/- Package disk: Trace: a row of clones, each in memory of its own. -/
import Derived.Test.YtblpnlobicjccaaDiskR
namespace Go.Proofs.Ytblpnlobicjccaa
open Go.RowKit

/-- The slice values vs are owned rows of the bytes t, from block 'base' on, no two at one block. -/
def Clones (w : World) (base : Nat) (vs : List Value) (t : List (List UInt8)) : Prop :=
  All2 (fun v l => ∃ A c, v = .slice A l.length c ∧ Own w base 5 A l.length c l) vs t ∧
  ∀ (i j : Nat) A n c A' n' c', i ≠ j → vs[i]? = some (.slice A n c) → vs[j]? = some (.slice A' n' c') → ∀ b, blkOf A = some b → ¬ blkOf A' = some b
theorem Clones.nil (w : World) (base : Nat) : Clones w base [] [] := ⟨All2.nil _, fun i j A n c A' n' c' _ h => by simp at h⟩
theorem Clones.fr {S : Nat → Prop} {w w' : World} {base : Nat} {vs : List Value} {t : List (List UInt8)} (h : Clones w base vs t) (k : Fr S w w') (hS : ∀ (i : Nat) A n c l, vs[i]? = some (.slice A n c) → Own w base 5 A n c l → ∀ b, blkOf A = some b → ¬ S b) : Clones w' base vs t := by
  refine ⟨⟨h.1.1, fun i x y hx hy => ?_⟩, h.2⟩
  obtain ⟨A, c, rfl, ho⟩ := h.1.2 i x y hx hy
  exact ⟨A, c, rfl, ho.fr k (hS i _ _ _ _ hx ho)⟩
theorem Clones.snoc {w w' : World} {base : Nat} {vs : List Value} {t : List (List UInt8)} (h : Clones w base vs t) (k : Below w.heap.size w w') {A : Option Addr} {c : Nat} {l : List UInt8} (ho : Own w' w.heap.size 5 A l.length c l) (hb : base ≤ w.heap.size) :
    Clones w' base (vs ++ [.slice A l.length c]) (t ++ [l]) := by
  have h' := h.fr (Fr.of_below (S := fun _ => False) k) (fun _ _ _ _ _ _ _ _ _ => id)
  have old : ∀ (i : Nat) A' n' c', vs[i]? = some (.slice A' n' c') → ∀ b, blkOf A' = some b → b < w.heap.size := by
    intro i A' n' c' hi b hb'
    have hil := (List.getElem?_eq_some_iff.1 hi).1
    have hit : i < t.length := by have := h.1.1; omega
    obtain ⟨A2, c2, e, h2⟩ := h.1.2 i _ _ hi (List.getElem?_eq_getElem hit)
    injection e with e1 e2 e3
    subst e1
    exact (h2.lt b hb').2
  refine ⟨h'.1.snoc ⟨A, c, rfl, ho.mono hb⟩, ?_⟩
  intro i j A1 n1 c1 A2 n2 c2 hij h1 h2 b hb1 hb2
  have li := (List.getElem?_eq_some_iff.1 h1).1
  have lj := (List.getElem?_eq_some_iff.1 h2).1
  simp at li lj
  by_cases hi : i < vs.length
  · rw [List.getElem?_append_left hi] at h1
    by_cases hj : j < vs.length
    · rw [List.getElem?_append_left hj] at h2
      exact h.2 i j _ _ _ _ _ _ hij h1 h2 b hb1 hb2
    · obtain rfl : j = vs.length := by omega
      rw [List.getElem?_append_right (Nat.le_refl _)] at h2
      simp at h2
      obtain ⟨rfl, _, _⟩ := h2
      have := (ho.lt b hb2).1
      have := old i _ _ _ h1 b hb1
      omega
  · obtain rfl : i = vs.length := by omega
    rw [List.getElem?_append_right (Nat.le_refl _)] at h1
    simp at h1
    obtain ⟨rfl, _, _⟩ := h1
    by_cases hj : j < vs.length
    · rw [List.getElem?_append_left hj] at h2
      have := (ho.lt b hb1).1
      have := old j _ _ _ h2 b hb2
      omega
    · omega
/-- 'append(t, x)' of one slice to a row of slices. -/
theorem app1 {w : World} {o : Oper} {a : Act} {Q : Exit → Act → World → Prop} {ops : Array Oper} {rest : List Oper} (hgd : o.guard = none) (s x : Operand)
    (ho : o.op = .call { callee := .builtin .append, args := #[s, x], argTypes := #[61, 61] }) {base : Nat} {A : Option Addr} {n c : Nat} {xs : List Value} (hs : a.eval s = .slice A n c) (h : Row w base 26 1 A n c xs)
    (ad : Addr) (c2 : Nat) (v : Value) (hx : a.eval x = .slice (some ad) 1 c2) (hnews : ∀ j u, [v][j]? = some u → w.cell? (ad.add j) = some u) (h1 : v.oneCell' = true) (hlen : n ≤ 100000) (hbase : base ≤ w.heap.size)
    (hK : ∀ A' c' w', Row w' base 26 1 A' (n + 1) c' (xs ++ [v]) → Fr (fun k => blkOf A = some k) w w' → (∀ k, blkOf A' = some k → blkOf A = some k ∨ w.heap.size ≤ k) → wpList Try.prog ops Q rest (a.put o.dst (.slice A' (n + 1) c')) w') :
    wpList Try.prog ops Q (o :: rest) a w := by
  obtain ⟨i0, hi, hz0, hz1, hz2⟩ := info_parts infoBs
  exact wpList_append_row hgd s x 61 26 i0 (.slice none 0 0) 1 24 ho Try.underlying61 hi hz0 hz1 hz2 rfl (by decide) hs h ad 1 c2 [v] hx rfl hnews (fun u hu => by rw [List.mem_singleton.1 hu]; exact h1) (by omega) (by omega) hbase hK

/-- What Trace hands back. -/
def TrPost (w : World) (t : List (List UInt8)) (en : Ending) (w' : World) : Prop :=
  ∃ A c vs, en = .returned (.slice A t.length c) ∧ Row w' w.heap.size 26 1 A t.length c vs ∧ Clones w' w.heap.size vs t ∧ Below w.heap.size w w'

section
variable {w : World} {base P : Nat} {F : Nat → Prop} {s : DS}
set_option maxRecDepth 100000 in
set_option maxHeartbeats 2000000 in
theorem dtrace_any (h : Dk w base F P s) : Calls Try.prog 44 #[.pointer (some ⟨P, 0, none⟩)] w (TrPost w s.t) := by
  have Q := Lib.hid (dnone_any h)
  obtain ⟨hv, A, c, TA, cT, vs, h1, h2⟩ := h
  have c4 : w.cell? ⟨P, 4, none⟩ = some (.slice TA s.t.length cT) := h1.blk.cell 4
  have hvl : vs.length = s.t.length := by have := h1.tr.len; omega
  obtain ⟨N, hN⟩ : ∃ N, s.t.length = N := ⟨_, rfl⟩
  have H1 := Lib.hid h1
  have HVL := Lib.hid hvl
  have HN := Lib.hid hN
  have hN1 : N ≤ 1000 := by have := h1.tlen; omega
  rw [hN] at c4
  clear h1 h2 hvl hN
  go_enter Try.func44, Try.ntmps44
  go_wp2_with (go_at_call 62; refine Q.out.mono ?_; rintro en w' ⟨rfl, rfl⟩)
  go_loopg [2, 12] N (fun g v2 v12 wr => ∃ (k : Nat) (Ao : Option Addr) (co : Nat) (us : List Value), v12 = .int .i64 k ∧ v2 = .slice Ao k co ∧ k ≤ N ∧ g = N - k ∧ Hid (Row wr w.heap.size 26 1 Ao k co us) ∧ Hid (Clones wr w.heap.size us (s.t.take k)) ∧ Hid (Below w.heap.size w wr))
  case atStart => exact ⟨0, none, 0, [], rfl, rfl, by omega, rfl, Row.nil _ _ _ _, (by show Clones _ _ _ _; simpa using Clones.nil w w.heap.size), Below.refl _ _⟩
  case round =>
    obtain ⟨k, Ao, co, us, rfl, rfl, hk, rfl, hR, hC, hB⟩ := hrel
    by_cases hlt : k < N
    · have hkt : k < s.t.length := by have := HN.out; omega
      have hkv : k < vs.length := by have := HVL.out; omega
      obtain ⟨Z, ⟨Ak, nk, ck, hvk, hsl, hz, hnk2⟩, hZ⟩ := H1.out.els.2 k _ _ (List.getElem?_eq_getElem hkv) (List.getElem?_eq_getElem hkt)
      have hTA : ∃ g, TA = some ⟨g, 0, none⟩ := H1.out.tr.at_ (by omega)
      obtain ⟨g, rfl⟩ := hTA
      have ck : wr.cell? ⟨g, k, none⟩ = some (.slice Ak nk ck) := by
        have e := H1.out.tr.cell k (by omega)
        rw [List.getElem?_eq_getElem hkv, hvk] at e
        exact (hB.out.cell (p := ⟨g, k, none⟩) (World.block_lt_of_cell? w _ e)).trans e
      obtain ⟨l, hl⟩ : ∃ l, s.t[k] = l := ⟨_, rfl⟩
      rw [hl] at hsl
      have hl2 : s.t[k]? = some l := by rw [List.getElem?_eq_getElem hkt, hl]
      have hnk := hsl.len
      have HCL := Lib.hid (clone_any wr (hsl.old hB.out) (by omega))
      have HL := Lib.hid hl2
      have HZR := Lib.hid hB.out.size
      clear hsl hvk hl hl2 hZ hz hnk hkt
      go_wp2_with fail
      refine HCL.out.mono ?_
      rintro en w1 ⟨A1, c1, rfl, hO1, hB1⟩
      have HO1 := Lib.hid hO1
      have HB1 := Lib.hid hB1
      have hCs := hC.out.snoc hB1 hO1 hB.out.size
      have HCs := Lib.hid hCs
      clear hO1 hB1 hCs HCL
      go_wp2_with (at_builtin; refine app1 rfl _ _ rfl rfl ((hR.out.old HB1.out).alloc _) _ _ _ rfl (cellNew _ _ _) rfl ?c1 ?c2 ?_)
      case c1 => omega
      case c2 => have := HB1.out.size; have := HZR.out; simp; omega
      intro A5 c5 w5 hR5 hF5 hA5
      have hB5 : Below w.heap.size w w5 := Fr.below ((hB.out.trans (HB1.out.mono HZR.out)).alloc (Nat.le_trans HZR.out HB1.out.size) (.cells #[.slice A1 l.length c1] 26)) hF5 (by have := HB1.out.size; have := HZR.out; simp; omega) (fun b hb => (hR.out.lt b hb).1)
      have hC5 : Clones w5 w.heap.size (us ++ [.slice A1 l.length c1]) (s.t.take k ++ [l]) := by
        refine (HCs.out.fr (S := fun _ => False) ((Fr.refl _ w1).alloc (.cells #[.slice A1 l.length c1] 26)) (fun _ _ _ _ _ _ _ _ _ => id)).fr hF5 ?_
        intro i A' n' c' l' _ ho b hb hAo
        exact Row.ne_row ((hR.out.old HB1.out).alloc _) ho.toRow (by decide) b hAo hb
      have HR5 := Lib.hid hR5
      have HB5 := Lib.hid hB5
      have HC5 := Lib.hid hC5
      clear hR5 hF5 hA5 hB5 hC5 HCs HO1
      go_wp2
      go_roundg (N - (k + 1))
      case measure => omega
      case rel =>
        refine ⟨k + 1, A5, c5, _, by go_num, rfl, by omega, rfl, HR5.out, ?_, HB5.out⟩
        have hkt : k < s.t.length := by have := HN.out; omega
        show Clones _ _ _ _
        have e := HL.out
        rw [List.getElem?_eq_getElem hkt] at e
        injection e with e
        rw [List.take_succ_eq_append_getElem hkt, e]
        exact HC5.out
    · obtain rfl : k = N := by omega
      have hCf := hC.out
      rw [List.take_of_length_le (by have := HN.out; omega)] at hCf
      have HCf := Lib.hid hCf
      clear hCf
      go_wp2
      go_ret
      refine ⟨Ao, co, us, ?_, ?_, HCf.out, hB.out⟩
      · rw [HN.out]; rfl
      · rw [HN.out]; exact hR.out
end
end Go.Proofs.Ytblpnlobicjccaa
