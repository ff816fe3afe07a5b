/- An owned row of elements of whatever type (sz cells each): a frame, its cells, the append onto it. -/
import Derived.Test.YtblpnlobicjccaaBase
namespace Go.Proofs.Ytblpnlobicjccaa
open Go.RowKit

/-- The slice value '.slice A n c' is a row of the call's own (from block 'base' on), of the cells xs. -/
def Row (w : World) (base E sz : Nat) (A : Option Addr) (n c : Nat) (xs : List Value) : Prop := w.ownsRow base E sz (.slice A n c) n xs
section
variable {w w' : World} {base E sz : Nat} {A : Option Addr} {n c : Nat} {xs : List Value} {S : Nat → Prop}
theorem Row.nil (w : World) (base E sz : Nat) : Row w base E sz none 0 0 [] := World.ownsRow_nil w base E sz
theorem Row.lt (h : Row w base E sz A n c xs) : ∀ k, blkOf A = some k → base ≤ k ∧ k < w.heap.size := fun k hk => World.ownsRow.lt h k (by rw [ownBlock_slice]; exact hk)
theorem Row.len (h : Row w base E sz A n c xs) : xs.length = n * sz := h.1
theorem Row.cap (h : Row w base E sz A n c xs) : n ≤ c ∧ c ≤ maxLen := by
  rcases h.2 with ⟨hv, h0⟩ | ⟨g, cap, cur, hv, _, _, h1, h2, _⟩
  · injection hv with _ h1 h2; subst h2; subst h0; exact ⟨Nat.le_refl _, by decide⟩
  · injection hv with _ _ e; subst e; exact ⟨h1, h2⟩
theorem Row.fr (h : Row w base E sz A n c xs) (k : Fr S w w') (hn : ∀ b, blkOf A = some b → ¬ S b) : Row w' base E sz A n c xs := by
  refine ⟨h.1, ?_⟩
  rcases h.2 with hv | ⟨g, cap, cur, hv, hb, hg, rest⟩
  · exact .inl hv
  · refine .inr ⟨g, cap, cur, hv, hb, ?_, rest⟩
    have hA : A = some ⟨g, 0, none⟩ := by injection hv
    exact (k.block g (lt_of_heap hg) (hn g (by rw [hA]; rfl))).trans hg
theorem Row.mono {base' : Nat} (h : Row w base E sz A n c xs) (hb : base' ≤ base) : Row w base' E sz A n c xs := by
  refine ⟨h.1, ?_⟩
  rcases h.2 with hv | ⟨g, cap, cur, hv, hb, hg, rest⟩
  · exact .inl hv
  · exact .inr ⟨g, cap, cur, hv, by omega, hg, rest⟩
theorem Row.old (h : Row w base E sz A n c xs) (k : Below w.heap.size w w') : Row w' base E sz A n c xs := h.fr (Fr.of_below (S := fun _ => False) k) (fun _ _ => id)
theorem Row.alloc (h : Row w base E sz A n c xs) (o : Obj) : Row (w.alloc o) base E sz A n c xs := h.fr ((Fr.refl (fun _ => False) w).alloc o) (fun _ _ => id)
theorem Row.drew (h : Row w base E sz A n c xs) : Row w.drew base E sz A n c xs := h
theorem Row.far (h : Row w base E sz A n c xs) {p : Addr} (hp : blkOf A ≠ some p.block) (u : Value) : Row (w.setCell p u) base E sz A n c xs :=
  h.fr ((Fr.refl (fun k => k = p.block) w).setCell (.inl rfl) u) (fun b hb e => hp (by rw [hb, e]))
theorem Row.at_ (h : Row w base E sz A n c xs) (hn : 0 < n) : ∃ g, A = some ⟨g, 0, none⟩ := by
  rcases h.2 with ⟨_, h0⟩ | ⟨g, cap, cur, hv, _⟩
  · omega
  · injection hv with hA; exact ⟨g, hA⟩
theorem Row.cell {g : Nat} (h : Row w base E sz (some ⟨g, 0, none⟩) n c xs) (j : Nat) (hj : j < n * sz) : w.cell? ⟨g, j, none⟩ = xs[j]? := by
  cases hx : xs[j]? with
  | none => have := List.getElem?_eq_none_iff.1 hx; have := h.len; omega
  | some u =>
    have hc := World.ownsRow.cells h (g := g) rfl j u hx
    have e : (⟨g, 0, none⟩ : Addr).add j = ⟨g, j, none⟩ := by unfold Addr.add; split <;> simp_all
    rw [e] at hc
    exact hc
theorem Row.frozen (h : Row w base E sz A n c xs) (k o : Nat) (hk : blkOf A = some k) : w.frozen? ⟨k, o, none⟩ = false := by
  rcases h.2 with ⟨hv, h0⟩ | ⟨g, cap, cur, hv, _, hg, _⟩
  · injection hv with hA; subst hA; cases hk
  · injection hv with hA; subst hA
    have : g = k := by simpa [blkOf] using hk
    subst this
    simp [World.frozen?, hg]
theorem Row.ne_blk {g : Nat} {t : TypeId} {cs : Array Value} (h : Row w base E sz A n c xs) (hg : Blk w g t cs) (hne : E ≠ t) : blkOf A ≠ some g := by
  rcases h.2 with ⟨hv, h0⟩ | ⟨g', cap, cur, hv, _, hh, _⟩
  · injection hv with hA; subst hA; simp [blkOf]
  · injection hv with hA; subst hA
    intro he
    have : g' = g := by simpa [blkOf] using he
    subst this
    exact Blk.ne_ (t := E) hh hg hne rfl
theorem Row.ne_row {base' E' sz' n' c' : Nat} {A' : Option Addr} {ys : List Value} (h : Row w base E sz A n c xs) (k : Row w base' E' sz' A' n' c' ys) (hne : E ≠ E') : ∀ b, blkOf A = some b → ¬ blkOf A' = some b := by
  intro b hb hb'
  rcases k.2 with ⟨hv, h0⟩ | ⟨g', cap, cur, hv, _, hh, _⟩
  · injection hv with hA; subst hA; cases hb'
  · injection hv with hA; subst hA
    have : g' = b := by simpa [blkOf] using hb'
    subst this
    exact h.ne_blk (t := E') hh hne hb
/-- The first elements of a row are one. -/
theorem Row.take (h : Row w base E sz A n c xs) {k : Nat} (hk : k ≤ n) : Row w base E sz A k c (xs.take (k * sz)) := by
  have hl := h.len
  have hm : k * sz ≤ n * sz := Nat.mul_le_mul_right _ hk
  refine ⟨by rw [List.length_take]; omega, ?_⟩
  rcases h.2 with ⟨hv, h0⟩ | ⟨g, cap, cur, hv, hb, hg, h1, h2, h3, h4⟩
  · injection hv with e1 e2 e3
    subst e1; subst e3
    obtain rfl : k = 0 := by omega
    exact .inl ⟨rfl, rfl⟩
  · injection hv with e1 e2 e3
    subst e1; subst e3
    refine .inr ⟨g, c, cur, rfl, hb, hg, by omega, h2, h3, ?_⟩
    rw [← h4, List.take_take, Nat.min_eq_left hm]
end
theorem Own.take {w : World} {base E : Nat} {A : Option Addr} {n c : Nat} {l : List UInt8} (h : Own w base E A n c l) {k : Nat} (hk : k ≤ n) : Own w base E A k c (l.take k) := by
  have hr : Row w base E 1 A k c ((l.map bv).take (k * 1)) := Row.take (show Row w base E 1 A n c (l.map bv) from h.row) hk
  refine ⟨by have := h.len; simp; omega, ?_⟩
  rw [Nat.mul_one, ← List.map_take] at hr
  exact hr
theorem Own.toRow {w : World} {base E : Nat} {A : Option Addr} {n c : Nat} {l : List UInt8} (h : Own w base E A n c l) : Row w base E 1 A n c (l.map bv) := h.row

/-- 'append(s, x...)' where s is a row of the call's own and x's cells are known. -/
theorem run_append_row {P : Program} (w : World) (t ty E : TypeId) (i : TypeInfo) (z : Value) (sz by_ : Nat) (ht : P.underlying t = some (.slice E)) (hi : P.info? E = some i) (hz : i.zero = some z)
    (hsize : i.size = sz) (hby : i.bytes = by_) (hzs : z.cells.size = sz) (hsz : 0 < sz) {base : Nat} {A : Option Addr} {n c : Nat} {xs : List Value} (h : Row w base E sz A n c xs)
    (a : Addr) (m c2 : Nat) (news : List Value) (hl : news.length = m * sz) (hnews : ∀ j u, news[j]? = some u → w.cell? (a.add j) = some u) (h1 : ∀ u ∈ news, u.oneCell' = true)
    (hlen : n + m ≤ 1000000000) (hbytes : (n + m) * by_ ≤ 140737488355328) (hbase : base ≤ w.heap.size) :
    ∃ A' c' w', (Builtin.append_ #[t, t] ty #[.slice A n c, .slice (some a) m c2]).run P w = .ok (.slice A' (n + m) c') w' ∧ Row w' base E sz A' (n + m) c' (xs ++ news) ∧
      Fr (fun k => blkOf A = some k) w w' ∧ (∀ k, blkOf A' = some k → blkOf A = some k ∨ w.heap.size ≤ k) := by
  obtain ⟨v', w', hrun, h2, h3, _, h5⟩ := run_append_own_at (P := P) w base t ty E i z sz by_ ht hi hz hsize hby hzs hsz (.slice A n c) n xs h a m c2 news hl hnews h1
    (by unfold maxLen; omega) hbytes hbase
  have hform : ∃ A' c', v' = .slice A' (n + m) c' := by
    rcases h2.2 with ⟨hv, h0⟩ | ⟨g, cap, cur, hv, _⟩
    · exact ⟨none, 0, by rw [hv, h0]⟩
    · exact ⟨_, _, hv⟩
  obtain ⟨A', c', rfl⟩ := hform
  refine ⟨A', c', w', hrun, h2, (Fr.of_grown h3).mono (fun b _ e => by rw [ownBlock_slice] at e; exact e), fun k hk => ?_⟩
  rw [ownBlock_slice, ownBlock_slice] at h5
  rcases h5 with h5 | h5
  · exact .inl (by rw [← h5]; exact hk)
  · refine .inr ?_
    rw [hk] at h5
    injection h5 with h5
    omega

section
variable {P : Program} {w : World} {o : Oper} {a : Act} {Q : Exit → Act → World → Prop}
theorem wp_append_row {K : Act → World → Prop} (s x : Operand) (t E : TypeId) (i : TypeInfo) (z : Value) (sz by_ : Nat)
    (ho : o.op = .call { callee := .builtin .append, args := #[s, x], argTypes := #[t, t] })
    (ht : P.underlying t = some (.slice E)) (hi : P.info? E = some i) (hz : i.zero = some z) (hsize : i.size = sz) (hby : i.bytes = by_) (hzs : z.cells.size = sz) (hsz : 0 < sz)
    {base : Nat} {A : Option Addr} {n c : Nat} {xs : List Value} (hs : a.eval s = .slice A n c) (h : Row w base E sz A n c xs)
    (ad : Addr) (m c2 : Nat) (news : List Value) (hx : a.eval x = .slice (some ad) m c2) (hl : news.length = m * sz) (hnews : ∀ j u, news[j]? = some u → w.cell? (ad.add j) = some u) (h1 : ∀ u ∈ news, u.oneCell' = true)
    (hlen : n + m ≤ 1000000000) (hbytes : (n + m) * by_ ≤ 140737488355328) (hbase : base ≤ w.heap.size)
    (hK : ∀ A' c' w', Row w' base E sz A' (n + m) c' (xs ++ news) → Fr (fun k => blkOf A = some k) w w' → (∀ k, blkOf A' = some k → blkOf A = some k ∨ w.heap.size ≤ k) → K (a.put o.dst (.slice A' (n + m) c')) w') :
    o.wp P a w K Q := by
  obtain ⟨A', c', w', hr, k1, k2, k3⟩ := run_append_row (P := P) w t o.type E i z sz by_ ht hi hz hsize hby hzs hsz h ad m c2 news hl hnews h1 hlen hbytes hbase
  unfold Oper.wp execOp
  simp only [ho, resolve, invoke, builtin, Sem.run_bind, Sem.run_pure, Result.andThen_ok, List.map_toArray, List.map_cons, List.map_nil, hs, hx, hr]
  exact hK A' c' w' k1 k2 k3
theorem wpList_append_row {ops : Array Oper} {rest : List Oper} (hgd : o.guard = none) (s x : Operand) (t E : TypeId) (i : TypeInfo) (z : Value) (sz by_ : Nat)
    (ho : o.op = .call { callee := .builtin .append, args := #[s, x], argTypes := #[t, t] })
    (ht : P.underlying t = some (.slice E)) (hi : P.info? E = some i) (hz : i.zero = some z) (hsize : i.size = sz) (hby : i.bytes = by_) (hzs : z.cells.size = sz) (hsz : 0 < sz)
    {base : Nat} {A : Option Addr} {n c : Nat} {xs : List Value} (hs : a.eval s = .slice A n c) (h : Row w base E sz A n c xs)
    (ad : Addr) (m c2 : Nat) (news : List Value) (hx : a.eval x = .slice (some ad) m c2) (hl : news.length = m * sz) (hnews : ∀ j u, news[j]? = some u → w.cell? (ad.add j) = some u) (h1 : ∀ u ∈ news, u.oneCell' = true)
    (hlen : n + m ≤ 1000000000) (hbytes : (n + m) * by_ ≤ 140737488355328) (hbase : base ≤ w.heap.size)
    (hK : ∀ A' c' w', Row w' base E sz A' (n + m) c' (xs ++ news) → Fr (fun k => blkOf A = some k) w w' → (∀ k, blkOf A' = some k → blkOf A = some k ∨ w.heap.size ≤ k) → wpList P ops Q rest (a.put o.dst (.slice A' (n + m) c')) w') :
    wpList P ops Q (o :: rest) a w :=
  wpList_plain hgd fun _ hk => wp_append_row s x t E i z sz by_ ho ht hi hz hsize hby hzs hsz hs h ad m c2 news hx hl hnews h1 hlen hbytes hbase fun A' c' w' k1 k2 k3 => hk _ _ (hK A' c' w' k1 k2 k3)
theorem step_append_row {ops : Array Oper} {K : Act → World → Prop} {El : Prop} (hgd : o.guard = none) (s x : Operand) (t E : TypeId) (i : TypeInfo) (z : Value) (sz by_ : Nat)
    (ho : o.op = .call { callee := .builtin .append, args := #[s, x], argTypes := #[t, t] })
    (ht : P.underlying t = some (.slice E)) (hi : P.info? E = some i) (hz : i.zero = some z) (hsize : i.size = sz) (hby : i.bytes = by_) (hzs : z.cells.size = sz) (hsz : 0 < sz)
    {base : Nat} {A : Option Addr} {n c : Nat} {xs : List Value} (hs : a.eval s = .slice A n c) (h : Row w base E sz A n c xs)
    (ad : Addr) (m c2 : Nat) (news : List Value) (hx : a.eval x = .slice (some ad) m c2) (hl : news.length = m * sz) (hnews : ∀ j u, news[j]? = some u → w.cell? (ad.add j) = some u) (h1 : ∀ u ∈ news, u.oneCell' = true)
    (hlen : n + m ≤ 1000000000) (hbytes : (n + m) * by_ ≤ 140737488355328) (hbase : base ≤ w.heap.size)
    (hK : ∀ A' c' w', Row w' base E sz A' (n + m) c' (xs ++ news) → Fr (fun k => blkOf A = some k) w w' → (∀ k, blkOf A' = some k → blkOf A = some k ∨ w.heap.size ≤ k) → K (a.put o.dst (.slice A' (n + m) c')) w') :
    if Region.wanted o (yielded ops a.tmps) = true then Oper.wp P o a w K Q else El := by
  have hw : Region.wanted o (yielded ops a.tmps) = true := by simp [Region.wanted, hgd]
  rw [if_pos hw]
  exact wp_append_row s x t E i z sz by_ ho ht hi hz hsize hby hzs hsz hs h ad m c2 news hx hl hnews h1 hlen hbytes hbase hK
/-- A call of a Go function as one step of a region that draws. -/
theorem step_call {ops : Array Oper} {K : Act → World → Prop} {El : Prop} {f : FuncId} {args : Array Value} (hgd : o.guard = none) (hr : (execOp a.eval o).run P w = .ok (.enter f args) w)
    (h : Calls P f args w fun en w' => ∃ v, en = .returned v ∧ K (a.put o.dst v) w') : if Region.wanted o (yielded ops a.tmps) = true then Oper.wp P o a w K Q else El := by
  have hw : Region.wanted o (yielded ops a.tmps) = true := by simp [Region.wanted, hgd]
  rw [if_pos hw]
  unfold Oper.wp
  rw [hr, Oper.upon_enter]
  refine h.mono ?_
  rintro en w' ⟨v, rfl, hk⟩
  exact hk
end
/-- One new cell, as an element to append. -/
theorem cellNew (w : World) (v : Value) (t : TypeId) : ∀ j u, [v][j]? = some u → (w.alloc (.cells #[v] t)).cell? ((⟨w.heap.size, 0, none⟩ : Addr).add j) = some u := by
  intro j u hu
  have hj : j = 0 := by
    rcases Nat.eq_zero_or_pos j with h | h
    · exact h
    · rw [List.getElem?_eq_none (by simp; omega)] at hu; cases hu
  subst hj
  obtain rfl : v = u := by simpa using hu
  exact (Blk.new w t #[v]).cell 0
end Go.Proofs.Ytblpnlobicjccaa
