/- 'append(s, make([]byte, m)...)' where s is a row of bytes of the call's own. (The steps follow the kit's printed 'run_append_zeros', turned to rows of bytes and 0 < m.) -/
import Derived.Test.YtblpnlobicjccaaDoorPadBack
namespace Go.Proofs.YtblpnlobicjccaaDoor
open Go.RowKit

theorem zeroCells_bytes (m : Nat) : (Builtin.zeroCells (Value.int .u8 0).cells m).toList = (zs m).map bv := by
  have e : (Value.int .u8 0).cells = #[.int .u8 0] := rfl
  unfold Builtin.zeroCells zs
  rw [e]
  apply List.ext_getElem?
  intro k
  simp
  by_cases hk : k < m
  · rw [List.getElem?_replicate, if_pos hk, List.getElem?_range hk]; simp [Nat.mod_one]
  · rw [List.getElem?_replicate, if_neg hk]; simp; omega

theorem addr0 (g j : Nat) : (⟨g, 0, none⟩ : Addr).add j = ⟨g, j, none⟩ := by unfold Addr.add; split <;> simp_all
/-- What a run of cells written leaves. -/
theorem cells_far {g : Nat} (vs : List Value) : ∀ (o : Nat) (w : World) (k : Nat), k ≠ g → (w.setCells g o vs).heap[k]? = w.heap[k]? := by
  induction vs with
  | nil => intro o w k hk; rfl
  | cons v r ih => intro o w k hk; rw [World.setCells, ih (o + 1) _ k hk]; exact Below.heap_setCell w ⟨g, o, none⟩ v k hk
theorem cells_fr {g : Nat} (vs : List Value) : ∀ (o : Nat) (w : World), Fr (fun k => k = g) w (w.setCells g o vs) := by
  induction vs with
  | nil => intro o w; exact Fr.refl _ _
  | cons v r ih =>
    intro o w
    rw [World.setCells]
    exact ((Fr.refl (fun k => k = g) w).setCell (p := ⟨g, o, none⟩) (.inl rfl) v).trans (ih (o + 1) _) (fun b hb => .inl hb)
theorem cells_row {g : Nat} {e : TypeId} (vs : List Value) : ∀ (o : Nat) (w : World) (cur : Array Value), Blk w g e cur → o + vs.length ≤ cur.size →
    ∃ cur', Blk (w.setCells g o vs) g e cur' ∧ cur'.size = cur.size ∧ cur'.toList = cur.toList.take o ++ (vs ++ cur.toList.drop (o + vs.length)) := by
  induction vs with
  | nil => intro o w cur h _; exact ⟨cur, h, rfl, by simp⟩
  | cons v r ih =>
    intro o w cur h hl
    simp only [List.length_cons] at hl
    obtain ⟨cur', h3, h4, h5⟩ := ih (o + 1) (w.setCell ⟨g, o, none⟩ v) _ (h.set_ o v) (by simp; omega)
    refine ⟨cur', h3, by rw [h4]; simp, ?_⟩
    have ho : o < cur.toList.length := by rw [Array.length_toList]; omega
    rw [h5, Array.toList_setIfInBounds, List.take_set, List.drop_set_of_lt (by omega), List.length_cons, show o + 1 + r.length = o + (r.length + 1) by omega, List.take_succ_eq_append_getElem ho, List.set_append_right _ _ (by rw [List.length_take]; omega)]
    have ho' : o < cur.size := by omega
    simp [Nat.min_eq_left (Nat.le_of_lt ho')]

theorem run_append_zs {P : Program} (w : World) (t ti ty E : TypeId) (i : TypeInfo) (ht : P.underlying t = some (.slice E)) {k : IntKind} (hti : P.underlying ti = some (.int k)) (hi : P.info? E = some i) (hz : i.zero = some (.int .u8 0))
    (hsize : i.size = 1) (hby : i.bytes = 1) {base : Nat} {A : Option Addr} {n c : Nat} {l : List UInt8} (h : Own w base E A n c l) (m : Nat) (h0 : 0 < m) (hlen : n + m ≤ 140737488355328) (hbase : base ≤ w.heap.size) :
    ∃ A' c' w', (Builtin.append_ #[t, ti] ty #[.slice A n c, .int .i64 m]).run P w = .ok (.slice A' (n + m) c') w' ∧ Own w' base E A' (n + m) c' (l ++ zs m) ∧ Fr (fun k => blkOf A = some k) w w' := by
  have h63 : n + m ≤ maxLen := by simp only [maxLen]; omega
  have hw : IntKind.i64.wrap (m : Int) = m := by rw [IntKind.wrap_i64]; omega
  have hneg : ¬ ((m : Int) < 0) := by omega
  have hbig : ¬ (281474976710656 < (m : Int)) := by omega
  have hm : m ≠ 0 := by omega
  have hln := h.len
  have hzl := zeroCells_bytes m
  obtain ⟨news, hnews⟩ : ∃ news, news = (Builtin.zeroCells (Value.int .u8 0).cells m).toList := ⟨_, rfl⟩
  have hna : Builtin.zeroCells (Value.int .u8 0).cells m = news.toArray := by rw [hnews]
  have hnm : news = (zs m).map bv := by rw [hnews, hzl]
  have h1 : ∀ u ∈ news, u.oneCell' = true := by rw [hnm]; exact bv_oneCell _
  have hl : news.length = m := by rw [hnm]; simp [zs]
  obtain ⟨xs, hxs⟩ : ∃ xs, xs = l.map bv := ⟨_, rfl⟩
  have hown := h.row
  rw [← hxs] at hown
  have hxl : xs.length = n := by rw [hxs]; simp [hln]
  have hall : (l ++ zs m).map bv = xs ++ news := by rw [List.map_append, hxs, hnm]
  have hlenn : n + m = (l ++ zs m).length := by simp [zs, hln]
  have grown : ∀ (old : Nat), old < n + m →
      Own (w.drew.alloc (.cells (xs.toArray ++ news.toArray ++ Builtin.zeroCells (Value.int .u8 0).cells (grownCap w (n + m) old E - (n + m))) E)) base E (some ⟨w.heap.size, 0, none⟩) (n + m) (grownCap w (n + m) old E) (l ++ zs m) := by
    intro old ho
    have hge := grownCap_ge w (n + m) old E
    have hcm : grownCap w (n + m) old E ≤ maxLen := grownCap_le_maxLen w (n + m) old E h63
    refine ⟨hlenn, ⟨by rw [List.length_map, ← hlenn]; omega, .inr ⟨w.heap.size, _, _, rfl, hbase, heap_alloc_new w.drew _, hge, hcm, ?_, ?_⟩⟩⟩
    · have e : (Value.int IntKind.u8 0).cells.size = 1 := rfl
      simp only [Array.size_append, List.size_toArray, size_zeroCells, e, hxl, hl]
      omega
    · rw [hall]
      simp only [Array.toList_append, List.append_assoc]
      rw [← List.append_assoc, show (n + m) * 1 = (xs ++ news).length by rw [List.length_append, hxl, hl]; omega]
      exact List.take_left
  have runs : ∀ (A : Option Addr) (cap : Nat), cap < n + m → (Builtin.firstCells 1 n (.slice A n cap)).run P w.drew = .ok xs.toArray w.drew → (Builtin.append_ #[t, ti] ty #[.slice A n cap, .int .i64 m]).run P w =
      .ok (.slice (some ⟨w.heap.size, 0, none⟩) (n + m) (grownCap w (n + m) cap E)) (w.drew.alloc (.cells (xs.toArray ++ news.toArray ++ Builtin.zeroCells (Value.int .u8 0).cells (grownCap w (n + m) cap E - (n + m))) E)) := by
    intro A cap hcap hfo
    have hn : ¬ (n + m ≤ cap) := by omega
    have h63' : ¬ (9223372036854775807 < ((n : Int) + (m : Int))) := by omega
    have hfit := growslice_fits (bytes := 1) hcap (by omega)
    have h48' : ¬ (281474976710656 < Builtin.nextslicecap (n + m) cap) := by omega
    simp [Builtin.append_, run_underlying ht, run_underlying hti, sizeOf, typeInfo, zeroValue, hi, hz, hsize, hby, asInt, asIntOf, hw, hneg, hbig, hn, h63', h48', Question.forced, hfo, newRow, grownCap, hm, hna]
    congr 2
    apply Array.ext'
    simp [List.append_assoc]
  have frA : ∀ (o : Obj), Fr (fun k => blkOf A = some k) w (w.drew.alloc o) := fun o => ((Fr.refl _ w).drew).alloc o
  rcases hown.2 with ⟨hv, h00⟩ | ⟨g, cap, cur, hv, hbg, hg, hnc, hcm, hcs, htake⟩
  · injection hv with e1 e2 e3; subst e1; subst h00; subst e3
    have hx : xs = [] := List.eq_nil_of_length_eq_zero hxl
    refine ⟨_, _, _, runs none 0 (by omega) (by simp [Builtin.firstCells, hx]), grown 0 (by omega), frA _⟩
  · injection hv with e1 e2 e3; subst e1; subst e3
    by_cases hroom : n + m ≤ c
    · have hfit : n + news.length ≤ cur.size := by rw [hl, hcs]; omega
      obtain ⟨cur', h3, h4, h5⟩ := cells_row news n w cur hg hfit
      have hst := run_storeCells_cells (P := P) g n news 0 w (fun j hj => by rw [cell_of_row w g _ cur E (0, 0) hg]; simp; omega) (fun j _ => Blk.frozen hg _) h1
      simp only [Nat.add_zero] at hst
      refine ⟨some ⟨g, 0, none⟩, c, w.setCells g n news, ?_, ⟨hlenn, ⟨by rw [List.length_map, ← hlenn]; omega, .inr ⟨g, c, cur', rfl, hbg, h3, hroom, hcm, by rw [h4, hcs], ?_⟩⟩⟩, (cells_fr news n w).mono (fun b _ e => by simp [blkOf, e])⟩
      · simp [Builtin.append_, run_underlying ht, run_underlying hti, sizeOf, typeInfo, zeroValue, hi, hz, hsize, hby, asInt, asIntOf, hw, hneg, hbig, hroom, hm, hna, addr0, hst]
      · rw [h5, hall]
        have h6 : cur.toList.take n = xs := by simpa using htake
        rw [← List.append_assoc, h6, show (n + m) * 1 = (xs ++ news).length by rw [List.length_append, hxl, hl]; omega]
        exact List.take_left
    · have holds : ∀ j u, xs[j]? = some u → w.cell? ((⟨g, 0, none⟩ : Addr).add j) = some u := hown.cells (g := g) rfl
      exact ⟨_, _, _, runs (some ⟨g, 0, none⟩) c (by omega) (run_firstCells_some (P := P) w.drew 1 n _ n c xs (by rw [hxl]; omega) (by simpa using holds)), grown c (by omega), frA _⟩
end Go.Proofs.YtblpnlobicjccaaDoor
