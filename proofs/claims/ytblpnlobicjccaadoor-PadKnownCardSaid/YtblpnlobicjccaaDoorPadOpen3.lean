/- Package pad: Open, of a tombstone. (Printed by genopen.py out of XPadOpen3.base.) -/
import Derived.Test.YtblpnlobicjccaaDoorPadOpen2
namespace Go.Proofs.YtblpnlobicjccaaDoor
open Go.RowKit

set_option maxHeartbeats 2000000 in
theorem open_six {A : Option Addr} {n c : Nat} {l : List UInt8} (w : World) (hT : Tab w) (h : Sl w A n c l) (hl : n ≤ 100000) (h1 : isCls l.length = true) (h2 : (l.getD 0 0).toNat ≤ 1) (h3 : clsI (opN l) = l.length) (h4 : (l.getD 0 0).toNat = 1) (h5 : ¬ 0 < opN l) :
    Calls Tryd.prog 14 #[.slice A n c] w (OpenPost w l) := by
  obtain rfl := h.len
  have HC := Lib.hid (contains_any (l.length : Int) w hT)
  rw [h1] at HC
  have hge : 16 ≤ l.length := by rcases isCls_cases h1 with e | e | e <;> omega
  have e0 : opOk l = (l.drop (3 + opN l)).all (· == 0) := by
    unfold opOk
    rw [h1, decide_eq_true h2, decide_eq_true h3]
    rw [h4]
    simp only [h5, decide_false, Bool.and_false, Bool.not_false, Bool.true_and]
  have HE := Lib.hid e0
  obtain ⟨b, o, rfl, c0, c1, c2⟩ := h.head (by omega)
  have HV : Hid (opOk l = true → OpenPost w l = fun e w' => ∃ A n c, e = .returned (.tuple #[.slice A n c, .bool ((l.getD 0 0).toNat == 1), .int .i64 0]) ∧ Own w' w.heap.size 5 A n c ((l.drop 3).take (opN l)) ∧ Below w.heap.size w w') := by
    refine Lib.hid fun q => ?_
    unfold OpenPost opV opT opE
    rw [q]; rfl
  have hx1 : (l.getD 1 0).toNat < 256 := (l.getD 1 0).toNat_lt
  have hx2 : (l.getD 2 0).toNat < 256 := (l.getD 2 0).toNat_lt
  have HK := fun k => Lib.hid (class_any (opN l : Int) (w.drewN k) (hT.drewN k) (by omega) (by unfold opN; omega))
  have hj := i64_join8 _ _ hx1 hx2
  have hN : (l.getD 1 0).toNat * 256 + (l.getD 2 0).toNat = opN l := rfl
  rw [hN] at hj
  generalize (l.getD 0 0).toNat = x0 at *
  generalize (l.getD 1 0).toNat = x1 at *
  generalize (l.getD 2 0).toNat = x2 at *
  generalize opN l = N at *
  have hNb : N < 65536 := by omega
  clear hN e0 h1
  have hfit : 3 + N ≤ l.length := by
    rcases clsI_cases (N : Int) with ⟨a, e⟩ | ⟨a, b, e⟩ | ⟨a, b, e⟩ | ⟨a, b, e⟩ <;> omega
  have hcap := h.cap
  have hlo := fun w => run_cut_lo' w (some ⟨b, o, none⟩) l.length c (3 + N) hfit (3 + (N : Int)) (by simp)
  have hmid := fun w => run_cut_mid w (some ⟨b, o, none⟩) l.length c 3 (3 + N) N (by omega) (by omega) (by omega) 3 (3 + (N : Int)) rfl (by simp)
  have hs1 := h.cut hfit
  have hs2 := (h.cut (show 3 ≤ l.length by omega)).take (show N ≤ l.length - 3 by omega)
  subst h4
  have h6 : ¬ (0 : Int) < (N : Int) := by omega
  generalize cutA (some ⟨b, o, none⟩) c (3 + N) = A1 at *
  generalize hl1 : l.length - (3 + N) = n1 at *
  generalize c - (3 + N) = k1 at *
  generalize l.drop (3 + N) = l1 at *
  have HL := Lib.hid hs1.len
  go_enter Tryd.func14, Tryd.ntmps14
  go_wp2
  refine wp_scope_jumps 0 (JF l w) (fun _ _ => 0) rfl ?_ ?_
  · go_wp2_with (go_at_call 17; refine HC.out.mono ?_; rintro e w' ⟨rfl, rfl⟩)
    go_quiet (fail)
    go_wp2_with (go_at_call 12; refine (HK _).out.mono ?_; rintro e w' ⟨rfl, rfl⟩)
    go_loop [49] (fun vk => ∃ k : Nat, vk = .int .i64 k ∧ k ≤ n1 ∧ Hid (∀ i, i < k → l1[i]? = some 0)) (fun vk => n1 - (intOf vk).toNat)
    case atStart => exact ⟨0, rfl, by omega, fun i hi => absurd hi (by omega)⟩
    case round =>
      obtain ⟨k, rfl, hk, hz⟩ := hrel
      by_cases hlt : k < n1
      · obtain ⟨b', o', rfl, cx⟩ := hs1.rd.cell (j := k) (by have := HL.out; omega)
        have hkl : k < l1.length := by have := HL.out; omega
        by_cases hx : l1[k] = 0
        · have cx' : w.cell? ⟨b', o' + k, none⟩ = some (.int .u8 0) := by rw [cx, hx]; rfl
          have HX := Lib.hid (show l1[k]? = some 0 by rw [List.getElem?_eq_getElem hkl, hx])
          clear hx cx hkl
          go_wp2
          go_round
          case rel =>
            refine ⟨k + 1, by go_num, by omega, fun i hi => ?_⟩
            by_cases e : i = k
            · subst e; exact HX.out
            · exact hz.out i (by omega)
          case measure => simp [intOf]; omega
        · have hf := not_all_zero (l := l1) (i := k) hkl hx
          have hx' : ¬ l1[k].toNat = 0 := fun q => hx (by rw [← UInt8.toNat_inj]; exact q)
          have cx' : w.cell? ⟨b', o' + k, none⟩ = some (.int .u8 (l1[k].toNat : Int)) := cx
          have HF := Lib.hid (HE.out.trans hf)
          generalize l1[k].toNat = y at *
          clear cx hx hf hz hkl
          have hy : ((y : Int) != 0) = true := by simp; omega
          go_wp2
          go_step3
          exact ⟨rfl, HF.out, below_drewN (Below.refl _ _) _, _, _, _, _, _, _, _, _, _, _, _, _, _, _, _, _, _, _, _, _, _, _, _, _, _, _, _, _, _, _, _, _, _, _, _, _, _, _, _, _, _, _, _, _, _, _, _, _, _, _, _, _, _, _, _, _, _, _, _, _, _, _, _, _, _, rfl⟩
      · have hall : opOk l = true := HE.out.trans (all_zero (fun i hi => hz.out i (by have := HL.out; omega)))
        have HH := Lib.hid (HV.out hall)
        clear hz hall hs1 HV
        have q0 : (w.drewN nq).cell? ⟨b, o, none⟩ = some (.int .u8 1) := c0
        have hbl := World.block_lt_of_cell? _ _ q0
        have HCL := Lib.hid (clone_any ((w.drewN nq).drew) ((hs2.drewN nq).drew) (by omega))
        have hB0 := Lib.hid ((below_drewN (Below.refl w.heap.size w) nq).drew)
        clear hs2
        have g1 : IntKind.i64.wrap (3 + (N : Int)) = 3 + (N : Int) := IntWalk.i64_in _ ⟨by omega, by omega⟩
        have g2 : (3 : Int) ≤ 3 + (N : Int) := by omega
        have g3 : 3 + (N : Int) ≤ (c : Int) := by omega
        have g4 : (0 : Int) < (l.length : Int) := by omega
        have g5 : ¬ c = 3 := by omega
        have g6 : 0 < l.length := by omega
        go_wp2_with fail
        go_region_held3 (fun w' => w'.cell? ⟨b, o, none⟩ = some (.int .u8 1)) (first | exact q0 | exact q1) (first | (go_at_call 18; refine HCL.out.mono ?_; rintro en w2 ⟨A2, c2', rfl, hO2, hB2⟩; have q1 : w2.cell? ⟨b, o, none⟩ = some (.int .u8 1) := (hB2.cell (p := ⟨b, o, none⟩) hbl).trans q0))
        all_goals
          have hB3 : Below w.heap.size w w2 := hB0.out.trans hB2
          have hO3 := Lib.hid hO2
          clear hO2 hB2
          go_wp2
          simp only [Exit.jump]
          go_ret3
          rw [HH.out]
          have e : (List.take N (List.drop 3 l)).length = min N (l.length - 3) := by simp
          exact ⟨A2, _, c2', rfl, by have := hO3.out; rw [e] at this; exact this, hB3⟩
  · rintro a' w' ⟨HE', hB, u0, u1, u2, u3, u4, u5, u6, u7, u8, u9, u10, u11, u12, u13, u14, u15, u16, u17, u18, u19, u20, u21, u22, u23, u24, u25, u26, u27, u28, u29, u30, u31, u32, u33, u34, u35, u36, u37, u38, u39, u40, u41, u42, u43, u44, u45, u46, u47, u48, u49, u50, u51, u52, u53, u54, u55, u56, u57, u58, u59, u60, u61, u62, u63, u64, rfl⟩
    go_wp2
    simp only [Exit.jump]
    go_ret3
    exact openPost_refuse HE' hB

/-- Open, of whatever bytes. -/
theorem open_any {A : Option Addr} {n c : Nat} {l : List UInt8} (w : World) (hT : Tab w) (h : Sl w A n c l) (hl : n ≤ 100000) : Calls Tryd.prog 14 #[.slice A n c] w (OpenPost w l) := by
  by_cases h1 : isCls l.length = true
  · by_cases h2 : (l.getD 0 0).toNat ≤ 1
    · by_cases h3 : clsI (opN l) = l.length
      · by_cases h4 : (l.getD 0 0).toNat = 1
        · by_cases h5 : 0 < opN l
          · exact open_four w hT h hl h1 h2 h3 ⟨h4, h5⟩
          · exact open_six w hT h hl h1 h2 h3 h4 h5
        · exact open_five w hT h hl h1 h2 h3 (by omega)
      · exact open_three w hT h hl h1 h2 h3
    · exact open_two w hT h hl h1 h2
  · exact open_cls w hT h hl (by simpa using h1)
end Go.Proofs.YtblpnlobicjccaaDoor
