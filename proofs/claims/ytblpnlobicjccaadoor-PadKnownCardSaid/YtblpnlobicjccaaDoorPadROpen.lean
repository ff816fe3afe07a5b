/- Package sealchainref07: Open. -/
import Derived.Test.YtblpnlobicjccaaDoorPadOpen3
namespace Go.Proofs.YtblpnlobicjccaaDoor
open Go.RowKit

/-- What the reference's Open goes by. -/
def opW (l : List UInt8) : List UInt8 := (l.drop 3).take (opN l)
def opL (l : List UInt8) : Bool := (l.getD 0 0).toNat == 1
theorem zs_of_all {m : List UInt8} (h : m.all (· == 0) = true) : m = zs m.length := by
  unfold zs
  rw [List.eq_replicate_iff]
  refine ⟨rfl, fun b hb => ?_⟩
  rw [List.all_eq_true] at h
  simpa using h b hb
theorem all_zs (k : Nat) : (zs k).all (· == 0) = true := by
  rw [List.all_eq_true]; intro x hx; simp [zs] at hx; simp [hx.2]
theorem head_split (l : List UInt8) (h : 3 ≤ l.length) : l = [l.getD 0 0, l.getD 1 0, l.getD 2 0] ++ l.drop 3 := by
  match l, h with
  | a :: b :: c :: r, _ => simp
theorem byteOf_nat (u : UInt8) : byteOf (u.toNat : Int) = u := by
  rw [← UInt8.toNat_inj]
  have h := byteOf_toNat (u.toNat : Int)
  have := u.toNat_lt
  omega
theorem op_one (l : List UInt8) : byteOf ((opN l : Int) / 256) = l.getD 1 0 := by
  have h1 := (l.getD 1 0).toNat_lt
  have h2 := (l.getD 2 0).toNat_lt
  rw [show ((opN l : Int) / 256) = ((l.getD 1 0).toNat : Int) by unfold opN; omega, byteOf_nat]
theorem op_two (l : List UInt8) : byteOf (opN l : Int) = l.getD 2 0 := by
  have h1 := (l.getD 1 0).toNat_lt
  have h2 := (l.getD 2 0).toNat_lt
  rw [← byteOf_mod, show ((opN l : Int) % 256) = ((l.getD 2 0).toNat : Int) by unfold opN; omega, byteOf_nat]
theorem op_zero (l : List UInt8) (h : (l.getD 0 0).toNat ≤ 1) : (if opL l then 1 else 0 : UInt8) = l.getD 0 0 := by
  unfold opL
  by_cases q : (l.getD 0 0).toNat = 1
  · rw [if_pos (by simpa using q), ← UInt8.toNat_inj, q]; rfl
  · rw [if_neg (by simpa using q), ← UInt8.toNat_inj]
    have : (l.getD 0 0).toNat = 0 := by omega
    rw [this]; rfl
theorem opW_len (l : List UInt8) (h : opN l + 3 ≤ l.length) : (opW l).length = opN l := by unfold opW; simp; omega
theorem padE_zero (v : List UInt8) (t : Bool) : padE v t = 0 ↔ ¬ (t = true ∧ v ≠ []) ∧ clsI v.length ≠ 0 := by
  unfold padE
  by_cases a : t = true ∧ v ≠ []
  · rw [if_pos a]; exact ⟨fun h => absurd h (by decide), fun h => absurd a h.1⟩
  · rw [if_neg a]
    by_cases b : clsI v.length = 0
    · rw [if_pos b]; exact ⟨fun h => absurd h (by decide), fun h => absurd b h.2⟩
    · rw [if_neg b]; exact ⟨fun _ => ⟨a, b⟩, fun _ => rfl⟩

/-- The plain law: to be opened is to be the padding of what is told. -/
theorem opOk_iff (l : List UInt8) : opOk l = true ↔ 16 ≤ l.length ∧ (l.getD 0 0).toNat ≤ 1 ∧ opN l + 3 ≤ l.length ∧ padE (opW l) (opL l) = 0 ∧ padV (opW l) (opL l) = l := by
  have e : opOk l = true ↔ isCls l.length = true ∧ (l.getD 0 0).toNat ≤ 1 ∧ clsI (opN l) = l.length ∧ ¬ ((l.getD 0 0).toNat = 1 ∧ 0 < opN l) ∧ (l.drop (3 + opN l)).all (· == 0) = true := by
    unfold opOk
    simp only [Bool.and_eq_true, decide_eq_true_eq, Bool.not_eq_true', Bool.and_eq_false_iff, beq_eq_false_iff_ne, decide_eq_false_iff_not, and_assoc]
    constructor
    · rintro ⟨a, b, c, d, f⟩
      exact ⟨a, b, c, fun q => d.elim (fun x => x q.1) (fun x => x q.2), f⟩
    · rintro ⟨a, b, c, d, f⟩
      refine ⟨a, b, c, ?_, f⟩
      by_cases q : (l.getD 0 0).toNat = 1
      · exact .inr fun q' => d ⟨q, q'⟩
      · exact .inl q
  rw [e]
  have tl : opL l = true ↔ (l.getD 0 0).toNat = 1 := by unfold opL; simp
  have fit : ∀ m : Nat, clsI m ≠ 0 → m + 3 ≤ (clsI m).toNat := by
    intro m hm
    rcases clsI_cases (m : Int) with ⟨a, e⟩ | ⟨a, b, e⟩ | ⟨a, b, e⟩ | ⟨a, b, e⟩ <;> omega
  have pl : (l.getD 0 0).toNat ≤ 1 → opN l + 3 ≤ l.length → padL (opW l) (opL l) = [l.getD 0 0, l.getD 1 0, l.getD 2 0] ++ (opW l ++ zs ((clsI (opN l)).toNat - (3 + opN l))) := by
    intro h1 h2
    unfold padL
    rw [opW_len l h2, op_one, op_two, op_zero l h1]; rfl
  have sp : l.drop 3 = opW l ++ l.drop (3 + opN l) := by
    unfold opW
    rw [← List.drop_drop, List.take_append_drop]
  constructor
  · rintro ⟨a, b, c, d, f⟩
    have hcl := isCls_cases a
    have hf := fit (opN l) (by omega)
    have h2 : opN l + 3 ≤ l.length := by omega
    have h3 : padE (opW l) (opL l) = 0 := by
      rw [padE_zero, opW_len l h2]
      refine ⟨fun q => d ⟨tl.1 q.1, ?_⟩, by omega⟩
      have := opW_len l h2
      have : (opW l).length ≠ 0 := fun x => q.2 (List.eq_nil_of_length_eq_zero x)
      omega
    refine ⟨by omega, b, h2, h3, ?_⟩
    unfold padV
    rw [if_pos h3, pl b h2, c]
    have hz := zs_of_all f
    have hll : (l.drop (3 + opN l)).length = ((l.length : Nat) : Int).toNat - (3 + opN l) := by simp
    rw [← hll, ← hz, ← sp]
    exact (head_split l (by omega)).symm
  · rintro ⟨a, b, h2, h3, h4⟩
    obtain ⟨h5, h6⟩ := (padE_zero _ _).1 h3
    rw [opW_len l h2] at h6
    unfold padV at h4
    rw [if_pos h3, pl b h2] at h4
    have hf := fit (opN l) h6
    have hlen : (clsI (opN l)).toNat = l.length := by
      have := congrArg List.length h4
      simp [zs, opW_len l h2] at this
      omega
    have hc : clsI (opN l) = l.length := by omega
    have h7 : l.drop 3 = opW l ++ zs ((clsI (opN l)).toNat - (3 + opN l)) := by
      have := congrArg (List.drop 3) h4
      simpa using this.symm
    rw [sp] at h7
    have h8 := List.append_cancel_left h7
    refine ⟨?_, b, hc, fun q => ?_, by rw [h8]; exact all_zs _⟩
    · rw [← hc]
      rcases clsI_cases (opN l : Int) with ⟨a, e⟩ | ⟨a, b, e⟩ | ⟨a, b, e⟩ | ⟨a, b, e⟩
      · exact absurd e h6
      · rw [e]; rfl
      · rw [e]; rfl
      · rw [e]; rfl
    · refine h5 ⟨tl.2 q.1, fun x => ?_⟩
      have := opW_len l h2
      rw [x] at this
      simp at this
      omega
theorem opV_ok {l : List UInt8} (h : opOk l = true) : opV l = opW l := by unfold opV; rw [if_pos h]; rfl
theorem opT_ok {l : List UInt8} (h : opOk l = true) : opT l = opL l := by unfold opT; rw [h]; rfl
theorem opE_ok {l : List UInt8} (h : opOk l = true) : opE l = 0 := by unfold opE; rw [if_pos h]
end Go.Proofs.YtblpnlobicjccaaDoor
