/-
  PlainQ: ZeroOfLength.
-/
import Derived.Test.YtphbclogflflmaaPlainI
import Derived.Test.YtphbclogflflmaaPlainM
set_option linter.unusedVariables false
set_option linter.unusedSimpArgs false
namespace Go.Proofs.Ytphbclogflflmaa
open Go Ev

def subN (l : List Nat) (c n : Nat) : List Nat := ((List.range n).filter fun i => c.testBit i).map fun i => l.getD i 0
theorem subN_natsI (l : List Nat) (c n : Nat) : subL (natsI l) c n = natsI (subN l c n) := by
  unfold subL subN
  rw [show natsI (((List.range n).filter fun i => c.testBit i).map fun i => l.getD i 0) = (((List.range n).filter fun i => c.testBit i).map fun i => l.getD i 0).map (fun (x : Nat) => (x : Int)) from rfl, List.map_map]
  exact List.map_congr_left fun i _ => natsI_getD l i
theorem subN_each {g l : List Nat} (v : VS g l) (c : Nat) : ∀ x ∈ subN l c l.length, x < ordN g := by
  intro x hx
  obtain ⟨i, hi, rfl⟩ := List.mem_map.1 hx
  exact v.at (List.mem_range.1 (List.mem_filter.1 hi).1)
theorem subN_length (l : List Nat) (c n : Nat) : (subN l c n).length ≤ n := by
  unfold subN
  rw [List.length_map]
  exact Nat.le_trans (List.length_filter_le _ _) (by simp)
theorem zero_dec (n : Nat) : ((n : Int) == 0) = decide (n = 0) := eq_nat_dec n 0
def goodZ (g l : List Nat) (k c : Nat) : Bool := decide (popN c = k) && decide (totN g (subN l c l.length) = 0)
theorem code_lt {n c : Nat} (hn : n ≤ 12) (hc : c < 2 ^ n) : c < 4096 := Nat.lt_of_lt_of_le hc (Nat.pow_le_pow_right (by decide) hn)
theorem s_zol_step {g l : List Nat} (v : VS g l) (k : Nat) {c : Nat} (hc : c < 2 ^ l.length) : f_s_ZeroOfLength_r0 (ints (natsI l)) (k : Int) (ints (natsI g)) (c : Int) = if goodZ g l k c then some (.two (ints (natsI (subN l c l.length)))) else some (.again ((c + 1 : Nat) : Int)) := by
  have hlen := v.len
  have hc2 := code_lt hlen hc
  have e1 : decide ((c : Int) < shl64 1 (l.length : Int)) = true := by rw [shl1_nat (by omega)]; exact decide_eq_true (Int.ofNat_lt.2 hc)
  have hp := s_part_eq (L := natsI l) (c := c) (by rw [natsI_length]; exact hlen) (by omega)
  rw [natsI_length, subN_natsI] at hp
  simp only [f_s_ZeroOfLength_r0, f_s_ZeroOfLength_k0, ints_length, natsI_length, neg_dec, e1, br_true, br_false, s_l3Bits_eq (show c < 9223372036854775808 by omega), bo_some, eq_nat_dec, hp, s_l16Sum_eq v.grp (subN_each v c) (Nat.le_trans (subN_length _ _ _) v.lim), zero_dec, w64_nat (show c < 9223372036854775807 by omega), goodZ]
  rcases two_of (decide (popN c = k)) with hd | hd <;> rcases two_of (decide (totN g (subN l c l.length) = 0)) with hm | hm <;> simp only [hd, hm] <;> rfl
theorem i_zol_step {g l : List Nat} (v : VS g l) (k : Nat) {c : Nat} (hc : c < 2 ^ l.length) : f_i_ZeroOfLength_r0 (ints (natsI l)) (k : Int) (ints (natsI g)) (shl64 1 (l.length : Int)) (c : Int) = if goodZ g l k c then some (.two (ints (natsI (subN l c l.length)))) else some (.again ((c + 1 : Nat) : Int)) := by
  have hlen := v.len
  have hc2 := code_lt hlen hc
  have e1 : decide ((c : Int) < shl64 1 (l.length : Int)) = true := by rw [shl1_nat (by omega)]; exact decide_eq_true (Int.ofNat_lt.2 hc)
  have hp := i_part_eq (L := natsI l) (c := c) (by rw [natsI_length]; exact hlen) (by omega)
  rw [natsI_length, subN_natsI] at hp
  simp only [f_i_ZeroOfLength_r0, f_i_ZeroOfLength_k0, e1, br_true, br_false, i_bits_eq (show c < 9223372036854775808 by omega), bo_some, eq_nat_dec, hp, i_total_eq v.grp (subN_each v c) (Nat.le_trans (subN_length _ _ _) v.lim), zero_dec, w64_nat (show c < 9223372036854775807 by omega), goodZ]
  rcases two_of (decide (popN c = k)) with hd | hd <;> rcases two_of (decide (totN g (subN l c l.length) = 0)) with hm | hm <;> simp only [hd, hm] <;> rfl
theorem ZeroOfLength_both (G L : List Int) (k2 : Int) (h : G.length ≤ lim) (hL : L.length ≤ lim) : ∃ R b, f_s_ZeroOfLength (ints G) (ints L) k2 = some (ints R, b) ∧ f_i_ZeroOfLength (ints G) (ints L) k2 = some (ints R, b) ∧ R.length ≤ 12 := by
  simp only [f_s_ZeroOfLength, f_s_ZeroOfLength_k, f_i_ZeroOfLength, f_i_ZeroOfLength_k, s_IsSequence_eq G L h hL, i_IsSequence_eq G L h hL, s_l1In_eq, i_within_eq, bo_some, ints_length]
  cases hs : isSeq G L with
  | false => exact ⟨[], false, rfl, rfl, by simp⟩
  | true =>
    cases hk : inB k2 1 (L.length : Int) with
    | false => exact ⟨[], false, rfl, rfl, by simp⟩
    | true =>
      obtain ⟨g, l, rfl, rfl, v⟩ := nat_of_isSeq hs
      rw [natsI_length] at hk
      have hk' : 1 ≤ k2 ∧ k2 ≤ (l.length : Int) := by simpa [inB] using hk
      obtain ⟨k, rfl⟩ : ∃ k : Nat, k2 = k := ⟨k2.toNat, by omega⟩
      have hlen := v.len
      obtain ⟨m, hm⟩ : ∃ m, 2 ^ l.length = m + 1 := ⟨2 ^ l.length - 1, by have := Nat.two_pow_pos l.length; omega⟩
      have e9 : decide (((m + 1 : Nat) : Int) < shl64 1 (l.length : Int)) = false := by rw [shl1_nat (by omega), hm]; simp
      have q1 := loop_find (rd := f_s_ZeroOfLength_r0 (ints (natsI l)) (k : Int) (ints (natsI g))) (fun c => ((c + 1 : Nat) : Int)) m (fun c => goodZ g l k (c + 1)) (fun c => ints (natsI (subN l (c + 1) l.length))) (a := ()) (fun c hc => s_zol_step v k (by omega)) (by
        simp only [f_s_ZeroOfLength_r0, f_s_ZeroOfLength_k0, ints_length, natsI_length, neg_dec, e9, br_false])
      have q2 := loop_find (rd := f_i_ZeroOfLength_r0 (ints (natsI l)) (k : Int) (ints (natsI g)) (shl64 1 (l.length : Int))) (fun c => (c : Int)) (m + 1) (goodZ g l k) (fun c => ints (natsI (subN l c l.length))) (a := ()) (fun c hc => i_zol_step v k (by omega)) (by
        simp only [f_i_ZeroOfLength_r0, f_i_ZeroOfLength_k0, e9, br_false])
      have g0 : goodZ g l k 0 = false := by
        have : ¬ (popN 0 = k) := by rw [show popN 0 = 0 from pcn_zero 63]; omega
        unfold goodZ
        rw [decide_eq_false this]
        rfl
      rw [find_shift _ _ g0] at q2
      have e1 : ((0 + 1 : Nat) : Int) = 1 := rfl
      have e2 : ((0 : Nat) : Int) = 0 := rfl
      rw [e1] at q1
      rw [e2] at q2
      simp only [natsI_length, neg_dec]
      cases hf : (List.range m).find? fun c => goodZ g l k (c + 1) with
      | none =>
        rw [hf] at q1 q2
        refine ⟨[], false, ?_, ?_, by simp⟩
        · rw [q1]; rfl
        · rw [q2]; rfl
      | some c =>
        rw [hf] at q1 q2
        refine ⟨natsI (subN l (c + 1) l.length), true, ?_, ?_, by rw [natsI_length]; exact Nat.le_trans (subN_length _ _ _) hlen⟩
        · rw [q1]; rfl
        · rw [q2]; rfl
end Go.Proofs.Ytphbclogflflmaa
