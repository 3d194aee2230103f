/-
  PlainQ: ZeroOfLength.
-/
import Derived.Test.YtphbclogflflmaaPlainI
import Derived.Test.YtphbclogflflmaaPlainM
set_option linter.unusedVariables false
set_option linter.unusedSimpArgs false
namespace Go.Proofs.Ytphbclogflflmaa
open Go Ev

def subN (l : List Nat) (c n : Nat) : List Nat := ((List.range n).filter fun i => c.testBit i).map fun i => l.getD i 0
theorem subN_natsI (l : List Nat) (c n : Nat) : subL (natsI l) c n = natsI (subN l c n) := by
  unfold subL subN
  rw [show natsI (((List.range n).filter fun i => c.testBit i).map fun i => l.getD i 0) = (((List.range n).filter fun i => c.testBit i).map fun i => l.getD i 0).map (fun (x : Nat) => (x : Int)) from rfl, List.map_map]
  exact List.map_congr_left fun i _ => natsI_getD l i
theorem subN_each {g l : List Nat} (v : VS g l) (c : Nat) : ∀ x ∈ subN l c l.length, x < ordN g := by
  intro x hx
  obtain ⟨i, hi, rfl⟩ := List.mem_map.1 hx
  exact v.at (List.mem_range.1 (List.mem_filter.1 hi).1)
theorem subN_length (l : List Nat) (c n : Nat) : (subN l c n).length ≤ n := by
  unfold subN
  rw [List.length_map]
  exact Nat.le_trans (List.length_filter_le _ _) (by simp)
theorem zero_dec (n : Nat) : ((n : Int) == 0) = decide (n = 0) := eq_nat_dec n 0
def goodZ (g l : List Nat) (k c : Nat) : Bool := decide (popN c = k) && decide (totN g (subN l c l.length) = 0)
theorem code_lt {n c : Nat} (hn : n ≤ 12) (hc : c < 2 ^ n) : c < 4096 := Nat.lt_of_lt_of_le hc (Nat.pow_le_pow_right (by decide) hn)
theorem i_zol_step {g l : List Nat} (v : VS g l) (k : Nat) {c : Nat} (hc : c < 2 ^ l.length) : f_i_ZeroOfLength_r0 (ints (natsI l)) (k : Int) (ints (natsI g)) (shl64 1 (l.length : Int)) (c : Int) = if goodZ g l k c then some (.two (ints (natsI (subN l c l.length)))) else some (.again ((c + 1 : Nat) : Int)) := by
  have hlen := v.len
  have hc2 := code_lt hlen hc
  have e1 : decide ((c : Int) < shl64 1 (l.length : Int)) = true := by rw [shl1_nat (by omega)]; exact decide_eq_true (Int.ofNat_lt.2 hc)
  have hp := i_part_eq (L := natsI l) (c := c) (by rw [natsI_length]; exact hlen) (by omega)
  rw [natsI_length, subN_natsI] at hp
  simp only [f_i_ZeroOfLength_r0, f_i_ZeroOfLength_k0, e1, br_true, br_false, i_bits_eq (show c < 9223372036854775808 by omega), bo_some, eq_nat_dec, hp, i_total_eq v.grp (subN_each v c) (Nat.le_trans (subN_length _ _ _) v.lim), zero_dec, w64_nat (show c < 9223372036854775807 by omega), goodZ]
  rcases two_of (decide (popN c = k)) with hd | hd <;> rcases two_of (decide (totN g (subN l c l.length) = 0)) with hm | hm <;> simp only [hd, hm] <;> rfl
end Go.Proofs.Ytphbclogflflmaa
