/-
  PlainP: stabilizers; HasPeriodicFactor.
-/
import Derived.Test.YtbajbkdmfdfdmaaPlainO
set_option linter.unusedVariables false
set_option linter.unusedSimpArgs false
namespace Go.Proofs.Ytbajbkdmfdfdmaa
open Go Ev

theorem addN_zero : ∀ (g : List Nat) (y : Nat), (∀ n ∈ g, 2 ≤ n ∧ n ≤ 24) → y < ordN g → addN g 0 y = y
  | [], y, _, h => by
    have : y < 1 := h
    simp only [addN]
    omega
  | n :: r, y, hg, h => by
    have hn := hg n (by simp)
    have h : y < n * ordN r := h
    have h1 : y / n < ordN r := Nat.div_lt_of_lt_mul h
    simp only [addN, Nat.zero_mod, Nat.zero_add, Nat.zero_div, Nat.mod_mod]
    rw [addN_zero r (y / n) (fun m hm => hg m (by simp [hm])) h1]
    exact Nat.mod_add_div y n
theorem shiftN_zero {g : List Nat} (v : VG g) {a : Nat} (ha : a < 2 ^ ordN g) : shiftN g a 0 = a := by
  apply Nat.eq_of_testBit_eq
  intro z
  rw [shiftN_test]
  have ha' := set_i64 v ha
  cases hz : a.testBit z with
  | true =>
    have hm := (mem_elems ha').2 hz
    exact List.any_eq_true.2 ⟨z, hm, decide_eq_true (addN_zero g z v.each (elems_lt ha hm))⟩
  | false =>
    rw [List.any_eq_false]
    intro y hy
    have h1 := addN_zero g y v.each (elems_lt ha hy)
    rw [h1]
    have h2 := (mem_elems ha').1 hy
    intro h3
    have : y = z := of_decide_eq_true h3
    subst this
    rw [h2] at hz
    cases hz
def stabF (g : List Nat) (a : Nat) (o x : Nat) : Nat := if shiftN g a x = a then o ||| 2 ^ x else o
def stabN (g : List Nat) (a k : Nat) : Nat := (List.range k).foldl (stabF g a) 0
theorem stabN_succ (g : List Nat) (a k : Nat) : stabN g a (k + 1) = stabF g a (stabN g a k) k := by
  unfold stabN
  rw [List.range_succ, List.foldl_append]
  rfl
theorem stabN_lt {g : List Nat} (v : VG g) (a : Nat) : ∀ k, k ≤ ordN g → stabN g a k < 2 ^ ordN g
  | 0, _ => Nat.two_pow_pos _
  | k + 1, h => by
    rw [stabN_succ]
    unfold stabF
    split
    · exact or_lt (stabN_lt v a k (by omega)) (two_pow_lt (by omega))
    · exact stabN_lt v a k (by omega)
theorem stabN_zero {g : List Nat} (v : VG g) {a : Nat} (ha : a < 2 ^ ordN g) : ∀ k, (stabN g a (k + 1)).testBit 0 = true
  | 0 => by
    rw [stabN_succ]
    unfold stabF
    rw [if_pos (shiftN_zero v ha), Nat.testBit_or, pow_test]
    simp
  | k + 1 => by
    rw [stabN_succ]
    unfold stabF
    split
    · rw [Nat.testBit_or, stabN_zero v ha k]; rfl
    · exact stabN_zero v ha k
theorem pcn_none : ∀ (n b : Nat), b < 2 ^ n → pcn n b = 0 → b = 0
  | 0, b, h, _ => by simpa using h
  | n + 1, b, h, h0 => by
    have h0 : b % 2 + pcn n (b / 2) = 0 := h0
    rw [Nat.pow_succ] at h
    have := pcn_none n (b / 2) (by omega) (by omega)
    omega
theorem pop_odd {s : Nat} (hs : s < 9223372036854775808) (h0 : s.testBit 0 = true) : decide (((popN s : Nat) : Int) > 1) = decide (((s : Nat) : Int) > 1) := by
  have h1 : s % 2 = 1 := by
    rw [Nat.testBit_zero] at h0
    exact of_decide_eq_true h0
  have h2 : popN s = s % 2 + pcn 62 (s / 2) := rfl
  have h3 : pcn 62 (s / 2) = 0 → s / 2 = 0 := pcn_none 62 (s / 2) (by omega)
  have h4 : s / 2 = 0 → pcn 62 (s / 2) = 0 := fun h => by rw [h, pcn_zero]
  rw [decide_eq_decide]
  constructor
  · intro h
    have : pcn 62 (s / 2) ≠ 0 := by omega
    have : s / 2 ≠ 0 := fun e => this (h4 e)
    omega
  · intro h
    have : s / 2 ≠ 0 := by omega
    have : pcn 62 (s / 2) ≠ 0 := fun e => this (h3 e)
    omega
theorem s_stab_eq {g : List Nat} (v : VG g) {a : Nat} (ha : a < 2 ^ ordN g) : f_s_l6Stabilizer (ints (natsI g)) (a : Int) = some ((stabN g a (ordN g) : Nat) : Int) := by
  have ho : ordN g ≤ 24 := by have := v.ord; omega
  have hp : prodW (natsI g) = (ordN g : Nat) := by rw [← v.ordG]; unfold ordG; rw [if_pos v.isG]
  have key := loop_count (rd := f_s_l6Stabilizer_r0 (a : Int) (ints (natsI g))) (fun k => (((stabN g a k : Nat) : Int), (k : Int))) (ordN g) (a := ((stabN g a (ordN g) : Nat) : Int)) (fun k hk => by
    simp only [f_s_l6Stabilizer_r0, f_s_l6Stabilizer_k0, s_l2Order_eq _ v.lim, hp, bo_some, lt_dec hk, br_true, s_l3Shift_eq v ha hk, eq_nat_dec, neg_dec, br_false, or_pow v (stabN_lt v a k (by omega)) hk, w64_nat (show k < 9223372036854775807 by omega), stabN_succ]
    unfold stabF
    by_cases h : shiftN g a k = a
    · simp only [decide_eq_true h, br_true, if_pos h]
    · simp only [decide_eq_false h, br_false, if_neg h]) (by
    simp only [f_s_l6Stabilizer_r0, f_s_l6Stabilizer_k0, s_l2Order_eq _ v.lim, hp, bo_some, lt_dec_self, br_false]) 0 (Nat.zero_le _)
  have e0 : (((stabN g a 0 : Nat) : Int), ((0 : Nat) : Int)) = ((0 : Int), (0 : Int)) := rfl
  rw [e0] at key
  simp only [f_s_l6Stabilizer, f_s_l6Stabilizer_k, key, bl1_one]
theorem i_stab_eq {g : List Nat} (v : VG g) {a : Nat} (ha : a < 2 ^ ordN g) (hs : setG (natsI g) (a : Int) = true) : f_i_StabilizerOf (ints (natsI g)) (a : Int) = some ((stabN g a (ordN g) : Nat) : Int) := by
  have ho : ordN g ≤ 24 := by have := v.ord; omega
  have key := loop_count (rd := f_i_StabilizerOf_r0 (a : Int) (ints (natsI g)) ((ordN g : Nat) : Int)) (fun k => (((stabN g a k : Nat) : Int), (k : Int))) (ordN g) (a := ((stabN g a (ordN g) : Nat) : Int)) (fun k hk => by
    simp only [f_i_StabilizerOf_r0, f_i_StabilizerOf_k0, bo_some, lt_dec hk, br_true, i_shift_eq v ha hk, eq_nat_dec, neg_dec, br_false, or_pow v (stabN_lt v a k (by omega)) hk, w64_nat (show k < 9223372036854775807 by omega), stabN_succ]
    unfold stabF
    by_cases h : shiftN g a k = a
    · simp only [decide_eq_true h, br_true, if_pos h]
    · simp only [decide_eq_false h, br_false, if_neg h]) (by
    simp only [f_i_StabilizerOf_r0, f_i_StabilizerOf_k0, lt_dec_self, br_false]) 0 (Nat.zero_le _)
  have e0 : (((stabN g a 0 : Nat) : Int), ((0 : Nat) : Int)) = ((0 : Int), (0 : Int)) := rfl
  rw [e0] at key
  simp only [f_i_StabilizerOf, f_i_StabilizerOf_k, i_IsSet_eq _ _ v.lim, hs, bo_some, Bool.not_true, br_false, i_OrderOf_eq _ v.lim, v.ordG, key, bl1_one]
end Go.Proofs.Ytbajbkdmfdfdmaa
