/-
  PlainN: CyclicStructure.
-/
import Derived.Test.YtphbclogflflmaaPlainI
set_option linter.unusedVariables false
set_option linter.unusedSimpArgs false
namespace Go.Proofs.Ytphbclogflflmaa
open Go Ev

theorem multF_count (x : Int) : ∀ (L : List Int) (n : Nat), n + L.length < 9223372036854775807 → L.foldl (multF x) (n : Int) = ((n + L.countP (fun y => decide (y = x)) : Nat) : Int)
  | [], n, _ => by simp
  | y :: L, n, h => by
    simp only [List.length_cons] at h
    rw [List.foldl_cons]
    by_cases e : y = x
    · rw [show multF x (n : Int) y = ((n + 1 : Nat) : Int) from by unfold multF; rw [if_pos e, w64_nat (by omega)], multF_count x L (n + 1) (by omega), List.countP_cons_of_pos (by simpa using e)]
      congr 1
      omega
    · rw [show multF x (n : Int) y = (n : Int) from by unfold multF; rw [if_neg e], multF_count x L n (by omega), List.countP_cons_of_neg (by simpa using e)]
theorem multF_all (x : Int) (L : List Int) (h : L.length ≤ lim) : ((L.foldl (multF x) 0) != (L.length : Int)) = !L.all fun y => decide (y = x) := by
  have hl := lim_lt h
  have := multF_count x L 0 (by omega)
  rw [show ((0 : Nat) : Int) = 0 from rfl] at this
  rw [this, Nat.zero_add]
  have hle := List.countP_le_length (p := fun y => decide (y = x)) (l := L)
  cases ha : L.all fun y => decide (y = x) with
  | true =>
    rw [List.countP_eq_length.2 (List.all_eq_true.1 ha)]
    simp
  | false =>
    have hne : L.countP (fun y => decide (y = x)) ≠ L.length := fun e => by
      rw [List.all_eq_true.2 (List.countP_eq_length.1 e)] at ha
      cases ha
    have : ¬ ((L.countP (fun y => decide (y = x)) : Nat) : Int) = (L.length : Int) := by omega
    simpa using this
theorem any_from_one (L : List Int) (h : 1 ≤ L.length) : (List.range' 1 (L.length - 1)).any (fun k => L.getD k 0 != L.getD 0 0) = !L.all fun y => decide (y = L.getD 0 0) := by
  cases ha : L.all fun y => decide (y = L.getD 0 0) with
  | true =>
    rw [Bool.not_true, List.any_eq_false]
    intro k hk
    have hk' : k < L.length := by have := List.mem_range'_1.1 hk; omega
    have := List.all_eq_true.1 ha L[k] (List.getElem_mem hk')
    have e : L.getD k 0 = L[k] := by simp [List.getD, hk']
    rw [e, of_decide_eq_true this]
    simp
  | false =>
    rw [Bool.not_false, List.any_eq_true]
    obtain ⟨y, hy, hne⟩ := List.all_eq_false.1 ha
    obtain ⟨k, hk, rfl⟩ := List.getElem_of_mem hy
    have e : L.getD k 0 = L[k] := by simp [List.getD, hk]
    refine ⟨k, List.mem_range'_1.2 ⟨?_, by omega⟩, ?_⟩
    · rcases Nat.eq_zero_or_pos k with h0 | h0
      · subst h0; rw [e] at hne; simp at hne
      · exact h0
    · show (L.getD k 0 != L.getD 0 0) = true
      rw [e]
      simpa using hne
theorem IsZeroFree_seq (G L : List Int) (h : G.length ≤ lim) (hL : L.length ≤ lim) : ∃ r, f_s_IsZeroFree (ints G) (ints L) = some r ∧ f_i_IsZeroFree (ints G) (ints L) = some r ∧ (r = true → isSeq G L = true) := by
  simp only [f_s_IsZeroFree, f_s_IsZeroFree_k, f_i_IsZeroFree, f_i_IsZeroFree_k, s_IsSequence_eq G L h hL, i_IsSequence_eq G L h hL, bo_some]
  cases hs : isSeq G L with
  | false => exact ⟨_, rfl, rfl, fun h => h⟩
  | true =>
    obtain ⟨g, l, rfl, rfl, v⟩ := nat_of_isSeq hs
    obtain ⟨e1, hb⟩ := s_l16Subsums_eq v.grp v.each v.lim
    have hb' : subsN g l < 9223372036854775808 := Nat.lt_trans (pow24 v.grp hb) (by decide)
    have e3 := i_in_eq (a := subsN g l) (k := 0) hb'
    rw [show ((0 : Nat) : Int) = 0 from rfl] at e3
    simp only [e1, (i_subsums_eq v.grp v.each v.lim).1, bo_some, and_one_zero hb', e3]
    exact ⟨_, rfl, rfl, fun _ => trivial⟩
end Go.Proofs.Ytphbclogflflmaa
