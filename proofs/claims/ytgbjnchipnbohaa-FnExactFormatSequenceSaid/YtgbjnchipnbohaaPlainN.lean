/-
  PlainN: CyclicStructure.
-/
import Derived.Test.YtgbjnchipnbohaaPlainI
set_option linter.unusedVariables false
set_option linter.unusedSimpArgs false
namespace Go.Proofs.Ytgbjnchipnbohaa
open Go Ev

theorem multF_count (x : Int) : ∀ (L : List Int) (n : Nat), n + L.length < 9223372036854775807 → L.foldl (multF x) (n : Int) = ((n + L.countP (fun y => decide (y = x)) : Nat) : Int)
  | [], n, _ => by simp
  | y :: L, n, h => by
    simp only [List.length_cons] at h
    rw [List.foldl_cons]
    by_cases e : y = x
    · rw [show multF x (n : Int) y = ((n + 1 : Nat) : Int) from by unfold multF; rw [if_pos e, w64_nat (by omega)], multF_count x L (n + 1) (by omega), List.countP_cons_of_pos (by simpa using e)]
      congr 1
      omega
    · rw [show multF x (n : Int) y = (n : Int) from by unfold multF; rw [if_neg e], multF_count x L n (by omega), List.countP_cons_of_neg (by simpa using e)]
theorem multF_all (x : Int) (L : List Int) (h : L.length ≤ lim) : ((L.foldl (multF x) 0) != (L.length : Int)) = !L.all fun y => decide (y = x) := by
  have hl := lim_lt h
  have := multF_count x L 0 (by omega)
  rw [show ((0 : Nat) : Int) = 0 from rfl] at this
  rw [this, Nat.zero_add]
  have hle := List.countP_le_length (p := fun y => decide (y = x)) (l := L)
  cases ha : L.all fun y => decide (y = x) with
  | true =>
    rw [List.countP_eq_length.2 (List.all_eq_true.1 ha)]
    simp
  | false =>
    have hne : L.countP (fun y => decide (y = x)) ≠ L.length := fun e => by
      rw [List.all_eq_true.2 (List.countP_eq_length.1 e)] at ha
      cases ha
    have : ¬ ((L.countP (fun y => decide (y = x)) : Nat) : Int) = (L.length : Int) := by omega
    simpa using this
theorem any_from_one (L : List Int) (h : 1 ≤ L.length) : (List.range' 1 (L.length - 1)).any (fun k => L.getD k 0 != L.getD 0 0) = !L.all fun y => decide (y = L.getD 0 0) := by
  cases ha : L.all fun y => decide (y = L.getD 0 0) with
  | true =>
    rw [Bool.not_true, List.any_eq_false]
    intro k hk
    have hk' : k < L.length := by have := List.mem_range'_1.1 hk; omega
    have := List.all_eq_true.1 ha L[k] (List.getElem_mem hk')
    have e : L.getD k 0 = L[k] := by simp [List.getD, hk']
    rw [e, of_decide_eq_true this]
    simp
  | false =>
    rw [Bool.not_false, List.any_eq_true]
    obtain ⟨y, hy, hne⟩ := List.all_eq_false.1 ha
    obtain ⟨k, hk, rfl⟩ := List.getElem_of_mem hy
    have e : L.getD k 0 = L[k] := by simp [List.getD, hk]
    refine ⟨k, List.mem_range'_1.2 ⟨?_, by omega⟩, ?_⟩
    · rcases Nat.eq_zero_or_pos k with h0 | h0
      · subst h0; rw [e] at hne; simp at hne
      · exact h0
    · show (L.getD k 0 != L.getD 0 0) = true
      rw [e]
      simpa using hne
end Go.Proofs.Ytgbjnchipnbohaa
