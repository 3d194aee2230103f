/-
  PlainAH: SortSequence.
-/
import Derived.Test.YtphbclogflflmaaPlainAJ
import Derived.Test.YtphbclogflflmaaPlainC
import Derived.Test.YtphbclogflflmaaVSort
set_option linter.unusedVariables false
set_option linter.unusedSimpArgs false
namespace Go.Proofs.Ytphbclogflflmaa
open Go Ev

theorem sort_ins (l : List Int) : sortZ l = insAllZ l := by
  refine List.Perm.eq_of_pairwise (le := fun a b => decide (a ≤ b) = true) (fun a b _ _ h1 h2 => ?_) ?_ ?_ ?_
  · have h1 := of_decide_eq_true h1
    have h2 := of_decide_eq_true h2
    omega
  · exact List.pairwise_mergeSort (fun a b c h1 h2 => by simp only [decide_eq_true_eq] at *; omega) (fun a b => by simp only [Bool.or_eq_true, decide_eq_true_eq]; omega) _
  · exact (insAllZ_sorted l).imp fun h => decide_eq_true h
  · exact (List.mergeSort_perm _ _).trans (insAllZ_perm l).symm
theorem nums_intsZ (zs : List Int) : nums (ints zs) = zs ∧ allI (ints zs) = true := by
  constructor
  · unfold nums ints
    rw [List.map_map]
    conv => rhs; rw [← List.map_id zs]
    rfl
  · unfold allI ints
    rw [List.all_map, List.all_eq_true]
    intro x _
    rfl
theorem sortSc_ins {l : List Int} (h : l.length ≤ lim) : sortSc (ints l) = some (ints (insAllZ l)) := by
  unfold sortSc
  rw [(nums_intsZ _).1, (nums_intsZ _).2, ints_length, decide_eq_true h, sort_ins]
  rfl
theorem SortSequence_both (G L : List Int) (h : G.length ≤ lim) (hL : L.length ≤ lim) : ∃ R b, f_s_SortSequence (ints G) (ints L) = some (ints R, b) ∧ f_i_SortSequence (ints G) (ints L) = some (ints R, b) ∧ R.length ≤ 12 := by
  have hlen : (insAllZ L).length = L.length := (insAllZ_perm L).length_eq
  have c1 : decide (([] : List Sc).length + L.length ≤ lim) = true := by
    rw [List.length_nil, Nat.zero_add]
    exact decide_eq_true hL
  have hsort : f_slices_Sort (ints L) = some (ints (insAllZ L)) := sortSc_ins hL
  have ei : f_i_SortSequence (ints G) (ints L) = some (if isSeq G (insAllZ L) then (ints (insAllZ L), true) else ([], false)) := by
    simp only [f_i_SortSequence, f_i_SortSequence_k, f_i_copyInts, f_i_copyInts_k, ints_length, c1, br_true, List.nil_append, bo_some, hsort, i_IsSequence_eq G (insAllZ L) h (by rw [hlen]; exact hL)]
    cases isSeq G (insAllZ L) <;> rfl
  by_cases h12 : L.length ≤ 12
  · have d1 : decide ((L.length : Int) > 12) = false := decide_eq_false (by omega)
    have es : f_s_SortSequence (ints G) (ints L) = some (if isSeq G (insAllZ L) then (ints (insAllZ L), true) else ([], false)) := by
      simp only [f_s_SortSequence, f_s_SortSequence_k, ints_length, d1, br_false, s_l16Sort_eq h12, bo_some, s_IsSequence_eq G (insAllZ L) h (by rw [hlen]; exact hL)]
      cases isSeq G (insAllZ L) <;> rfl
    rw [es, ei]
    cases isSeq G (insAllZ L) with
    | true => exact ⟨insAllZ L, true, rfl, rfl, by omega⟩
    | false => exact ⟨[], false, rfl, rfl, by simp⟩
  · have d1 : decide ((L.length : Int) > 12) = true := decide_eq_true (by omega)
    have hs : isSeq G (insAllZ L) = false := by
      unfold isSeq
      rw [hlen, decide_eq_false h12, Bool.false_and, Bool.and_false, Bool.and_false]
    rw [hs] at ei
    exact ⟨[], false, by simp only [f_s_SortSequence, f_s_SortSequence_k, ints_length, d1, br_true]; rfl, ei, by simp⟩
end Go.Proofs.Ytphbclogflflmaa
