/-
  PlainAJ: sorting by insertion (spec.l16Sort).
-/
import Derived.Test.YtbajbkdmfdfdmaaPlainM
import Derived.Test.YtbajbkdmfdfdmaaPlainC
set_option linter.unusedVariables false
set_option linter.unusedSimpArgs false
namespace Go.Proofs.Ytbajbkdmfdfdmaa
open Go Ev

def insZ (x : Int) (l : List Int) : List Int := l.takeWhile (fun y => decide (y ≤ x)) ++ x :: l.dropWhile (fun y => decide (y ≤ x))
def insAllZ (l : List Int) : List Int := l.foldl (fun o x => insZ x o) []
theorem insZ_perm (x : Int) (l : List Int) : (insZ x l).Perm (x :: l) := by
  unfold insZ
  refine List.perm_middle.trans (List.Perm.cons x ?_)
  rw [List.takeWhile_append_dropWhile]
theorem insAllZ_perm_aux : ∀ (l o : List Int), (l.foldl (fun o x => insZ x o) o).Perm (o ++ l)
  | [], o => by simp
  | x :: l, o => by
    refine (insAllZ_perm_aux l (insZ x o)).trans ?_
    refine ((insZ_perm x o).append_right l).trans ?_
    exact List.perm_middle.symm
theorem insAllZ_perm (l : List Int) : (insAllZ l).Perm l := insAllZ_perm_aux l []
theorem insZ_sorted {x : Int} : ∀ {l : List Int}, l.Pairwise (· ≤ ·) → (insZ x l).Pairwise (· ≤ ·)
  | [], _ => by simp [insZ]
  | y :: l, h => by
    obtain ⟨h1, h2⟩ := List.pairwise_cons.1 h
    unfold insZ
    by_cases hy : y ≤ x
    · rw [List.takeWhile_cons_of_pos (by simpa using hy), List.dropWhile_cons_of_pos (by simpa using hy), List.cons_append]
      refine List.pairwise_cons.2 ⟨fun z hz => ?_, insZ_sorted h2⟩
      have := (insZ_perm x l).subset hz
      rcases List.mem_cons.1 this with rfl | hz
      · exact hy
      · exact h1 z hz
    · rw [List.takeWhile_cons_of_neg (by simpa using hy), List.dropWhile_cons_of_neg (by simpa using hy), List.nil_append]
      refine List.pairwise_cons.2 ⟨fun z hz => ?_, h⟩
      rcases List.mem_cons.1 hz with rfl | hz
      · omega
      · have := h1 z hz; omega
theorem insAllZ_sorted_aux : ∀ (l o : List Int), o.Pairwise (· ≤ ·) → (l.foldl (fun o x => insZ x o) o).Pairwise (· ≤ ·)
  | [], o, h => h
  | x :: l, o, h => insAllZ_sorted_aux l _ (insZ_sorted h)
theorem insAllZ_sorted (l : List Int) : (insAllZ l).Pairwise (· ≤ ·) := insAllZ_sorted_aux l [] List.Pairwise.nil
theorem insZ_split {x : Int} {l : List Int} (h : l.Pairwise (· ≤ ·)) : ∃ t d, l = t ++ d ∧ insZ x l = t ++ x :: d ∧ (∀ y ∈ t, y ≤ x) ∧ ∀ y ∈ d, x < y := by
  refine ⟨l.takeWhile (fun y => decide (y ≤ x)), l.dropWhile (fun y => decide (y ≤ x)), List.takeWhile_append_dropWhile.symm, rfl, fun y hy => ?_, ?_⟩
  · have := List.all_takeWhile (p := fun y => decide (y ≤ x)) (l := l)
    exact of_decide_eq_true (List.all_eq_true.1 this y hy)
  · induction l with
    | nil => intro y hy; cases hy
    | cons z l ih =>
      obtain ⟨h1, h2⟩ := List.pairwise_cons.1 h
      by_cases hz : z ≤ x
      · rw [List.dropWhile_cons_of_pos (by simpa using hz)]
        exact ih h2
      · rw [List.dropWhile_cons_of_neg (by simpa using hz)]
        intro y hy
        rcases List.mem_cons.1 hy with rfl | hy
        · omega
        · have := h1 y hy; omega
theorem getD_memZ {l : List Int} {k : Nat} (h : k < l.length) : l.getD k 0 ∈ l := by simp [List.getD, List.getElem?_eq_getElem h]
end Go.Proofs.Ytbajbkdmfdfdmaa
