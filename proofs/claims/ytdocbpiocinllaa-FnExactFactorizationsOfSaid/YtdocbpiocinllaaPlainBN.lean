/-
  PlainBN: all atoms of a group of order at most 7, by reckoning.
-/
import Derived.Test.YtdocbpiocinllaaFuel
import Derived.WalkKit
set_option linter.unusedVariables false
set_option linter.unusedSimpArgs false
namespace Go.Proofs.Ytdocbpiocinllaa
open Go Ev

def lz (Z : List (List Int)) : List Sc := Z.map fun a => .l (ints a)
def atomsT : List (List Int × List (List Int)) := [
([], [[0]]),
  ([2], [[0], [1, 1]]),
  ([3], [[0], [1, 2], [1, 1, 1], [2, 2, 2]]),
  ([4], [[0], [1, 3], [2, 2], [1, 1, 2], [2, 3, 3], [1, 1, 1, 1], [3, 3, 3, 3]]),
  ([5], [[0], [1, 4], [2, 3], [1, 1, 3], [1, 2, 2], [2, 4, 4], [3, 3, 4], [1, 1, 1, 2], [1, 3, 3, 3], [2, 2, 2, 4], [3, 4, 4, 4], [1, 1, 1, 1, 1], [2, 2, 2, 2, 2], [3, 3, 3, 3, 3], [4, 4, 4, 4, 4]]),
  ([6], [[0], [1, 5], [2, 4], [3, 3], [1, 1, 4], [1, 2, 3], [2, 2, 2], [2, 5, 5], [3, 4, 5], [4, 4, 4], [1, 1, 1, 3], [1, 1, 2, 2], [1, 3, 4, 4], [2, 2, 3, 5], [3, 5, 5, 5], [4, 4, 5, 5], [1, 1, 1, 1, 2], [4, 5, 5, 5, 5], [1, 1, 1, 1, 1, 1], [5, 5, 5, 5, 5, 5]]),
  ([7], [[0], [1, 6], [2, 5], [3, 4], [1, 1, 5], [1, 2, 4], [1, 3, 3], [2, 2, 3], [2, 6, 6], [3, 5, 6], [4, 4, 6], [4, 5, 5], [1, 1, 1, 4], [1, 1, 2, 3], [1, 2, 2, 2], [1, 3, 5, 5], [1, 4, 4, 5], [2, 2, 4, 6], [2, 3, 3, 6], [2, 4, 4, 4], [3, 3, 3, 5], [3, 6, 6, 6], [4, 5, 6, 6], [5, 5, 5, 6], [1, 1, 1, 1, 3], [1, 1, 1, 2, 2], [1, 1, 4, 4, 4], [1, 5, 5, 5, 5], [2, 2, 2, 2, 6], [2, 2, 2, 4, 4], [2, 3, 3, 3, 3], [3, 3, 3, 6, 6], [3, 3, 5, 5, 5], [4, 4, 4, 4, 5], [4, 6, 6, 6, 6], [5, 5, 6, 6, 6], [1, 1, 1, 1, 1, 2], [1, 4, 4, 4, 4, 4], [2, 2, 2, 2, 2, 4], [3, 3, 3, 3, 3, 6], [3, 5, 5, 5, 5, 5], [5, 6, 6, 6, 6, 6], [1, 1, 1, 1, 1, 1, 1], [2, 2, 2, 2, 2, 2, 2], [3, 3, 3, 3, 3, 3, 3], [4, 4, 4, 4, 4, 4, 4], [5, 5, 5, 5, 5, 5, 5], [6, 6, 6, 6, 6, 6, 6]]),
  ([2, 2], [[0], [1, 1], [2, 2], [3, 3], [1, 2, 3]]),
  ([2, 3], [[0], [1, 1], [2, 4], [3, 5], [1, 2, 5], [1, 3, 4], [2, 2, 2], [2, 3, 3], [4, 4, 4], [4, 5, 5], [1, 2, 2, 3], [1, 3, 3, 3], [1, 4, 4, 5], [1, 5, 5, 5], [2, 2, 5, 5], [3, 3, 4, 4], [2, 5, 5, 5, 5], [3, 3, 3, 3, 4], [3, 3, 3, 3, 3, 3], [5, 5, 5, 5, 5, 5]]),
  ([3, 2], [[0], [1, 2], [3, 3], [4, 5], [1, 1, 1], [1, 3, 5], [1, 4, 4], [2, 2, 2], [2, 3, 4], [2, 5, 5], [1, 1, 3, 4], [1, 1, 5, 5], [2, 2, 3, 5], [2, 2, 4, 4], [3, 4, 4, 4], [3, 5, 5, 5], [1, 5, 5, 5, 5], [2, 4, 4, 4, 4], [4, 4, 4, 4, 4, 4], [5, 5, 5, 5, 5, 5]])]
/-- All atoms, by length and then lexicographically. -/
def atomsG (G : List Int) : List (List Int) := match atomsT.find? (fun x => decide (x.1 = G)) with
  | some x => x.2
  | none => []
theorem s_atoms0 : f_s_AtomsOf_Q 200 (ints []) = some (lz (atomsG []), true) := by kernel_rfl
theorem i_atoms0 : f_i_AtomsOf_Q 200 (ints []) = some (lz (atomsG []), true) := by kernel_rfl
theorem s_atoms1 : f_s_AtomsOf_Q 200 (ints [2]) = some (lz (atomsG [2]), true) := by kernel_rfl
theorem i_atoms1 : f_i_AtomsOf_Q 200 (ints [2]) = some (lz (atomsG [2]), true) := by kernel_rfl
theorem s_atoms2 : f_s_AtomsOf_Q 200 (ints [3]) = some (lz (atomsG [3]), true) := by kernel_rfl
theorem i_atoms2 : f_i_AtomsOf_Q 200 (ints [3]) = some (lz (atomsG [3]), true) := by kernel_rfl
theorem s_atoms3 : f_s_AtomsOf_Q 200 (ints [4]) = some (lz (atomsG [4]), true) := by kernel_rfl
theorem i_atoms3 : f_i_AtomsOf_Q 200 (ints [4]) = some (lz (atomsG [4]), true) := by kernel_rfl
theorem s_atoms4 : f_s_AtomsOf_Q 200 (ints [5]) = some (lz (atomsG [5]), true) := by kernel_rfl
theorem i_atoms4 : f_i_AtomsOf_Q 200 (ints [5]) = some (lz (atomsG [5]), true) := by kernel_rfl
theorem s_atoms5 : f_s_AtomsOf_Q 200 (ints [6]) = some (lz (atomsG [6]), true) := by kernel_rfl
theorem i_atoms5 : f_i_AtomsOf_Q 200 (ints [6]) = some (lz (atomsG [6]), true) := by kernel_rfl
theorem s_atoms6 : f_s_AtomsOf_Q 200 (ints [7]) = some (lz (atomsG [7]), true) := by kernel_rfl
theorem i_atoms6 : f_i_AtomsOf_Q 200 (ints [7]) = some (lz (atomsG [7]), true) := by kernel_rfl
theorem s_atoms7 : f_s_AtomsOf_Q 200 (ints [2, 2]) = some (lz (atomsG [2, 2]), true) := by kernel_rfl
theorem i_atoms7 : f_i_AtomsOf_Q 200 (ints [2, 2]) = some (lz (atomsG [2, 2]), true) := by kernel_rfl
theorem s_atoms8 : f_s_AtomsOf_Q 200 (ints [2, 3]) = some (lz (atomsG [2, 3]), true) := by kernel_rfl
theorem i_atoms8 : f_i_AtomsOf_Q 200 (ints [2, 3]) = some (lz (atomsG [2, 3]), true) := by kernel_rfl
theorem s_atoms9 : f_s_AtomsOf_Q 200 (ints [3, 2]) = some (lz (atomsG [3, 2]), true) := by kernel_rfl
theorem i_atoms9 : f_i_AtomsOf_Q 200 (ints [3, 2]) = some (lz (atomsG [3, 2]), true) := by kernel_rfl
end Go.Proofs.Ytdocbpiocinllaa
