/-
  PlainC: sequences (IsSequence).
-/
import Derived.Test.YtbajbkdmfdfdmaaPlainB
set_option linter.unusedVariables false
set_option linter.unusedSimpArgs false
namespace Go.Proofs.Ytbajbkdmfdfdmaa
open Go Ev

section
variable {S A B : Type} {rd : S → Option (Ro S A B)}
theorem loop_any (st : Nat → S) (n : Nat) (p : Nat → Bool) {a : A} {b : B} (h : ∀ k, k < n → rd (st k) = if p k then some (.two b) else some (.again (st (k + 1)))) (he : rd (st n) = some (.one a)) :
    loopL rd (st 0) = if (List.range n).any p then some (.two b) else some (.one a) := by
  rw [loop_find st n p (fun _ => b) h he]
  cases hf : (List.range n).find? p with
  | none =>
    rw [List.find?_eq_none] at hf
    have : (List.range n).any p = false := List.any_eq_false.2 hf
    rw [this]
    rfl
  | some k =>
    have : (List.range n).any p = true := List.any_eq_true.2 ⟨k, List.mem_of_find?_eq_some hf, List.find?_some hf⟩
    rw [this]
    rfl
end
theorem any_congr_iff {n m : Nat} {p q : Nat → Bool} (h : (∃ k, k < n ∧ p k = true) ↔ (∃ k, k < m ∧ q k = true)) : (List.range n).any p = (List.range m).any q := by
  rw [Bool.eq_iff_iff, List.any_eq_true, List.any_eq_true]
  simpa [List.mem_range] using h

/-- Does the list go down ahead of place k? -/
def downAt (L : List Int) (k : Nat) : Bool := decide (k > 0) && decide (L.getD k 0 < L.getD (k - 1) 0)
def sortedB (L : List Int) : Bool := !(List.range L.length).any (downAt L)
def isSeq (G L : List Int) : Bool := !L.any (fun x => !hasG G x) && (isG G && (decide (L.length ≤ 12) && sortedB L))

end Go.Proofs.Ytbajbkdmfdfdmaa
