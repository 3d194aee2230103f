/-
  PlainA: the laws' own small functions; MultiplicityIn.
-/
import Derived.Test.YtbajbkdmfdfdmaaPlain0
set_option linter.unusedVariables false
set_option linter.unusedSimpArgs false
namespace Go.Proofs.Ytbajbkdmfdfdmaa
open Go Ev

section
variable {T A B : Type}
/-- A loop over a list that folds. -/
theorem loop_fold {rd : T × Int → Option (Ro (T × Int) A B)} (L : List Int) (f : T → Int → T) (g : T → A) (t0 : T)
    (h : ∀ (k : Nat) t, k < L.length → rd (t, (k : Int)) = some (.again (f t (L.getD k 0), ((k + 1 : Nat) : Int))))
    (he : ∀ t, rd (t, (L.length : Int)) = some (.one (g t))) : loopL rd (t0, 0) = some (.one (g (L.foldl f t0))) := by
  have key := loop_count (rd := rd) (fun k => ((L.take k).foldl f t0, (k : Int))) L.length (a := g (L.foldl f t0)) (fun k hk => by
    show rd ((L.take k).foldl f t0, (k : Int)) = _
    rw [h k _ hk]
    have : (L.take (k + 1)).foldl f t0 = f ((L.take k).foldl f t0) (L.getD k 0) := by
      rw [List.take_succ_eq_append_getElem hk, List.foldl_append]
      simp [List.getD, List.getElem?_eq_getElem hk]
    rw [this]) (by show rd ((L.take L.length).foldl f t0, (L.length : Int)) = _; rw [he, List.take_length]) 0 (Nat.zero_le _)
  simpa using key
end

theorem br_eq {α : Type} (t : Bool) (x y : α) : br t x y = if t = true then x else y := by cases t <;> rfl
theorem lt_dec {k n : Nat} (h : k < n) : decide ((k : Int) < (n : Int)) = true := by simpa using h
theorem lt_dec_self (n : Nat) : decide ((n : Int) < (n : Int)) = false := by simp
theorem ok_nat {L : List Int} {k : Nat} (h : k < L.length) : okAt (ints L) (k : Int) = true := by rw [okAt_ints, inRange_nat]; simpa using h
theorem at_nat (L : List Int) (k : Nat) : atI (ints L) (k : Int) = L.getD k 0 := by rw [atI_ints]; simp

theorem le_lim {n : Nat} (h : n ≤ 1048576) : n ≤ lim := Nat.le_trans h (by decide)
/-! ### MultiplicityIn -/
def multF (x : Int) (n y : Int) : Int := if y = x then w64 (n + 1) else n
end Go.Proofs.Ytbajbkdmfdfdmaa
