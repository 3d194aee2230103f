/-
  PlainA: the laws' own small functions; MultiplicityIn.
-/
import Derived.Test.YtphbclogflflmaaPlain0
set_option linter.unusedVariables false
set_option linter.unusedSimpArgs false
namespace Go.Proofs.Ytphbclogflflmaa
open Go Ev

section
variable {T A B : Type}
/-- A loop over a list that folds. -/
theorem loop_fold {rd : T × Int → Option (Ro (T × Int) A B)} (L : List Int) (f : T → Int → T) (g : T → A) (t0 : T)
    (h : ∀ (k : Nat) t, k < L.length → rd (t, (k : Int)) = some (.again (f t (L.getD k 0), ((k + 1 : Nat) : Int))))
    (he : ∀ t, rd (t, (L.length : Int)) = some (.one (g t))) : loopL rd (t0, 0) = some (.one (g (L.foldl f t0))) := by
  have key := loop_count (rd := rd) (fun k => ((L.take k).foldl f t0, (k : Int))) L.length (a := g (L.foldl f t0)) (fun k hk => by
    show rd ((L.take k).foldl f t0, (k : Int)) = _
    rw [h k _ hk]
    have : (L.take (k + 1)).foldl f t0 = f ((L.take k).foldl f t0) (L.getD k 0) := by
      rw [List.take_succ_eq_append_getElem hk, List.foldl_append]
      simp [List.getD, List.getElem?_eq_getElem hk]
    rw [this]) (by show rd ((L.take L.length).foldl f t0, (L.length : Int)) = _; rw [he, List.take_length]) 0 (Nat.zero_le _)
  simpa using key
end

theorem br_eq {α : Type} (t : Bool) (x y : α) : br t x y = if t = true then x else y := by cases t <;> rfl
theorem lt_dec {k n : Nat} (h : k < n) : decide ((k : Int) < (n : Int)) = true := by simpa using h
theorem lt_dec_self (n : Nat) : decide ((n : Int) < (n : Int)) = false := by simp
theorem ok_nat {L : List Int} {k : Nat} (h : k < L.length) : okAt (ints L) (k : Int) = true := by rw [okAt_ints, inRange_nat]; simpa using h
theorem at_nat (L : List Int) (k : Nat) : atI (ints L) (k : Int) = L.getD k 0 := by rw [atI_ints]; simp

theorem le_lim {n : Nat} (h : n ≤ 1048576) : n ≤ lim := Nat.le_trans h (by decide)
/-! ### MultiplicityIn -/
def multF (x : Int) (n y : Int) : Int := if y = x then w64 (n + 1) else n
theorem s_MultiplicityIn_eq (L : List Int) (x : Int) (h : L.length ≤ lim) : f_s_MultiplicityIn (ints L) x = some (L.foldl (multF x) 0) := by
  have hl := lim_lt h
  have key := loop_fold (rd := f_s_MultiplicityIn_r0 (ints L) x) L (multF x) id 0 (fun k t hk => by
    simp only [f_s_MultiplicityIn_r0, f_s_MultiplicityIn_k0, ints_length, lt_dec hk, ok_nat hk, at_nat, br_true, w64_nat (by omega : k < 9223372036854775807), multF]
    generalize L.getD k 0 = y
    by_cases e : y = x <;> simp [e, br_eq])
    (fun t => by simp only [f_s_MultiplicityIn_r0, f_s_MultiplicityIn_k0, ints_length, lt_dec_self, br_false, id])
  simp only [f_s_MultiplicityIn, f_s_MultiplicityIn_k, key, bl1_one, id]
theorem i_MultiplicityIn_eq (L : List Int) (x : Int) (h : L.length ≤ lim) : f_i_MultiplicityIn (ints L) x = some (L.foldl (multF x) 0) := by
  have hl := lim_lt h
  have key := loop_fold (rd := f_i_MultiplicityIn_r0 x (ints L) (L.length : Int)) L (multF x) id 0 (fun k t hk => by
    simp only [f_i_MultiplicityIn_r0, f_i_MultiplicityIn_k0, lt_dec hk, ok_nat hk, at_nat, br_true, w64_nat (by omega : k < 9223372036854775807), multF]
    generalize L.getD k 0 = y
    by_cases e : y = x
    · simp [e, br_eq]
    · simp [e, br_eq, Ne.symm e])
    (fun t => by simp only [f_i_MultiplicityIn_r0, f_i_MultiplicityIn_k0, lt_dec_self, br_false, id])
  simp only [f_i_MultiplicityIn, f_i_MultiplicityIn_k, ints_length, key, bl1_one, id]

end Go.Proofs.Ytphbclogflflmaa
