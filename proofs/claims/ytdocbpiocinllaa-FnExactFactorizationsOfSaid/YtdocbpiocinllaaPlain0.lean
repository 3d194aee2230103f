/-
  Plain0: rules for loops; what 'toIntS' computes.
-/
import Derived.Test.YtdocbpiocinllaaShal
namespace Go.Proofs.Ytdocbpiocinllaa
open Go Ev

section
variable {S A B : Type} {rd : S → Option (Ro S A B)}
/-- A loop that counts to n. -/
theorem loop_count (st : Nat → S) (n : Nat) {a : A} (h : ∀ k, k < n → rd (st k) = some (.again (st (k + 1)))) (he : rd (st n) = some (.one a)) (k : Nat) (hk : k ≤ n) : loopL rd (st k) = some (.one a) := by
  obtain ⟨d, rfl⟩ : ∃ d, n = k + d := ⟨n - k, by omega⟩
  clear hk
  induction d generalizing k with
  | zero => exact loopL_one he
  | succ d ih =>
    rw [loopL_again (h k (by omega))]
    have e : k + 1 + d = k + (d + 1) := by omega
    exact ih (k + 1) (by rw [e]; exact h) (by rw [e]; exact he)
/-- A loop that counts to n and may stop ahead of it. -/
theorem loop_find (st : Nat → S) (n : Nat) (p : Nat → Bool) (two : Nat → B) {a : A} (h : ∀ k, k < n → rd (st k) = if p k then some (.two (two k)) else some (.again (st (k + 1)))) (he : rd (st n) = some (.one a)) :
    loopL rd (st 0) = match (List.range n).find? p with
      | some k => some (.two (two k))
      | none => some (.one a) := by
  have key : ∀ d k, k + d = n → loopL rd (st k) = match (List.range' k d).find? p with
      | some k => some (.two (two k))
      | none => some (.one a) := by
    intro d
    induction d with
    | zero => intro k hk; rw [show k = n by omega]; exact loopL_one he
    | succ d ih =>
      intro k hk
      rw [List.range'_succ, List.find?_cons]
      have := h k (by omega)
      cases hp : p k with
      | true => rw [hp] at this; exact loopL_two this
      | false =>
        rw [hp] at this
        rw [loopL_again this]
        exact ih (k + 1) (by omega)
  rw [List.range_eq_range']
  exact key n 0 (by omega)
end

theorem w64_nat {k : Nat} (h : k < 9223372036854775807) : w64 ((k : Int) + 1) = ((k + 1 : Nat) : Int) := by
  rw [w64_in] <;> omega
theorem lim_lt {n : Nat} (h : n ≤ lim) : n < 9223372036854775807 := by unfold lim at h; omega
theorem dlt {k n : Nat} : decide ((k : Int) < (n : Int)) = decide (k < n) := by simp

theorem toIntS_eq (L : List Int) (h : L.length ≤ lim) : f_l_toIntS (ints L) = some (ints L) := by
  have hl := lim_lt h
  have key := loop_count (rd := f_l_toIntS_r0 (ints L)) (fun k => (ints (L.take k ++ List.replicate (L.length - k) 0), (k : Int))) L.length (a := ints L) (fun k hk => by
      have e : (L.take k ++ List.replicate (L.length - k) 0).set k (L.getD k 0) = L.take (k + 1) ++ List.replicate (L.length - (k + 1)) 0 := by
        apply List.ext_getElem?
        intro i
        grind
      simp only [f_l_toIntS_r0, f_l_toIntS_k0, ints_length, dlt, okAt_ints, inRange_nat, atI_ints, Int.toNat_natCast, ints_set, e, w64_nat (by omega : k < 9223372036854775807)]
      have h1 : decide (k < L.length) = true := by simpa using hk
      have h2 : decide (k < (L.take k ++ List.replicate (L.length - k) 0).length) = true := by simp; omega
      simp only [h1, h2, br_true])
    (by simp [f_l_toIntS_r0, f_l_toIntS_k0, ints_length, br_false]) 0 (Nat.zero_le _)
  simp only [List.take_zero, List.nil_append, Nat.sub_zero, Int.ofNat_zero] at key
  have h1 : (decide (0 ≤ (L.length : Int)) && (decide ((L.length : Int) ≤ (L.length : Int)) && decide ((L.length : Int) ≤ (lim : Int)))) = true := by simp; omega
  simp only [f_l_toIntS, f_l_toIntS_k, ints_length, h1, br_true, Int.toNat_natCast, ints_replicate]
  rw [key]
  rfl
end Go.Proofs.Ytdocbpiocinllaa
