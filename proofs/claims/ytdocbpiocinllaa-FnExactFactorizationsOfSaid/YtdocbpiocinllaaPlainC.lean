/-
  PlainC: sequences (IsSequence).
-/
import Derived.Test.YtdocbpiocinllaaPlainB
set_option linter.unusedVariables false
set_option linter.unusedSimpArgs false
namespace Go.Proofs.Ytdocbpiocinllaa
open Go Ev

section
variable {S A B : Type} {rd : S → Option (Ro S A B)}
theorem loop_any (st : Nat → S) (n : Nat) (p : Nat → Bool) {a : A} {b : B} (h : ∀ k, k < n → rd (st k) = if p k then some (.two b) else some (.again (st (k + 1)))) (he : rd (st n) = some (.one a)) :
    loopL rd (st 0) = if (List.range n).any p then some (.two b) else some (.one a) := by
  rw [loop_find st n p (fun _ => b) h he]
  cases hf : (List.range n).find? p with
  | none =>
    rw [List.find?_eq_none] at hf
    have : (List.range n).any p = false := List.any_eq_false.2 hf
    rw [this]
    rfl
  | some k =>
    have : (List.range n).any p = true := List.any_eq_true.2 ⟨k, List.mem_of_find?_eq_some hf, List.find?_some hf⟩
    rw [this]
    rfl
end
theorem any_congr_iff {n m : Nat} {p q : Nat → Bool} (h : (∃ k, k < n ∧ p k = true) ↔ (∃ k, k < m ∧ q k = true)) : (List.range n).any p = (List.range m).any q := by
  rw [Bool.eq_iff_iff, List.any_eq_true, List.any_eq_true]
  simpa [List.mem_range] using h

/-- Does the list go down ahead of place k? -/
def downAt (L : List Int) (k : Nat) : Bool := decide (k > 0) && decide (L.getD k 0 < L.getD (k - 1) 0)
def sortedB (L : List Int) : Bool := !(List.range L.length).any (downAt L)
def isSeq (G L : List Int) : Bool := !L.any (fun x => !hasG G x) && (isG G && (decide (L.length ≤ 12) && sortedB L))

theorem cmp_Less_eq (x y : Int) : f_cmp_Less x y = some (decide (x < y)) := by
  simp [f_cmp_Less, f_cmp_Less_k, f_cmp_isNaN, f_cmp_isNaN_k, bo_some, br_eq]

theorem IsSorted_eq (L : List Int) (h : L.length ≤ lim) : f_slices_IsSorted (ints L) = some (sortedB L) := by
  have hl := lim_lt h
  simp only [f_slices_IsSorted, f_slices_IsSorted_k, ints_length]
  cases hn : L.length with
  | zero =>
    have : L = [] := List.length_eq_zero_iff.1 hn
    subst this
    have key : loopL (f_slices_IsSorted_r0 (ints [])) (w64 (((0 : Nat) : Int) - 1)) = some (.one ()) := loopL_one (by
      have e : w64 (((0 : Nat) : Int) - 1) = -1 := by decide
      rw [e]
      rfl)
    rw [key]
    rfl
  | succ n =>
    have e0 : w64 (((n + 1 : Nat) : Int) - 1) = ((n - 0 : Nat) : Int) := by rw [w64_in] <;> omega
    have key := loop_any (rd := f_slices_IsSorted_r0 (ints L)) (fun j => ((n - j : Nat) : Int)) n (fun j => downAt L (n - j)) (a := ()) (b := ()) (fun j hj => by
      have e1 : decide (((n - j : Nat) : Int) > 0) = true := by simp; omega
      have e2 : w64 (((n - j : Nat) : Int) - 1) = ((n - j - 1 : Nat) : Int) := by rw [w64_in] <;> omega
      have e3 : n - (j + 1) = n - j - 1 := by omega
      have e4 : decide (n - j > 0) = true := by simp; omega
      simp only [f_slices_IsSorted_r0, f_slices_IsSorted_k0, e1, e2, ok_nat (by omega : n - j < L.length), ok_nat (by omega : n - j - 1 < L.length), at_nat, br_true, cmp_Less_eq, bo_some, downAt, e4, Bool.true_and, br_eq, e3, if_true])
      (by simp [f_slices_IsSorted_r0, f_slices_IsSorted_k0, br_eq])
    rw [e0, key]
    have e5 : (List.range n).any (fun j => downAt L (n - j)) = (List.range L.length).any (downAt L) := by
      refine any_congr_iff ⟨fun ⟨j, hj, hp⟩ => ⟨n - j, by omega, hp⟩, fun ⟨k, hk, hp⟩ => ⟨n - k, ?_, ?_⟩⟩
      · have : k > 0 := by
          unfold downAt at hp
          simp only [Bool.and_eq_true, decide_eq_true_eq] at hp
          exact hp.1
        omega
      · rw [show n - (n - k) = k by omega]; exact hp
    rw [e5]
    unfold sortedB
    cases (List.range L.length).any (downAt L) <;> rfl

theorem s_IsSequence_eq (G L : List Int) (h : G.length ≤ lim) (hL : L.length ≤ lim) : f_s_IsSequence (ints G) (ints L) = some (isSeq G L) := by
  have hl := lim_lt hL
  have key := loop_any (rd := f_s_IsSequence_r0 (ints L) (ints G)) (fun k => (k : Int)) L.length (fun k => !hasG G (L.getD k 0) || downAt L k) (a := ()) (b := ()) (fun k hk => by
    simp only [f_s_IsSequence_r0, f_s_IsSequence_k0, ints_length, lt_dec hk, ok_nat hk, at_nat, br_true, w64_nat (by omega : k < 9223372036854775807), s_l2Is_eq G _ h, bo_some]
    cases hasG G (L.getD k 0) with
    | false => rfl
    | true =>
      by_cases hk0 : k > 0
      · have e1 : decide ((k : Int) > 0) = true := by simp; omega
        have e2 : w64 ((k : Int) - 1) = ((k - 1 : Nat) : Int) := by rw [w64_in] <;> omega
        have e3 : decide (k > 0) = true := by simpa using hk0
        simp only [e1, e2, ok_nat (by omega : k - 1 < L.length), at_nat, downAt, e3, br_eq, Bool.not_true, Bool.false_or, Bool.true_and]
        simp
      · have e1 : decide ((k : Int) > 0) = false := by simp; omega
        have e3 : decide (k > 0) = false := by simpa using hk0
        simp only [e1, downAt, e3]
        rfl)
    (by simp only [f_s_IsSequence_r0, f_s_IsSequence_k0, ints_length, lt_dec_self, br_false])
  rw [show (((0 : Nat)) : Int) = 0 from rfl] at key
  simp only [f_s_IsSequence, f_s_IsSequence_k, key, s_IsGroup_eq G h, bo_some, ints_length]
  have e : (List.range L.length).any (fun k => !hasG G (L.getD k 0) || downAt L k) = (L.any (fun x => !hasG G x) || (List.range L.length).any (downAt L)) := by
    rw [← range_any L (fun x => !hasG G x), Bool.eq_iff_iff]
    simp only [Bool.or_eq_true, List.any_eq_true]
    constructor
    · rintro ⟨k, hk, hp | hp⟩
      · exact .inl ⟨k, hk, hp⟩
      · exact .inr ⟨k, hk, hp⟩
    · rintro (⟨k, hk, hp⟩ | ⟨k, hk, hp⟩)
      · exact ⟨k, hk, .inl hp⟩
      · exact ⟨k, hk, .inr hp⟩
  rw [e]
  unfold isSeq sortedB
  have e12 : decide ((L.length : Int) ≤ 12) = decide (L.length ≤ 12) := by rw [decide_eq_decide]; omega
  rw [e12]
  cases L.any (fun x => !hasG G x) <;> cases (List.range L.length).any (downAt L) <;> cases isG G <;> simp [bl_one, bl_two, br_eq]
theorem i_IsSequence_eq (G L : List Int) (h : G.length ≤ lim) (hL : L.length ≤ lim) : f_i_IsSequence (ints G) (ints L) = some (isSeq G L) := by
  have hl := lim_lt hL
  have key := loop_any (rd := f_i_IsSequence_r0 (ints L) (ints G) (ints L) (L.length : Int)) (fun k => (k : Int)) L.length (fun k => !hasG G (L.getD k 0)) (a := ()) (b := ()) (fun k hk => by
    simp only [f_i_IsSequence_r0, f_i_IsSequence_k0, lt_dec hk, ok_nat hk, at_nat, br_true, w64_nat (by omega : k < 9223372036854775807), i_has_eq G _ h, bo_some]
    cases hasG G (L.getD k 0) <;> rfl)
    (by simp only [f_i_IsSequence_r0, f_i_IsSequence_k0, lt_dec_self, br_false])
  rw [show (((0 : Nat)) : Int) = 0 from rfl, range_any L (fun x => !hasG G x)] at key
  simp only [f_i_IsSequence, f_i_IsSequence_k, ints_length, key, i_IsGroup_eq G h, IsSorted_eq L hL, bo_some]
  unfold isSeq
  have e12 : decide ((L.length : Int) ≤ 12) = decide (L.length ≤ 12) := by rw [decide_eq_decide]; omega
  rw [e12]
  cases L.any (fun x => !hasG G x) <;> cases sortedB L <;> cases isG G <;> cases decide (L.length ≤ 12) <;> rfl
end Go.Proofs.Ytdocbpiocinllaa
