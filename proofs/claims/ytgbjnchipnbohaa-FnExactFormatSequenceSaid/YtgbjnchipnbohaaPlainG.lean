/-
  PlainG: sets of elements: members, shifts, sums; subsums of sequences (IsZeroFree, SubsumsOf, IsSumFree).
-/
import Derived.Test.YtgbjnchipnbohaaPlainF
set_option linter.unusedVariables false
set_option linter.unusedSimpArgs false
namespace Go.Proofs.Ytgbjnchipnbohaa
open Go Ev

/-- The bits of a from k on, as numbers. -/
def elemsFrom (a k : Nat) : List Nat := (List.range' k (63 - k)).filter fun x => a.testBit x
theorem elemsFrom_zero (a : Nat) : elemsFrom a 0 = elems a := by
  unfold elemsFrom elems
  rw [List.range_eq_range']
theorem elemsFrom_step (a k : Nat) (hk : k < 63) : elemsFrom a k = if a.testBit k then k :: elemsFrom a (k + 1) else elemsFrom a (k + 1) := by
  unfold elemsFrom
  rw [show 63 - k = (63 - (k + 1)) + 1 by omega, List.range'_succ, List.filter_cons]
theorem shr_zero_bits {a k x : Nat} (h : a >>> k = 0) (hx : k ≤ x) : a.testBit x = false := by
  have : a.testBit x = (a >>> k).testBit (x - k) := by
    rw [Nat.testBit_shiftRight]
    congr 1
    omega
  rw [this, h]
  simp
theorem elemsFrom_nil {a k : Nat} (h : a >>> k = 0) : elemsFrom a k = [] := by
  unfold elemsFrom
  rw [List.filter_eq_nil_iff]
  intro x hx
  have := List.mem_range'_1.1 hx
  rw [shr_zero_bits h this.1]
  decide
theorem shr_pos_lt {a k : Nat} (ha : a < 9223372036854775808) (h : a >>> k ≠ 0) : k < 63 := by
  rcases Nat.lt_or_ge k 63 with hk | hk
  · exact hk
  · exfalso
    apply h
    rw [Nat.shiftRight_eq_div_pow]
    apply Nat.div_eq_of_lt
    have : (2 : Nat) ^ 63 ≤ 2 ^ k := Nat.pow_le_pow_right (by decide) hk
    have h2 : (2 : Nat) ^ 63 = 9223372036854775808 := by decide
    omega
theorem elems_len (a : Nat) : (elems a).length ≤ 63 := by
  unfold elems
  exact Nat.le_trans (List.length_filter_le _ _) (by simp)
theorem elemsFrom_len (a k : Nat) : (elemsFrom a k).length ≤ 63 := by
  unfold elemsFrom
  refine Nat.le_trans (List.length_filter_le _ _) ?_
  simp
theorem ints_cast_snoc (l : List Nat) (k : Nat) : ints (natsI l) ++ [Sc.n .i64 (k : Int)] = ints (natsI (l ++ [k])) := by
  simp [ints, natsI]
theorem ne_zero_dec {n : Nat} : ((n : Int) != 0) = decide (n ≠ 0) := by
  by_cases h : n = 0
  · subst h; rfl
  · have : ¬ ((n : Int) = 0) := by omega
    simp [h, this]
theorem neg_dec (n : Nat) : decide ((n : Int) < 0) = false := by simp

/-- A set moved by an element. -/
def shiftN (g : List Nat) (a x : Nat) : Nat := orAll (fun y => 2 ^ addN g x y) (elems a)
theorem two_pow_lt {k n : Nat} (h : k < n) : 2 ^ k < 2 ^ n := Nat.pow_lt_pow_right (by decide) h
theorem shiftN_lt {g : List Nat} (v : VG g) (a x : Nat) : shiftN g a x < 2 ^ ordN g :=
  orFold_lt (Nat.two_pow_pos _) fun y _ => two_pow_lt (addN_lt v.each x y)
theorem pow24 {g : List Nat} (v : VG g) {a : Nat} (h : a < 2 ^ ordN g) : a < 16777216 :=
  Nat.lt_of_lt_of_le h (Nat.pow_le_pow_right (by decide) v.ord)
theorem elems_lt {a n x : Nat} (h : a < 2 ^ n) (hx : x ∈ elems a) : x < n := by
  unfold elems at hx
  have h2 := (List.mem_filter.1 hx).2
  rcases Nat.lt_or_ge x n with hl | hl
  · exact hl
  · have : a < 2 ^ x := Nat.lt_of_lt_of_le h (Nat.pow_le_pow_right (by decide) hl)
    rw [Nat.testBit_lt_two_pow this] at h2
    cases h2

theorem orFold_pow_lt {g : List Nat} (v : VG g) (x : Nat) {l : List Nat} {o : Nat} (ho : o < 2 ^ ordN g) : l.foldl (fun o y => o ||| 2 ^ addN g x y) o < 2 ^ ordN g :=
  orFold_lt ho fun y _ => two_pow_lt (addN_lt v.each x y)
theorem or_pow {g : List Nat} (v : VG g) {o k : Nat} (ho : o < 2 ^ ordN g) (hk : k < ordN g) : or64 (o : Int) (shl64 1 (k : Int)) = ((o ||| 2 ^ k : Nat) : Int) := by
  have h24 := v.ord
  rw [shl1_nat (by omega), or64_nat (Nat.lt_trans (pow24 v ho) (by decide)) (Nat.lt_trans (pow24 v (two_pow_lt hk)) (by decide))]
theorem or_lt {g : List Nat} {o p : Nat} (ho : o < 2 ^ ordN g) (hp : p < 2 ^ ordN g) : o ||| p < 2 ^ ordN g := Nat.or_lt_two_pow ho hp
theorem in_nat {k n : Nat} (h : k < n) : inRange (k : Int) n = true := by rw [inRange_nat]; simpa using h
theorem atN_natsI (l : List Nat) (k : Nat) : atN (ints (natsI l)) k = ((l.getD k 0 : Nat) : Int) := by rw [atN_ints, natsI_getD]
theorem elems_lim (a : Nat) : (elems a).length ≤ 9223372036854775806 := Nat.le_trans (elems_len a) (by decide)
theorem elems_at {a n k : Nat} (h : a < 2 ^ n) (hk : k < (elems a).length) : (elems a).getD k 0 < n := elems_lt h (by simp [List.getD, List.getElem?_eq_getElem hk])

/-- The sum of two sets. -/
def sumN (g : List Nat) (a b : Nat) : Nat := orAll (fun x => shiftN g b x) (elems a)
theorem shiftN_test (g : List Nat) (a x z : Nat) : (shiftN g a x).testBit z = (elems a).any fun y => decide (addN g x y = z) := by
  unfold shiftN
  rw [orAll_test]
  simp only [pow_test]
theorem sumN_test (g : List Nat) (a b z : Nat) : (sumN g a b).testBit z = true ↔ ∃ x ∈ elems a, ∃ y ∈ elems b, addN g x y = z := by
  unfold sumN
  rw [orAll_test, List.any_eq_true]
  simp only [shiftN_test, List.any_eq_true, decide_eq_true_eq]
theorem sumN_comm (g : List Nat) (a b : Nat) : sumN g a b = sumN g b a := by
  apply Nat.eq_of_testBit_eq
  intro z
  rw [Bool.eq_iff_iff, sumN_test, sumN_test]
  constructor
  · rintro ⟨x, hx, y, hy, h⟩; exact ⟨y, hy, x, hx, by rw [addN_comm]; exact h⟩
  · rintro ⟨x, hx, y, hy, h⟩; exact ⟨y, hy, x, hx, by rw [addN_comm]; exact h⟩
theorem sumN_lt {g : List Nat} (v : VG g) (a b : Nat) : sumN g a b < 2 ^ ordN g := orFold_lt (Nat.two_pow_pos _) fun y _ => shiftN_lt v b y
theorem or_or {g : List Nat} (v : VG g) {o p : Nat} (ho : o < 2 ^ ordN g) (hp : p < 2 ^ ordN g) : or64 (o : Int) (p : Int) = ((o ||| p : Nat) : Int) :=
  or64_nat (Nat.lt_trans (pow24 v ho) (by decide)) (Nat.lt_trans (pow24 v hp) (by decide))

/-! ### Subsums -/
def subF (g : List Nat) (o x : Nat) : Nat := (o ||| shiftN g o x) ||| 2 ^ x
def subsN (g l : List Nat) : Nat := l.foldl (subF g) 0
theorem subF_lt {g : List Nat} (v : VG g) {o x : Nat} (ho : o < 2 ^ ordN g) (hx : x < ordN g) : subF g o x < 2 ^ ordN g := or_lt (or_lt ho (shiftN_lt v o x)) (two_pow_lt hx)
theorem and_one_zero {a : Nat} (ha : a < 9223372036854775808) : (and64 (a : Int) 1 == 0) = !a.testBit 0 := by
  rw [show (1 : Int) = ((1 : Nat) : Int) from rfl, and64_nat ha (by decide), Nat.and_one_is_mod, Nat.testBit_zero]
  rcases Nat.mod_two_eq_zero_or_one a with h | h <;> rw [h] <;> rfl
end Go.Proofs.Ytgbjnchipnbohaa
