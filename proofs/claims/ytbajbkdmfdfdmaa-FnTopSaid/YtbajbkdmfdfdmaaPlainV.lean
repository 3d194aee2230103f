/-
  PlainV: addition is associative, multiples by the order vanish; the tree of the sequences without parts of sum 0.
-/
import Derived.Test.YtbajbkdmfdfdmaaPlainU
import Derived.Test.YtbajbkdmfdfdmaaPlainP
set_option linter.unusedVariables false
set_option linter.unusedSimpArgs false
namespace Go.Proofs.Ytbajbkdmfdfdmaa
open Go Ev

theorem addN_cons (n : Nat) (r : List Nat) (x y : Nat) : addN (n :: r) x y = (x % n + y % n) % n + n * addN r (x / n) (y / n) := rfl
theorem addN_mod {n : Nat} (r : List Nat) (x y : Nat) (hn : 2 ≤ n) : addN (n :: r) x y % n = (x % n + y % n) % n := by
  rw [addN_cons, Nat.add_mul_mod_self_left, Nat.mod_mod]
theorem addN_div {n : Nat} (r : List Nat) (x y : Nat) (hn : 2 ≤ n) : addN (n :: r) x y / n = addN r (x / n) (y / n) := by
  rw [addN_cons, Nat.add_mul_div_left _ _ (by omega), Nat.div_eq_of_lt (Nat.mod_lt _ (by omega)), Nat.zero_add]
theorem addN_assoc : ∀ (g : List Nat), (∀ n ∈ g, 2 ≤ n ∧ n ≤ 24) → ∀ x y z, addN g (addN g x y) z = addN g x (addN g y z)
  | [], _, _, _, _ => rfl
  | n :: r, h, x, y, z => by
    have hn := (h n (by simp)).1
    rw [addN_cons n r (addN (n :: r) x y) z, addN_cons n r x (addN (n :: r) y z), addN_mod r x y hn, addN_mod r y z hn, addN_div r x y hn, addN_div r y z hn,
      addN_assoc r (fun m hm => h m (by simp [hm]))]
    congr 1
    simp only [Nat.mod_add_mod, Nat.add_mod_mod, Nat.add_assoc]
theorem iterN_cons {n : Nat} (r : List Nat) (x : Nat) (hn : 2 ≤ n) : ∀ k, iterN (n :: r) x k = (k * x) % n + n * iterN r (x / n) k
  | 0 => by simp [iterN]
  | k + 1 => by
    show addN (n :: r) (iterN (n :: r) x k) x = _
    rw [iterN_cons r x hn k, addN_cons, Nat.add_mul_mod_self_left, Nat.add_mul_div_left _ _ (by omega), Nat.div_eq_of_lt (Nat.mod_lt _ (by omega)), Nat.zero_add]
    congr 1
    rw [Nat.mod_mod, ← Nat.add_mod, Nat.add_mul, Nat.one_mul]
theorem iterN_zero : ∀ (g : List Nat), (∀ n ∈ g, 2 ≤ n ∧ n ≤ 24) → ∀ m, (∀ n ∈ g, n ∣ m) → ∀ x, iterN g x m = 0
  | [], _, m, _, x => by
    cases m with
    | zero => rfl
    | succ m => rfl
  | n :: r, h, m, hm, x => by
    rw [iterN_cons r x (h n (by simp)).1, iterN_zero r (fun k hk => h k (by simp [hk])) m (fun k hk => hm k (by simp [hk])) (x / n)]
    obtain ⟨c, rfl⟩ := hm n (by simp)
    rw [Nat.mul_assoc, Nat.mul_mod_right, Nat.mul_zero]
theorem dvd_ordN : ∀ (g : List Nat) (n : Nat), n ∈ g → n ∣ ordN g
  | m :: r, n, h => by
    rcases List.mem_cons.1 h with rfl | h
    · exact ⟨ordN r, rfl⟩
    · exact Nat.dvd_trans (dvd_ordN r n h) ⟨m, Nat.mul_comm m (ordN r)⟩
theorem iterN_ord {g : List Nat} (v : VG g) (x : Nat) : iterN g x (ordN g) = 0 := iterN_zero g v.each (ordN g) (dvd_ordN g) x
theorem addN_neg : ∀ (g : List Nat), (∀ n ∈ g, 2 ≤ n ∧ n ≤ 24) → ∀ x, addN g x (negN g x) = 0
  | [], _, _ => rfl
  | n :: r, h, x => by
    have hn := (h n (by simp)).1
    have e : negN (n :: r) x = (n - x % n) % n + n * negN r (x / n) := rfl
    rw [addN_cons, e, Nat.add_mul_mod_self_left, Nat.add_mul_div_left _ _ (by omega), Nat.div_eq_of_lt (Nat.mod_lt _ (by omega)), Nat.zero_add,
      addN_neg r (fun m hm => h m (by simp [hm])), Nat.mul_zero, Nat.add_zero, Nat.mod_mod, Nat.add_mod_mod]
    have : x % n < n := Nat.mod_lt _ (by omega)
    rw [show x % n + (n - x % n) = n by omega, Nat.mod_self]

/-! ### The tree -/
def nextN (g : List Nat) (s x : Nat) : Nat := (s ||| shiftN g s x) ||| 2 ^ x
theorem nextN_lt {g : List Nat} (v : VG g) {s x : Nat} (hs : s < 2 ^ ordN g) (hx : x < ordN g) : nextN g s x < 2 ^ ordN g := or_lt (or_lt hs (shiftN_lt v s x)) (two_pow_lt hx)
theorem nextN_test {g : List Nat} {s x z : Nat} (hs : s < 9223372036854775808) : (nextN g s x).testBit z = true ↔ s.testBit z = true ∨ (∃ y, s.testBit y = true ∧ addN g x y = z) ∨ x = z := by
  unfold nextN
  rw [Nat.testBit_or, Nat.testBit_or, Bool.or_eq_true, Bool.or_eq_true, shiftN_test, List.any_eq_true, pow_test, decide_eq_true_eq, or_assoc]
  constructor
  · rintro (h | ⟨y, hy, hz⟩ | h)
    · exact .inl h
    · exact .inr (.inl ⟨y, (mem_elems hs).1 hy, of_decide_eq_true hz⟩)
    · exact .inr (.inr h)
  · rintro (h | ⟨y, hy, hz⟩ | h)
    · exact .inl h
    · exact .inr (.inl ⟨y, (mem_elems hs).2 hy, decide_eq_true hz⟩)
    · exact .inr (.inr h)
/-- A term more, and still no part of sum 0: then there are new sums. -/
theorem nextN_grows {g : List Nat} (v : VG g) {s x : Nat} (hs : s < 2 ^ ordN g) (hx : x < ordN g) (h0 : (nextN g s x).testBit 0 = false) : s < nextN g s x := by
  have hle : s ≤ nextN g s x := Nat.le_trans Nat.left_le_or Nat.left_le_or
  rcases Nat.lt_or_ge s (nextN g s x) with h | h
  · exact h
  · exfalso
    have he : nextN g s x = s := by omega
    have hs' := set_i64 v hs
    have key : ∀ k, s.testBit (iterN g x (k + 1)) = true := by
      intro k
      induction k with
      | zero =>
        rw [show iterN g x (0 + 1) = addN g 0 x from rfl, addN_zero g x v.each hx, ← he, nextN_test hs']
        exact .inr (.inr rfl)
      | succ k ih =>
        rw [show iterN g x (k + 1 + 1) = addN g (iterN g x (k + 1)) x from rfl, addN_comm, ← he, nextN_test hs']
        exact .inr (.inl ⟨_, ih, rfl⟩)
    have := key (ordN g - 1)
    have h1 := ordN_pos v.each
    rw [show ordN g - 1 + 1 = ordN g by omega, iterN_ord v, ← he, h0] at this
    cases this

/-- The terms with which one may go on. -/
def kidsN (g : List Nat) (s a : Nat) : List Nat := (List.range' a (ordN g - a)).filter fun x => !(nextN g s x).testBit 0
/-- The tree's sequences, each ahead of those that go on from it. -/
def zfT (g : List Nat) : Nat → List Nat → Nat → Nat → List (List Nat)
  | 0, _, _, _ => []
  | n + 1, l, s, a => l :: (kidsN g s a).flatMap fun x => zfT g n (l ++ [x]) (nextN g s x) x
end Go.Proofs.Ytbajbkdmfdfdmaa
