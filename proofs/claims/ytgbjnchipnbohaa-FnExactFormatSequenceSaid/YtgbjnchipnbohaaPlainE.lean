/-
  PlainE: sums of elements; sums of sequences (IsZeroSum, SumOfSequence).
-/
import Derived.Test.YtgbjnchipnbohaaPlainD
set_option linter.unusedVariables false
set_option linter.unusedSimpArgs false
namespace Go.Proofs.Ytgbjnchipnbohaa
open Go Ev

def addN : List Nat → Nat → Nat → Nat
  | [], _, _ => 0
  | n :: r, x, y => (x % n + y % n) % n + n * addN r (x / n) (y / n)
theorem addN_comm (g : List Nat) (x y : Nat) : addN g x y = addN g y x := by
  induction g generalizing x y with
  | nil => rfl
  | cons n r ih => simp only [addN, ih (x / n) (y / n), Nat.add_comm (x % n) (y % n)]
theorem addN_lt {g : List Nat} (h : ∀ n ∈ g, 2 ≤ n ∧ n ≤ 24) (x y : Nat) : addN g x y < ordN g := by
  induction g generalizing x y with
  | nil => exact Nat.lt_succ_self 0
  | cons n r ih =>
    have hn := h n (by simp)
    have hr := ih (fun m hm => h m (by simp [hm])) (x / n) (y / n)
    have h1 : (x % n + y % n) % n < n := Nat.mod_lt _ (by omega)
    show (x % n + y % n) % n + n * addN r (x / n) (y / n) < n * ordN r
    have h2 : n * (addN r (x / n) (y / n) + 1) ≤ n * ordN r := Nat.mul_le_mul_left n hr
    rw [Nat.mul_add] at h2
    omega

theorem tmod_nat (x n : Nat) : (x : Int).tmod (n : Int) = ((x % n : Nat) : Int) := rfl
theorem tdiv_nat (x n : Nat) : (x : Int).tdiv (n : Int) = ((x / n : Nat) : Int) := rfl

/-- One round of the two adders. -/
theorem add_round {n x y z u : Nat} (hn : 2 ≤ n ∧ n ≤ 24) (hx : x < 4611686018427387904) (hy : y < 4611686018427387904) (hz : z < u) (hu : u * n ≤ 1000000) :
    w64 ((x : Int).tdiv (n : Int)) = ((x / n : Nat) : Int) ∧ w64 ((y : Int).tdiv (n : Int)) = ((y / n : Nat) : Int) ∧ w64 ((u : Int) * (n : Int)) = ((u * n : Nat) : Int) ∧
    w64 ((z : Int) + w64 ((w64 ((x : Int).tmod (n : Int) + (y : Int).tmod (n : Int))).tmod (n : Int) * (u : Int))) = ((z + (x % n + y % n) % n * u : Nat) : Int) ∧ z + (x % n + y % n) % n * u < u * n := by
  have h1 : x % n < n := Nat.mod_lt _ (by omega)
  have h2 : y % n < n := Nat.mod_lt _ (by omega)
  have h3 : (x % n + y % n) % n < n := Nat.mod_lt _ (by omega)
  have h4 : ((x % n + y % n) % n + 1) * u ≤ n * u := Nat.mul_le_mul_right u h3
  have h5 : n * u = u * n := Nat.mul_comm n u
  have h6 : ((x % n + y % n) % n + 1) * u = (x % n + y % n) % n * u + u := by rw [Nat.add_mul, Nat.one_mul]
  refine ⟨?_, ?_, ?_, ?_, ?_⟩
  · rw [tdiv_nat, w64_cast (Nat.lt_of_le_of_lt (Nat.div_le_self x n) (by omega))]
  · rw [tdiv_nat, w64_cast (Nat.lt_of_le_of_lt (Nat.div_le_self y n) (by omega))]
  · rw [← Int.natCast_mul, w64_cast (by omega)]
  · rw [tmod_nat, tmod_nat, ← Int.natCast_add, w64_cast (by omega), tmod_nat, ← Int.natCast_mul, w64_cast (by omega), ← Int.natCast_add, w64_cast (by omega)]
  · omega

theorem drop_cons {G : List Nat} {k n : Nat} {r : List Nat} (h : G.drop k = n :: r) : k < G.length ∧ G.getD k 0 = n ∧ G.drop (k + 1) = r := drop_facts h 0
theorem drop_nil {G : List Nat} {k : Nat} (h : G.drop k = []) (hk : k ≤ G.length) : k = G.length := by
  have := List.drop_eq_nil_iff.1 h
  omega

end Go.Proofs.Ytgbjnchipnbohaa
