/-
  PlainO: negatives, multiples; DilateSet; ReplaceFactor.
-/
import Derived.Test.YtbajbkdmfdfdmaaPlainI
set_option linter.unusedVariables false
set_option linter.unusedSimpArgs false
namespace Go.Proofs.Ytbajbkdmfdfdmaa
open Go Ev

def negN : List Nat → Nat → Nat
  | [], _ => 0
  | n :: r, x => (n - x % n) % n + n * negN r (x / n)
theorem negN_lt {g : List Nat} (h : ∀ n ∈ g, 2 ≤ n ∧ n ≤ 24) (x : Nat) : negN g x < ordN g := by
  induction g generalizing x with
  | nil => exact Nat.lt_succ_self 0
  | cons n r ih =>
    have hn := h n (by simp)
    have hr := ih (fun m hm => h m (by simp [hm])) (x / n)
    have h1 : (n - x % n) % n < n := Nat.mod_lt _ (by omega)
    show (n - x % n) % n + n * negN r (x / n) < n * ordN r
    have h2 : n * (negN r (x / n) + 1) ≤ n * ordN r := Nat.mul_le_mul_left n hr
    rw [Nat.mul_add] at h2
    omega
theorem neg_round {n x z u : Nat} (hn : 2 ≤ n ∧ n ≤ 24) (hx : x < 4611686018427387904) (hz : z < u) (hu : u * n ≤ 1000000) :
    w64 ((x : Int).tdiv (n : Int)) = ((x / n : Nat) : Int) ∧ w64 ((u : Int) * (n : Int)) = ((u * n : Nat) : Int) ∧
    w64 ((z : Int) + w64 ((w64 ((n : Int) - (x : Int).tmod (n : Int))).tmod (n : Int) * (u : Int))) = ((z + (n - x % n) % n * u : Nat) : Int) ∧ z + (n - x % n) % n * u < u * n := by
  have h1 : x % n < n := Nat.mod_lt _ (by omega)
  have h3 : (n - x % n) % n < n := Nat.mod_lt _ (by omega)
  have h4 : ((n - x % n) % n + 1) * u ≤ n * u := Nat.mul_le_mul_right u h3
  have h5 : n * u = u * n := Nat.mul_comm n u
  have h6 : ((n - x % n) % n + 1) * u = (n - x % n) % n * u + u := by rw [Nat.add_mul, Nat.one_mul]
  have h7 : (n : Int) - ((x % n : Nat) : Int) = ((n - x % n : Nat) : Int) := by omega
  refine ⟨?_, ?_, ?_, ?_⟩
  · rw [tdiv_nat, w64_cast (Nat.lt_of_le_of_lt (Nat.div_le_self x n) (by omega))]
  · rw [← Int.natCast_mul, w64_cast (by omega)]
  · rw [tmod_nat, h7, w64_cast (by omega), tmod_nat, ← Int.natCast_mul, w64_cast (by omega), ← Int.natCast_add, w64_cast (by omega)]
  · omega
theorem i_negate_eq {g : List Nat} (hg : VG g) {x : Nat} (hx : x < 4611686018427387904) : f_i_Group_negate (ints (natsI g)) (x : Int) = some ((negN g x : Nat) : Int) := by
  have key : ∀ (r : List Nat) (k x z u : Nat), g.drop k = r → k ≤ g.length → x < 4611686018427387904 → z < u → u * ordN r ≤ 1000000 →
      loopL (f_i_Group_negate_r0 (ints (natsI g)) (g.length : Int)) ((x : Int), (z : Int), (u : Int), (k : Int)) = some (.one (((z + u * negN r x : Nat)) : Int)) := by
    intro r
    induction r with
    | nil =>
      intro k x z u hd hk hx hz hu
      have := drop_nil hd hk
      subst this
      refine loopL_one ?_
      simp only [f_i_Group_negate_r0, f_i_Group_negate_k0, ints_length, natsI_length, lt_dec_self, br_false, negN, Nat.mul_zero, Nat.add_zero]
    | cons n r ih =>
      intro k x z u hd hk hx hz hu
      obtain ⟨hkl, hn, hd'⟩ := drop_cons hd
      have hne := hg.each n (by rw [← hn]; simp [List.getD, List.getElem?_eq_getElem hkl])
      have hor : 1 ≤ ordN r := ordN_pos fun m hm => hg.each m (by rw [← hd'] at hm; exact List.mem_of_mem_drop hm)
      have hu' : u * n * ordN r ≤ 1000000 := by rw [Nat.mul_assoc]; exact hu
      have hu2 : u * n ≤ 1000000 := Nat.le_trans (Nat.le_mul_of_pos_right _ hor) hu'
      obtain ⟨a1, a3, a4, a5⟩ := neg_round hne hx hz hu2
      have hkl' : k < (natsI g).length := by rw [natsI_length]; exact hkl
      have hat : atI (ints (natsI g)) (k : Int) = (n : Int) := by rw [at_nat, natsI_getD, hn]
      have hn0 : ((n : Int) == 0) = false := beq_eq_false_iff_ne.2 (by omega)
      rw [loopL_again (s' := (((x / n : Nat) : Int), ((z + (n - x % n) % n * u : Nat) : Int), ((u * n : Nat) : Int), ((k + 1 : Nat) : Int))) (by
        have hg3 := hg.len
        simp only [f_i_Group_negate_r0, f_i_Group_negate_k0, ints_length, natsI_length, lt_dec hkl, ok_nat hkl', hat, hn0, br_true, br_false, a1, a3, a4, w64_nat (by omega : k < 9223372036854775807)])]
      rw [ih (k + 1) (x / n) _ (u * n) hd' hkl (Nat.lt_of_le_of_lt (Nat.div_le_self x n) hx) a5 hu']
      congr 3
      simp only [negN, Nat.mul_add, Nat.mul_assoc, Nat.mul_comm u ((n - x % n) % n), Nat.add_assoc]
  have := key g 0 x 0 1 rfl (Nat.zero_le _) hx (by decide) (by have := hg.ord; omega)
  simp only [f_i_Group_negate, f_i_Group_negate_k, ints_length, natsI_length]
  have e0 : ((0 : Nat) : Int) = 0 := rfl
  have e1 : ((1 : Nat) : Int) = 1 := rfl
  rw [e0, e1] at this
  rw [this, bl1_one]
  simp

/-! ### Multiples -/
def iterN (g : List Nat) (x : Nat) : Nat → Nat
  | 0 => 0
  | k + 1 => addN g (iterN g x k) x
def mulN (g : List Nat) (x : Nat) (n : Int) : Nat := if n < 0 then iterN g (negN g x) (0 - n).toNat else iterN g x n.toNat
theorem iterN_lt {g : List Nat} (v : VG g) (x k : Nat) : iterN g x k < ordN g := by
  cases k with
  | zero => exact ordN_pos v.each
  | succ k => exact addN_lt v.each _ _
theorem mulN_lt {g : List Nat} (v : VG g) (x : Nat) (n : Int) : mulN g x n < ordN g := by
  unfold mulN
  split <;> exact iterN_lt v _ _
theorem big {n k : Nat} (h : k < n) (hn : n ≤ 24) : k < 4611686018427387904 := by omega
/-! ### DilateSet -/
def dilN (g : List Nat) (n : Int) (l : List Nat) : Nat := l.foldl (fun o x => o ||| 2 ^ mulN g x n) 0
theorem dilN_lt {g : List Nat} (v : VG g) (n : Int) (l : List Nat) : dilN g n l < 2 ^ ordN g := orFold_lt (Nat.two_pow_pos _) fun y _ => two_pow_lt (mulN_lt v y n)
theorem dilN_snoc (g : List Nat) (n : Int) (l : List Nat) {k : Nat} (h : k < l.length) : dilN g n (l.take (k + 1)) = dilN g n (l.take k) ||| 2 ^ mulN g (l.getD k 0) n := by
  unfold dilN
  rw [List.take_succ_eq_append_getElem h, List.foldl_append]
  simp [List.getD, h]
end Go.Proofs.Ytbajbkdmfdfdmaa
