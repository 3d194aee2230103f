/-
  PlainE: sums of elements; sums of sequences (IsZeroSum, SumOfSequence).
-/
import Derived.Test.YtdocbpiocinllaaPlainD
set_option linter.unusedVariables false
set_option linter.unusedSimpArgs false
namespace Go.Proofs.Ytdocbpiocinllaa
open Go Ev

def addN : List Nat → Nat → Nat → Nat
  | [], _, _ => 0
  | n :: r, x, y => (x % n + y % n) % n + n * addN r (x / n) (y / n)
theorem addN_comm (g : List Nat) (x y : Nat) : addN g x y = addN g y x := by
  induction g generalizing x y with
  | nil => rfl
  | cons n r ih => simp only [addN, ih (x / n) (y / n), Nat.add_comm (x % n) (y % n)]
theorem addN_lt {g : List Nat} (h : ∀ n ∈ g, 2 ≤ n ∧ n ≤ 24) (x y : Nat) : addN g x y < ordN g := by
  induction g generalizing x y with
  | nil => exact Nat.lt_succ_self 0
  | cons n r ih =>
    have hn := h n (by simp)
    have hr := ih (fun m hm => h m (by simp [hm])) (x / n) (y / n)
    have h1 : (x % n + y % n) % n < n := Nat.mod_lt _ (by omega)
    show (x % n + y % n) % n + n * addN r (x / n) (y / n) < n * ordN r
    have h2 : n * (addN r (x / n) (y / n) + 1) ≤ n * ordN r := Nat.mul_le_mul_left n hr
    rw [Nat.mul_add] at h2
    omega

theorem tmod_nat (x n : Nat) : (x : Int).tmod (n : Int) = ((x % n : Nat) : Int) := rfl
theorem tdiv_nat (x n : Nat) : (x : Int).tdiv (n : Int) = ((x / n : Nat) : Int) := rfl

/-- One round of the two adders. -/
theorem add_round {n x y z u : Nat} (hn : 2 ≤ n ∧ n ≤ 24) (hx : x < 4611686018427387904) (hy : y < 4611686018427387904) (hz : z < u) (hu : u * n ≤ 1000000) :
    w64 ((x : Int).tdiv (n : Int)) = ((x / n : Nat) : Int) ∧ w64 ((y : Int).tdiv (n : Int)) = ((y / n : Nat) : Int) ∧ w64 ((u : Int) * (n : Int)) = ((u * n : Nat) : Int) ∧
    w64 ((z : Int) + w64 ((w64 ((x : Int).tmod (n : Int) + (y : Int).tmod (n : Int))).tmod (n : Int) * (u : Int))) = ((z + (x % n + y % n) % n * u : Nat) : Int) ∧ z + (x % n + y % n) % n * u < u * n := by
  have h1 : x % n < n := Nat.mod_lt _ (by omega)
  have h2 : y % n < n := Nat.mod_lt _ (by omega)
  have h3 : (x % n + y % n) % n < n := Nat.mod_lt _ (by omega)
  have h4 : ((x % n + y % n) % n + 1) * u ≤ n * u := Nat.mul_le_mul_right u h3
  have h5 : n * u = u * n := Nat.mul_comm n u
  have h6 : ((x % n + y % n) % n + 1) * u = (x % n + y % n) % n * u + u := by rw [Nat.add_mul, Nat.one_mul]
  refine ⟨?_, ?_, ?_, ?_, ?_⟩
  · rw [tdiv_nat, w64_cast (Nat.lt_of_le_of_lt (Nat.div_le_self x n) (by omega))]
  · rw [tdiv_nat, w64_cast (Nat.lt_of_le_of_lt (Nat.div_le_self y n) (by omega))]
  · rw [← Int.natCast_mul, w64_cast (by omega)]
  · rw [tmod_nat, tmod_nat, ← Int.natCast_add, w64_cast (by omega), tmod_nat, ← Int.natCast_mul, w64_cast (by omega), ← Int.natCast_add, w64_cast (by omega)]
  · omega

theorem drop_cons {G : List Nat} {k n : Nat} {r : List Nat} (h : G.drop k = n :: r) : k < G.length ∧ G.getD k 0 = n ∧ G.drop (k + 1) = r := drop_facts h 0
theorem drop_nil {G : List Nat} {k : Nat} (h : G.drop k = []) (hk : k ≤ G.length) : k = G.length := by
  have := List.drop_eq_nil_iff.1 h
  omega

theorem s_l2Add_eq {g : List Nat} (hg : VG g) {x y : Nat} (hx : x < 4611686018427387904) (hy : y < 4611686018427387904) : f_s_l2Add (ints (natsI g)) (x : Int) (y : Int) = some ((addN g x y : Nat) : Int) := by
  have key : ∀ (r : List Nat) (k x y z u : Nat), g.drop k = r → k ≤ g.length → x < 4611686018427387904 → y < 4611686018427387904 → z < u → u * ordN r ≤ 1000000 →
      loopL (f_s_l2Add_r0 (ints (natsI g))) ((x : Int), (y : Int), (z : Int), (u : Int), (k : Int)) = some (.one (((z + u * addN r x y : Nat)) : Int)) := by
    intro r
    induction r with
    | nil =>
      intro k x y z u hd hk hx hy hz hu
      have := drop_nil hd hk
      subst this
      refine loopL_one ?_
      simp only [f_s_l2Add_r0, f_s_l2Add_k0, ints_length, natsI_length, lt_dec_self, br_false, addN, Nat.mul_zero, Nat.add_zero]
    | cons n r ih =>
      intro k x y z u hd hk hx hy hz hu
      obtain ⟨hkl, hn, hd'⟩ := drop_cons hd
      have hne := hg.each n (by rw [← hn]; simp [List.getD, List.getElem?_eq_getElem hkl])
      have hor : 1 ≤ ordN r := ordN_pos fun m hm => hg.each m (by rw [← hd'] at hm; exact List.mem_of_mem_drop hm)
      have hu' : u * n * ordN r ≤ 1000000 := by rw [Nat.mul_assoc]; exact hu
      have hu2 : u * n ≤ 1000000 := Nat.le_trans (Nat.le_mul_of_pos_right _ hor) hu'
      obtain ⟨a1, a2, a3, a4, a5⟩ := add_round hne hx hy hz hu2
      have hkl' : k < (natsI g).length := by rw [natsI_length]; exact hkl
      have hat : atI (ints (natsI g)) (k : Int) = (n : Int) := by rw [at_nat, natsI_getD, hn]
      have hn0 : ((n : Int) == 0) = false := by
        have : ¬ ((n : Int) = 0) := by omega
        simpa using this
      rw [loopL_again (s' := (((x / n : Nat) : Int), ((y / n : Nat) : Int), ((z + (x % n + y % n) % n * u : Nat) : Int), ((u * n : Nat) : Int), ((k + 1 : Nat) : Int))) (by
        have hg3 := hg.len
        simp only [f_s_l2Add_r0, f_s_l2Add_k0, ints_length, natsI_length, lt_dec hkl, ok_nat hkl', hat, hn0, br_true, br_false, a1, a2, a3, a4, w64_nat (by omega : k < 9223372036854775807)])]
      rw [ih (k + 1) (x / n) (y / n) _ (u * n) hd' hkl (Nat.lt_of_le_of_lt (Nat.div_le_self x n) hx) (Nat.lt_of_le_of_lt (Nat.div_le_self y n) hy) a5 hu']
      congr 3
      simp only [addN, Nat.mul_add, Nat.mul_assoc, Nat.mul_comm u ((x % n + y % n) % n), Nat.add_assoc]
  have := key g 0 x y 0 1 rfl (Nat.zero_le _) hx hy (by decide) (by have := hg.ord; omega)
  simp only [f_s_l2Add, f_s_l2Add_k]
  have e0 : ((0 : Nat) : Int) = 0 := rfl
  have e1 : ((1 : Nat) : Int) = 1 := rfl
  rw [e0, e1] at this
  rw [this, bl1_one]
  simp
theorem i_add_eq {g : List Nat} (hg : VG g) {x y : Nat} (hx : x < 4611686018427387904) (hy : y < 4611686018427387904) : f_i_Group_add (ints (natsI g)) (x : Int) (y : Int) = some ((addN g x y : Nat) : Int) := by
  have key : ∀ (r : List Nat) (k x y z u : Nat), g.drop k = r → k ≤ g.length → x < 4611686018427387904 → y < 4611686018427387904 → z < u → u * ordN r ≤ 1000000 →
      loopL (f_i_Group_add_r0 (ints (natsI g)) (g.length : Int)) ((x : Int), (y : Int), (z : Int), (u : Int), (k : Int)) = some (.one (((z + u * addN r x y : Nat)) : Int)) := by
    intro r
    induction r with
    | nil =>
      intro k x y z u hd hk hx hy hz hu
      have := drop_nil hd hk
      subst this
      refine loopL_one ?_
      simp only [f_i_Group_add_r0, f_i_Group_add_k0, lt_dec_self, br_false, addN, Nat.mul_zero, Nat.add_zero]
    | cons n r ih =>
      intro k x y z u hd hk hx hy hz hu
      obtain ⟨hkl, hn, hd'⟩ := drop_cons hd
      have hne := hg.each n (by rw [← hn]; simp [List.getD, List.getElem?_eq_getElem hkl])
      have hor : 1 ≤ ordN r := ordN_pos fun m hm => hg.each m (by rw [← hd'] at hm; exact List.mem_of_mem_drop hm)
      have hu' : u * n * ordN r ≤ 1000000 := by rw [Nat.mul_assoc]; exact hu
      have hu2 : u * n ≤ 1000000 := Nat.le_trans (Nat.le_mul_of_pos_right _ hor) hu'
      obtain ⟨a1, a2, a3, a4, a5⟩ := add_round hne hx hy hz hu2
      have hkl' : k < (natsI g).length := by rw [natsI_length]; exact hkl
      have hat : atI (ints (natsI g)) (k : Int) = (n : Int) := by rw [at_nat, natsI_getD, hn]
      have hn0 : ((n : Int) == 0) = false := by
        have : ¬ ((n : Int) = 0) := by omega
        simpa using this
      rw [loopL_again (s' := (((x / n : Nat) : Int), ((y / n : Nat) : Int), ((z + (x % n + y % n) % n * u : Nat) : Int), ((u * n : Nat) : Int), ((k + 1 : Nat) : Int))) (by
        have hg3 := hg.len
        simp only [f_i_Group_add_r0, f_i_Group_add_k0, lt_dec hkl, ok_nat hkl', hat, hn0, br_true, br_false, a1, a2, a3, a4, w64_nat (by omega : k < 9223372036854775807)])]
      rw [ih (k + 1) (x / n) (y / n) _ (u * n) hd' hkl (Nat.lt_of_le_of_lt (Nat.div_le_self x n) hx) (Nat.lt_of_le_of_lt (Nat.div_le_self y n) hy) a5 hu']
      congr 3
      simp only [addN, Nat.mul_add, Nat.mul_assoc, Nat.mul_comm u ((x % n + y % n) % n), Nat.add_assoc]
  have := key g 0 x y 0 1 rfl (Nat.zero_le _) hx hy (by decide) (by have := hg.ord; omega)
  simp only [f_i_Group_add, f_i_Group_add_k, ints_length, natsI_length]
  have e0 : ((0 : Nat) : Int) = 0 := rfl
  have e1 : ((1 : Nat) : Int) = 1 := rfl
  rw [e0, e1] at this
  rw [this, bl1_one]
  simp
end Go.Proofs.Ytdocbpiocinllaa
