/-
  PlainL: greatest common divisors; DavenportBound.
-/
import Derived.Test.YtdocbpiocinllaaPlainK
set_option linter.unusedVariables false
set_option linter.unusedSimpArgs false
namespace Go.Proofs.Ytdocbpiocinllaa
open Go Ev

theorem gcd_next (x y : Nat) : Nat.gcd x y = Nat.gcd y (x % y) := by rw [Nat.gcd_comm x y, Nat.gcd_rec y x, Nat.gcd_comm]
theorem i_gcd_loop : ∀ (y x : Nat), loopL f_i_gcd_r0 ((x : Int), (y : Int)) = some (.one ((Nat.gcd x y : Nat) : Int)) := by
  intro y
  induction y using Nat.strongRecOn with
  | _ y ih =>
    intro x
    by_cases h : y = 0
    · subst h
      exact loopL_one (by simp only [f_i_gcd_r0, f_i_gcd_k0, ne_zero_dec, Nat.gcd_zero_right]; rfl)
    · have e0 : ((y : Int) == 0) = false := by
        have : ¬ ((y : Int) = 0) := by omega
        simpa using this
      have e1 : decide (y ≠ 0) = true := by simpa using h
      rw [loopL_again (s' := ((y : Int), ((x % y : Nat) : Int))) (by simp only [f_i_gcd_r0, f_i_gcd_k0, ne_zero_dec, e0, e1, br_true, br_false, tmod_nat]), ih (x % y) (Nat.mod_lt _ (by omega)) y, ← gcd_next]
theorem i_gcd_eq (x y : Nat) : f_i_gcd (x : Int) (y : Int) = some ((Nat.gcd x y : Nat) : Int) := by
  simp only [f_i_gcd, f_i_gcd_k, i_gcd_loop, bl1_one]
theorem s_gcd_loop : ∀ (y x : Nat), loopL f_s_l11Divisor_r0 ((x : Int), (y : Int)) = some (.one ((Nat.gcd x y : Nat) : Int)) := by
  intro y
  induction y using Nat.strongRecOn with
  | _ y ih =>
    intro x
    by_cases h : y = 0
    · subst h
      exact loopL_one (by simp only [f_s_l11Divisor_r0, f_s_l11Divisor_k0, Nat.gcd_zero_right]; rfl)
    · have e0 : ((y : Int) == 0) = false := by
        have : ¬ ((y : Int) = 0) := by omega
        simpa using this
      have e1 : decide ((y : Int) > 0) = true := by simp; omega
      rw [loopL_again (s' := ((y : Int), ((x % y : Nat) : Int))) (by simp only [f_s_l11Divisor_r0, f_s_l11Divisor_k0, e0, e1, br_true, br_false, tmod_nat]), ih (x % y) (Nat.mod_lt _ (by omega)) y, ← gcd_next]
theorem s_l11Divisor_eq (x y : Nat) : f_s_l11Divisor (x : Int) (y : Int) = some ((Nat.gcd x y : Nat) : Int) := by
  simp only [f_s_l11Divisor, f_s_l11Divisor_k, s_gcd_loop, bl1_one]

/-! ### All right groups -/
def upTo24 : List Nat := List.range' 2 23
def allG : List (List Nat) := [] :: (upTo24.map (fun a => [a]) ++ (upTo24.flatMap fun a => (upTo24.filter fun b => Nat.ble (a * b) 24).map fun b => [a, b]) ++
  (upTo24.flatMap fun a => (upTo24.filter fun b => Nat.ble (a * b) 24).flatMap fun b => (upTo24.filter fun c => Nat.ble (a * (b * c)) 24).map fun c => [a, b, c]))
theorem mem_upTo {n : Nat} (h : 2 ≤ n ∧ n ≤ 24) : n ∈ upTo24 := List.mem_range'_1.2 (by omega)
theorem VG.mem {g : List Nat} (v : VG g) : g ∈ allG := by
  obtain ⟨h1, h2, h3⟩ := v
  match g, h1, h2, h3 with
  | [], _, _, _ => exact List.mem_cons_self
  | [a], _, h2, _ =>
    refine List.mem_cons_of_mem _ (List.mem_append_left _ (List.mem_append_left _ ?_))
    exact List.mem_map.2 ⟨a, mem_upTo (h2 a (by simp)), rfl⟩
  | [a, b], _, h2, h3 =>
    simp only [ordN, Nat.mul_one] at h3
    refine List.mem_cons_of_mem _ (List.mem_append_left _ (List.mem_append_right _ ?_))
    exact List.mem_flatMap.2 ⟨a, mem_upTo (h2 a (by simp)), List.mem_map.2 ⟨b, List.mem_filter.2 ⟨mem_upTo (h2 b (by simp)), Nat.ble_eq_true_of_le h3⟩, rfl⟩⟩
  | [a, b, c], _, h2, h3 =>
    simp only [ordN, Nat.mul_one] at h3
    have hc := h2 c (by simp)
    have hab : a * b ≤ 24 := by
      have : a * b * 1 ≤ a * b * c := Nat.mul_le_mul_left _ (by omega)
      rw [Nat.mul_assoc a b c] at this
      omega
    refine List.mem_cons_of_mem _ (List.mem_append_right _ ?_)
    exact List.mem_flatMap.2 ⟨a, mem_upTo (h2 a (by simp)), List.mem_flatMap.2 ⟨b, List.mem_filter.2 ⟨mem_upTo (h2 b (by simp)), Nat.ble_eq_true_of_le hab⟩, List.mem_map.2 ⟨c, List.mem_filter.2 ⟨mem_upTo hc, Nat.ble_eq_true_of_le h3⟩, rfl⟩⟩⟩
  | _ :: _ :: _ :: _ :: _, h1, _, _ => simp at h1

/-! ### The chains of orders -/
def stepS (i : Nat) (L : List Nat) (k : Nat) : List Nat := (L.set i (Nat.gcd (L.getD i 0) (L.getD k 0))).set k (L.getD i 0 / Nat.gcd (L.getD i 0) (L.getD k 0) * L.getD k 0)
def stepI (i : Nat) (L : List Nat) (k : Nat) : List Nat := (L.set i (L.getD i 0 / Nat.gcd (L.getD i 0) (L.getD k 0) * L.getD k 0)).set k (Nat.gcd (L.getD i 0) (L.getD k 0))
def innD (st : Nat → List Nat → Nat → List Nat) (i j : Nat) (L : List Nat) : List Nat := (List.range' (i + 1) j).foldl (st i) L
def outD (st : Nat → List Nat → Nat → List Nat) (n i : Nat) (L : List Nat) : List Nat := (List.range i).foldl (fun L i => innD st i (n - (i + 1)) L) L
def goodD (n : Nat) (L : List Nat) : Bool := Nat.beq L.length n && L.all fun x => Nat.ble 1 x && Nat.ble x 24
def chkD (st : Nat → List Nat → Nat → List Nat) (g : List Nat) : Bool := (List.range (g.length + 1)).all fun i => (List.range (g.length + 1)).all fun j => goodD g.length (innD st i (min j (g.length - (i + 1))) (outD st g.length i g))
def sumD (L : List Nat) : Nat := L.foldl (fun n o => n + o - 1) 1
theorem allD : (allG.all fun g => chkD stepS g && (chkD stepI g && Nat.beq (sumD (outD stepS g.length g.length g)) (sumD (outD stepI g.length g.length g)))) = true := by decide +kernel
theorem goodD_spec {n : Nat} {L : List Nat} (h : goodD n L = true) : L.length = n ∧ ∀ k, k < n → 1 ≤ L.getD k 0 ∧ L.getD k 0 ≤ 24 := by
  unfold goodD at h
  rw [Bool.and_eq_true] at h
  have hl : L.length = n := Nat.eq_of_beq_eq_true h.1
  refine ⟨hl, fun k hk => ?_⟩
  have hk' : k < L.length := by omega
  have := List.all_eq_true.1 h.2 (L[k]) (List.getElem_mem hk')
  rw [Bool.and_eq_true] at this
  have e : L.getD k 0 = L[k] := by simp [List.getD, List.getElem?_eq_getElem hk']
  rw [e]
  exact ⟨Nat.le_of_ble_eq_true this.1, Nat.le_of_ble_eq_true this.2⟩
theorem chkD_spec {st : Nat → List Nat → Nat → List Nat} {g : List Nat} (h : chkD st g = true) {i j : Nat} (hi : i ≤ g.length) (hj : j ≤ g.length - (i + 1)) : goodD g.length (innD st i j (outD st g.length i g)) = true := by
  unfold chkD at h
  have h1 := List.all_eq_true.1 h i (List.mem_range.2 (by omega))
  have h2 := List.all_eq_true.1 h1 j (List.mem_range.2 (by omega))
  rwa [Nat.min_eq_left hj] at h2
theorem innD_succ (st : Nat → List Nat → Nat → List Nat) (i j : Nat) (L : List Nat) : innD st i (j + 1) L = st i (innD st i j L) (i + 1 + j) := by
  unfold innD
  rw [List.range'_concat, List.foldl_append]
  simp
theorem outD_succ (st : Nat → List Nat → Nat → List Nat) (n i : Nat) (L : List Nat) : outD st n (i + 1) L = innD st i (n - (i + 1)) (outD st n i L) := by
  unfold outD
  rw [List.range_succ, List.foldl_append]
  rfl
theorem quot24 {a b : Nat} (ha : 1 ≤ a ∧ a ≤ 24) (hb : 1 ≤ b ∧ b ≤ 24) : ((((Nat.gcd a b : Nat) : Int) == 0) = false) ∧ w64 (w64 ((a : Int).tdiv ((Nat.gcd a b : Nat) : Int)) * (b : Int)) = ((a / Nat.gcd a b * b : Nat) : Int) := by
  have hg : 0 < Nat.gcd a b := Nat.gcd_pos_of_pos_left b (by omega)
  have h1 : a / Nat.gcd a b ≤ 24 := Nat.le_trans (Nat.div_le_self _ _) ha.2
  have h2 : a / Nat.gcd a b * b ≤ 24 * 24 := Nat.mul_le_mul h1 hb.2
  constructor
  · have : ¬ (((Nat.gcd a b : Nat) : Int) = 0) := by omega
    simpa using this
  · rw [tdiv_nat, w64_cast (by omega), ← Int.natCast_mul, w64_cast (by omega)]
theorem ints_len_nat {L : List Nat} {n : Nat} (h : L.length = n) : (ints (natsI L)).length = n := by rw [ints_length, natsI_length, h]
theorem sumD_range (L : List Nat) (h : ∀ k, k < L.length → 1 ≤ L.getD k 0 ∧ L.getD k 0 ≤ 24) : 1 ≤ sumD L ∧ sumD L ≤ 1 + 24 * L.length := by
  have key : ∀ (L : List Nat) (n : Nat), 1 ≤ n → (∀ x ∈ L, 1 ≤ x ∧ x ≤ 24) → 1 ≤ L.foldl (fun n o => n + o - 1) n ∧ L.foldl (fun n o => n + o - 1) n ≤ n + 24 * L.length := by
    intro L
    induction L with
    | nil => intro n hn _; exact ⟨hn, Nat.le_refl _⟩
    | cons x L ih =>
      intro n hn h
      have hx := h x (by simp)
      have := ih (n + x - 1) (by omega) fun y hy => h y (by simp [hy])
      simp only [List.foldl_cons, List.length_cons]
      omega
  refine key L 1 (Nat.le_refl _) fun x hx => ?_
  obtain ⟨k, hk, rfl⟩ := List.getElem_of_mem hx
  have := h k hk
  simpa [List.getD, List.getElem?_eq_getElem hk] using this
theorem take_getD {L : List Nat} {j k : Nat} (h : j < k) : (L.take k).getD j 0 = L.getD j 0 := by
  simp [List.getD, List.getElem?_take, h]
theorem sumD_snoc {L : List Nat} {k : Nat} (h : k < L.length) : sumD (L.take (k + 1)) = sumD (L.take k) + L.getD k 0 - 1 := by
  unfold sumD
  rw [take_snoc L h, List.foldl_append]
  rfl
end Go.Proofs.Ytdocbpiocinllaa
