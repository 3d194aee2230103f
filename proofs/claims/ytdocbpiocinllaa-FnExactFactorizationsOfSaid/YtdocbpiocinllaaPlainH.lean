/-
  PlainH: is a number a set; how many elements (IsSumFree, IsDirect, IsTiling).
-/
import Derived.Test.YtdocbpiocinllaaPlainG
set_option linter.unusedVariables false
set_option linter.unusedSimpArgs false
namespace Go.Proofs.Ytdocbpiocinllaa
open Go Ev

def setG (G : List Int) (a : Int) : Bool := isG G && (decide (a ≥ 0) && decide (a < shl64 1 (ordG G)))
theorem shl_ord {g : List Nat} (v : VG g) : shl64 1 (ordN g : Int) = ((2 ^ ordN g : Nat) : Int) := shl1_nat (by have := v.ord; omega)
theorem full_ord {g : List Nat} (v : VG g) : w64 (shl64 1 (ordN g : Int) - 1) = ((2 ^ ordN g - 1 : Nat) : Int) := by
  rw [shl_ord v]
  have h1 : 1 ≤ 2 ^ ordN g := Nat.one_le_two_pow
  have h2 : 2 ^ ordN g ≤ 2 ^ 24 := Nat.pow_le_pow_right (by decide) v.ord
  rw [w64_in (by omega) (by omega)]
  omega
theorem nat_of_set {G : List Int} {a : Int} (h : setG G a = true) : ∃ g n, G = natsI g ∧ VG g ∧ a = ((n : Nat) : Int) ∧ n < 2 ^ ordN g := by
  unfold setG at h
  simp only [Bool.and_eq_true, decide_eq_true_eq] at h
  obtain ⟨h1, h2, h3⟩ := h
  obtain ⟨g, rfl, v⟩ := nat_of_isG h1
  rw [v.ordG, shl_ord v] at h3
  exact ⟨g, a.toNat, rfl, v, by omega, by omega⟩
/-! ### How many elements -/
def pcn : Nat → Nat → Nat
  | 0, _ => 0
  | n + 1, a => a % 2 + pcn n (a / 2)
theorem filter_len (n a : Nat) : ((List.range n).filter fun x => a.testBit x).length = pcn n a := by
  induction n generalizing a with
  | zero => rfl
  | succ n ih =>
    rw [List.range_succ_eq_map, List.filter_cons, List.filter_map, pcn, ← ih (a / 2)]
    have e : ((fun x => a.testBit x) ∘ Nat.succ) = fun x => (a / 2).testBit x := by
      funext x
      simp only [Function.comp_apply, Nat.succ_eq_add_one, Nat.testBit_div_two]
    rw [e, Nat.testBit_zero]
    rcases Nat.mod_two_eq_zero_or_one a with h | h
    · simp [h]
    · simp [h]; omega
def popN (a : Nat) : Nat := pcn 63 a
theorem elems_pop (a : Nat) : (elems a).length = popN a := filter_len 63 a
theorem pcn_le (n a : Nat) : pcn n a ≤ n := by
  induction n generalizing a with
  | zero => exact Nat.le_refl _
  | succ n ih => have := ih (a / 2); show a % 2 + pcn n (a / 2) ≤ n + 1; omega
theorem pcn_zero (n : Nat) : pcn n 0 = 0 := by
  induction n with
  | zero => rfl
  | succ n ih => simpa [pcn] using ih
theorem and_half (a b : Nat) : (a &&& b) / 2 = (a / 2) &&& (b / 2) := by
  apply Nat.eq_of_testBit_eq
  intro i
  rw [Nat.testBit_and, Nat.testBit_div_two, Nat.testBit_div_two, Nat.testBit_div_two, Nat.testBit_and]
theorem and_mod2 (a b : Nat) : (a &&& b) % 2 = (a % 2) * (b % 2) := by
  have h := Nat.testBit_and a b 0
  rw [Nat.testBit_zero, Nat.testBit_zero, Nat.testBit_zero] at h
  rcases Nat.mod_two_eq_zero_or_one a with ha | ha <;> rcases Nat.mod_two_eq_zero_or_one b with hb | hb <;> rcases Nat.mod_two_eq_zero_or_one (a &&& b) with hc | hc <;> simp_all
theorem pcn_clear (n : Nat) : ∀ a, 0 < a → a < 2 ^ n → pcn n (a &&& (a - 1)) + 1 = pcn n a := by
  induction n with
  | zero => intro a h1 h2; simp at h2; omega
  | succ n ih =>
    intro a h1 h2
    rw [Nat.pow_succ] at h2
    simp only [pcn, and_half, and_mod2]
    rcases Nat.mod_two_eq_zero_or_one a with h | h
    · have e : (a - 1) / 2 = a / 2 - 1 := by omega
      have := ih (a / 2) (by omega) (by omega)
      rw [h, e]
      omega
    · have e : (a - 1) / 2 = a / 2 := by omega
      have e2 : (a - 1) % 2 = 0 := by omega
      rw [h, e, e2, Nat.and_self]
      omega
theorem pcn_small : ∀ (d n a : Nat), a < 2 ^ d → d ≤ n → pcn n a = pcn d a := by
  intro d
  induction d with
  | zero =>
    intro n a ha _
    have h0 : a = 0 := by simpa using ha
    subst h0
    rw [pcn_zero, pcn_zero]
  | succ d ih =>
    intro n a ha hn
    obtain ⟨m, rfl⟩ : ∃ m, n = m + 1 := ⟨n - 1, by omega⟩
    rw [Nat.pow_succ] at ha
    show a % 2 + pcn m (a / 2) = a % 2 + pcn d (a / 2)
    rw [ih m (a / 2) (by omega) (by omega)]
theorem popN_le (a : Nat) : popN a ≤ 63 := pcn_le 63 a
theorem set_i64 {g : List Nat} (v : VG g) {a : Nat} (h : a < 2 ^ ordN g) : a < 9223372036854775808 := Nat.lt_trans (pow24 v h) (by decide)
def directG (G : List Int) (a b : Int) : Bool := setG G a && (setG G b && decide (popN (sumN (G.map Int.toNat) a.toNat b.toNat) = popN a.toNat * popN b.toNat))
theorem toNat_natsI (g : List Nat) : (natsI g).map Int.toNat = g := by
  unfold natsI
  rw [List.map_map]
  conv => rhs; rw [← List.map_id g]
  exact List.map_congr_left fun x _ => by simp
theorem pop_mul (p q r : Nat) (hp : p ≤ 63) (hq : q ≤ 63) : ((r : Int) == w64 ((p : Int) * (q : Int))) = decide (r = p * q) := by
  have : p * q ≤ 63 * 63 := Nat.mul_le_mul hp hq
  rw [← Int.natCast_mul, w64_cast (by omega), Bool.eq_iff_iff]
  simp only [beq_iff_eq, decide_eq_true_eq]
  omega
theorem directG_sets {G : List Int} {a b : Int} (h : directG G a b = true) : ∃ g n m, G = natsI g ∧ VG g ∧ a = ((n : Nat) : Int) ∧ n < 2 ^ ordN g ∧ b = ((m : Nat) : Int) ∧ m < 2 ^ ordN g := by
  unfold directG at h
  simp only [Bool.and_eq_true] at h
  obtain ⟨ha, hb, _⟩ := h
  obtain ⟨g, n, rfl, v, rfl, hn⟩ := nat_of_set ha
  obtain ⟨g', m, hg', v', rfl, hm⟩ := nat_of_set hb
  have : g' = g := by rw [← toNat_natsI g, hg', toNat_natsI]
  subst this
  exact ⟨g', n, m, rfl, v, rfl, hn, rfl, hm⟩
end Go.Proofs.Ytdocbpiocinllaa
