/-
  PlainI: maps that keep sums (IsFreimanMap, IsFreimanIso).
-/
import Derived.Test.YtbajbkdmfdfdmaaPlainH
set_option linter.unusedVariables false
set_option linter.unusedSimpArgs false
namespace Go.Proofs.Ytbajbkdmfdfdmaa
open Go Ev

section
variable {S A B : Type} {rd : S → Option (Ro S A B)}
/-- A loop that counts from s to n and may stop. -/
theorem loop_from (st : Nat → S) (s n : Nat) (hs : s ≤ n) (p : Nat → Bool) {a : A} {b : B} (h : ∀ k, s ≤ k → k < n → rd (st k) = if p k then some (.two b) else some (.again (st (k + 1)))) (he : rd (st n) = some (.one a)) :
    loopL rd (st s) = if (List.range' s (n - s)).any p then some (.two b) else some (.one a) := by
  obtain ⟨d, rfl⟩ : ∃ d, n = s + d := ⟨n - s, by omega⟩
  clear hs
  rw [Nat.add_sub_cancel_left]
  induction d generalizing s with
  | zero => exact loopL_one he
  | succ d ih =>
    rw [List.range'_succ, List.any_cons]
    have h0 := h s (Nat.le_refl _) (by omega)
    cases hp : p s with
    | true => rw [hp] at h0; rw [loopL_two h0]; rfl
    | false =>
      rw [hp] at h0
      rw [loopL_again h0]
      have e : s + 1 + d = s + (d + 1) := by omega
      rw [ih (s + 1) (fun k hk hk' => h k (by omega) (by omega)) (by rw [e]; exact he)]
      rfl
end
theorem any_range'_iff {s n : Nat} {p : Nat → Bool} : (List.range' s (n - s)).any p = true ↔ ∃ k, s ≤ k ∧ k < n ∧ p k = true := by
  rw [List.any_eq_true]
  constructor
  · rintro ⟨k, hk, hp⟩
    have := List.mem_range'_1.1 hk
    exact ⟨k, this.1, by omega, hp⟩
  · rintro ⟨k, h1, h2, hp⟩
    exact ⟨k, List.mem_range'_1.2 ⟨h1, by omega⟩, hp⟩

/-- Do four places break a sum? -/
def breaks (g h l m : List Nat) (a b c d : Nat) : Bool := decide (addN g (l.getD a 0) (l.getD b 0) = addN g (l.getD c 0) (l.getD d 0)) && decide (addN h (m.getD a 0) (m.getD b 0) ≠ addN h (m.getD c 0) (m.getD d 0))
theorem breaks_swap (g h l m : List Nat) (a b c d : Nat) : breaks g h l m a b c d = breaks g h l m c d a b := by
  unfold breaks
  rw [Bool.eq_iff_iff]
  simp only [Bool.and_eq_true, decide_eq_true_eq]
  constructor <;> rintro ⟨h1, h2⟩ <;> exact ⟨h1.symm, fun e => h2 e.symm⟩

structure VM (g h l m : List Nat) : Prop where
  gg : VG g
  hh : VG h
  ll : ∀ x ∈ l, x < ordN g
  mm : ∀ x ∈ m, x < ordN h
  len : l.length = m.length
  six : l.length ≤ 6
theorem at_lt {n : Nat} {l : List Nat} (hl : ∀ x ∈ l, x < n) {k : Nat} (hk : k < l.length) : l.getD k 0 < n := hl _ (by simp [List.getD, List.getElem?_eq_getElem hk])
theorem eq_nat_dec (a b : Nat) : ((a : Int) == (b : Int)) = decide (a = b) := by
  rw [Bool.eq_iff_iff]
  simp only [beq_iff_eq, decide_eq_true_eq]
  omega
theorem ne_nat_dec (a b : Nat) : ((a : Int) != (b : Int)) = decide (a ≠ b) := by
  rw [Bool.eq_iff_iff]
  simp only [bne_iff_ne, decide_eq_true_eq]
  omega

def kp6 (g h l m : List Nat) (a b c : Nat) : Bool := (List.range' c (l.length - c)).any fun d => breaks g h l m a b c d
def skp4 (g h l m : List Nat) (a b : Nat) : Bool := (List.range' 0 (a + 1 - 0)).any fun c => kp6 g h l m a b c
def skp2 (g h l m : List Nat) (a : Nat) : Bool := (List.range' a (l.length - a)).any fun b => skp4 g h l m a b
def skp0 (g h l m : List Nat) : Bool := (List.range' 0 (l.length - 0)).any fun a => skp2 g h l m a
def ikp4 (g h l m : List Nat) (a b : Nat) : Bool := (List.range' 0 (l.length - 0)).any fun c => kp6 g h l m a b c
def ikp2 (g h l m : List Nat) (a : Nat) : Bool := (List.range' a (l.length - a)).any fun b => ikp4 g h l m a b
def ikp0 (g h l m : List Nat) : Bool := (List.range' 0 (l.length - 0)).any fun a => ikp2 g h l m a
theorem kp_same (g h l m : List Nat) : skp0 g h l m = ikp0 g h l m := by
  rw [Bool.eq_iff_iff]
  unfold skp0 ikp0 skp2 ikp2 skp4 ikp4 kp6
  simp only [any_range'_iff]
  constructor
  · rintro ⟨a, h1, h2, b, h3, h4, c, h5, h6, d, h7, h8, hp⟩
    exact ⟨a, h1, h2, b, h3, h4, c, h5, by omega, d, h7, h8, hp⟩
  · rintro ⟨a, h1, h2, b, h3, h4, c, h5, h6, d, h7, h8, hp⟩
    rcases Nat.lt_or_ge a c with hc | hc
    · exact ⟨c, h5, h6, d, h7, h8, a, h1, by omega, b, h3, h4, by rw [breaks_swap]; exact hp⟩
    · exact ⟨a, h1, h2, b, h3, h4, c, h5, by omega, d, h7, h8, hp⟩

/-! ### SetOf -/
theorem or_half (a b : Nat) : (a ||| b) / 2 = (a / 2) ||| (b / 2) := by
  apply Nat.eq_of_testBit_eq
  intro i
  rw [Nat.testBit_or, Nat.testBit_div_two, Nat.testBit_div_two, Nat.testBit_div_two, Nat.testBit_or]
theorem or_mod2 (a b : Nat) (h : b % 2 = 0) : (a ||| b) % 2 = a % 2 := by
  have h1 := Nat.testBit_or a b 0
  rw [Nat.testBit_zero, Nat.testBit_zero, Nat.testBit_zero] at h1
  rcases Nat.mod_two_eq_zero_or_one a with ha | ha <;> rcases Nat.mod_two_eq_zero_or_one (a ||| b) with hc | hc <;> simp_all
theorem add_pow_or : ∀ (x a : Nat), a.testBit x = false → a + 2 ^ x = a ||| 2 ^ x
  | 0, a, h => by
    rw [Nat.testBit_zero] at h
    have h0 : a % 2 = 0 := by
      rcases Nat.mod_two_eq_zero_or_one a with h' | h'
      · exact h'
      · rw [h'] at h; cases h
    have h1 : (a ||| 1) / 2 = a / 2 := by rw [or_half]; simp
    have h2 : (a ||| 1) % 2 = 1 := by
      have h3 := Nat.testBit_or a 1 0
      rw [Nat.testBit_zero, Nat.testBit_zero, Nat.testBit_zero] at h3
      rcases Nat.mod_two_eq_zero_or_one (a ||| 1) with hc | hc <;> simp_all
    show a + 1 = a ||| 1
    omega
  | x + 1, a, h => by
    have h' : (a / 2).testBit x = false := by rw [Nat.testBit_div_two]; exact h
    have ih := add_pow_or x (a / 2) h'
    have e : 2 ^ (x + 1) = 2 * 2 ^ x := by rw [Nat.pow_succ, Nat.mul_comm]
    have h1 : (a ||| 2 ^ (x + 1)) / 2 = a / 2 ||| 2 ^ x := by rw [or_half, e, Nat.mul_div_cancel_left _ (by decide)]
    have h2 : (a ||| 2 ^ (x + 1)) % 2 = a % 2 := or_mod2 _ _ (by rw [e]; omega)
    omega

def setR (G : List Int) : Nat → List Int → Option Nat
  | acc, [] => some acc
  | acc, x :: r => if !hasG G x || acc.testBit x.toNat then none else setR G (acc ||| 2 ^ x.toNat) r
theorem setR_all {G : List Int} : ∀ {L : List Int} {acc a : Nat}, setR G acc L = some a → ∀ x ∈ L, hasG G x = true
  | [], _, _, _, x, hx => by cases hx
  | y :: r, acc, a, h, x, hx => by
    unfold setR at h
    split at h
    · cases h
    · rename_i hn
      simp only [Bool.or_eq_true, Bool.not_eq_true', not_or, Bool.not_eq_false, Bool.not_eq_true] at hn
      rcases List.mem_cons.1 hx with rfl | hx
      · exact hn.1
      · exact setR_all h x hx
def setRes (G L : List Int) : Int × Bool := match setR G 0 L with
  | some a => ((a : Int), isG G)
  | none => (0, false)
theorem drop_consI {G : List Int} {k : Nat} {n : Int} {r : List Int} (h : G.drop k = n :: r) : k < G.length ∧ G.getD k 0 = n ∧ G.drop (k + 1) = r := drop_facts h 0
theorem in_setR {G : List Int} {x : Int} (h : hasG G x = true) : ∃ n : Nat, x = n ∧ n < 24 := by
  have := hasG_spec h
  exact ⟨x.toNat, by omega, by omega⟩
theorem bits24 {a n : Nat} (ha : a < 16777216) (hn : n < 24) : a ||| 2 ^ n < 16777216 := Nat.or_lt_two_pow (n := 24) ha (two_pow_lt hn)
end Go.Proofs.Ytbajbkdmfdfdmaa
