/-
  PlainD: numbers as sets of bits; adding in a group on natural numbers.
-/
import Derived.Test.YtdocbpiocinllaaPlainC
set_option linter.unusedVariables false
set_option linter.unusedSimpArgs false
namespace Go.Proofs.Ytdocbpiocinllaa
open Go Ev

/-! ### Words on small natural numbers -/
theorem w64_cast {n : Nat} (h : n < 9223372036854775808) : w64 (n : Int) = n := w64_in (by omega) (by omega)
theorem ofInt_cast {n : Nat} (h : n < 9223372036854775808) : (BitVec.ofInt 64 (n : Int)).toNat = n := by
  simp [BitVec.toNat_ofInt]
  omega
theorem wrap_cast {n : Nat} (h : n < 9223372036854775808) : IntKind.i64.wrap (n : Int) = n := w64_cast h
theorem and64_nat {a b : Nat} (ha : a < 9223372036854775808) (hb : b < 9223372036854775808) : and64 (a : Int) (b : Int) = ((a &&& b : Nat) : Int) := by
  have : (BitVec.ofInt 64 (a : Int) &&& BitVec.ofInt 64 (b : Int)).toNat = a &&& b := by rw [BitVec.toNat_and, ofInt_cast ha, ofInt_cast hb]
  show IntKind.i64.wrap ((BitVec.ofInt 64 (a : Int) &&& BitVec.ofInt 64 (b : Int)).toNat : Int) = _
  rw [this, wrap_cast (Nat.lt_of_le_of_lt Nat.and_le_left ha)]
theorem or64_nat {a b : Nat} (ha : a < 9223372036854775808) (hb : b < 9223372036854775808) : or64 (a : Int) (b : Int) = ((a ||| b : Nat) : Int) := by
  have : (BitVec.ofInt 64 (a : Int) ||| BitVec.ofInt 64 (b : Int)).toNat = a ||| b := by rw [BitVec.toNat_or, ofInt_cast ha, ofInt_cast hb]
  show IntKind.i64.wrap ((BitVec.ofInt 64 (a : Int) ||| BitVec.ofInt 64 (b : Int)).toNat : Int) = _
  rw [this, wrap_cast (Nat.or_lt_two_pow (n := 63) ha hb)]
theorem shl64_nat {a k : Nat} (hk : k ≤ 63) (h : a * 2 ^ k < 9223372036854775808) : shl64 (a : Int) (k : Int) = ((a * 2 ^ k : Nat) : Int) := by
  unfold shl64
  have e : min (k : Int).toNat IntKind.i64.bits = k := by
    rw [Int.toNat_natCast]
    exact Nat.min_eq_left (by show k ≤ 64; omega)
  rw [e, show ((a : Int) * 2 ^ k) = ((a * 2 ^ k : Nat) : Int) by push_cast; rfl]
  exact w64_cast h
theorem shl1_nat {k : Nat} (h : k ≤ 62) : shl64 1 (k : Int) = ((2 ^ k : Nat) : Int) := by
  have h2 : 2 ^ k ≤ 2 ^ 62 := Nat.pow_le_pow_right (by decide) h
  have := shl64_nat (a := 1) (k := k) (by omega) (by omega)
  simpa using this
theorem shr64_nat {a k : Nat} (ha : a < 9223372036854775808) : shr64 (a : Int) (k : Int) = ((a >>> k : Nat) : Int) := by
  unfold shr64
  rw [Int.toNat_natCast]
  have h2 : (2 : Int) ^ (min k IntKind.i64.bits) = ((2 ^ (min k 64) : Nat) : Int) := by push_cast; rfl
  rw [h2, Int.fdiv_eq_ediv_of_nonneg _ (Int.natCast_nonneg _), ← Int.natCast_ediv, Nat.shiftRight_eq_div_pow]
  congr 1
  by_cases hk : k ≤ 64
  · rw [Nat.min_eq_left hk]
  · rw [Nat.min_eq_right (by omega), Nat.div_eq_of_lt (by have : (9223372036854775808 : Nat) ≤ 2 ^ 64 := by decide
                                                          omega), Nat.div_eq_of_lt]
    have : (2 : Nat) ^ 64 ≤ 2 ^ k := Nat.pow_le_pow_right (by decide) (by omega)
    have h3 : (9223372036854775808 : Nat) ≤ 2 ^ 64 := by decide
    omega
theorem bit_test {a k : Nat} (ha : a < 9223372036854775808) : (and64 (shr64 (a : Int) (k : Int)) 1 == 1) = a.testBit k := by
  rw [shr64_nat ha, show (1 : Int) = ((1 : Nat) : Int) from rfl, and64_nat (Nat.lt_of_le_of_lt (Nat.shiftRight_le a k) ha) (by decide)]
  rw [Bool.eq_iff_iff]
  simp only [Nat.testBit, bne_iff_ne, beq_iff_eq]
  rw [Nat.and_comm 1]
  have : (a >>> k) &&& 1 = (a >>> k) % 2 := Nat.and_one_is_mod _
  rw [this]
  omega
theorem bit_test0 {a : Nat} (ha : a < 9223372036854775808) : (and64 (a : Int) 1 == 1) = a.testBit 0 := by
  have := bit_test (a := a) (k := 0) ha
  rw [shr64_nat ha] at this
  simpa using this

/-! ### The elements of a set -/
def elems (a : Nat) : List Nat := (List.range 63).filter fun x => a.testBit x
theorem mem_elems {a x : Nat} (ha : a < 9223372036854775808) : x ∈ elems a ↔ a.testBit x = true := by
  unfold elems
  simp only [List.mem_filter, List.mem_range, and_iff_right_iff_imp]
  intro h
  rcases Nat.lt_or_ge x 63 with hx | hx
  · exact hx
  · have : a < 2 ^ x := Nat.lt_of_lt_of_le ha (by have : (2:Nat) ^ 63 ≤ 2 ^ x := Nat.pow_le_pow_right (by decide) hx
                                                  exact this)
    rw [Nat.testBit_lt_two_pow this] at h
    cases h
/-- A union over a list. -/
def orAll (f : Nat → Nat) (l : List Nat) : Nat := l.foldl (fun o y => o ||| f y) 0
theorem orFold_test (f : Nat → Nat) (l : List Nat) (o z : Nat) : (l.foldl (fun o y => o ||| f y) o).testBit z = (o.testBit z || l.any fun y => (f y).testBit z) := by
  induction l generalizing o with
  | nil => simp
  | cons y l ih => simp only [List.foldl_cons, ih, Nat.testBit_or, List.any_cons, Bool.or_assoc]
theorem orAll_test (f : Nat → Nat) (l : List Nat) (z : Nat) : (orAll f l).testBit z = l.any fun y => (f y).testBit z := by
  unfold orAll
  rw [orFold_test]
  simp
theorem pow_test {k z : Nat} : (2 ^ k).testBit z = decide (k = z) := Nat.testBit_two_pow
theorem orFold_lt {f : Nat → Nat} {n : Nat} : ∀ {l : List Nat} {o : Nat}, o < 2 ^ n → (∀ y ∈ l, f y < 2 ^ n) → l.foldl (fun o y => o ||| f y) o < 2 ^ n
  | [], _, ho, _ => ho
  | y :: l, o, ho, h => orFold_lt (l := l) (Nat.or_lt_two_pow ho (h y (by simp))) fun z hz => h z (by simp [hz])

/-! ### Groups of natural numbers -/
def natsI (L : List Nat) : List Int := L.map fun (n : Nat) => (n : Int)
theorem natsI_length (L : List Nat) : (natsI L).length = L.length := by simp [natsI]
theorem natsI_getD (L : List Nat) (k : Nat) : (natsI L).getD k 0 = ((L.getD k 0 : Nat) : Int) := by
  unfold natsI
  simp only [List.getD, List.getElem?_map]
  cases L[k]? <;> rfl
def ordN : List Nat → Nat
  | [] => 1
  | n :: r => n * ordN r
structure VG (G : List Nat) : Prop where
  len : G.length ≤ 3
  each : ∀ n ∈ G, 2 ≤ n ∧ n ≤ 24
  ord : ordN G ≤ 24

theorem prodW_nat (G : List Nat) (hlen : G.length ≤ 3) (he : ∀ n ∈ G, 2 ≤ n ∧ n ≤ 24) : prodW (natsI G) = (ordN G : Nat) := by
  have w : ∀ x : Nat, x ≤ 20000 → w64 (x : Int) = x := fun x a => w64_cast (by omega)
  match G, hlen, he with
  | [], _, _ => rfl
  | [a], _, h2 =>
    have ha := h2 a (by simp)
    simp only [prodW, natsI, List.map, List.foldl, Int.one_mul, ordN, Nat.mul_one]
    exact w a (by omega)
  | [a, b], _, h2 =>
    have ha := h2 a (by simp)
    have hb := h2 b (by simp)
    simp only [prodW, natsI, List.map, List.foldl, Int.one_mul, ordN, Nat.mul_one]
    have hab2 : a * b ≤ 24 * 24 := Nat.mul_le_mul ha.2 hb.2
    rw [w a (by omega), ← Int.natCast_mul, w (a * b) (by omega)]
  | [a, b, c], _, h2 =>
    have ha := h2 a (by simp)
    have hb := h2 b (by simp)
    have hc := h2 c (by simp)
    simp only [prodW, natsI, List.map, List.foldl, Int.one_mul, ordN, Nat.mul_one]
    have hab2 : a * b ≤ 24 * 24 := Nat.mul_le_mul ha.2 hb.2
    have habc2 : a * b * c ≤ 24 * 24 * 24 := Nat.mul_le_mul hab2 hc.2
    rw [w a (by omega), ← Int.natCast_mul, w (a * b) (by omega), ← Int.natCast_mul, w _ (by omega), Nat.mul_assoc]
  | _ :: _ :: _ :: _ :: _, h1, _ => simp at h1

theorem nat_of_isG {G : List Int} (h : isG G = true) : ∃ g, G = natsI g ∧ VG g := by
  obtain ⟨h1, h2, h3⟩ := isG_spec h
  have e : G = natsI (G.map Int.toNat) := by
    unfold natsI
    rw [List.map_map]
    conv => lhs; rw [← List.map_id G]
    refine List.map_congr_left fun x hx => ?_
    have := h2 x hx
    show x = ((x.toNat : Nat) : Int)
    omega
  have he : ∀ n ∈ G.map Int.toNat, 2 ≤ n ∧ n ≤ 24 := by
    intro n hn
    obtain ⟨x, hx, rfl⟩ := List.mem_map.1 hn
    have := h2 x hx
    omega
  have hl : (G.map Int.toNat).length ≤ 3 := by simpa using h1
  refine ⟨G.map Int.toNat, e, hl, he, ?_⟩
  have := prodW_nat _ hl he
  rw [← e] at this
  omega
theorem VG.isG {g : List Nat} (h : VG g) : isG (natsI g) = true := by
  unfold Go.Proofs.Ytdocbpiocinllaa.isG
  have := prodW_nat g h.len h.each
  have h3 := h.ord
  simp only [natsI_length, Bool.and_eq_true, decide_eq_true_eq, List.all_eq_true, this]
  refine ⟨h.len, fun x hx => ?_, by omega⟩
  unfold natsI at hx
  obtain ⟨n, hn, rfl⟩ := List.mem_map.1 hx
  have := h.each n hn
  simp only [inB, Bool.and_eq_true, decide_eq_true_eq]
  omega
theorem VG.ordG {g : List Nat} (h : VG g) : ordG (natsI g) = (ordN g : Nat) := by
  unfold Go.Proofs.Ytdocbpiocinllaa.ordG
  rw [h.isG, if_pos rfl, prodW_nat g h.len h.each]
theorem VG.lim {g : List Nat} (h : VG g) : (natsI g).length ≤ lim := by
  rw [natsI_length]
  exact Nat.le_trans h.len (by decide)
theorem ordN_pos {g : List Nat} (h : ∀ n ∈ g, 2 ≤ n ∧ n ≤ 24) : 1 ≤ ordN g := by
  induction g with
  | nil => exact Nat.le_refl _
  | cons n r ih =>
    have := ih fun m hm => h m (by simp [hm])
    have hn := h n (by simp)
    show 1 ≤ n * ordN r
    exact Nat.mul_pos (by omega) this
theorem VG.has {g : List Nat} (h : VG g) (x : Int) : hasG (natsI g) x = true ↔ ∃ n : Nat, x = n ∧ n < ordN g := by
  unfold hasG
  rw [h.ordG]
  simp only [Bool.and_eq_true, decide_eq_true_eq]
  constructor
  · rintro ⟨h1, h2⟩
    exact ⟨x.toNat, by omega, by omega⟩
  · rintro ⟨n, rfl, h2⟩
    omega
end Go.Proofs.Ytdocbpiocinllaa
