/-
  PlainH: is a number a set; how many elements (IsSumFree, IsDirect, IsTiling).
-/
import Derived.Test.YtbajbkdmfdfdmaaPlainG
set_option linter.unusedVariables false
set_option linter.unusedSimpArgs false
namespace Go.Proofs.Ytbajbkdmfdfdmaa
open Go Ev

def setG (G : List Int) (a : Int) : Bool := isG G && (decide (a ≥ 0) && decide (a < shl64 1 (ordG G)))
theorem shl_ord {g : List Nat} (v : VG g) : shl64 1 (ordN g : Int) = ((2 ^ ordN g : Nat) : Int) := shl1_nat (by have := v.ord; omega)
theorem full_ord {g : List Nat} (v : VG g) : w64 (shl64 1 (ordN g : Int) - 1) = ((2 ^ ordN g - 1 : Nat) : Int) := by
  rw [shl_ord v]
  have h1 : 1 ≤ 2 ^ ordN g := Nat.one_le_two_pow
  have h2 : 2 ^ ordN g ≤ 2 ^ 24 := Nat.pow_le_pow_right (by decide) v.ord
  rw [w64_in (by omega) (by omega)]
  omega
theorem nat_of_set {G : List Int} {a : Int} (h : setG G a = true) : ∃ g n, G = natsI g ∧ VG g ∧ a = ((n : Nat) : Int) ∧ n < 2 ^ ordN g := by
  unfold setG at h
  simp only [Bool.and_eq_true, decide_eq_true_eq] at h
  obtain ⟨h1, h2, h3⟩ := h
  obtain ⟨g, rfl, v⟩ := nat_of_isG h1
  rw [v.ordG, shl_ord v] at h3
  exact ⟨g, a.toNat, rfl, v, by omega, by omega⟩
theorem s_IsSet_eq (G : List Int) (a : Int) (h : G.length ≤ lim) : f_s_IsSet (ints G) a = some (setG G a) := by
  simp only [f_s_IsSet, f_s_IsSet_k, s_IsGroup_eq G h, bo_some, s_l2Order_eq G h, s_l1In_eq, setG]
  cases hg : isG G with
  | false => rfl
  | true =>
    obtain ⟨g, rfl, v⟩ := nat_of_isG hg
    rw [prodW_nat g v.len v.each, v.ordG, full_ord v, shl_ord v]
    have h1 : 1 ≤ 2 ^ ordN g := Nat.one_le_two_pow
    have e : decide (a ≤ ((2 ^ ordN g - 1 : Nat) : Int)) = decide (a < ((2 ^ ordN g : Nat) : Int)) := by rw [decide_eq_decide]; omega
    simp only [neg_dec, inB, e, Bool.true_and]
    rfl
theorem i_IsSet_eq (G : List Int) (a : Int) (h : G.length ≤ lim) : f_i_IsSet (ints G) a = some (setG G a) := by
  simp only [f_i_IsSet, f_i_IsSet_k, i_IsGroup_eq G h, bo_some, i_OrderOf_eq G h, setG]
  cases hg : isG G with
  | false => rfl
  | true =>
    obtain ⟨g, rfl, v⟩ := nat_of_isG hg
    rw [v.ordG, shl_ord v]
    simp only [neg_dec, Bool.true_and]
    cases decide (a ≥ 0) <;> rfl

/-! ### How many elements -/
def pcn : Nat → Nat → Nat
  | 0, _ => 0
  | n + 1, a => a % 2 + pcn n (a / 2)
theorem filter_len (n a : Nat) : ((List.range n).filter fun x => a.testBit x).length = pcn n a := by
  induction n generalizing a with
  | zero => rfl
  | succ n ih =>
    rw [List.range_succ_eq_map, List.filter_cons, List.filter_map, pcn, ← ih (a / 2)]
    have e : ((fun x => a.testBit x) ∘ Nat.succ) = fun x => (a / 2).testBit x := by
      funext x
      simp only [Function.comp_apply, Nat.succ_eq_add_one, Nat.testBit_div_two]
    rw [e, Nat.testBit_zero]
    rcases Nat.mod_two_eq_zero_or_one a with h | h
    · simp [h]
    · simp [h]; omega
def popN (a : Nat) : Nat := pcn 63 a
theorem elems_pop (a : Nat) : (elems a).length = popN a := filter_len 63 a
theorem pcn_le (n a : Nat) : pcn n a ≤ n := by
  induction n generalizing a with
  | zero => exact Nat.le_refl _
  | succ n ih => have := ih (a / 2); show a % 2 + pcn n (a / 2) ≤ n + 1; omega
theorem pcn_zero (n : Nat) : pcn n 0 = 0 := by
  induction n with
  | zero => rfl
  | succ n ih => simpa [pcn] using ih
theorem and_half (a b : Nat) : (a &&& b) / 2 = (a / 2) &&& (b / 2) := by
  apply Nat.eq_of_testBit_eq
  intro i
  rw [Nat.testBit_and, Nat.testBit_div_two, Nat.testBit_div_two, Nat.testBit_div_two, Nat.testBit_and]
theorem and_mod2 (a b : Nat) : (a &&& b) % 2 = (a % 2) * (b % 2) := by
  have h := Nat.testBit_and a b 0
  rw [Nat.testBit_zero, Nat.testBit_zero, Nat.testBit_zero] at h
  rcases Nat.mod_two_eq_zero_or_one a with ha | ha <;> rcases Nat.mod_two_eq_zero_or_one b with hb | hb <;> rcases Nat.mod_two_eq_zero_or_one (a &&& b) with hc | hc <;> simp_all
theorem pcn_clear (n : Nat) : ∀ a, 0 < a → a < 2 ^ n → pcn n (a &&& (a - 1)) + 1 = pcn n a := by
  induction n with
  | zero => intro a h1 h2; simp at h2; omega
  | succ n ih =>
    intro a h1 h2
    rw [Nat.pow_succ] at h2
    simp only [pcn, and_half, and_mod2]
    rcases Nat.mod_two_eq_zero_or_one a with h | h
    · have e : (a - 1) / 2 = a / 2 - 1 := by omega
      have := ih (a / 2) (by omega) (by omega)
      rw [h, e]
      omega
    · have e : (a - 1) / 2 = a / 2 := by omega
      have e2 : (a - 1) % 2 = 0 := by omega
      rw [h, e, e2, Nat.and_self]
      omega
theorem i_bits_eq {a : Nat} (ha : a < 9223372036854775808) : f_i_bits (a : Int) = some ((popN a : Nat) : Int) := by
  have key : ∀ (p a n : Nat), popN a = p → a < 9223372036854775808 → n + p ≤ 63 → loopL f_i_bits_r0 ((a : Int), (n : Int)) = some (.one ((n + p : Nat) : Int)) := by
    intro p
    induction p with
    | zero =>
      intro a n hp ha hn
      have h0 : a = 0 := by
        rcases Nat.eq_zero_or_pos a with h | h
        · exact h
        · have h1 : popN (a &&& (a - 1)) + 1 = popN a := pcn_clear 63 a h ha
          omega
      subst h0
      exact loopL_one rfl
    | succ p ih =>
      intro a n hp ha hn
      have h0 : a ≠ 0 := by
        intro h
        subst h
        unfold popN at hp
        rw [pcn_zero] at hp
        cases hp
      have e1 : decide (a ≠ 0) = true := by simpa using h0
      have e2 : w64 ((a : Int) - 1) = ((a - 1 : Nat) : Int) := by rw [w64_in (by omega) (by omega)]; omega
      have hc := pcn_clear 63 a (Nat.pos_of_ne_zero h0) ha
      rw [loopL_again (s' := (((a &&& (a - 1) : Nat) : Int), ((n + 1 : Nat) : Int))) (by
        simp only [f_i_bits_r0, f_i_bits_k0, ne_zero_dec, e1, br_true, e2, and64_nat ha (by omega : a - 1 < 9223372036854775808), w64_nat (by omega : n < 9223372036854775807)])]
      have hc' : popN (a &&& (a - 1)) = p := by
        have h1 : popN (a &&& (a - 1)) + 1 = popN a := hc
        omega
      have h2 := ih (a &&& (a - 1)) (n + 1) hc' (Nat.lt_of_le_of_lt Nat.and_le_left ha) (by omega)
      rw [show n + (p + 1) = n + 1 + p by omega]
      exact h2
  have hp := pcn_le 63 a
  have := key (popN a) a 0 rfl ha (by unfold popN; omega)
  simp only [f_i_bits, f_i_bits_k]
  rw [show ((0 : Nat) : Int) = 0 from rfl] at this
  rw [this, bl1_one, Nat.zero_add]
theorem pcn_small : ∀ (d n a : Nat), a < 2 ^ d → d ≤ n → pcn n a = pcn d a := by
  intro d
  induction d with
  | zero =>
    intro n a ha _
    have h0 : a = 0 := by simpa using ha
    subst h0
    rw [pcn_zero, pcn_zero]
  | succ d ih =>
    intro n a ha hn
    obtain ⟨m, rfl⟩ : ∃ m, n = m + 1 := ⟨n - 1, by omega⟩
    rw [Nat.pow_succ] at ha
    show a % 2 + pcn m (a / 2) = a % 2 + pcn d (a / 2)
    rw [ih m (a / 2) (by omega) (by omega)]
theorem s_l3Bits_eq {a : Nat} (ha : a < 9223372036854775808) : f_s_l3Bits (a : Int) = some ((popN a : Nat) : Int) := by
  have key : ∀ (d a n : Nat), a < 2 ^ d → a < 9223372036854775808 → n + d ≤ 63 → loopL f_s_l3Bits_r0 ((n : Int), (a : Int)) = some (.one ((n + pcn d a : Nat) : Int)) := by
    intro d
    induction d with
    | zero =>
      intro a n ha _ hn
      have h0 : a = 0 := by simpa using ha
      subst h0
      exact loopL_one rfl
    | succ d ih =>
      intro a n ha ha' hn
      rw [Nat.pow_succ] at ha
      by_cases h0 : a = 0
      · subst h0
        rw [pcn_zero]
        exact loopL_one rfl
      · have e1 : decide ((a : Int) > 0) = true := by simp; omega
        have e2 : and64 (a : Int) 1 = ((a % 2 : Nat) : Int) := by
          rw [show (1 : Int) = ((1 : Nat) : Int) from rfl, and64_nat ha' (by decide), Nat.and_one_is_mod]
        have e3 : shr64 (a : Int) 1 = ((a / 2 : Nat) : Int) := by
          rw [show (1 : Int) = ((1 : Nat) : Int) from rfl, shr64_nat ha', Nat.shiftRight_eq_div_pow, Nat.pow_one]
        have e4 : w64 ((n : Int) + ((a % 2 : Nat) : Int)) = ((n + a % 2 : Nat) : Int) := by rw [← Int.natCast_add]; exact w64_cast (by omega)
        rw [loopL_again (s' := (((n + a % 2 : Nat) : Int), ((a / 2 : Nat) : Int))) (by
          simp only [f_s_l3Bits_r0, f_s_l3Bits_k0, e1, br_true, e2, e3, e4])]
        by_cases hd : d = 0
        · subst hd
          have : a = 1 := by omega
          subst this
          exact loopL_one rfl
        · by_cases hq : n + a % 2 + d ≤ 63
          · rw [ih (a / 2) (n + a % 2) (by omega) (by omega) hq]
            show some (En.one (((n + a % 2 + pcn d (a / 2) : Nat)) : Int)) = some (En.one (((n + (a % 2 + pcn d (a / 2)) : Nat)) : Int))
            rw [Nat.add_assoc]
          · omega
  have := key 63 a 0 ha ha (by omega)
  simp only [f_s_l3Bits, f_s_l3Bits_k]
  rw [show ((0 : Nat) : Int) = 0 from rfl] at this
  rw [this, bl1_one, Nat.zero_add]
  rfl
theorem popN_le (a : Nat) : popN a ≤ 63 := pcn_le 63 a
theorem set_i64 {g : List Nat} (v : VG g) {a : Nat} (h : a < 2 ^ ordN g) : a < 9223372036854775808 := Nat.lt_trans (pow24 v h) (by decide)
theorem i_areSets_eq (G : List Int) (L : List Int) (h : G.length ≤ lim) (hL : L.length ≤ lim) : f_i_areSets (ints G) (ints L) = some (!L.any (fun x => !setG G x) && isG G) := by
  have hl := lim_lt hL
  have key := loop_any (rd := f_i_areSets_r0 (ints G) (ints L) (L.length : Int)) (fun k => (k : Int)) L.length (fun k => !setG G (L.getD k 0)) (a := ()) (b := ()) (fun k hk => by
    simp only [f_i_areSets_r0, f_i_areSets_k0, lt_dec hk, ok_nat hk, at_nat, br_true, w64_nat (by omega : k < 9223372036854775807), i_IsSet_eq G _ h, bo_some]
    cases setG G (L.getD k 0) <;> rfl)
    (by simp only [f_i_areSets_r0, f_i_areSets_k0, lt_dec_self, br_false])
  rw [show (((0 : Nat)) : Int) = 0 from rfl, range_any L (fun x => !setG G x)] at key
  simp only [f_i_areSets, f_i_areSets_k, ints_length, key, i_IsGroup_eq G h, bo_some]
  cases L.any (fun x => !setG G x) <;> rfl
def directG (G : List Int) (a b : Int) : Bool := setG G a && (setG G b && decide (popN (sumN (G.map Int.toNat) a.toNat b.toNat) = popN a.toNat * popN b.toNat))
theorem toNat_natsI (g : List Nat) : (natsI g).map Int.toNat = g := by
  unfold natsI
  rw [List.map_map]
  conv => rhs; rw [← List.map_id g]
  exact List.map_congr_left fun x _ => by simp
theorem pop_mul (p q r : Nat) (hp : p ≤ 63) (hq : q ≤ 63) : ((r : Int) == w64 ((p : Int) * (q : Int))) = decide (r = p * q) := by
  have : p * q ≤ 63 * 63 := Nat.mul_le_mul hp hq
  rw [← Int.natCast_mul, w64_cast (by omega), Bool.eq_iff_iff]
  simp only [beq_iff_eq, decide_eq_true_eq]
  omega
theorem directG_sets {G : List Int} {a b : Int} (h : directG G a b = true) : ∃ g n m, G = natsI g ∧ VG g ∧ a = ((n : Nat) : Int) ∧ n < 2 ^ ordN g ∧ b = ((m : Nat) : Int) ∧ m < 2 ^ ordN g := by
  unfold directG at h
  simp only [Bool.and_eq_true] at h
  obtain ⟨ha, hb, _⟩ := h
  obtain ⟨g, n, rfl, v, rfl, hn⟩ := nat_of_set ha
  obtain ⟨g', m, hg', v', rfl, hm⟩ := nat_of_set hb
  have : g' = g := by rw [← toNat_natsI g, hg', toNat_natsI]
  subst this
  exact ⟨g', n, m, rfl, v, rfl, hn, rfl, hm⟩
end Go.Proofs.Ytbajbkdmfdfdmaa
