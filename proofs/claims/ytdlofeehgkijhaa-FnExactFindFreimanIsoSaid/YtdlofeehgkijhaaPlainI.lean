/-
  PlainI: maps that keep sums (IsFreimanMap, IsFreimanIso).
-/
import Derived.Test.YtdlofeehgkijhaaPlainH
set_option linter.unusedVariables false
set_option linter.unusedSimpArgs false
namespace Go.Proofs.Ytdlofeehgkijhaa
open Go Ev

section
variable {S A B : Type} {rd : S → Option (Ro S A B)}
/-- A loop that counts from s to n and may stop. -/
theorem loop_from (st : Nat → S) (s n : Nat) (hs : s ≤ n) (p : Nat → Bool) {a : A} {b : B} (h : ∀ k, s ≤ k → k < n → rd (st k) = if p k then some (.two b) else some (.again (st (k + 1)))) (he : rd (st n) = some (.one a)) :
    loopL rd (st s) = if (List.range' s (n - s)).any p then some (.two b) else some (.one a) := by
  obtain ⟨d, rfl⟩ : ∃ d, n = s + d := ⟨n - s, by omega⟩
  clear hs
  rw [Nat.add_sub_cancel_left]
  induction d generalizing s with
  | zero => exact loopL_one he
  | succ d ih =>
    rw [List.range'_succ, List.any_cons]
    have h0 := h s (Nat.le_refl _) (by omega)
    cases hp : p s with
    | true => rw [hp] at h0; rw [loopL_two h0]; rfl
    | false =>
      rw [hp] at h0
      rw [loopL_again h0]
      have e : s + 1 + d = s + (d + 1) := by omega
      rw [ih (s + 1) (fun k hk hk' => h k (by omega) (by omega)) (by rw [e]; exact he)]
      rfl
end
theorem any_range'_iff {s n : Nat} {p : Nat → Bool} : (List.range' s (n - s)).any p = true ↔ ∃ k, s ≤ k ∧ k < n ∧ p k = true := by
  rw [List.any_eq_true]
  constructor
  · rintro ⟨k, hk, hp⟩
    have := List.mem_range'_1.1 hk
    exact ⟨k, this.1, by omega, hp⟩
  · rintro ⟨k, h1, h2, hp⟩
    exact ⟨k, List.mem_range'_1.2 ⟨h1, by omega⟩, hp⟩

/-- Do four places break a sum? -/
def breaks (g h l m : List Nat) (a b c d : Nat) : Bool := decide (addN g (l.getD a 0) (l.getD b 0) = addN g (l.getD c 0) (l.getD d 0)) && decide (addN h (m.getD a 0) (m.getD b 0) ≠ addN h (m.getD c 0) (m.getD d 0))
theorem breaks_swap (g h l m : List Nat) (a b c d : Nat) : breaks g h l m a b c d = breaks g h l m c d a b := by
  unfold breaks
  rw [Bool.eq_iff_iff]
  simp only [Bool.and_eq_true, decide_eq_true_eq]
  constructor <;> rintro ⟨h1, h2⟩ <;> exact ⟨h1.symm, fun e => h2 e.symm⟩

structure VM (g h l m : List Nat) : Prop where
  gg : VG g
  hh : VG h
  ll : ∀ x ∈ l, x < ordN g
  mm : ∀ x ∈ m, x < ordN h
  len : l.length = m.length
  six : l.length ≤ 6
theorem at_lt {n : Nat} {l : List Nat} (hl : ∀ x ∈ l, x < n) {k : Nat} (hk : k < l.length) : l.getD k 0 < n := hl _ (by simp [List.getD, List.getElem?_eq_getElem hk])
theorem eq_nat_dec (a b : Nat) : ((a : Int) == (b : Int)) = decide (a = b) := by
  rw [Bool.eq_iff_iff]
  simp only [beq_iff_eq, decide_eq_true_eq]
  omega
theorem ne_nat_dec (a b : Nat) : ((a : Int) != (b : Int)) = decide (a ≠ b) := by
  rw [Bool.eq_iff_iff]
  simp only [bne_iff_ne, decide_eq_true_eq]
  omega

def kp6 (g h l m : List Nat) (a b c : Nat) : Bool := (List.range' c (l.length - c)).any fun d => breaks g h l m a b c d
def skp4 (g h l m : List Nat) (a b : Nat) : Bool := (List.range' 0 (a + 1 - 0)).any fun c => kp6 g h l m a b c
def skp2 (g h l m : List Nat) (a : Nat) : Bool := (List.range' a (l.length - a)).any fun b => skp4 g h l m a b
def skp0 (g h l m : List Nat) : Bool := (List.range' 0 (l.length - 0)).any fun a => skp2 g h l m a
theorem s_keeps6 {g h l m : List Nat} (v : VM g h l m) {a b c : Nat} (ha : a < l.length) (hb : b < l.length) (hc : c < l.length) :
    loopL (f_s_l15Keeps_r6 (ints (natsI l)) (ints (natsI m)) (ints (natsI g)) (ints (natsI h)) (a : Int) (b : Int) (c : Int)) (c : Int) = if kp6 g h l m a b c then some (.two ()) else some (.one ()) := by
  have h6 := v.six
  have hgo := v.gg.ord
  have hho := v.hh.ord
  have hlen := v.len
  refine loop_from (fun k => (k : Int)) c l.length (by omega) (fun d => breaks g h l m a b c d) (fun d hcd hd => ?_) ?_
  · have l1 := at_lt v.ll ha
    have l2 := at_lt v.ll hb
    have l3 := at_lt v.ll hc
    have l4 := at_lt v.ll hd
    have m1 := at_lt v.mm (hlen ▸ ha)
    have m2 := at_lt v.mm (hlen ▸ hb)
    have m3 := at_lt v.mm (hlen ▸ hc)
    have m4 := at_lt v.mm (hlen ▸ hd)
    simp only [f_s_l15Keeps_r6, f_s_l15Keeps_k6, ints_length, natsI_length, lt_dec hd, ok_natsI ha, ok_natsI hb, ok_natsI hc, ok_natsI hd, ok_natsI (hlen ▸ ha), ok_natsI (hlen ▸ hb), ok_natsI (hlen ▸ hc), ok_natsI (hlen ▸ hd), at_natsI, br_true,
      s_l2Add_eq v.gg (by omega : l.getD a 0 < 4611686018427387904) (by omega : l.getD b 0 < 4611686018427387904), s_l2Add_eq v.gg (by omega : l.getD c 0 < 4611686018427387904) (by omega : l.getD d 0 < 4611686018427387904),
      s_l2Add_eq v.hh (by omega : m.getD a 0 < 4611686018427387904) (by omega : m.getD b 0 < 4611686018427387904), s_l2Add_eq v.hh (by omega : m.getD c 0 < 4611686018427387904) (by omega : m.getD d 0 < 4611686018427387904), bo_some, eq_nat_dec, ne_nat_dec, w64_nat (by omega : d < 9223372036854775807)]
    have hbk : breaks g h l m a b c d = (decide (addN g (l.getD a 0) (l.getD b 0) = addN g (l.getD c 0) (l.getD d 0)) && decide (addN h (m.getD a 0) (m.getD b 0) ≠ addN h (m.getD c 0) (m.getD d 0))) := rfl
    rw [hbk]
    cases decide (addN g (l.getD a 0) (l.getD b 0) = addN g (l.getD c 0) (l.getD d 0)) <;> cases decide (addN h (m.getD a 0) (m.getD b 0) ≠ addN h (m.getD c 0) (m.getD d 0)) <;> rfl
  · simp only [f_s_l15Keeps_r6, f_s_l15Keeps_k6, ints_length, natsI_length, lt_dec_self, br_false]
theorem s_keeps4 {g h l m : List Nat} (v : VM g h l m) {a b : Nat} (ha : a < l.length) (hb : b < l.length) :
    ∃ e, loopL (f_s_l15Keeps_r4 (ints (natsI l)) (ints (natsI m)) (ints (natsI g)) (ints (natsI h)) (a : Int) (b : Int)) 0 = if skp4 g h l m a b then some (.two ()) else some (.one e) := by
  have h6 := v.six
  refine ⟨((a + 1 : Nat) : Int), loop_from (fun k => (k : Int)) 0 (a + 1) (by omega) (fun c => kp6 g h l m a b c) (fun c _ hc => ?_) ?_⟩
  · have e1 : decide ((c : Int) ≤ (a : Int)) = true := by simp; omega
    simp only [f_s_l15Keeps_r4, f_s_l15Keeps_k4, e1, br_true, s_keeps6 v ha hb (by omega : c < l.length), w64_nat (by omega : c < 9223372036854775807)]
    cases kp6 g h l m a b c <;> rfl
  · have e1 : decide (((a + 1 : Nat) : Int) ≤ (a : Int)) = false := by simp; omega
    simp only [f_s_l15Keeps_r4, f_s_l15Keeps_k4, e1, br_false]
theorem s_keeps2 {g h l m : List Nat} (v : VM g h l m) {a : Nat} (ha : a < l.length) :
    ∃ e, loopL (f_s_l15Keeps_r2 (ints (natsI l)) (ints (natsI m)) (ints (natsI g)) (ints (natsI h)) (a : Int)) (a : Int) = if skp2 g h l m a then some (.two ()) else some (.one e) := by
  have h6 := v.six
  refine ⟨(l.length : Int), loop_from (fun k => (k : Int)) a l.length (by omega) (fun b => skp4 g h l m a b) (fun b _ hb => ?_) ?_⟩
  · obtain ⟨e, he⟩ := s_keeps4 v ha hb
    simp only [f_s_l15Keeps_r2, f_s_l15Keeps_k2, ints_length, natsI_length, lt_dec hb, br_true, he, w64_nat (by omega : b < 9223372036854775807)]
    cases skp4 g h l m a b <;> rfl
  · simp only [f_s_l15Keeps_r2, f_s_l15Keeps_k2, ints_length, natsI_length, lt_dec_self, br_false]
theorem s_keeps_eq {g h l m : List Nat} (v : VM g h l m) : f_s_l15Keeps (ints (natsI g)) (ints (natsI h)) (ints (natsI l)) (ints (natsI m)) = some (!skp0 g h l m) := by
  have h6 := v.six
  have key : loopL (f_s_l15Keeps_r0 (ints (natsI l)) (ints (natsI m)) (ints (natsI g)) (ints (natsI h))) ((0 : Nat) : Int) = if skp0 g h l m then some (.two ()) else some (.one (l.length : Int)) := by
    refine loop_from (fun k => (k : Int)) 0 l.length (by omega) (fun a => skp2 g h l m a) (fun a _ ha => ?_) ?_
    · obtain ⟨e, he⟩ := s_keeps2 v ha
      simp only [f_s_l15Keeps_r0, f_s_l15Keeps_k0, ints_length, natsI_length, lt_dec ha, br_true, he, w64_nat (by omega : a < 9223372036854775807)]
      cases skp2 g h l m a <;> rfl
    · simp only [f_s_l15Keeps_r0, f_s_l15Keeps_k0, ints_length, natsI_length, lt_dec_self, br_false]
  rw [show ((0 : Nat) : Int) = 0 from rfl] at key
  simp only [f_s_l15Keeps, f_s_l15Keeps_k, key]
  cases skp0 g h l m <;> rfl
def ikp4 (g h l m : List Nat) (a b : Nat) : Bool := (List.range' 0 (l.length - 0)).any fun c => kp6 g h l m a b c
def ikp2 (g h l m : List Nat) (a : Nat) : Bool := (List.range' a (l.length - a)).any fun b => ikp4 g h l m a b
def ikp0 (g h l m : List Nat) : Bool := (List.range' 0 (l.length - 0)).any fun a => ikp2 g h l m a
theorem i_keeps6 {g h l m : List Nat} (v : VM g h l m) {a b c : Nat} (ha : a < l.length) (hb : b < l.length) (hc : c < l.length) (x y z w : Int) :
    loopL (f_i_keeps_r6 (ints (natsI l)) (ints (natsI m)) (ints (natsI g)) (ints (natsI h)) (a : Int) (b : Int) (c : Int) x y z w) (c : Int) = if kp6 g h l m a b c then some (.two ()) else some (.one ()) := by
  have h6 := v.six
  have hgo := v.gg.ord
  have hho := v.hh.ord
  have hlen := v.len
  refine loop_from (fun k => (k : Int)) c l.length (by omega) (fun d => breaks g h l m a b c d) (fun d hcd hd => ?_) ?_
  · have l1 := at_lt v.ll ha
    have l2 := at_lt v.ll hb
    have l3 := at_lt v.ll hc
    have l4 := at_lt v.ll hd
    have m1 := at_lt v.mm (hlen ▸ ha)
    have m2 := at_lt v.mm (hlen ▸ hb)
    have m3 := at_lt v.mm (hlen ▸ hc)
    have m4 := at_lt v.mm (hlen ▸ hd)
    simp only [f_i_keeps_r6, f_i_keeps_k6, ints_length, natsI_length, lt_dec hd, ok_natsI ha, ok_natsI hb, ok_natsI hc, ok_natsI hd, ok_natsI (hlen ▸ ha), ok_natsI (hlen ▸ hb), ok_natsI (hlen ▸ hc), ok_natsI (hlen ▸ hd), at_natsI, br_true,
      i_add_eq v.gg (by omega : l.getD a 0 < 4611686018427387904) (by omega : l.getD b 0 < 4611686018427387904), i_add_eq v.gg (by omega : l.getD c 0 < 4611686018427387904) (by omega : l.getD d 0 < 4611686018427387904),
      i_add_eq v.hh (by omega : m.getD a 0 < 4611686018427387904) (by omega : m.getD b 0 < 4611686018427387904), i_add_eq v.hh (by omega : m.getD c 0 < 4611686018427387904) (by omega : m.getD d 0 < 4611686018427387904), bo_some, eq_nat_dec, ne_nat_dec, w64_nat (by omega : d < 9223372036854775807)]
    have hbk : breaks g h l m a b c d = (decide (addN g (l.getD a 0) (l.getD b 0) = addN g (l.getD c 0) (l.getD d 0)) && decide (addN h (m.getD a 0) (m.getD b 0) ≠ addN h (m.getD c 0) (m.getD d 0))) := rfl
    rw [hbk]
    cases decide (addN g (l.getD a 0) (l.getD b 0) = addN g (l.getD c 0) (l.getD d 0)) <;> cases decide (addN h (m.getD a 0) (m.getD b 0) ≠ addN h (m.getD c 0) (m.getD d 0)) <;> rfl
  · simp only [f_i_keeps_r6, f_i_keeps_k6, ints_length, natsI_length, lt_dec_self, br_false]
theorem i_keeps4 {g h l m : List Nat} (v : VM g h l m) {a b : Nat} (ha : a < l.length) (hb : b < l.length) (x y : Int) :
    ∃ e, loopL (f_i_keeps_r4 (ints (natsI l)) (ints (natsI m)) (ints (natsI g)) (ints (natsI h)) (a : Int) (b : Int) x y (l.length : Int)) 0 = if ikp4 g h l m a b then some (.two ()) else some (.one e) := by
  have h6 := v.six
  refine ⟨(l.length : Int), loop_from (fun k => (k : Int)) 0 l.length (by omega) (fun c => kp6 g h l m a b c) (fun c _ hc => ?_) ?_⟩
  · simp only [f_i_keeps_r4, f_i_keeps_k4, lt_dec hc, br_true, i_keeps6 v ha hb hc, w64_nat (by omega : c < 9223372036854775807)]
    cases kp6 g h l m a b c <;> rfl
  · simp only [f_i_keeps_r4, f_i_keeps_k4, lt_dec_self, br_false]
theorem i_keeps2 {g h l m : List Nat} (v : VM g h l m) {a : Nat} (ha : a < l.length) (x y : Int) :
    ∃ e, loopL (f_i_keeps_r2 (ints (natsI l)) (ints (natsI m)) (ints (natsI g)) (ints (natsI h)) (a : Int) x y) (a : Int) = if ikp2 g h l m a then some (.two ()) else some (.one e) := by
  have h6 := v.six
  refine ⟨(l.length : Int), loop_from (fun k => (k : Int)) a l.length (by omega) (fun b => ikp4 g h l m a b) (fun b _ hb => ?_) ?_⟩
  · obtain ⟨e, he⟩ := i_keeps4 v ha hb x y
    simp only [f_i_keeps_r2, f_i_keeps_k2, ints_length, natsI_length, lt_dec hb, br_true, he, w64_nat (by omega : b < 9223372036854775807)]
    cases ikp4 g h l m a b <;> rfl
  · simp only [f_i_keeps_r2, f_i_keeps_k2, ints_length, natsI_length, lt_dec_self, br_false]
theorem i_keeps_eq {g h l m : List Nat} (v : VM g h l m) : f_i_keeps (ints (natsI g)) (ints (natsI h)) (ints (natsI l)) (ints (natsI m)) = some (!ikp0 g h l m) := by
  have h6 := v.six
  have key : loopL (f_i_keeps_r0 (ints (natsI l)) (ints (natsI m)) (ints (natsI g)) (ints (natsI h)) (l.length : Int)) ((0 : Nat) : Int) = if ikp0 g h l m then some (.two ()) else some (.one (l.length : Int)) := by
    refine loop_from (fun k => (k : Int)) 0 l.length (by omega) (fun a => ikp2 g h l m a) (fun a _ ha => ?_) ?_
    · obtain ⟨e, he⟩ := i_keeps2 v ha (l.length : Int) (a : Int)
      simp only [f_i_keeps_r0, f_i_keeps_k0, lt_dec ha, br_true, he, w64_nat (by omega : a < 9223372036854775807)]
      cases ikp2 g h l m a <;> rfl
    · simp only [f_i_keeps_r0, f_i_keeps_k0, lt_dec_self, br_false]
  rw [show ((0 : Nat) : Int) = 0 from rfl] at key
  simp only [f_i_keeps, f_i_keeps_k, ints_length, natsI_length, key]
  cases ikp0 g h l m <;> rfl
theorem kp_same (g h l m : List Nat) : skp0 g h l m = ikp0 g h l m := by
  rw [Bool.eq_iff_iff]
  unfold skp0 ikp0 skp2 ikp2 skp4 ikp4 kp6
  simp only [any_range'_iff]
  constructor
  · rintro ⟨a, h1, h2, b, h3, h4, c, h5, h6, d, h7, h8, hp⟩
    exact ⟨a, h1, h2, b, h3, h4, c, h5, by omega, d, h7, h8, hp⟩
  · rintro ⟨a, h1, h2, b, h3, h4, c, h5, h6, d, h7, h8, hp⟩
    rcases Nat.lt_or_ge a c with hc | hc
    · exact ⟨c, h5, h6, d, h7, h8, a, h1, by omega, b, h3, h4, by rw [breaks_swap]; exact hp⟩
    · exact ⟨a, h1, h2, b, h3, h4, c, h5, by omega, d, h7, h8, hp⟩

/-! ### SetOf -/
theorem or_half (a b : Nat) : (a ||| b) / 2 = (a / 2) ||| (b / 2) := by
  apply Nat.eq_of_testBit_eq
  intro i
  rw [Nat.testBit_or, Nat.testBit_div_two, Nat.testBit_div_two, Nat.testBit_div_two, Nat.testBit_or]
theorem or_mod2 (a b : Nat) (h : b % 2 = 0) : (a ||| b) % 2 = a % 2 := by
  have h1 := Nat.testBit_or a b 0
  rw [Nat.testBit_zero, Nat.testBit_zero, Nat.testBit_zero] at h1
  rcases Nat.mod_two_eq_zero_or_one a with ha | ha <;> rcases Nat.mod_two_eq_zero_or_one (a ||| b) with hc | hc <;> simp_all
theorem add_pow_or : ∀ (x a : Nat), a.testBit x = false → a + 2 ^ x = a ||| 2 ^ x
  | 0, a, h => by
    rw [Nat.testBit_zero] at h
    have h0 : a % 2 = 0 := by
      rcases Nat.mod_two_eq_zero_or_one a with h' | h'
      · exact h'
      · rw [h'] at h; cases h
    have h1 : (a ||| 1) / 2 = a / 2 := by rw [or_half]; simp
    have h2 : (a ||| 1) % 2 = 1 := by
      have h3 := Nat.testBit_or a 1 0
      rw [Nat.testBit_zero, Nat.testBit_zero, Nat.testBit_zero] at h3
      rcases Nat.mod_two_eq_zero_or_one (a ||| 1) with hc | hc <;> simp_all
    show a + 1 = a ||| 1
    omega
  | x + 1, a, h => by
    have h' : (a / 2).testBit x = false := by rw [Nat.testBit_div_two]; exact h
    have ih := add_pow_or x (a / 2) h'
    have e : 2 ^ (x + 1) = 2 * 2 ^ x := by rw [Nat.pow_succ, Nat.mul_comm]
    have h1 : (a ||| 2 ^ (x + 1)) / 2 = a / 2 ||| 2 ^ x := by rw [or_half, e, Nat.mul_div_cancel_left _ (by decide)]
    have h2 : (a ||| 2 ^ (x + 1)) % 2 = a % 2 := or_mod2 _ _ (by rw [e]; omega)
    omega

def setR (G : List Int) : Nat → List Int → Option Nat
  | acc, [] => some acc
  | acc, x :: r => if !hasG G x || acc.testBit x.toNat then none else setR G (acc ||| 2 ^ x.toNat) r
theorem setR_all {G : List Int} : ∀ {L : List Int} {acc a : Nat}, setR G acc L = some a → ∀ x ∈ L, hasG G x = true
  | [], _, _, _, x, hx => by cases hx
  | y :: r, acc, a, h, x, hx => by
    unfold setR at h
    split at h
    · cases h
    · rename_i hn
      simp only [Bool.or_eq_true, Bool.not_eq_true', not_or, Bool.not_eq_false, Bool.not_eq_true] at hn
      rcases List.mem_cons.1 hx with rfl | hx
      · exact hn.1
      · exact setR_all h x hx
def setRes (G L : List Int) : Int × Bool := match setR G 0 L with
  | some a => ((a : Int), isG G)
  | none => (0, false)
theorem drop_consI {G : List Int} {k : Nat} {n : Int} {r : List Int} (h : G.drop k = n :: r) : k < G.length ∧ G.getD k 0 = n ∧ G.drop (k + 1) = r := drop_facts h 0
theorem in_setR {G : List Int} {x : Int} (h : hasG G x = true) : ∃ n : Nat, x = n ∧ n < 24 := by
  have := hasG_spec h
  exact ⟨x.toNat, by omega, by omega⟩
theorem bits24 {a n : Nat} (ha : a < 16777216) (hn : n < 24) : a ||| 2 ^ n < 16777216 := Nat.or_lt_two_pow (n := 24) ha (two_pow_lt hn)
theorem s_SetOf_eq (G L : List Int) (h : G.length ≤ lim) (hL : L.length ≤ lim) : f_s_SetOf (ints G) (ints L) = some (setRes G L) := by
  have hl := lim_lt hL
  have key : ∀ (r : List Int) (k acc : Nat), L.drop k = r → k ≤ L.length → acc < 16777216 → loopL (f_s_SetOf_r0 (ints L) (ints G)) ((acc : Int), (k : Int)) = match setR G acc r with
      | some a => some (.one (a : Int))
      | none => some (.two ()) := by
    intro r
    induction r with
    | nil =>
      intro k acc hd hk ha
      have : k = L.length := by
        have := List.drop_eq_nil_iff.1 hd
        omega
      subst this
      exact loopL_one (by simp only [f_s_SetOf_r0, f_s_SetOf_k0, ints_length, lt_dec_self, br_false])
    | cons x r ih =>
      intro k acc hd hk ha
      obtain ⟨hkl, hx, hd'⟩ := drop_consI hd
      have ha' : acc < 9223372036854775808 := Nat.lt_trans ha (by decide)
      cases hh : hasG G x with
      | false =>
        have e : setR G acc (x :: r) = none := by simp [setR, hh]
        rw [e]
        refine loopL_two ?_
        simp only [f_s_SetOf_r0, f_s_SetOf_k0, ints_length, lt_dec hkl, ok_nat hkl, at_nat, hx, br_true, s_l2Is_eq G _ h, bo_some, hh]
        rfl
      | true =>
        obtain ⟨n, rfl, hn⟩ := in_setR hh
        cases ht : acc.testBit n with
        | true =>
          have e : setR G acc ((n : Int) :: r) = none := by simp [setR, hh, ht]
          rw [e]
          refine loopL_two ?_
          simp only [f_s_SetOf_r0, f_s_SetOf_k0, ints_length, lt_dec hkl, ok_nat hkl, at_nat, hx, br_true, s_l2Is_eq G _ h, bo_some, hh, neg_dec, br_false, bit_test ha', ht]
          rfl
        | false =>
          have e : setR G acc ((n : Int) :: r) = setR G (acc ||| 2 ^ n) r := by simp [setR, hh, ht]
          rw [e]
          have hb := bits24 ha hn
          have e2 : w64 ((acc : Int) + shl64 1 (n : Int)) = ((acc ||| 2 ^ n : Nat) : Int) := by
            rw [shl1_nat (by omega), ← Int.natCast_add, add_pow_or n acc ht, w64_cast (by omega)]
          rw [loopL_again (s' := (((acc ||| 2 ^ n : Nat) : Int), ((k + 1 : Nat) : Int))) (by
            simp only [f_s_SetOf_r0, f_s_SetOf_k0, ints_length, lt_dec hkl, ok_nat hkl, at_nat, hx, br_true, s_l2Is_eq G _ h, bo_some, hh, neg_dec, br_false, bit_test ha', ht, e2, w64_nat (by omega : k < 9223372036854775807)]
            rfl)]
          exact ih (k + 1) _ hd' hkl hb
  have := key L 0 0 rfl (Nat.zero_le _) (by decide)
  simp only [f_s_SetOf, f_s_SetOf_k, s_IsGroup_eq G h, bo_some, setRes]
  rw [show ((0 : Nat) : Int) = 0 from rfl] at this
  rw [this]
  cases setR G 0 L <;> rfl
theorem i_SetOf_eq (G L : List Int) (h : G.length ≤ lim) (hL : L.length ≤ lim) : f_i_SetOf (ints G) (ints L) = some (setRes G L) := by
  have hl := lim_lt hL
  have key : ∀ (r : List Int) (k acc : Nat), L.drop k = r → k ≤ L.length → acc < 16777216 → loopL (f_i_SetOf_r0 (ints G) (ints L) (L.length : Int)) ((acc : Int), (k : Int)) = match setR G acc r with
      | some a => some (.one (a : Int))
      | none => some (.two ()) := by
    intro r
    induction r with
    | nil =>
      intro k acc hd hk ha
      have : k = L.length := by
        have := List.drop_eq_nil_iff.1 hd
        omega
      subst this
      exact loopL_one (by simp only [f_i_SetOf_r0, f_i_SetOf_k0, lt_dec_self, br_false])
    | cons x r ih =>
      intro k acc hd hk ha
      obtain ⟨hkl, hx, hd'⟩ := drop_consI hd
      have ha' : acc < 9223372036854775808 := Nat.lt_trans ha (by decide)
      cases hh : hasG G x with
      | false =>
        have e : setR G acc (x :: r) = none := by simp [setR, hh]
        rw [e]
        refine loopL_two ?_
        simp only [f_i_SetOf_r0, f_i_SetOf_k0, lt_dec hkl, ok_nat hkl, at_nat, hx, br_true, i_has_eq G _ h, bo_some, hh]
        rfl
      | true =>
        obtain ⟨n, rfl, hn⟩ := in_setR hh
        cases ht : acc.testBit n with
        | true =>
          have e : setR G acc ((n : Int) :: r) = none := by simp [setR, hh, ht]
          rw [e]
          refine loopL_two ?_
          simp only [f_i_SetOf_r0, f_i_SetOf_k0, lt_dec hkl, ok_nat hkl, at_nat, hx, br_true, i_has_eq G _ h, bo_some, hh, i_in_eq ha', ht]
          rfl
        | false =>
          have e : setR G acc ((n : Int) :: r) = setR G (acc ||| 2 ^ n) r := by simp [setR, hh, ht]
          rw [e]
          have hb := bits24 ha hn
          have e2 : or64 (acc : Int) (shl64 1 (n : Int)) = ((acc ||| 2 ^ n : Nat) : Int) := by
            rw [shl1_nat (by omega), or64_nat ha' (Nat.lt_trans (two_pow_lt hn) (by decide))]
          rw [loopL_again (s' := (((acc ||| 2 ^ n : Nat) : Int), ((k + 1 : Nat) : Int))) (by
            simp only [f_i_SetOf_r0, f_i_SetOf_k0, lt_dec hkl, ok_nat hkl, at_nat, hx, br_true, i_has_eq G _ h, bo_some, hh, neg_dec, br_false, i_in_eq ha', ht, e2, w64_nat (by omega : k < 9223372036854775807)]
            rfl)]
          exact ih (k + 1) _ hd' hkl hb
  have := key L 0 0 rfl (Nat.zero_le _) (by decide)
  simp only [f_i_SetOf, f_i_SetOf_k, ints_length, i_IsGroup_eq G h, bo_some, setRes]
  rw [show ((0 : Nat) : Int) = 0 from rfl] at this
  rw [this]
  cases setR G 0 L <;> rfl
end Go.Proofs.Ytdlofeehgkijhaa
