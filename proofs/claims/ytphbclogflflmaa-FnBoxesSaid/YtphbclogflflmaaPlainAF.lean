/-
  PlainAF: FindBox, IsBox.
-/
import Derived.Test.YtphbclogflflmaaPlainY
import Derived.Test.YtphbclogflflmaaPlainM
set_option linter.unusedVariables false
set_option linter.unusedSimpArgs false
namespace Go.Proofs.Ytphbclogflflmaa
open Go Ev

theorem root_ex : ∀ n : Nat, ∃ K, (∀ k, k < K → (k + 1) * (k + 1) ≤ n) ∧ n < (K + 1) * (K + 1)
  | 0 => ⟨0, fun k h => by omega, by decide⟩
  | n + 1 => by
    obtain ⟨K, h1, h2⟩ := root_ex n
    by_cases h : n + 1 < (K + 1) * (K + 1)
    · exact ⟨K, fun k hk => by have := h1 k hk; omega, h⟩
    · refine ⟨K + 1, fun k hk => ?_, ?_⟩
      · rcases Nat.lt_or_ge k K with h' | h'
        · have := h1 k h'; omega
        · rw [show k = K by omega]; omega
      · have : (K + 1) * (K + 1) < (K + 1 + 1) * (K + 1 + 1) := Nat.mul_self_lt_mul_self (by omega)
        omega
def bxP (g : List Nat) (n s x y : Nat) : Nat := sumN g (progN g 0 x s).2 (progN g 0 y (n / s)).2
def bxZ (g : List Nat) (a n s x y z : Nat) : Bool := decide (shiftN g (bxP g n s x y) z = a)
def bxOk (g : List Nat) (a n s x y : Nat) : Bool := decide (popN (bxP g n s x y) = n) && (List.range (ordN g)).any (bxZ g a n s x y)
def bxY (g : List Nat) (a n s x : Nat) : Option Nat := (List.range (ordN g)).find? (bxOk g a n s x)
def bxX (g : List Nat) (a n s : Nat) : Option Nat := (List.range (ordN g)).find? fun x => (bxY g a n s x).isSome
def bxS (g : List Nat) (a n K : Nat) : Option Nat := (List.range K).find? fun k => decide (n % (k + 1) = 0) && (bxX g a n (k + 1)).isSome
def prY (n s x y : Nat) : List Sc × List Sc := (ints (natsI [s, n / s]), ints (natsI [x, y]))
def prX (g : List Nat) (a n s x : Nat) : List Sc × List Sc := prY n s x ((bxY g a n s x).getD 0)
def prS (g : List Nat) (a n s : Nat) : List Sc × List Sc := prX g a n s ((bxX g a n s).getD 0)
theorem bxP_lt {g : List Nat} (v : VG g) (n s x y : Nat) : bxP g n s x y < 2 ^ ordN g := sumN_lt v _ _
theorem quo_nat {n s : Nat} (h : n ≤ 24) : w64 ((n : Int).tdiv (s : Int)) = ((n / s : Nat) : Int) := by
  rw [tdiv_nat]
  exact w64_cast (Nat.lt_of_le_of_lt (Nat.div_le_self n s) (by omega))
theorem s_ne {s : Nat} (h : 1 ≤ s) : ((s : Int) == 0) = false := by
  have : ¬ ((s : Int) = 0) := by omega
  simpa using this
theorem pop24 {g : List Nat} (v : VG g) {a : Nat} (ha : a < 2 ^ ordN g) : popN a ≤ 24 := by
  have h := pow24 v ha
  have := pcn_small 24 63 a h (by decide)
  have h2 := pcn_le 24 a
  unfold popN
  omega
theorem s_bx6 {g : List Nat} (v : VG g) {a n s x y : Nat} (hs : 1 ≤ s) (hn : n ≤ 24) :
    loopL (f_s_FindBox_r6 (a : Int) (ints (natsI g)) (n : Int) ((ordN g : Nat) : Int) (s : Int) (x : Int) ((progN g 0 x s).2 : Nat) (y : Int) ((bxP g n s x y : Nat) : Int)) 0 = if (List.range (ordN g)).any (bxZ g a n s x y) then some (.two (prY n s x y)) else some (.one ()) := by
  have h24 := v.ord
  refine loop_any (rd := f_s_FindBox_r6 (a : Int) (ints (natsI g)) (n : Int) ((ordN g : Nat) : Int) (s : Int) (x : Int) ((progN g 0 x s).2 : Nat) (y : Int) ((bxP g n s x y : Nat) : Int)) (fun k => (k : Int)) (ordN g) (bxZ g a n s x y) (fun z hz => ?_) ?_
  · simp only [f_s_FindBox_r6, f_s_FindBox_k6, lt_dec hz, br_true, s_l3Shift_eq v (bxP_lt v n s x y) hz, bo_some, eq_nat_decM, s_ne hs, quo_nat hn, w64_nat (by omega : z < 9223372036854775807)]
    have : bxZ g a n s x y z = decide (shiftN g (bxP g n s x y) z = a) := rfl
    rw [this]
    cases decide (shiftN g (bxP g n s x y) z = a) <;> rfl
  · simp only [f_s_FindBox_r6, f_s_FindBox_k6, lt_dec_self, br_false]
theorem s_bx4 {g : List Nat} (v : VG g) {a n s x : Nat} (hs : 1 ≤ s) (hs2 : s ≤ 24) (hn : n ≤ 24) (hx : x < ordN g) :
    loopL (f_s_FindBox_r4 (a : Int) (ints (natsI g)) (n : Int) ((ordN g : Nat) : Int) (s : Int) (x : Int) ((progN g 0 x s).2 : Nat)) 0 = match bxY g a n s x with
      | some y => some (.two (prY n s x y))
      | none => some (.one ((ordN g : Nat) : Int)) := by
  have h24 := v.ord
  have h0 := ordN_pos v.each
  refine loop_find (rd := f_s_FindBox_r4 (a : Int) (ints (natsI g)) (n : Int) ((ordN g : Nat) : Int) (s : Int) (x : Int) ((progN g 0 x s).2 : Nat)) (fun k => (k : Int)) (ordN g) (bxOk g a n s x) (prY n s x) (fun y hy => ?_) ?_
  · have hq : n / s ≤ 24 := Nat.le_trans (Nat.div_le_self n s) hn
    have hp := s_prog_eq v (x := 0) (d := y) (by omega) hy hq
    rw [show ((0 : Nat) : Int) = 0 from rfl] at hp
    have hl4 := s_l4Sum_eq v (progN_snd v (by omega : 0 < ordN g) x s) (progN_snd v (by omega : 0 < ordN g) y (n / s))
    rw [sumN_comm] at hl4
    have hl4 : f_s_l4Sum (ints (natsI g)) ((progN g 0 x s).2 : Nat) ((progN g 0 y (n / s)).2 : Nat) = some ((bxP g n s x y : Nat) : Int) := hl4
    have hlt := set_i64 v (bxP_lt v n s x y)
    simp only [f_s_FindBox_r4, f_s_FindBox_k4, lt_dec hy, br_true, s_ne hs, br_false, quo_nat hn, hp, bo_some, hl4, s_l3Bits_eq hlt, s_bx6 v hs hn, w64_nat (by omega : y < 9223372036854775807)]
    have e1 : (((popN (bxP g n s x y) : Nat) : Int) != (n : Int)) = !decide (popN (bxP g n s x y) = n) := by rw [← eq_nat_decM]; rfl
    have e2 : bxOk g a n s x y = (decide (popN (bxP g n s x y) = n) && (List.range (ordN g)).any (bxZ g a n s x y)) := rfl
    rw [e1, e2]
    cases decide (popN (bxP g n s x y) = n) with
    | false => rfl
    | true => cases (List.range (ordN g)).any (bxZ g a n s x y) <;> rfl
  · simp only [f_s_FindBox_r4, f_s_FindBox_k4, lt_dec_self, br_false]
theorem s_bx2 {g : List Nat} (v : VG g) {a n s : Nat} (hs : 1 ≤ s) (hs2 : s ≤ 24) (hn : n ≤ 24) :
    loopL (f_s_FindBox_r2 (a : Int) (ints (natsI g)) (n : Int) ((ordN g : Nat) : Int) (s : Int)) 0 = match bxX g a n s with
      | some x => some (.two (prX g a n s x))
      | none => some (.one ((ordN g : Nat) : Int)) := by
  have h24 := v.ord
  have h0 := ordN_pos v.each
  refine loop_find (rd := f_s_FindBox_r2 (a : Int) (ints (natsI g)) (n : Int) ((ordN g : Nat) : Int) (s : Int)) (fun k => (k : Int)) (ordN g) (fun x => (bxY g a n s x).isSome) (prX g a n s) (fun x hx => ?_) ?_
  · have hp := s_prog_eq v (x := 0) (d := x) (by omega) hx hs2
    rw [show ((0 : Nat) : Int) = 0 from rfl] at hp
    simp only [f_s_FindBox_r2, f_s_FindBox_k2, lt_dec hx, br_true, hp, bo_some, s_bx4 v hs hs2 hn hx, w64_nat (by omega : x < 9223372036854775807)]
    unfold prX
    cases bxY g a n s x <;> rfl
  · simp only [f_s_FindBox_r2, f_s_FindBox_k2, lt_dec_self, br_false]
theorem i_bx6 {g : List Nat} (v : VG g) {a n s x y : Nat} (hs : 1 ≤ s) (hn : n ≤ 24) (p1 p2 p3 p4 : Int) :
    loopL (f_i_FindBox_r6 (a : Int) (ints (natsI g)) ((ordN g : Nat) : Int) (n : Int) (s : Int) (x : Int) (y : Int) ((bxP g n s x y : Nat) : Int) p1 p2 p3 p4 ((ordN g : Nat) : Int)) 0 = if (List.range (ordN g)).any (bxZ g a n s x y) then some (.two (prY n s x y)) else some (.one ()) := by
  have h24 := v.ord
  refine loop_any (rd := f_i_FindBox_r6 (a : Int) (ints (natsI g)) ((ordN g : Nat) : Int) (n : Int) (s : Int) (x : Int) (y : Int) ((bxP g n s x y : Nat) : Int) p1 p2 p3 p4 ((ordN g : Nat) : Int)) (fun k => (k : Int)) (ordN g) (bxZ g a n s x y) (fun z hz => ?_) ?_
  · simp only [f_i_FindBox_r6, f_i_FindBox_k6, lt_dec hz, br_true, i_shift_eq v (bxP_lt v n s x y) hz, bo_some, eq_nat_decM, s_ne hs, quo_nat hn, w64_nat (by omega : z < 9223372036854775807)]
    have : bxZ g a n s x y z = decide (shiftN g (bxP g n s x y) z = a) := rfl
    rw [this]
    cases decide (shiftN g (bxP g n s x y) z = a) <;> rfl
  · simp only [f_i_FindBox_r6, f_i_FindBox_k6, lt_dec_self, br_false]
theorem i_bx4 {g : List Nat} (v : VG g) {a n s x : Nat} (hs : 1 ≤ s) (hs2 : s ≤ 24) (hn : n ≤ 24) (hx : x < ordN g) (p1 p2 : Int) :
    loopL (f_i_FindBox_r4 (a : Int) (ints (natsI g)) ((ordN g : Nat) : Int) (n : Int) (s : Int) (x : Int) p1 p2 ((ordN g : Nat) : Int)) 0 = match bxY g a n s x with
      | some y => some (.two (prY n s x y))
      | none => some (.one ((ordN g : Nat) : Int)) := by
  have h24 := v.ord
  have h0 := ordN_pos v.each
  refine loop_find (rd := f_i_FindBox_r4 (a : Int) (ints (natsI g)) ((ordN g : Nat) : Int) (n : Int) (s : Int) (x : Int) p1 p2 ((ordN g : Nat) : Int)) (fun k => (k : Int)) (ordN g) (bxOk g a n s x) (prY n s x) (fun y hy => ?_) ?_
  · have hq : n / s ≤ 24 := Nat.le_trans (Nat.div_le_self n s) hn
    have hp := i_prog_eq v (x := 0) (d := y) (by omega) hy hq
    have hp' := i_prog_eq v (x := 0) (d := x) (by omega) hx hs2
    rw [show ((0 : Nat) : Int) = 0 from rfl] at hp hp'
    have hl4 := i_sum_eq v (progN_snd v (by omega : 0 < ordN g) x s) (progN_snd v (by omega : 0 < ordN g) y (n / s))
    have hl4 : f_i_Group_sum (ints (natsI g)) ((progN g 0 x s).2 : Nat) ((progN g 0 y (n / s)).2 : Nat) = some ((bxP g n s x y : Nat) : Int) := hl4
    have hlt := set_i64 v (bxP_lt v n s x y)
    simp only [f_i_FindBox_r4, f_i_FindBox_k4, lt_dec hy, br_true, hp', s_ne hs, br_false, quo_nat hn, hp, bo_some, hl4, i_bits_eq hlt, i_bx6 v hs hn, w64_nat (by omega : y < 9223372036854775807)]
    have e1 : (((popN (bxP g n s x y) : Nat) : Int) != (n : Int)) = !decide (popN (bxP g n s x y) = n) := by rw [← eq_nat_decM]; rfl
    have e2 : bxOk g a n s x y = (decide (popN (bxP g n s x y) = n) && (List.range (ordN g)).any (bxZ g a n s x y)) := rfl
    rw [e1, e2]
    cases decide (popN (bxP g n s x y) = n) with
    | false => rfl
    | true => cases (List.range (ordN g)).any (bxZ g a n s x y) <;> rfl
  · simp only [f_i_FindBox_r4, f_i_FindBox_k4, lt_dec_self, br_false]
theorem i_bx2 {g : List Nat} (v : VG g) {a n s : Nat} (hs : 1 ≤ s) (hs2 : s ≤ 24) (hn : n ≤ 24) :
    loopL (f_i_FindBox_r2 (a : Int) (ints (natsI g)) ((ordN g : Nat) : Int) (n : Int) (s : Int) ((ordN g : Nat) : Int)) 0 = match bxX g a n s with
      | some x => some (.two (prX g a n s x))
      | none => some (.one ((ordN g : Nat) : Int)) := by
  have h24 := v.ord
  refine loop_find (rd := f_i_FindBox_r2 (a : Int) (ints (natsI g)) ((ordN g : Nat) : Int) (n : Int) (s : Int) ((ordN g : Nat) : Int)) (fun k => (k : Int)) (ordN g) (fun x => (bxY g a n s x).isSome) (prX g a n s) (fun x hx => ?_) ?_
  · simp only [f_i_FindBox_r2, f_i_FindBox_k2, lt_dec hx, br_true, i_bx4 v hs hs2 hn hx, w64_nat (by omega : x < 9223372036854775807)]
    unfold prX
    cases bxY g a n s x <;> rfl
  · simp only [f_i_FindBox_r2, f_i_FindBox_k2, lt_dec_self, br_false]
theorem sq_bound {n K : Nat} (hn : n ≤ 24) (h : ∀ k, k < K → (k + 1) * (k + 1) ≤ n) : K ≤ 24 := by
  rcases Nat.lt_or_ge 24 K with hk | hk
  · have := h 24 hk
    omega
  · exact hk
theorem sq_le {n k : Nat} (hk : k ≤ 24) : decide (w64 (((k + 1 : Nat) : Int) * ((k + 1 : Nat) : Int)) ≤ (n : Int)) = decide ((k + 1) * (k + 1) ≤ n) := by
  have hb : (k + 1) * (k + 1) ≤ 25 * 25 := Nat.mul_le_mul (by omega) (by omega)
  rw [← Int.natCast_mul, w64_cast (by omega)]
  by_cases h : (k + 1) * (k + 1) ≤ n
  · rw [decide_eq_true h]; exact decide_eq_true (by omega)
  · rw [decide_eq_false h]; exact decide_eq_false (by omega)
theorem rem_nat (n s : Nat) : (((n : Int).tmod (s : Int)) != 0) = !decide (n % s = 0) := by
  rw [tmod_nat, show (0 : Int) = ((0 : Nat) : Int) from rfl, ← eq_nat_decM]
  rfl
theorem FindBox_both (G : List Int) (a : Int) (h : G.length ≤ lim) : ∃ R S b, f_s_FindBox (ints G) a = some (ints R, ints S, b) ∧ f_i_FindBox (ints G) a = some (ints R, ints S, b) ∧ R.length ≤ 12 ∧ S.length ≤ 12 := by
  simp only [f_s_FindBox, f_s_FindBox_k, f_i_FindBox, f_i_FindBox_k, s_IsSet_eq G a h, i_IsSet_eq G a h, i_OrderOf_eq G h, bo_some]
  cases hs : setG G a with
  | false => exact ⟨[], [], _, rfl, rfl, by simp, by simp⟩
  | true =>
    obtain ⟨g, m, rfl, v, rfl, hm⟩ := nat_of_set hs
    have z : (((m : Nat) : Int) == 0) = decide (m = 0) := eq_nat_decM m 0
    rw [z]
    by_cases h0 : m = 0
    · rw [decide_eq_true h0]; exact ⟨[], [], _, rfl, rfl, by simp, by simp⟩
    · have hm' := set_i64 v hm
      have hn := pop24 v hm
      generalize hpn : popN m = n at hn
      obtain ⟨K, hK1, hK2⟩ := root_ex n
      have hK := sq_bound hn hK1
      have ks := loop_find (rd := f_s_FindBox_r0 (m : Int) (ints (natsI g)) (n : Int) ((ordN g : Nat) : Int)) (fun k => ((k + 1 : Nat) : Int)) K (fun k => decide (n % (k + 1) = 0) && (bxX g m n (k + 1)).isSome) (fun k => prS g m n (k + 1)) (a := ((K + 1 : Nat) : Int)) (fun k hk => by
        have q := hK1 k hk
        simp only [f_s_FindBox_r0, f_s_FindBox_k0, sq_le (show k ≤ 24 by omega), decide_eq_true q, br_true, s_ne (show 1 ≤ k + 1 by omega), br_false, rem_nat, s_bx2 v (show 1 ≤ k + 1 by omega) (by omega) hn, w64_nat (by omega : k + 1 < 9223372036854775807)]
        unfold prS
        cases decide (n % (k + 1) = 0) with
        | false => rfl
        | true => cases bxX g m n (k + 1) <;> rfl) (by
        simp only [f_s_FindBox_r0, f_s_FindBox_k0, sq_le hK, decide_eq_false (show ¬ (K + 1) * (K + 1) ≤ n by omega), br_false])
      have ki := loop_find (rd := f_i_FindBox_r0 (m : Int) (ints (natsI g)) ((ordN g : Nat) : Int) (n : Int)) (fun k => ((k + 1 : Nat) : Int)) K (fun k => decide (n % (k + 1) = 0) && (bxX g m n (k + 1)).isSome) (fun k => prS g m n (k + 1)) (a := ((K + 1 : Nat) : Int)) (fun k hk => by
        have q := hK1 k hk
        simp only [f_i_FindBox_r0, f_i_FindBox_k0, sq_le (show k ≤ 24 by omega), decide_eq_true q, br_true, s_ne (show 1 ≤ k + 1 by omega), br_false, rem_nat, i_bx2 v (show 1 ≤ k + 1 by omega) (by omega) hn, w64_nat (by omega : k + 1 < 9223372036854775807)]
        unfold prS
        cases decide (n % (k + 1) = 0) with
        | false => rfl
        | true => cases bxX g m n (k + 1) <;> rfl) (by
        simp only [f_i_FindBox_r0, f_i_FindBox_k0, sq_le hK, decide_eq_false (show ¬ (K + 1) * (K + 1) ≤ n by omega), br_false])
      rw [show ((0 + 1 : Nat) : Int) = 1 from rfl] at ks ki
      have bf : (decide False == false) = true := rfl
      simp only [decide_eq_false h0, s_l3Bits_eq hm', i_bits_eq hm', s_l2Order_eq _ h, prodW_nat g v.len v.each, v.ordG, bo_some, hpn, ks, ki]
      cases (List.range K).find? (fun k => decide (n % (k + 1) = 0) && (bxX g m n (k + 1)).isSome) with
      | none => exact ⟨[], [], _, rfl, rfl, by simp, by simp⟩
      | some k => exact ⟨_, _, _, rfl, rfl, by simp [natsI], by simp [natsI]⟩
end Go.Proofs.Ytphbclogflflmaa
