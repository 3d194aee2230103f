/-
  PlainAC: WeightedZero.
-/
import Derived.Test.YtphbclogflflmaaPlainW
set_option linter.unusedVariables false
set_option linter.unusedSimpArgs false
namespace Go.Proofs.Ytphbclogflflmaa
open Go Ev

def sgnW (x : Nat) : Int := if x = 0 then 0 else if x = 1 then 1 else -1
/-- The signs of a code, the first term's digit counting most; what the terms with these signs add up to. -/
def preW : Nat → Nat → List Int
  | 0, _ => []
  | i + 1, c => preW i (c / 3) ++ [sgnW (c % 3)]
def totW (g l : List Nat) : Nat → Nat → Nat
  | 0, _ => 0
  | i + 1, c => addN g (totW g l i (c / 3)) (mulN g (l.getD i 0) (sgnW (c % 3)))
theorem preW_len : ∀ i c, (preW i c).length = i
  | 0, _ => rfl
  | i + 1, c => by rw [preW, List.length_append, preW_len i]; rfl
theorem totW_lt {g : List Nat} (v : VG g) (l : List Nat) : ∀ i c, totW g l i c < ordN g
  | 0, _ => ordN_pos v.each
  | i + 1, c => addN_lt v.each _ _
theorem preW_snoc (i P x : Nat) (hx : x < 3) : preW (i + 1) (P * 3 + x) = preW i P ++ [sgnW x] := by
  rw [preW, show (P * 3 + x) / 3 = P by omega, show (P * 3 + x) % 3 = x by omega]
theorem totW_snoc (g l : List Nat) (i P x : Nat) (hx : x < 3) : totW g l (i + 1) (P * 3 + x) = addN g (totW g l i P) (mulN g (l.getD i 0) (sgnW x)) := by
  rw [totW, show (P * 3 + x) / 3 = P by omega, show (P * 3 + x) % 3 = x by omega]
theorem mul0 (g : List Nat) (a : Nat) : mulN g a 0 = 0 := rfl
theorem mul1 {g : List Nat} (v : VG g) {a : Nat} (ha : a < ordN g) : mulN g a 1 = a := addN_zero g a v.each ha
theorem mulm {g : List Nat} (v : VG g) (a : Nat) : mulN g a (-1) = negN g a := addN_zero g _ v.each (negN_lt v.each a)
theorem repl_set (j : Nat) (t : List Int) (y : Int) : (List.replicate (j + 1) 0 ++ t).set j y = List.replicate j 0 ++ (y :: t) := by
  rw [List.replicate_succ', List.append_assoc, List.set_append_right _ _ (by simp), List.length_replicate, Nat.sub_self]
  rfl
theorem repl_same (j : Nat) (t : List Int) : List.replicate (j + 1) 0 ++ t = List.replicate j 0 ++ ((0 : Int) :: t) := by
  rw [List.replicate_succ', List.append_assoc]
  rfl
def gzW (g l : List Nat) (c : Nat) : Bool := decide (c ≠ 0) && decide (totW g l l.length c = 0)
theorem pow3 {k : Nat} (h : k ≤ 7) : 3 ^ k ≤ 2187 := Nat.pow_le_pow_right (n := 3) (by decide) h
theorem range3 (A m : Nat) : List.range' (A * (m * 3)) (m * 3) = List.range' ((A * 3 + 0) * m) m ++ (List.range' ((A * 3 + 1) * m) m ++ List.range' ((A * 3 + 2) * m) m) := by
  have e0 : (A * 3 + 0) * m = A * (m * 3) := by rw [Nat.add_zero, Nat.mul_assoc, Nat.mul_comm 3 m]
  have e1 : (A * 3 + 1) * m = A * (m * 3) + m := by rw [Nat.add_mul, Nat.mul_assoc, Nat.mul_comm 3 m, Nat.one_mul]
  have e2 : (A * 3 + 2) * m = A * (m * 3) + m + m := by rw [Nat.add_mul, Nat.mul_assoc, Nat.mul_comm 3 m]; omega
  rw [e0, e1, e2, List.range'_append_1, List.range'_append_1]
  congr 1
  omega
theorem s_wz_inner {g l : List Nat} (v : VG g) (hl : ∀ x ∈ l, x < ordN g) (h7 : l.length ≤ 7) (p q : Int) : ∀ (j x : Nat) (t : List Int) (z : Nat), j ≤ l.length → j + t.length = l.length → x < 2187 → z < ordN g →
    loopL (f_s_WeightedZero_r4 (ints (natsI l)) (ints (natsI g)) p q) (ints (List.replicate j 0 ++ t), (x : Int), (z : Int), (j : Int) - 1) = some (.one (ints (preW j x ++ t), ((addN g (totW g l j x) z : Nat) : Int)))
  | 0, x, t, z, hj, ht, hx, hz => by
    have e : addN g (totW g l 0 x) z = z := addN_zero g z v.each hz
    rw [e]
    exact loopL_one rfl
  | j + 1, x, t, z, hj, ht, hx, hz => by
    have h24 := v.ord
    have ej : (((j + 1 : Nat) : Int)) - 1 = (j : Int) := by omega
    have hjl : j < l.length := by omega
    have hlj := at_lt hl hjl
    have d0 : decide ((j : Int) ≥ 0) = true := decide_eq_true (by omega)
    have em : ((x : Nat) : Int).tmod 3 = ((x % 3 : Nat) : Int) := rfl
    have ed : w64 (((x : Nat) : Int).tdiv 3) = ((x / 3 : Nat) : Int) := by
      have : ((x : Nat) : Int).tdiv 3 = ((x / 3 : Nat) : Int) := rfl
      rw [this]
      exact w64_cast (by omega)
    have ew : w64 ((j : Int) - 1) = (j : Int) - 1 := w64_in (by omega) (by omega)
    have hin : inRange (j : Int) (List.replicate (j + 1) (0 : Int) ++ t).length = true := in_nat (by rw [List.length_append, List.length_replicate]; omega)
    have q1 : (((x % 3 : Nat) : Int) == 1) = decide (x % 3 = 1) := eq_nat_decM (x % 3) 1
    have q2 : (((x % 3 : Nat) : Int) == 2) = decide (x % 3 = 2) := eq_nat_decM (x % 3) 2
    have hm := addN_lt v.each z (mulN g (l.getD j 0) (sgnW (x % 3)))
    rw [ej, loopL_again (s' := (ints (List.replicate j 0 ++ (sgnW (x % 3) :: t)), ((x / 3 : Nat) : Int), ((addN g z (mulN g (l.getD j 0) (sgnW (x % 3))) : Nat) : Int), (j : Int) - 1)) (by
      simp only [f_s_WeightedZero_r4, f_s_WeightedZero_k4, d0, br_true, em, q1, q2, ed, ew, ints_length, hin, ok_natsI hjl, at_natsI, Int.toNat_natCast, ints_set, repl_set]
      have h3 : x % 3 = 0 ∨ x % 3 = 1 ∨ x % 3 = 2 := by omega
      rcases h3 with h | h | h
      · rw [h, show sgnW 0 = 0 from rfl, mul0, addN_comm, addN_zero g z v.each hz, repl_same]
        rfl
      · rw [h, show sgnW 1 = 1 from rfl, mul1 v hlj]
        simp only [decide_true, br_true, s_l2Add_eq v (by omega : z < 4611686018427387904) (by omega : l.getD j 0 < 4611686018427387904), bo_some]
      · rw [h, show sgnW 2 = -1 from rfl, mulm v]
        have hn := negN_lt v.each (l.getD j 0)
        have f1 : decide (2 = 1) = false := rfl
        simp only [f1, decide_true, br_true, br_false, s_l2Negate_eq v (by omega : l.getD j 0 < 4611686018427387904), s_l2Add_eq v (by omega : z < 4611686018427387904) (by omega : negN g (l.getD j 0) < 4611686018427387904), bo_some])]
    rw [s_wz_inner v hl h7 p q j (x / 3) (sgnW (x % 3) :: t) _ (by omega) (by simp only [List.length_cons]; omega) (by omega) hm]
    have ep : preW (j + 1) x ++ t = preW j (x / 3) ++ (sgnW (x % 3) :: t) := by rw [preW, List.append_assoc]; rfl
    have et : totW g l (j + 1) x = addN g (totW g l j (x / 3)) (mulN g (l.getD j 0) (sgnW (x % 3))) := rfl
    rw [ep, et, addN_assoc g v.each, addN_comm g z]
theorem s_wz_eq {g l : List Nat} (v : VS g l) (hs : isSeq (natsI g) (natsI l) = true) (h7 : l.length ≤ 7) : f_s_WeightedZero (ints (natsI g)) (ints (natsI l)) = some (match (List.range (3 ^ l.length)).find? (gzW g l) with
    | some c => (ints (preW l.length c), true)
    | none => ([], false)) := by
  have hlimL : (natsI l).length ≤ lim := by rw [natsI_length]; exact v.lim
  have hp3 := pow3 h7
  have k0 := loop_count (rd := f_s_WeightedZero_r0 (ints (natsI l)) (ints (natsI g))) (fun k => (((3 ^ k : Nat) : Int), (k : Int))) l.length (a := ((3 ^ l.length : Nat) : Int)) (fun k hk => by
    have hk3 := pow3 (show k + 1 ≤ 7 by omega)
    have : w64 (((3 ^ k : Nat) : Int) * 3) = ((3 ^ (k + 1) : Nat) : Int) := by
      rw [Nat.pow_succ] at hk3 ⊢
      exact w64_cast (n := 3 ^ k * 3) (by omega)
    simp only [f_s_WeightedZero_r0, f_s_WeightedZero_k0, ints_length, natsI_length, lt_dec hk, br_true, this, w64_nat (by omega : k < 9223372036854775807)]) (by
    simp only [f_s_WeightedZero_r0, f_s_WeightedZero_k0, ints_length, natsI_length, lt_dec_self, br_false]) 0 (Nat.zero_le _)
  have k0 : loopL (f_s_WeightedZero_r0 (ints (natsI l)) (ints (natsI g))) (1, 0) = some (.one ((3 ^ l.length : Nat) : Int)) := k0
  obtain ⟨m, hm⟩ : ∃ m, 3 ^ l.length = m + 1 := ⟨3 ^ l.length - 1, by have := Nat.pow_pos (n := l.length) (show 0 < 3 by decide); omega⟩
  have k2 := loop_find (rd := f_s_WeightedZero_r2 (ints (natsI l)) (ints (natsI g)) ((3 ^ l.length : Nat) : Int)) (fun j => ((j + 1 : Nat) : Int)) m (fun j => gzW g l (j + 1)) (fun j => ints (preW l.length (j + 1))) (a := ((m + 1 : Nat) : Int)) (fun j hj => by
    have hlt : decide (((j + 1 : Nat) : Int) < ((3 ^ l.length : Nat) : Int)) = true := decide_eq_true (by omega)
    have c1 : (decide (0 ≤ (l.length : Int)) && (decide ((l.length : Int) ≤ (l.length : Int)) && decide ((l.length : Int) ≤ (lim : Int)))) = true := by
      have : (7 : Int) ≤ (lim : Int) := by decide
      simp only [Bool.and_eq_true, decide_eq_true_eq]
      omega
    have hin := s_wz_inner v.grp v.each h7 ((3 ^ l.length : Nat) : Int) ((j + 1 : Nat) : Int) l.length (j + 1) [] 0 (Nat.le_refl _) rfl (by omega) (ordN_pos v.grp.each)
    rw [List.append_nil, List.append_nil, addN_comm, addN_zero g _ v.grp.each (totW_lt v.grp l _ _)] at hin
    have hin : loopL (f_s_WeightedZero_r4 (ints (natsI l)) (ints (natsI g)) ((3 ^ l.length : Nat) : Int) ((j + 1 : Nat) : Int)) (ints (List.replicate l.length 0), ((j + 1 : Nat) : Int), 0, (l.length : Int) - 1) = _ := hin
    have ew : w64 ((l.length : Int) - 1) = (l.length : Int) - 1 := w64_in (by omega) (by omega)
    have z : ((((totW g l l.length (j + 1) : Nat) : Int)) == 0) = decide (totW g l l.length (j + 1) = 0) := eq_nat_decM _ 0
    simp only [f_s_WeightedZero_r2, f_s_WeightedZero_k2, hlt, br_true, ints_length, natsI_length, c1, Int.toNat_natCast, ints_replicate, ew, hin, bl1_one, z, w64_nat (by omega : j + 1 < 9223372036854775807)]
    have eg : gzW g l (j + 1) = decide (totW g l l.length (j + 1) = 0) := by
      unfold gzW
      rw [decide_eq_true (show j + 1 ≠ 0 by omega), Bool.true_and]
    rw [eg]
    cases decide (totW g l l.length (j + 1) = 0) <;> rfl) (by
    have hlt : decide (((m + 1 : Nat) : Int) < ((3 ^ l.length : Nat) : Int)) = false := decide_eq_false (by omega)
    simp only [f_s_WeightedZero_r2, f_s_WeightedZero_k2, hlt, br_false])
  have k2 : loopL (f_s_WeightedZero_r2 (ints (natsI l)) (ints (natsI g)) ((3 ^ l.length : Nat) : Int)) 1 = _ := k2
  have g0 : gzW g l 0 = false := by unfold gzW; simp
  have d7 : decide ((l.length : Int) > 7) = false := decide_eq_false (by omega)
  rw [hm, find_shift _ _ g0]
  rw [hm] at k0 k2
  simp only [f_s_WeightedZero, f_s_WeightedZero_k, s_IsSequence_eq _ _ v.grp.lim hlimL, hs, bo_some, ints_length, natsI_length, d7, k0, k2, bl1_one]
  cases (List.range m).find? fun j => gzW g l (j + 1) <;> rfl
theorem wz_le : ∀ n a, Le (f_i_WeightedZero_1_n n a) (f_i_WeightedZero_1_n (n + 1) a)
  | 0, _ => Le.no
  | n + 1, a => by
    have ih := wz_le n
    simp only [f_i_WeightedZero_1_n, f_i_WeightedZero_1_k]
    refine Le.br Le.same (Le.bl (Le.loop fun s => ?_) (fun e => Le.same) fun e => Le.same)
    simp only [f_i_WeightedZero_1_r0, f_i_WeightedZero_1_k0]
    exact Le.br (Le.br (Le.br (Le.br (Le.br (Le.bo Le.same fun r => Le.bo Le.same fun r => Le.br (Le.bo (ih _) fun r => Le.same) (Le.bo (ih _) fun r => Le.same)) Le.same) Le.same) Le.same) Le.same) Le.same
abbrev wsW : List Sc := [(Sc.n .i64 0), (Sc.n .i64 1), (Sc.n .i64 (-1))]
def stpW (g l : List Nat) (i P d x : Nat) (o : Option Nat) : Option (Ro (List Sc × List Sc × List Sc × List Sc × Int) (List Sc × List Sc × List Sc) (List Sc × List Sc × List Sc)) := match o with
  | some c => some (.two (ints (preW l.length c), ints (natsI l), ints (natsI g)))
  | none => some (.again (ints (preW i P ++ (sgnW x :: List.replicate d (-1))), ints (natsI l), ints (natsI g), wsW, ((x + 1 : Nat) : Int)))
/-- What is handed back, by the first code that serves. -/
def resW (g l : List Nat) (i P d : Nat) (o : Option Nat) : Bool × List Sc × List Sc × List Sc := match o with
  | some c => (true, ints (preW l.length c), ints (natsI l), ints (natsI g))
  | none => (false, ints (preW i P ++ List.replicate d (-1)), ints (natsI l), ints (natsI g))
theorem i_wz_step {g l : List Nat} (v : VG g) (hl : ∀ x ∈ l, x < ordN g) {n i P d x : Nat} {q : List Int} {o : Option Nat} (hi : i < l.length) (h7 : l.length ≤ 7) (hx : x < 3) (hq : q.length = d + 1) (hd : i + (d + 1) = l.length)
    (ih : f_i_WeightedZero_1_n n (((i + 1 : Nat) : Int), ((totW g l (i + 1) (P * 3 + x) : Nat) : Int), decide (P * 3 + x ≠ 0), ints (natsI l), ints (natsI g), ints (preW (i + 1) (P * 3 + x) ++ q.tail), ints (natsI l), ints (natsI g)) = some (resW g l (i + 1) (P * 3 + x) d o)) :
    f_i_WeightedZero_1_r0 (f_i_WeightedZero_1_n n) (i : Int) ((totW g l i P : Nat) : Int) (decide (P ≠ 0)) (ints (natsI l)) (ints (natsI g)) 3 (ints (preW i P ++ q), ints (natsI l), ints (natsI g), wsW, (x : Int)) =
      stpW g l i P d x o := by
  have h24 := v.ord
  have hlt := totW_lt v l i P
  have hli := at_lt hl hi
  have d3 : decide ((x : Int) < 3) = true := decide_eq_true (by omega)
  have hw : inRange (x : Int) wsW.length = true ∧ kAt wsW x = true ∧ atN wsW x = sgnW x ∧ (sgnW x != 0) = decide (x ≠ 0) ∧ -1 ≤ sgnW x ∧ sgnW x ≤ 1 := by
    have : x = 0 ∨ x = 1 ∨ x = 2 := by omega
    rcases this with rfl | rfl | rfl <;> exact ⟨rfl, rfl, rfl, rfl, by decide, by decide⟩
  obtain ⟨w1, w2, w3, w4, w5, w6⟩ := hw
  have hin : inRange (i : Int) (preW i P ++ q).length = true := in_nat (by rw [List.length_append, preW_len]; omega)
  have hml := mulN_lt v (l.getD i 0) (sgnW x)
  have hset : (preW i P ++ q).set i (sgnW x) = preW (i + 1) (P * 3 + x) ++ q.tail := by
    rw [preW_snoc i P x hx, List.set_append_right _ _ (by rw [preW_len]; exact Nat.le_refl _), preW_len, Nat.sub_self, List.append_assoc]
    cases q with
    | nil => cases hq
    | cons y r => rfl
  have hsome : ∀ b : Bool, b = decide (P * 3 + x ≠ 0) → (b = decide (P * 3 + x ≠ 0)) := fun _ h => h
  rw [totW_snoc g l i P x hx] at ih
  have et := i_times_nat v hli (n := sgnW x) (by omega)
  simp only [f_i_WeightedZero_1_r0, f_i_WeightedZero_1_k0, d3, br_true, Int.toNat_natCast, w1, w2, w3, ints_length, hin, ok_natsI hi, at_natsI, et, bo_some, i_add_eq v (by omega : totW g l i P < 4611686018427387904) (by omega : mulN g (l.getD i 0) (sgnW x) < 4611686018427387904), ints_set, hset, w4, w64_nat (by omega : i < 9223372036854775807), w64_nat (by omega : x < 9223372036854775807)]
  by_cases hP : P = 0
  · subst hP
    have e1 : (decide ((0 : Nat) ≠ 0) == false) = true := rfl
    have e2 : decide (x ≠ 0) = decide (0 * 3 + x ≠ 0) := by rw [Nat.zero_mul, Nat.zero_add]
    rw [e1, br_true, e2, ih, bo_some]
    cases o with
    | some c => rfl
    | none =>
      have ep : preW (i + 1) (0 * 3 + x) ++ List.replicate d (-1) = preW i 0 ++ (sgnW x :: List.replicate d (-1)) := by rw [preW_snoc i 0 x hx, List.append_assoc]; rfl
      simp only [resW, stpW, br_false, ep]
  · have e1 : (decide (P ≠ 0) == false) = false := by rw [decide_eq_true hP]; rfl
    have e2 : decide (P * 3 + x ≠ 0) = true := decide_eq_true (by omega)
    rw [e2] at ih
    rw [e1, br_false, ih, bo_some]
    cases o with
    | some c => rfl
    | none =>
      have ep : preW (i + 1) (P * 3 + x) ++ List.replicate d (-1) = preW i P ++ (sgnW x :: List.replicate d (-1)) := by rw [preW_snoc i P x hx, List.append_assoc]; rfl
      simp only [resW, stpW, br_false, ep]
theorem i_wz_fuel {g l : List Nat} (v : VG g) (hl : ∀ x ∈ l, x < ordN g) (h7 : l.length ≤ 7) : ∀ (n d i P : Nat) (q : List Int), d < n → i + d = l.length → q.length = d →
    f_i_WeightedZero_1_n n ((i : Int), ((totW g l i P : Nat) : Int), decide (P ≠ 0), ints (natsI l), ints (natsI g), ints (preW i P ++ q), ints (natsI l), ints (natsI g)) = some (resW g l i P d ((List.range' (P * 3 ^ d) (3 ^ d)).find? (gzW g l)))
  | 0, d, i, P, q, hd, _, _ => by omega
  | n + 1, 0, i, P, q, hd, hi, hq => by
    obtain rfl : q = [] := List.length_eq_zero_iff.1 hq
    have e : ((i : Int) == (l.length : Int)) = true := by rw [eq_nat_decM]; exact decide_eq_true (by omega)
    have z : ((((totW g l i P : Nat) : Int)) == 0) = decide (totW g l i P = 0) := eq_nat_decM _ 0
    simp only [f_i_WeightedZero_1_n, f_i_WeightedZero_1_k, ints_length, natsI_length, e, br_true, z]
    rw [Nat.pow_zero, Nat.mul_one, List.range'_one]
    have eg : gzW g l P = (decide (P ≠ 0) && decide (totW g l i P = 0)) := by unfold gzW; rw [show l.length = i by omega]
    rw [List.find?_cons, eg]
    cases decide (P ≠ 0) with
    | false => rfl
    | true =>
      cases decide (totW g l i P = 0) with
      | false => rfl
      | true => simp [resW, br_eq, show l.length = i by omega]
  | n + 1, d + 1, i, P, q, hd, hi, hq => by
    have e : ((i : Int) == (l.length : Int)) = false := by rw [eq_nat_decM]; exact decide_eq_false (by omega)
    have ih := fun (x : Nat) (r : List Int) (hr : r.length = d + 1) => i_wz_fuel v hl h7 n d (i + 1) (P * 3 + x) r.tail (by omega) (by omega) (by rw [List.length_tail, hr]; omega)
    have st := fun (x : Nat) (hx : x < 3) (r : List Int) (hr : r.length = d + 1) => i_wz_step v hl (show i < l.length by omega) h7 hx hr hi (ih x r hr)
    have l3 : (([(Sc.n .i64 0), (Sc.n .i64 1), (Sc.n .i64 (-1))] : List Sc).length : Int) = 3 := rfl
    have hend : ∀ arr : List Sc, f_i_WeightedZero_1_r0 (f_i_WeightedZero_1_n n) (i : Int) ((totW g l i P : Nat) : Int) (decide (P ≠ 0)) (ints (natsI l)) (ints (natsI g)) 3 (arr, ints (natsI l), ints (natsI g), wsW, ((2 + 1 : Nat) : Int)) = some (.one (arr, ints (natsI l), ints (natsI g))) := fun arr => rfl
    have hr : ∀ x : Nat, (sgnW x :: List.replicate d (-1)).length = d + 1 := fun x => by rw [List.length_cons, List.length_replicate]
    simp only [f_i_WeightedZero_1_n, f_i_WeightedZero_1_k, ints_length, natsI_length, e, br_false, l3]
    rw [Nat.pow_succ, range3, List.find?_append, List.find?_append]
    have s0 := st 0 (by omega) q hq
    cases h0 : (List.range' ((P * 3 + 0) * 3 ^ d) (3 ^ d)).find? (gzW g l) with
    | some c =>
      rw [h0] at s0
      have := loopL_two s0
      rw [show ((0 : Nat) : Int) = 0 from rfl] at this
      rw [this]
      rfl
    | none =>
      rw [h0] at s0
      have a0 := loopL_again s0
      have s1 := st 1 (by omega) (sgnW 0 :: List.replicate d (-1)) (hr 0)
      rw [show ((0 : Nat) : Int) = 0 from rfl] at a0
      rw [a0, show (0 + 1 : Nat) = 1 from rfl]
      cases h1 : (List.range' ((P * 3 + 1) * 3 ^ d) (3 ^ d)).find? (gzW g l) with
      | some c =>
        rw [h1] at s1
        rw [loopL_two s1]
        rfl
      | none =>
        rw [h1] at s1
        rw [loopL_again s1, show (1 + 1 : Nat) = 2 from rfl]
        have s2 := st 2 (by omega) (sgnW 1 :: List.replicate d (-1)) (hr 1)
        cases h2 : (List.range' ((P * 3 + 2) * 3 ^ d) (3 ^ d)).find? (gzW g l) with
        | some c =>
          rw [h2] at s2
          rw [loopL_two s2]
          rfl
        | none =>
          rw [h2] at s2
          rw [loopL_again s2, loopL_one (hend _)]
          rfl
theorem i_wz_eq {g l : List Nat} (v : VS g l) (hs : isSeq (natsI g) (natsI l) = true) (h7 : l.length ≤ 7) : f_i_WeightedZero (ints (natsI g)) (ints (natsI l)) = some (match (List.range (3 ^ l.length)).find? (gzW g l) with
    | some c => (ints (preW l.length c), true)
    | none => ([], false)) := by
  have hlimL : (natsI l).length ≤ lim := by rw [natsI_length]; exact v.lim
  have key := limF_le wz_le (i_wz_fuel v.grp v.each h7 (l.length + 1) l.length 0 0 (List.replicate l.length 0) (by omega) (by omega) (by simp))
  have key : f_i_WeightedZero_1 0 0 false (ints (natsI l)) (ints (natsI g)) (ints (List.replicate l.length 0)) (ints (natsI l)) (ints (natsI g)) = _ := key
  have c1 : (decide (0 ≤ (l.length : Int)) && (decide ((l.length : Int) ≤ (l.length : Int)) && decide ((l.length : Int) ≤ (lim : Int)))) = true := by
    have : (7 : Int) ≤ (lim : Int) := by decide
    simp only [Bool.and_eq_true, decide_eq_true_eq]
    omega
  have d7 : decide ((l.length : Int) > 7) = false := decide_eq_false (by omega)
  simp only [f_i_WeightedZero, f_i_WeightedZero_k, i_IsSequence_eq _ _ v.grp.lim hlimL, hs, bo_some, ints_length, natsI_length, d7, c1, Int.toNat_natCast, ints_replicate, key]
  rw [Nat.zero_mul, ← List.range_eq_range']
  cases (List.range (3 ^ l.length)).find? (gzW g l) <;> rfl
theorem WeightedZero_both (G L : List Int) (h : G.length ≤ lim) (hL : L.length ≤ lim) : ∃ R b, f_s_WeightedZero (ints G) (ints L) = some (ints R, b) ∧ f_i_WeightedZero (ints G) (ints L) = some (ints R, b) ∧ R.length ≤ 12 := by
  cases hs : isSeq G L with
  | false =>
    refine ⟨[], false, ?_, ?_, by simp⟩
    · simp only [f_s_WeightedZero, f_s_WeightedZero_k, s_IsSequence_eq G L h hL, hs, bo_some]; rfl
    · simp only [f_i_WeightedZero, f_i_WeightedZero_k, i_IsSequence_eq G L h hL, hs, bo_some]; rfl
  | true =>
    by_cases h7 : L.length ≤ 7
    · obtain ⟨g, l, rfl, rfl, v⟩ := nat_of_isSeq hs
      rw [natsI_length] at h7
      rw [s_wz_eq v hs h7, i_wz_eq v hs h7]
      cases (List.range (3 ^ l.length)).find? (gzW g l) with
      | none => exact ⟨[], false, rfl, rfl, by simp⟩
      | some c => exact ⟨_, true, rfl, rfl, by rw [preW_len]; omega⟩
    · have d7 : decide ((L.length : Int) > 7) = true := decide_eq_true (by omega)
      refine ⟨[], false, ?_, ?_, by simp⟩
      · simp only [f_s_WeightedZero, f_s_WeightedZero_k, s_IsSequence_eq G L h hL, hs, bo_some, ints_length, d7]; rfl
      · simp only [f_i_WeightedZero, f_i_WeightedZero_k, i_IsSequence_eq G L h hL, hs, bo_some, ints_length, d7]; rfl
end Go.Proofs.Ytphbclogflflmaa
