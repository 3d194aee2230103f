/-
  PlainK: the sums of the parts by their number of terms (SubsumsOfLength).
-/
import Derived.Test.YtphbclogflflmaaPlainG
set_option linter.unusedVariables false
set_option linter.unusedSimpArgs false
namespace Go.Proofs.Ytphbclogflflmaa
open Go Ev

/-- One term more. -/
def lenF (g : List Nat) (B : Nat → Nat) (x n : Nat) : Nat := if n = 0 then B 0 else B n ||| shiftN g (B (n - 1)) x
def len0 (n : Nat) : Nat := if n = 0 then 1 else 0
/-- The sums of the parts of n terms. -/
def lenN (g l : List Nat) : Nat → Nat := l.foldl (lenF g) len0
theorem shiftN_none (g : List Nat) (x : Nat) : shiftN g 0 x = 0 := by
  have : elems 0 = [] := by
    unfold elems
    rw [List.filter_eq_nil_iff]
    intro y _
    simp
  unfold shiftN
  rw [this]
  rfl
theorem lenN_snoc (g l : List Nat) (x : Nat) : lenN g (l ++ [x]) = lenF g (lenN g l) x := by
  unfold lenN
  rw [List.foldl_append]
  rfl
theorem rev_ind {P : List Nat → Prop} (h0 : P []) (h1 : ∀ l x, P l → P (l ++ [x])) (l : List Nat) : P l := by
  have key : ∀ l : List Nat, P l.reverse := by
    intro l
    induction l with
    | nil => exact h0
    | cons x l ih => rw [List.reverse_cons]; exact h1 _ x ih
  have := key l.reverse
  rwa [List.reverse_reverse] at this
theorem lenN_big (g : List Nat) : ∀ (l : List Nat) (n : Nat), l.length < n → lenN g l n = 0 := by
  refine rev_ind ?_ fun l x ih => ?_
  · intro n hn
    have : n ≠ 0 := by simp at hn; omega
    simp [lenN, len0, this]
  · intro n hn
    simp only [List.length_append, List.length_singleton] at hn
    rw [lenN_snoc]
    unfold lenF
    rw [if_neg (by omega), ih n (by omega), ih (n - 1) (by omega), shiftN_none]
    rfl
theorem lenN_lt {g : List Nat} (v : VG g) : ∀ (l : List Nat), ∀ n, lenN g l n < 2 ^ ordN g := by
  refine rev_ind ?_ fun l x ih => ?_
  · intro n
    show len0 n < 2 ^ ordN g
    unfold len0
    have h1 : 2 ^ 1 ≤ 2 ^ ordN g := Nat.pow_le_pow_right (by decide) (ordN_pos v.each)
    split <;> omega
  · intro n
    rw [lenN_snoc]
    unfold lenF
    split
    · exact ih 0
    · exact or_lt (ih n) (shiftN_lt v _ _)

theorem at_lt' {n : Nat} {l : List Nat} (hl : ∀ x ∈ l, x < n) {k : Nat} (hk : k < l.length) : l.getD k 0 < n := hl _ (by simp [List.getD, List.getElem?_eq_getElem hk])
/-- A row of numbers. -/
def rowN (N : Nat) (f : Nat → Nat) : List Nat := (List.range N).map f
theorem rowN_length (N : Nat) (f : Nat → Nat) : (rowN N f).length = N := by simp [rowN]
theorem rowN_get {N : Nat} {f : Nat → Nat} {k : Nat} (h : k < N) : (rowN N f).getD k 0 = f k := by
  unfold rowN
  simp [List.getD, h]
theorem rowN_set {N : Nat} {f : Nat → Nat} {k y : Nat} (h : k < N) : (rowN N f).set k y = rowN N (fun j => if j = k then y else f j) := by
  unfold rowN
  apply List.ext_getElem?
  intro i
  rw [List.getElem?_set]
  simp only [List.length_map, List.length_range, List.getElem?_map, List.getElem?_range']
  by_cases hi : i < N
  · by_cases hk : k = i
    · subst hk; simp [h]
    · simp [hk, hi, Ne.symm hk]
  · by_cases hk : k = i
    · subst hk; omega
    · simp [hk, hi]
theorem rowN_congr {N : Nat} {f f' : Nat → Nat} (h : ∀ k, k < N → f k = f' k) : rowN N f = rowN N f' := by
  unfold rowN
  exact List.map_congr_left fun k hk => h k (List.mem_range.1 hk)
theorem ints_natsI_set (l : List Nat) (k y : Nat) : (ints (natsI l)).set k (Sc.n .i64 (y : Int)) = ints (natsI (l.set k y)) := by
  rw [ints_set]
  unfold natsI
  rw [List.map_set]
def midN (g : List Nat) (B : Nat → Nat) (x t : Nat) : Nat → Nat := fun j => if t < j then lenF g B x j else B j
theorem mid_step {g : List Nat} {B : Nat → Nat} {x t : Nat} : (fun j => if j = t + 1 then (B (t + 1) ||| shiftN g (B t) x) else midN g B x (t + 1) j) = midN g B x t := by
  funext j
  unfold midN lenF
  by_cases h : j = t + 1
  · subst h
    simp
  · by_cases h2 : t + 1 < j
    · simp [h, h2, show t < j by omega]
    · simp [h, h2, show ¬ t < j by omega]
theorem mid_zero {g : List Nat} {B : Nat → Nat} {x : Nat} : midN g B x 0 = lenF g B x := by
  funext j
  unfold midN
  by_cases h : 0 < j
  · simp [h]
  · have : j = 0 := by omega
    subst this
    simp [lenF]
theorem natsI_row_len (N : Nat) (f : Nat → Nat) : (ints (natsI (rowN N f))).length = N := by rw [ints_length, natsI_length, rowN_length]
theorem i_byLength_inner {g : List Nat} (v : VG g) {N x : Nat} (hN : N ≤ 20) (hx : x < ordN g) {B : Nat → Nat} (hB : ∀ n, B n < 2 ^ ordN g) (l16 : List Sc) (a b : Int) :
    ∀ t, t < N → loopL (f_i_Group_byLength_r2 (ints (natsI g)) (x : Int) l16 a b) (ints (natsI (rowN N (midN g B x t))), (t : Int) - 1) = some (.one (ints (natsI (rowN N (lenF g B x))))) := by
  intro t
  induction t with
  | zero =>
    intro _
    refine loopL_one ?_
    simp only [f_i_Group_byLength_r2, f_i_Group_byLength_k2, mid_zero]
    rfl
  | succ t ih =>
    intro ht
    have e0 : (((t + 1 : Nat) : Int) - 1) = (t : Int) := by omega
    rw [e0]
    have e1 : decide ((t : Int) ≥ 0) = true := by simp
    have e2 : w64 ((t : Int) + 1) = ((t + 1 : Nat) : Int) := w64_nat (by omega)
    have e3 : w64 ((t : Int) - 1) = (t : Int) - 1 := w64_in (by omega) (by omega)
    have g1 : (rowN N (midN g B x (t + 1))).getD t 0 = B t := by
      rw [rowN_get (by omega)]
      unfold midN
      rw [if_neg (by omega)]
    have g2 : (rowN N (midN g B x (t + 1))).getD (t + 1) 0 = B (t + 1) := by
      rw [rowN_get (by omega)]
      unfold midN
      rw [if_neg (by omega)]
    have e4 : or64 ((B (t + 1) : Nat) : Int) ((shiftN g (B t) x : Nat) : Int) = ((B (t + 1) ||| shiftN g (B t) x : Nat) : Int) := or_or v (hB _) (shiftN_lt v _ _)
    rw [loopL_again (s' := (ints (natsI (rowN N (midN g B x t))), (t : Int) - 1)) (by
      simp only [f_i_Group_byLength_r2, f_i_Group_byLength_k2, e1, e2, e3, natsI_row_len, in_nat (by omega : t < N), in_nat ht, Int.toNat_natCast, kAt_ints, atN_natsI, g1, g2, i_shift_eq v (hB t) hx, bo_some, br_true, e4, ints_natsI_set, rowN_set ht, mid_step])]
    exact ih (by omega)

theorem row_start (N : Nat) (hN : 0 < N) : (List.replicate N (Sc.n .i64 0)).set 0 (Sc.n .i64 1) = ints (natsI (rowN N len0)) := by
  have e1 : List.replicate N (Sc.n .i64 0) = ints (natsI (rowN N fun _ => 0)) := by
    unfold ints natsI rowN
    rw [List.map_map, List.map_map]
    apply List.ext_getElem?
    intro i
    simp only [List.getElem?_replicate, List.getElem?_map]
    by_cases h : i < N
    · simp [h]
    · simp [h]
  rw [e1, show (1 : Int) = ((1 : Nat) : Int) from rfl, ints_natsI_set, rowN_set hN]
  rfl
theorem take_snoc (l : List Nat) {k : Nat} (h : k < l.length) : l.take (k + 1) = l.take k ++ [l.getD k 0] := by
  rw [List.take_succ_eq_append_getElem h]
  simp [List.getD, List.getElem?_eq_getElem h]
theorem i_byLength_eq {g l : List Nat} (v : VG g) (hl : ∀ x ∈ l, x < ordN g) (h12 : l.length ≤ 12) : f_i_Group_byLength (ints (natsI g)) (ints (natsI l)) = some (ints (natsI (rowN (l.length + 1) (lenN g l)))) := by
  have e1 : w64 ((l.length : Int) + 1) = ((l.length + 1 : Nat) : Int) := w64_nat (by omega)
  have key := loop_count (rd := f_i_Group_byLength_r0 (ints (natsI g)) (ints (natsI l)) (l.length : Int)) (fun k => (ints (natsI (rowN (l.length + 1) (lenN g (l.take k)))), (k : Int))) l.length (a := (ints (natsI (rowN (l.length + 1) (lenN g (l.take l.length)))), (l.length : Int))) (fun k hk => by
      have hx := at_lt' hl hk
      have e3 : rowN (l.length + 1) (lenN g (l.take k)) = rowN (l.length + 1) (midN g (lenN g (l.take k)) (l.getD k 0) (k + 1)) := rowN_congr fun j hj => by
        unfold midN lenF
        by_cases h : k + 1 < j
        · rw [if_pos h, if_neg (by omega), lenN_big g _ j (by simp; omega), lenN_big g _ (j - 1) (by simp; omega), shiftN_none]
          rfl
        · rw [if_neg h]
      have e4 := i_byLength_inner v (N := l.length + 1) (by omega) hx (lenN_lt v (l.take k)) (ints (natsI l)) (l.length : Int) (k : Int) (k + 1) (by omega)
      rw [← e3, show (((k + 1 : Nat) : Int) - 1) = (k : Int) by omega, ← lenN_snoc, ← take_snoc l hk] at e4
      simp only [f_i_Group_byLength_r0, f_i_Group_byLength_k0, lt_dec hk, ok_natsI hk, at_natsI, br_true, e4, bl1_one, w64_nat (by omega : k < 9223372036854775807)])
    (by simp only [f_i_Group_byLength_r0, f_i_Group_byLength_k0, lt_dec_self, br_false]) 0 (Nat.zero_le _)
  rw [List.take_length] at key
  have h0 : ints (natsI (rowN (l.length + 1) (lenN g (l.take 0)))) = (List.replicate (l.length + 1) (Sc.n .i64 0)).set 0 (Sc.n .i64 1) := (row_start _ (by omega)).symm
  simp only [h0] at key
  rw [show ((0 : Nat) : Int) = 0 from rfl] at key
  have e5 : (decide (0 ≤ ((l.length + 1 : Nat) : Int)) && (decide (((l.length + 1 : Nat) : Int) ≤ ((l.length + 1 : Nat) : Int)) && decide (((l.length + 1 : Nat) : Int) ≤ (lim : Int)))) = true := by
    have : l.length + 1 ≤ lim := Nat.le_trans (by omega : l.length + 1 ≤ 13) (by decide)
    simp
    omega
  have e6 : inRange 0 ((List.replicate (l.length + 1) (Sc.n .i64 0)).length) = true := by
    rw [show (0 : Int) = ((0 : Nat) : Int) from rfl]
    exact in_nat (by simp)
  simp only [f_i_Group_byLength, f_i_Group_byLength_k, ints_length, natsI_length, e1, e5, Int.toNat_natCast, e6, br_true]
  rw [show (0 : Int).toNat = 0 from rfl, key]
  rfl
theorem s_len_inner {g l : List Nat} (v : VG g) (hl : ∀ x ∈ l, x < ordN g) {N i : Nat} (hN : N ≤ 20) (hi : i < l.length) {B : Nat → Nat} (hB : ∀ n, B n < 2 ^ ordN g) (c : Int) :
    ∀ t, t < N → loopL (f_s_SubsumsOfLength_r2 (ints (natsI l)) c (ints (natsI g)) (i : Int)) (ints (natsI (rowN N (midN g B (l.getD i 0) t))), (t : Int)) = some (.one (ints (natsI (rowN N (lenF g B (l.getD i 0)))))) := by
  have hx := at_lt' hl hi
  intro t
  induction t with
  | zero =>
    intro _
    refine loopL_one ?_
    simp only [f_s_SubsumsOfLength_r2, f_s_SubsumsOfLength_k2, mid_zero]
    rfl
  | succ t ih =>
    intro ht
    have e1 : decide (((t + 1 : Nat) : Int) ≥ 1) = true := by simp; omega
    have e3 : w64 (((t + 1 : Nat) : Int) - 1) = (t : Int) := by rw [w64_in (by omega) (by omega)]; omega
    have g1 : (rowN N (midN g B (l.getD i 0) (t + 1))).getD t 0 = B t := by
      rw [rowN_get (by omega)]
      unfold midN
      rw [if_neg (by omega)]
    have g2 : (rowN N (midN g B (l.getD i 0) (t + 1))).getD (t + 1) 0 = B (t + 1) := by
      rw [rowN_get (by omega)]
      unfold midN
      rw [if_neg (by omega)]
    have e4 : or64 ((B (t + 1) : Nat) : Int) ((shiftN g (B t) (l.getD i 0) : Nat) : Int) = ((B (t + 1) ||| shiftN g (B t) (l.getD i 0) : Nat) : Int) := or_or v (hB _) (shiftN_lt v _ _)
    rw [loopL_again (s' := (ints (natsI (rowN N (midN g B (l.getD i 0) t))), (t : Int))) (by
      simp only [f_s_SubsumsOfLength_r2, f_s_SubsumsOfLength_k2, e1, e3, natsI_row_len, in_nat (by omega : t < N), in_nat ht, Int.toNat_natCast, kAt_ints, atN_natsI, g1, g2, ok_natsI hi, at_natsI, s_l3Shift_eq v (hB t) hx, bo_some, br_true, e4, ints_natsI_set, rowN_set ht, mid_step])]
    exact ih (by omega)
theorem SubsumsOfLength_both (G L : List Int) (c : Int) (h : G.length ≤ lim) (hL : L.length ≤ lim) : ∃ r, f_s_SubsumsOfLength (ints G) (ints L) c = some r ∧ f_i_SubsumsOfLength (ints G) (ints L) c = some r := by
  simp only [f_s_SubsumsOfLength, f_s_SubsumsOfLength_k, f_i_SubsumsOfLength, f_i_SubsumsOfLength_k, s_IsSequence_eq G L h hL, i_IsSequence_eq G L h hL, bo_some, s_l1In_eq, i_within_eq, ints_length]
  cases hs : isSeq G L with
  | false => exact ⟨_, rfl, rfl⟩
  | true =>
    obtain ⟨g, l, rfl, rfl, v⟩ := nat_of_isSeq hs
    cases hb : inB c 0 ((natsI l).length : Int) with
    | false => exact ⟨_, rfl, rfl⟩
    | true =>
      simp only [inB, Bool.and_eq_true, decide_eq_true_eq, natsI_length] at hb
      obtain ⟨k, rfl⟩ : ∃ k : Nat, c = k := ⟨c.toNat, by omega⟩
      have hk : k ≤ l.length := by omega
      have h12 := v.len
      have e1 : w64 ((k : Int) + 1) = ((k + 1 : Nat) : Int) := w64_nat (by omega)
      have key := loop_count (rd := f_s_SubsumsOfLength_r0 (ints (natsI l)) (k : Int) (ints (natsI g))) (fun i => (ints (natsI (rowN (k + 1) (lenN g (l.take i)))), (i : Int))) l.length (a := (ints (natsI (rowN (k + 1) (lenN g (l.take l.length)))), (l.length : Int))) (fun i hi => by
          have e3 : rowN (k + 1) (lenN g (l.take i)) = rowN (k + 1) (midN g (lenN g (l.take i)) (l.getD i 0) k) := rowN_congr fun j hj => by
            unfold midN
            rw [if_neg (by omega)]
          have e4 := s_len_inner v.grp v.each (N := k + 1) (by omega) hi (lenN_lt v.grp (l.take i)) (k : Int) k (by omega)
          rw [← e3, ← lenN_snoc, ← take_snoc l hi] at e4
          simp only [f_s_SubsumsOfLength_r0, f_s_SubsumsOfLength_k0, ints_length, natsI_length, lt_dec hi, br_true, e4, bl1_one, w64_nat (by omega : i < 9223372036854775807)])
        (by simp only [f_s_SubsumsOfLength_r0, f_s_SubsumsOfLength_k0, ints_length, natsI_length, lt_dec_self, br_false]) 0 (Nat.zero_le _)
      rw [List.take_length] at key
      have h0 : ints (natsI (rowN (k + 1) (lenN g (l.take 0)))) = (List.replicate (k + 1) (Sc.n .i64 0)).set 0 (Sc.n .i64 1) := (row_start _ (by omega)).symm
      simp only [h0] at key
      rw [show ((0 : Nat) : Int) = 0 from rfl] at key
      have e5 : (decide (0 ≤ ((k + 1 : Nat) : Int)) && (decide (((k + 1 : Nat) : Int) ≤ ((k + 1 : Nat) : Int)) && decide (((k + 1 : Nat) : Int) ≤ (lim : Int)))) = true := by
        have : k + 1 ≤ lim := Nat.le_trans (by omega : k + 1 ≤ 13) (by decide)
        simp
        omega
      have e6 : inRange 0 ((List.replicate (k + 1) (Sc.n .i64 0)).length) = true := by
        rw [show (0 : Int) = ((0 : Nat) : Int) from rfl]
        exact in_nat (by simp)
      have gs : (rowN (k + 1) (lenN g l)).getD k 0 = lenN g l k := rowN_get (by omega)
      have gi : (rowN (l.length + 1) (lenN g l)).getD k 0 = lenN g l k := rowN_get (by omega)
      simp only [e1, e5, Int.toNat_natCast, e6, br_true, i_byLength_eq v.grp v.each v.len, bo_some, natsI_row_len, in_nat (by omega : k < l.length + 1), kAt_ints, atN_natsI, gi]
      rw [show (0 : Int).toNat = 0 from rfl, key]
      simp only [bl1_one, natsI_row_len, in_nat (by omega : k < k + 1), kAt_ints, atN_natsI, gs, br_true]
      exact ⟨_, rfl, rfl⟩
end Go.Proofs.Ytphbclogflflmaa
