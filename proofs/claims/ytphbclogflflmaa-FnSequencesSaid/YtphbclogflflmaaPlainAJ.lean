/-
  PlainAJ: sorting by insertion (spec.l16Sort).
-/
import Derived.Test.YtphbclogflflmaaPlainM
import Derived.Test.YtphbclogflflmaaPlainC
set_option linter.unusedVariables false
set_option linter.unusedSimpArgs false
namespace Go.Proofs.Ytphbclogflflmaa
open Go Ev

def insZ (x : Int) (l : List Int) : List Int := l.takeWhile (fun y => decide (y ≤ x)) ++ x :: l.dropWhile (fun y => decide (y ≤ x))
def insAllZ (l : List Int) : List Int := l.foldl (fun o x => insZ x o) []
theorem insZ_perm (x : Int) (l : List Int) : (insZ x l).Perm (x :: l) := by
  unfold insZ
  refine List.perm_middle.trans (List.Perm.cons x ?_)
  rw [List.takeWhile_append_dropWhile]
theorem insAllZ_perm_aux : ∀ (l o : List Int), (l.foldl (fun o x => insZ x o) o).Perm (o ++ l)
  | [], o => by simp
  | x :: l, o => by
    refine (insAllZ_perm_aux l (insZ x o)).trans ?_
    refine ((insZ_perm x o).append_right l).trans ?_
    exact List.perm_middle.symm
theorem insAllZ_perm (l : List Int) : (insAllZ l).Perm l := insAllZ_perm_aux l []
theorem insZ_sorted {x : Int} : ∀ {l : List Int}, l.Pairwise (· ≤ ·) → (insZ x l).Pairwise (· ≤ ·)
  | [], _ => by simp [insZ]
  | y :: l, h => by
    obtain ⟨h1, h2⟩ := List.pairwise_cons.1 h
    unfold insZ
    by_cases hy : y ≤ x
    · rw [List.takeWhile_cons_of_pos (by simpa using hy), List.dropWhile_cons_of_pos (by simpa using hy), List.cons_append]
      refine List.pairwise_cons.2 ⟨fun z hz => ?_, insZ_sorted h2⟩
      have := (insZ_perm x l).subset hz
      rcases List.mem_cons.1 this with rfl | hz
      · exact hy
      · exact h1 z hz
    · rw [List.takeWhile_cons_of_neg (by simpa using hy), List.dropWhile_cons_of_neg (by simpa using hy), List.nil_append]
      refine List.pairwise_cons.2 ⟨fun z hz => ?_, h⟩
      rcases List.mem_cons.1 hz with rfl | hz
      · omega
      · have := h1 z hz; omega
theorem insAllZ_sorted_aux : ∀ (l o : List Int), o.Pairwise (· ≤ ·) → (l.foldl (fun o x => insZ x o) o).Pairwise (· ≤ ·)
  | [], o, h => h
  | x :: l, o, h => insAllZ_sorted_aux l _ (insZ_sorted h)
theorem insAllZ_sorted (l : List Int) : (insAllZ l).Pairwise (· ≤ ·) := insAllZ_sorted_aux l [] List.Pairwise.nil
theorem insZ_split {x : Int} {l : List Int} (h : l.Pairwise (· ≤ ·)) : ∃ t d, l = t ++ d ∧ insZ x l = t ++ x :: d ∧ (∀ y ∈ t, y ≤ x) ∧ ∀ y ∈ d, x < y := by
  refine ⟨l.takeWhile (fun y => decide (y ≤ x)), l.dropWhile (fun y => decide (y ≤ x)), List.takeWhile_append_dropWhile.symm, rfl, fun y hy => ?_, ?_⟩
  · have := List.all_takeWhile (p := fun y => decide (y ≤ x)) (l := l)
    exact of_decide_eq_true (List.all_eq_true.1 this y hy)
  · induction l with
    | nil => intro y hy; cases hy
    | cons z l ih =>
      obtain ⟨h1, h2⟩ := List.pairwise_cons.1 h
      by_cases hz : z ≤ x
      · rw [List.dropWhile_cons_of_pos (by simpa using hz)]
        exact ih h2
      · rw [List.dropWhile_cons_of_neg (by simpa using hz)]
        intro y hy
        rcases List.mem_cons.1 hy with rfl | hy
        · omega
        · have := h1 y hy; omega
theorem getD_memZ {l : List Int} {k : Nat} (h : k < l.length) : l.getD k 0 ∈ l := by simp [List.getD, List.getElem?_eq_getElem h]
theorem s_sort_step {L l : List Int} {i : Nat} (hi : i < L.length) (hL : L.length ≤ 12) (h : l.Pairwise (· ≤ ·)) (hlen : l.length ≤ 12) : f_s_l16Sort_r0 (ints L) (ints l, (i : Int)) = some (.again (ints (insZ (L.getD i 0) l), ((i + 1 : Nat) : Int))) := by
  obtain ⟨x, hx⟩ : ∃ x, x = L.getD i 0 := ⟨_, rfl⟩
  obtain ⟨t, d, e, ei, ht, hd⟩ := insZ_split (x := x) h
  have hl : l.length = t.length + d.length := by rw [e, List.length_append]
  have hw : ∀ k : Nat, 1 ≤ k → k ≤ l.length → w64 ((k : Int) - 1) = ((k - 1 : Nat) : Int) := fun k h1 h2 => by
    rw [show (k : Int) - 1 = ((k - 1 : Nat) : Int) by omega]
    exact w64_cast (by omega)
  have hxi : atI (ints L) (i : Int) = x := by rw [at_nat, hx]
  have key := loop_count (rd := f_s_l16Sort_r2 (ints L) (ints l) (i : Int)) (fun j => ((l.length - j : Nat) : Int)) d.length (a := ((t.length : Nat) : Int)) (fun j hj => by
    have d0 : decide (((l.length - j : Nat) : Int) > 0) = true := decide_eq_true (by omega)
    have hat : l.getD (l.length - j - 1) 0 ∈ d := by
      rw [e]
      have : (t ++ d).getD ((t ++ d).length - j - 1) 0 = d.getD (d.length - j - 1) 0 := by
        simp only [List.getD, List.length_append]
        rw [List.getElem?_append_right (by omega), show t.length + d.length - j - 1 - t.length = d.length - j - 1 by omega]
      rw [this]
      exact getD_memZ (by omega)
    have dg : decide (l.getD (l.length - j - 1) 0 > x) = true := decide_eq_true (hd _ hat)
    simp only [f_s_l16Sort_r2, f_s_l16Sort_k2, d0, BEq.rfl, br_true, hw (l.length - j) (by omega) (by omega), ok_nat (show l.length - j - 1 < l.length by omega), ok_nat hi, at_nat, ← hx, in_nat (show l.length - j - 1 < l.length by omega), Int.toNat_natCast, kAt_ints, atN_ints, ints_length, dg]
    rw [show l.length - (j + 1) = l.length - j - 1 by omega]) (by
    rw [show l.length - d.length = t.length by omega]
    by_cases h0 : t.length = 0
    · have d0 : decide (((t.length : Nat) : Int) > 0) = false := decide_eq_false (by omega)
      have bf : (false == true) = false := rfl
      simp only [f_s_l16Sort_r2, f_s_l16Sort_k2, d0, bf, br_false]
    · have d0 : decide (((t.length : Nat) : Int) > 0) = true := decide_eq_true (by omega)
      have hat : l.getD (t.length - 1) 0 ∈ t := by
        rw [e]
        have : (t ++ d).getD (t.length - 1) 0 = t.getD (t.length - 1) 0 := by
          simp only [List.getD]
          rw [List.getElem?_append_left (by omega)]
        rw [this]
        exact getD_memZ (by omega)
      have dg : decide (l.getD (t.length - 1) 0 > x) = false := decide_eq_false (by have := ht _ hat; omega)
      simp only [f_s_l16Sort_r2, f_s_l16Sort_k2, d0, BEq.rfl, br_true, hw t.length (by omega) (by omega), ok_nat (show t.length - 1 < l.length by omega), ok_nat hi, at_nat, ← hx, in_nat (show t.length - 1 < l.length by omega), Int.toNat_natCast, kAt_ints, atN_ints, ints_length, dg, br_false]) 0 (Nat.zero_le _)
  simp only [Nat.sub_zero] at key
  have z0 : sliceA (ints l) 0 ((t.length : Nat) : Int) = ints t := by
    rw [e]
    simp [sliceA, ints]
  have z1 : sliceA (ints l) ((t.length : Nat) : Int) (l.length : Int) = ints d := by
    unfold sliceA
    rw [Int.toNat_natCast, Int.toNat_natCast, List.take_of_length_le (by rw [ints_length]; exact Nat.le_refl _), e]
    simp [ints]
  have c1 : (decide (0 ≤ (0 : Int)) && (decide ((0 : Int) ≤ ((t.length : Nat) : Int)) && decide (((t.length : Nat) : Int) ≤ (l.length : Int)))) = true := by
    simp only [Bool.and_eq_true, decide_eq_true_eq]; omega
  have c2 : (decide (0 ≤ ((t.length : Nat) : Int)) && (decide (((t.length : Nat) : Int) ≤ (l.length : Int)) && decide ((l.length : Int) ≤ (l.length : Int)))) = true := by
    simp only [Bool.and_eq_true, decide_eq_true_eq]; omega
  have c3 : decide (([] : List Sc).length + t.length ≤ lim) = true := by
    rw [List.length_nil, Nat.zero_add]
    exact decide_eq_true (Nat.le_trans (show t.length ≤ 12 by omega) (by decide))
  have c4 : decide (t.length + [Sc.n .i64 x].length ≤ lim) = true := by
    rw [List.length_singleton]
    exact decide_eq_true (Nat.le_trans (show t.length + 1 ≤ 13 by omega) (by decide))
  have c5 : decide ((t ++ [x]).length + d.length ≤ lim) = true := by
    rw [List.length_append, List.length_singleton]
    exact decide_eq_true (Nat.le_trans (show t.length + 1 + d.length ≤ 25 by omega) (by decide))
  have fin : t ++ [x] ++ d = insZ x l := by rw [ei, List.append_assoc]; rfl
  simp only [f_s_l16Sort_r0, f_s_l16Sort_k0, ints_length, lt_dec hi, br_true, key, bl1_one, c1, z0, c3, ok_nat hi, hxi, List.nil_append, c4, ints_snoc, c2, z1, c5, ints_append, fin, ← hx, w64_nat (by omega : i < 9223372036854775807)]
theorem s_l16Sort_eq {L : List Int} (hL : L.length ≤ 12) : f_s_l16Sort (ints L) = some (ints (insAllZ L)) := by
  have step : ∀ k, k < L.length → (L.take (k + 1)).foldl (fun o x => insZ x o) [] = insZ (L.getD k 0) ((L.take k).foldl (fun o x => insZ x o) []) := by
    intro k hk
    rw [List.take_succ_eq_append_getElem hk, List.foldl_append]
    simp [List.getD, List.getElem?_eq_getElem hk]
  have key := loop_count (rd := f_s_l16Sort_r0 (ints L)) (fun k => (ints ((L.take k).foldl (fun o x => insZ x o) []), (k : Int))) L.length (a := (ints ((L.take L.length).foldl (fun o x => insZ x o) []), (L.length : Int))) (fun k hk => by
    have hp : ((L.take k).foldl (fun o x => insZ x o) []).Perm (L.take k) := insAllZ_perm (L.take k)
    rw [step k hk]
    exact s_sort_step hk hL (insAllZ_sorted (L.take k)) (by rw [hp.length_eq, List.length_take]; omega)) (by
    simp only [f_s_l16Sort_r0, f_s_l16Sort_k0, ints_length, lt_dec_self, br_false]) 0 (Nat.zero_le _)
  rw [List.take_length] at key
  have key : loopL (f_s_l16Sort_r0 (ints L)) ([], 0) = some (.one (ints (insAllZ L), (L.length : Int))) := key
  simp only [f_s_l16Sort, f_s_l16Sort_k, key, bl1_one]
end Go.Proofs.Ytphbclogflflmaa
