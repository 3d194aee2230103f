/-
  PlainAG: rows put in order: by inserting, by the library's sort; the tiles of a search are different ones; TilesOf, SplitsOf.
-/
import Derived.Test.YtdlofeehgkijhaaPlainAB
import Derived.Test.YtdlofeehgkijhaaVSort
set_option linter.unusedVariables false
set_option linter.unusedSimpArgs false
namespace Go.Proofs.Ytdlofeehgkijhaa
open Go Ev

/-! ### Order -/
/-- A number put behind those that are not greater. -/
def insN (x : Nat) (l : List Nat) : List Nat := l.takeWhile (fun y => decide (y ≤ x)) ++ x :: l.dropWhile (fun y => decide (y ≤ x))
def insAll (l : List Nat) : List Nat := l.foldl (fun o x => insN x o) []
theorem ins_perm (x : Nat) (l : List Nat) : (insN x l).Perm (x :: l) := by
  unfold insN
  refine List.perm_middle.trans (List.Perm.cons x ?_)
  rw [List.takeWhile_append_dropWhile]
theorem insAll_perm_aux : ∀ (l o : List Nat), (l.foldl (fun o x => insN x o) o).Perm (o ++ l)
  | [], o => by simp
  | x :: l, o => by
    refine (insAll_perm_aux l (insN x o)).trans ?_
    refine ((ins_perm x o).append_right l).trans ?_
    exact List.perm_middle.symm
theorem insAll_perm (l : List Nat) : (insAll l).Perm l := insAll_perm_aux l []
/-- On a sorted list: all ahead are at most x, all behind are greater. -/
theorem ins_sorted {x : Nat} : ∀ {l : List Nat}, l.Pairwise (· ≤ ·) → (insN x l).Pairwise (· ≤ ·)
  | [], _ => by simp [insN]
  | y :: l, h => by
    obtain ⟨h1, h2⟩ := List.pairwise_cons.1 h
    unfold insN
    by_cases hy : y ≤ x
    · rw [List.takeWhile_cons_of_pos (by simpa using hy), List.dropWhile_cons_of_pos (by simpa using hy), List.cons_append]
      refine List.pairwise_cons.2 ⟨fun z hz => ?_, ins_sorted h2⟩
      have := (ins_perm x l).subset hz
      rcases List.mem_cons.1 this with rfl | hz
      · exact hy
      · exact h1 z hz
    · rw [List.takeWhile_cons_of_neg (by simpa using hy), List.dropWhile_cons_of_neg (by simpa using hy), List.nil_append]
      refine List.pairwise_cons.2 ⟨fun z hz => ?_, h⟩
      rcases List.mem_cons.1 hz with rfl | hz
      · omega
      · have := h1 z hz; omega
theorem insAll_sorted_aux : ∀ (l o : List Nat), o.Pairwise (· ≤ ·) → (l.foldl (fun o x => insN x o) o).Pairwise (· ≤ ·)
  | [], o, h => h
  | x :: l, o, h => insAll_sorted_aux l _ (ins_sorted h)
theorem insAll_sorted (l : List Nat) : (insAll l).Pairwise (· ≤ ·) := insAll_sorted_aux l [] List.Pairwise.nil
theorem sort_nat (l : List Nat) : sortZ (natsI l) = natsI (insAll l) := by
  refine List.Perm.eq_of_pairwise (le := fun a b => decide (a ≤ b) = true) (fun a b _ _ h1 h2 => ?_) ?_ ?_ ?_
  · have h1 := of_decide_eq_true h1
    have h2 := of_decide_eq_true h2
    omega
  · exact List.pairwise_mergeSort (fun a b c h1 h2 => by simp only [decide_eq_true_eq] at *; omega) (fun a b => by simp only [Bool.or_eq_true, decide_eq_true_eq]; omega) _
  · unfold natsI
    rw [List.pairwise_map]
    refine (insAll_sorted l).imp fun h => ?_
    exact decide_eq_true (by omega)
  · unfold sortZ
    refine (List.mergeSort_perm _ _).trans ?_
    unfold natsI
    exact ((insAll_perm l).symm).map _
theorem nums_ints (zs : List Int) : nums (ints zs) = zs ∧ allI (ints zs) = true := by
  constructor
  · unfold nums ints
    rw [List.map_map]
    conv => rhs; rw [← List.map_id zs]
    rfl
  · unfold allI ints
    rw [List.all_map, List.all_eq_true]
    intro x _
    rfl
theorem sortSc_nat {l : List Nat} (h : l.length ≤ lim) : sortSc (ints (natsI l)) = some (ints (natsI (insAll l))) := by
  unfold sortSc
  rw [(nums_ints _).1, (nums_ints _).2, ints_length, natsI_length, decide_eq_true h, sort_nat]
  rfl
theorem ins_split {x : Nat} {l : List Nat} (h : l.Pairwise (· ≤ ·)) : ∃ t d, l = t ++ d ∧ insN x l = t ++ x :: d ∧ (∀ y ∈ t, y ≤ x) ∧ ∀ y ∈ d, x < y := by
  refine ⟨l.takeWhile (fun y => decide (y ≤ x)), l.dropWhile (fun y => decide (y ≤ x)), List.takeWhile_append_dropWhile.symm, rfl, fun y hy => ?_, ?_⟩
  · have := List.all_takeWhile (p := fun y => decide (y ≤ x)) (l := l)
    exact of_decide_eq_true (List.all_eq_true.1 this y hy)
  · induction l with
    | nil => intro y hy; cases hy
    | cons z l ih =>
      obtain ⟨h1, h2⟩ := List.pairwise_cons.1 h
      by_cases hz : z ≤ x
      · rw [List.dropWhile_cons_of_pos (by simpa using hz)]
        exact ih h2
      · rw [List.dropWhile_cons_of_neg (by simpa using hz)]
        intro y hy
        rcases List.mem_cons.1 hy with rfl | hy
        · omega
        · have := h1 y hy; omega
theorem getD_mem {l : List Nat} {k : Nat} (h : k < l.length) : l.getD k 0 ∈ l := by simp [List.getD, List.getElem?_eq_getElem h]
theorem s_l5Put_eq {x : Nat} {l : List Nat} (h : l.Pairwise (· ≤ ·)) (hx : x ∉ l) (hlen : l.length ≤ 1000) : f_s_l5Put (ints (natsI l)) (x : Int) = some (ints (natsI (insN x l))) := by
  obtain ⟨t, d, e, ei, ht, hd⟩ := ins_split (x := x) h
  have hl : l.length = t.length + d.length := by rw [e, List.length_append]
  have hw : ∀ k : Nat, 1 ≤ k → k ≤ l.length → w64 ((k : Int) - 1) = ((k - 1 : Nat) : Int) := fun k h1 h2 => by
    rw [show (k : Int) - 1 = ((k - 1 : Nat) : Int) by omega]
    exact w64_cast (by omega)
  have key := loop_count (rd := f_s_l5Put_r0 (ints (natsI l)) (x : Int)) (fun j => ((l.length - j : Nat) : Int)) d.length (a := ((t.length : Nat) : Int)) (fun j hj => by
    have d0 : decide (((l.length - j : Nat) : Int) > 0) = true := decide_eq_true (by omega)
    have hat : l.getD (l.length - j - 1) 0 ∈ d := by
      rw [e]
      have : (t ++ d).getD ((t ++ d).length - j - 1) 0 = d.getD (d.length - j - 1) 0 := by
        simp only [List.getD, List.length_append]
        rw [List.getElem?_append_right (by omega), show t.length + d.length - j - 1 - t.length = d.length - j - 1 by omega]
      rw [this]
      exact getD_mem (by omega)
    have dg : decide (((l.getD (l.length - j - 1) 0 : Nat) : Int) > (x : Int)) = true := decide_eq_true (by have := hd _ hat; omega)
    simp only [f_s_l5Put_r0, f_s_l5Put_k0, d0, BEq.rfl, br_true, hw (l.length - j) (by omega) (by omega), ok_natsI (show l.length - j - 1 < l.length by omega), at_natsI, dg]
    rw [show l.length - (j + 1) = l.length - j - 1 by omega]) (by
    rw [show l.length - d.length = t.length by omega]
    by_cases h0 : t.length = 0
    · have d0 : decide (((t.length : Nat) : Int) > 0) = false := decide_eq_false (by omega)
      have bf : (false == true) = false := rfl
      simp only [f_s_l5Put_r0, f_s_l5Put_k0, d0, bf, br_false]
    · have d0 : decide (((t.length : Nat) : Int) > 0) = true := decide_eq_true (by omega)
      have hat : l.getD (t.length - 1) 0 ∈ t := by
        rw [e]
        have : (t ++ d).getD (t.length - 1) 0 = t.getD (t.length - 1) 0 := by
          simp only [List.getD]
          rw [List.getElem?_append_left (by omega)]
        rw [this]
        exact getD_mem (by omega)
      have dg : decide (((l.getD (t.length - 1) 0 : Nat) : Int) > (x : Int)) = false := decide_eq_false (by have := ht _ hat; omega)
      simp only [f_s_l5Put_r0, f_s_l5Put_k0, d0, BEq.rfl, br_true, hw t.length (by omega) (by omega), ok_natsI (show t.length - 1 < l.length by omega), at_natsI, dg, br_false]) 0 (Nat.zero_le _)
  simp only [Nat.sub_zero] at key
  have z0 : sliceA (ints (natsI l)) 0 ((t.length : Nat) : Int) = ints (natsI t) := by
    rw [e]
    simp [sliceA, ints, natsI]
  have z1 : sliceA (ints (natsI l)) ((t.length : Nat) : Int) (l.length : Int) = ints (natsI d) := by
    unfold sliceA
    rw [Int.toNat_natCast, Int.toNat_natCast, List.take_of_length_le (by rw [ints_length, natsI_length]; exact Nat.le_refl _), e]
    simp [ints, natsI]
  have c1 : (decide (0 ≤ (0 : Int)) && (decide ((0 : Int) ≤ ((t.length : Nat) : Int)) && decide (((t.length : Nat) : Int) ≤ (l.length : Int)))) = true := by
    simp only [Bool.and_eq_true, decide_eq_true_eq]; omega
  have c2 : (decide (0 ≤ ((t.length : Nat) : Int)) && (decide (((t.length : Nat) : Int) ≤ (l.length : Int)) && decide ((l.length : Int) ≤ (l.length : Int)))) = true := by
    simp only [Bool.and_eq_true, decide_eq_true_eq]; omega
  have c3 : decide (([] : List Sc).length + t.length ≤ lim) = true := by
    rw [List.length_nil, Nat.zero_add]
    exact decide_eq_true (Nat.le_trans (show t.length ≤ 1000 by omega) (by decide))
  have c4 : decide (t.length + [Sc.n .i64 (x : Int)].length ≤ lim) = true := by
    rw [List.length_singleton]
    exact decide_eq_true (Nat.le_trans (show t.length + 1 ≤ 1001 by omega) (by decide))
  have c5 : decide ((t ++ [x]).length + d.length ≤ lim) = true := by
    rw [List.length_append, List.length_singleton]
    exact decide_eq_true (Nat.le_trans (show t.length + 1 + d.length ≤ 1001 by omega) (by decide))
  have ap : ∀ A B : List Nat, ints (natsI A) ++ ints (natsI B) = ints (natsI (A ++ B)) := fun A B => by simp only [ints, natsI, List.map_append]
  have fin : t ++ [x] ++ d = insN x l := by rw [ei, List.append_assoc]; rfl
  simp only [f_s_l5Put, f_s_l5Put_k, ints_length, natsI_length, key, bl1_one]
  by_cases h0 : t.length = 0
  · have d0 : decide (((t.length : Nat) : Int) > 0) = false := decide_eq_false (by omega)
    have bf : (false == true) = false := rfl
    simp only [d0, bf, br_false, c1, c2, br_true, z0, z1, ints_length, natsI_length, c3, List.nil_append, c4, ints_cast_snoc, c5, ap, fin]
  · have d0 : decide (((t.length : Nat) : Int) > 0) = true := decide_eq_true (by omega)
    have hat : l.getD (t.length - 1) 0 ∈ l := getD_mem (by omega)
    have de : (((l.getD (t.length - 1) 0 : Nat) : Int) == (x : Int)) = false := by
      rw [eq_nat_decM]
      exact decide_eq_false fun h => hx (by rw [← h]; exact hat)
    simp only [d0, BEq.rfl, br_true, hw t.length (by omega) (by omega), ok_natsI (show t.length - 1 < l.length by omega), at_natsI, de, br_false, c1, c2, z0, z1, ints_length, natsI_length, c3, List.nil_append, c4, ints_cast_snoc, c5, ap, fin]
/-! ### Different tiles -/
section
variable {g : List Nat} {a : Nat}
theorem and_or_zero {x u s : Nat} (h : x &&& (u ||| s) = 0) : x &&& u = 0 := by
  apply Nat.eq_of_testBit_eq
  intro i
  have hi : (x &&& (u ||| s)).testBit i = (0 : Nat).testBit i := by rw [h]
  rw [Nat.testBit_and, Nat.testBit_or, Nat.zero_testBit] at hi
  rw [Nat.testBit_and, Nat.zero_testBit]
  cases hx : x.testBit i <;> cases hu : u.testBit i <;> simp_all
theorem til_step {n u b m : Nat} (h : m ∈ tilN g a (n + 1) u b) (hf : u ≠ 2 ^ ordN g - 1) : ∃ l ∈ elems a, shiftN g a (addN g (fzN u) (negN g l)) &&& u = 0 ∧ m ∈ tilN g a n (u ||| shiftN g a (addN g (fzN u) (negN g l))) (b ||| 2 ^ addN g (fzN u) (negN g l)) := by
  unfold tilN at h
  rw [if_neg hf] at h
  obtain ⟨l, hl, hm⟩ := List.mem_flatMap.1 h
  unfold tilS at hm
  split at hm
  · rename_i hz
    exact ⟨l, hl, hz, hm⟩
  · cases hm
theorem til_sub : ∀ (n u b m : Nat), m ∈ tilN g a n u b → ∀ i, b.testBit i = true → m.testBit i = true
  | 0, _, _, m, h, _, _ => by cases h
  | n + 1, u, b, m, h, i, hi => by
    by_cases hf : u = 2 ^ ordN g - 1
    · unfold tilN at h
      rw [if_pos hf] at h
      rw [List.mem_singleton.1 h]
      exact hi
    · obtain ⟨l, _, _, hm⟩ := til_step h hf
      exact til_sub n _ _ m hm i (by rw [Nat.testBit_or, hi]; rfl)
theorem til_dis : ∀ (n u b m : Nat), m ∈ tilN g a n u b → ∀ y, m.testBit y = true → b.testBit y = false → shiftN g a y &&& u = 0
  | 0, _, _, m, h, _, _, _ => by cases h
  | n + 1, u, b, m, h, y, hy, hb => by
    by_cases hf : u = 2 ^ ordN g - 1
    · unfold tilN at h
      rw [if_pos hf] at h
      rw [List.mem_singleton.1 h, hb] at hy
      cases hy
    · obtain ⟨l, _, hz, hm⟩ := til_step h hf
      cases hc : (b ||| 2 ^ addN g (fzN u) (negN g l)).testBit y with
      | true =>
        rw [Nat.testBit_or, hb, Bool.false_or, pow_test] at hc
        rw [← of_decide_eq_true hc]
        exact hz
      | false => exact and_or_zero (til_dis n _ _ m hm y hy hc)
theorem nodup_all (v : VG g) (ha : a < 2 ^ ordN g) : ∀ (n u b : Nat), u < 2 ^ ordN g → (∀ y, b.testBit y = true → ∀ i, (shiftN g a y).testBit i = true → u.testBit i = true) → (tilN g a n u b).Nodup
  | 0, _, _, _, _ => List.Pairwise.nil
  | n + 1, u, b, hu, hI => by
    by_cases hf : u = 2 ^ ordN g - 1
    · unfold tilN
      rw [if_pos hf]
      simp
    · obtain ⟨f1, f2, f3⟩ := fz_spec v.ord hu hf
      have ha' := set_i64 v ha
      -- the least number that is not reached is reached by each shift
      have he : ∀ l ∈ elems a, (shiftN g a (addN g (fzN u) (negN g l))).testBit (fzN u) = true := fun l hl => by
        rw [shiftN_test, List.any_eq_true]
        refine ⟨l, hl, decide_eq_true ?_⟩
        rw [addN_assoc g v.each, addN_comm g (negN g l), addN_neg g v.each, addN_comm, addN_zero g _ v.each f1]
      unfold tilN
      rw [if_neg hf]
      unfold List.Nodup
      rw [List.pairwise_flatMap]
      constructor
      · intro l hl
        unfold tilS
        split
        · refine nodup_all v ha n _ _ (or_lt hu (shiftN_lt v a _)) fun y hy i hi => ?_
          rw [Nat.testBit_or, Bool.or_eq_true] at hy ⊢
          rcases hy with hy | hy
          · exact .inl (hI y hy i hi)
          · rw [pow_test] at hy
            rw [of_decide_eq_true hy]
            exact .inr hi
        · exact List.Pairwise.nil
      · refine List.Pairwise.imp_of_mem (R := (· < ·)) (fun {l1 l2} h1 h2 hlt m1 hm1 m2 hm2 hmm => ?_) (List.Pairwise.filter _ List.pairwise_lt_range)
        subst hmm
        unfold tilS at hm1 hm2
        split at hm1
        · split at hm2
          · have t1 := til_sub _ _ _ _ hm2 (addN g (fzN u) (negN g l2)) (by rw [Nat.testBit_or, pow_test, decide_eq_true rfl, Bool.or_true])
            cases hc : (b ||| 2 ^ addN g (fzN u) (negN g l1)).testBit (addN g (fzN u) (negN g l2)) with
            | false =>
              have hd := til_dis _ _ _ _ hm1 _ t1 hc
              have hb : (shiftN g a (addN g (fzN u) (negN g l2)) &&& (u ||| shiftN g a (addN g (fzN u) (negN g l1)))).testBit (fzN u) = true := by
                rw [Nat.testBit_and, Nat.testBit_or, he l2 h2, he l1 h1, Bool.or_true]
                rfl
              rw [hd, Nat.zero_testBit] at hb
              cases hb
            | true =>
              rw [Nat.testBit_or, Bool.or_eq_true] at hc
              rcases hc with hc | hc
              · have := hI _ hc (fzN u) (he l2 h2)
                rw [f2] at this
                cases this
              · rw [pow_test] at hc
                have hc := of_decide_eq_true hc
                have key : ∀ l ∈ elems a, addN g (negN g (addN g (fzN u) (negN g l))) (fzN u) = l := fun l hl => by
                  have hl' := elems_lt ha hl
                  have e1 : fzN u = addN g (addN g (fzN u) (negN g l)) l := by
                    rw [addN_assoc g v.each, addN_comm g (negN g l), addN_neg g v.each, addN_comm, addN_zero g _ v.each f1]
                  have e2 := congrArg (addN g (negN g (addN g (fzN u) (negN g l)))) e1
                  exact e2.trans (by rw [← addN_assoc g v.each, addN_comm g (negN g _), addN_neg g v.each, addN_zero g _ v.each hl'])
                have k1 := key l1 h1
                have k2 := key l2 h2
                rw [hc, k2] at k1
                omega
          · cases hm2
        · cases hm1
theorem tiles_nodup (v : VG g) (ha : a < 2 ^ ordN g) : (tilesN g a).Nodup := by
  refine nodup_all v ha _ _ _ ha fun y hy i hi => ?_
  have : y = 0 := by
    have h : (1 : Nat).testBit y = true := hy
    rw [show (1 : Nat) = 2 ^ 0 from rfl, pow_test] at h
    exact (of_decide_eq_true h).symm
  subst this
  rwa [shiftN_zero v ha] at hi
end
theorem s_put_loop : ∀ (L : List Nat), L.Nodup → L.length ≤ 1000 → loopL f_s_TilesOf_r0 ([], ints (natsI L), 0) = some (.one (ints (natsI (insAll L)))) := by
  intro L hn hlen
  have pre : ∀ k, k ≤ L.length → ((L.take k).foldl (fun o x => insN x o) []).Perm (L.take k) := fun k _ => insAll_perm (L.take k)
  have step : ∀ k, k < L.length → (L.take (k + 1)).foldl (fun o x => insN x o) [] = insN (L.getD k 0) ((L.take k).foldl (fun o x => insN x o) []) := by
    intro k hk
    rw [List.take_succ_eq_append_getElem hk, List.foldl_append]
    simp [List.getD, List.getElem?_eq_getElem hk]
  have key := loop_count (rd := f_s_TilesOf_r0) (fun k => (ints (natsI ((L.take k).foldl (fun o x => insN x o) [])), ints (natsI L), (k : Int))) L.length (a := ints (natsI ((L.take L.length).foldl (fun o x => insN x o) []))) (fun k hk => by
    have hp := pre k (by omega)
    have hfresh : L.getD k 0 ∉ (L.take k).foldl (fun o x => insN x o) [] := fun hm => by
      have hm := hp.subset hm
      have hs : (L.take (k + 1)).Nodup := hn.sublist (List.take_sublist _ _)
      rw [List.take_succ_eq_append_getElem hk] at hs
      have := (List.nodup_append.1 hs).2.2 _ hm _ (List.mem_singleton_self _)
      apply this
      simp [List.getD, List.getElem?_eq_getElem hk]
    have hl : ((L.take k).foldl (fun o x => insN x o) []).length ≤ 1000 := by rw [hp.length_eq, List.length_take]; omega
    have hput := s_l5Put_eq (l := (L.take k).foldl (fun o x => insN x o) []) (insAll_sorted (L.take k)) hfresh hl
    simp only [f_s_TilesOf_r0, f_s_TilesOf_k0, ints_length, natsI_length, lt_dec hk, br_true, in_nat hk, Int.toNat_natCast, kAt_ints, atN_natsI, hput, bo_some, step k hk, w64_nat (by omega : k < 9223372036854775807)]) (by
    simp only [f_s_TilesOf_r0, f_s_TilesOf_k0, ints_length, natsI_length, lt_dec_self, br_false]) 0 (Nat.zero_le _)
  rw [List.take_length] at key
  exact key
theorem TilesOf_both (G : List Int) (a : Int) (h : G.length ≤ lim) : ∃ R b, f_s_TilesOf (ints G) a = some (ints R, b) ∧ f_i_TilesOf (ints G) a = some (ints R, b) ∧ R.length ≤ 200 := by
  simp only [f_s_TilesOf, f_s_TilesOf_k, f_i_TilesOf, f_i_TilesOf_k, s_IsSet_eq G a h, i_IsSet_eq G a h, bo_some]
  cases hs : setG G a with
  | false => exact ⟨[], _, rfl, rfl, by simp⟩
  | true =>
    obtain ⟨g, n, rfl, v, rfl, hn⟩ := nat_of_set hs
    rw [zdec]
    by_cases h0 : n = 0
    · rw [decide_eq_true h0]; exact ⟨[], _, rfl, rfl, by simp⟩
    · have e1 := s_tiles_all v hn h0 (m := 200) (by decide) (by decide)
      have e2 := i_tiles_all v hn h0 (m := 200) (by decide) (by decide)
      rw [show ((200 : Nat) : Int) = 200 from rfl] at e1 e2
      have hlen : ((tilesN g n).take 200).length ≤ 200 := by rw [List.length_take]; omega
      have hl := s_put_loop ((tilesN g n).take 200) ((tiles_nodup v hn).sublist (List.take_sublist _ _)) (by omega)
      have hsort : f_slices_Sort (ints (natsI ((tilesN g n).take 200))) = some (ints (natsI (insAll ((tilesN g n).take 200)))) := sortSc_nat (Nat.le_trans hlen (by decide))
      simp only [decide_eq_false h0, s_l2Order_eq _ h, v.ordS, bo_some, neg_dec, full_ord v, e1, e2, hl, hsort, bl1_one]
      exact ⟨natsI (insAll ((tilesN g n).take 200)), true, rfl, rfl, by rw [natsI_length, (insAll_perm _).length_eq]; exact hlen⟩
theorem FnExactTilesOf_plain (x0 : List Int) (x1 : Int) (w0 : All64 x0) (w1 : In64 x1) : f_l_FnExactTilesOf (ints x0) x1 = some true := by
  simp only [f_l_FnExactTilesOf, f_l_FnExactTilesOf_k]
  by_cases h : x0.length ≤ 1048576
  · obtain ⟨r, hr, hd⟩ := sz_gate h
    have hl := le_lim h
    obtain ⟨R, b, e1, e2, hR⟩ := TilesOf_both x0 x1 hl
    have hR1 : R.length ≤ lim := Nat.le_trans hR (by decide)
    have m1 : f_l_markGroup_io 1 (ints x0) = some (((1 + x0.length : Nat) : Int), ints (upK 1 x0.length)) := by
      have := mark_eq x0 1 (le_lim' (by omega))
      simp only [Int.natCast_one] at this
      simp only [f_l_markGroup_io, f_l_markGroup_io_k, this, bo_some]
    have m3 := mark_eq R 1 (Nat.le_trans (show 1 + R.length ≤ 16777217 by omega) (by decide))
    have h3 := held_eq 1 R.length (Nat.le_trans (show 1 + R.length ≤ 16777217 by omega) (by decide))
    simp only [Int.natCast_one] at m3 h3
    simp only [hr, bo_some, hd, br_false, grOk_ints _ hl, br_true, e1, e2, eqIntS_self _ hR1, eqGroup_self _ hl, Bool.not_true, BEq.rfl, m1, m3, h3, neg_dec, bne_self_eq_false]
  · obtain ⟨r, hr, hd⟩ := sz_shut h w0.2
    simp only [hr, bo_some, hd, br_true, br_false]
theorem FnExactSplitsOf_plain (x0 : List Int) (x1 : Int) (w0 : All64 x0) (w1 : In64 x1) : f_l_FnExactSplitsOf (ints x0) x1 = some true := by
  simp only [f_l_FnExactSplitsOf, f_l_FnExactSplitsOf_k]
  by_cases h : x0.length ≤ 1048576
  · obtain ⟨r, hr, hd⟩ := sz_gate h
    have hl := le_lim h
    obtain ⟨R, b, e1, e2, hR⟩ := TilesOf_both x0 x1 hl
    have e : ∃ r2, f_s_SplitsOf (ints x0) x1 = some r2 ∧ f_i_SplitsOf (ints x0) x1 = some r2 := by
      simp only [f_s_SplitsOf, f_s_SplitsOf_k, f_i_SplitsOf, f_i_SplitsOf_k, e1, e2, bo_some]
      cases b <;> exact ⟨_, rfl, rfl⟩
    obtain ⟨r2, e1, e2⟩ := e
    simp only [hr, bo_some, hd, br_false, grOk_ints _ hl, br_true, e1, e2, bne_self_eq_false, eqGroup_self _ hl, Bool.not_true, BEq.rfl]
  · obtain ⟨r, hr, hd⟩ := sz_shut h w0.2
    simp only [hr, bo_some, hd, br_true, br_false]
end Go.Proofs.Ytdlofeehgkijhaa
