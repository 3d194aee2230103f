/-
  PlainBU: the different lengths: put in order one by one, or sorted and compacted.
-/
import Derived.Test.YtdocbpiocinllaaPlainBT
import Derived.Test.YtdocbpiocinllaaPlainM
import Derived.Test.YtdocbpiocinllaaPlainL
import Derived.Test.YtdocbpiocinllaaVSort
import Derived.Test.YtdocbpiocinllaaVCompact
set_option linter.unusedVariables false
set_option linter.unusedSimpArgs false
namespace Go.Proofs.Ytdocbpiocinllaa
open Go Ev

def insN (x : Nat) (l : List Nat) : List Nat := l.takeWhile (fun y => decide (y ≤ x)) ++ x :: l.dropWhile (fun y => decide (y ≤ x))
theorem ins_perm (x : Nat) (l : List Nat) : (insN x l).Perm (x :: l) := by
  unfold insN
  refine List.perm_middle.trans (List.Perm.cons x ?_)
  rw [List.takeWhile_append_dropWhile]
theorem nums_ints (zs : List Int) : nums (ints zs) = zs ∧ allI (ints zs) = true := by
  constructor
  · unfold nums ints
    rw [List.map_map]
    conv => rhs; rw [← List.map_id zs]
    rfl
  · unfold allI ints
    rw [List.all_map, List.all_eq_true]
    intro x _
    rfl
theorem ins_split {x : Nat} {l : List Nat} (h : l.Pairwise (· ≤ ·)) : ∃ t d, l = t ++ d ∧ insN x l = t ++ x :: d ∧ (∀ y ∈ t, y ≤ x) ∧ ∀ y ∈ d, x < y := by
  refine ⟨l.takeWhile (fun y => decide (y ≤ x)), l.dropWhile (fun y => decide (y ≤ x)), List.takeWhile_append_dropWhile.symm, rfl, fun y hy => ?_, ?_⟩
  · have := List.all_takeWhile (p := fun y => decide (y ≤ x)) (l := l)
    exact of_decide_eq_true (List.all_eq_true.1 this y hy)
  · induction l with
    | nil => intro y hy; cases hy
    | cons z l ih =>
      obtain ⟨h1, h2⟩ := List.pairwise_cons.1 h
      by_cases hz : z ≤ x
      · rw [List.dropWhile_cons_of_pos (by simpa using hz)]
        exact ih h2
      · rw [List.dropWhile_cons_of_neg (by simpa using hz)]
        intro y hy
        rcases List.mem_cons.1 hy with rfl | hy
        · omega
        · have := h1 y hy; omega
theorem getD_memN {l : List Nat} {k : Nat} (h : k < l.length) : l.getD k 0 ∈ l := by simp [List.getD, List.getElem?_eq_getElem h]
theorem s_l5Put_eq {x : Nat} {l : List Nat} (h : l.Pairwise (· ≤ ·)) (hx : x ∉ l) (hlen : l.length ≤ 1000) : f_s_l5Put (ints (natsI l)) (x : Int) = some (ints (natsI (insN x l))) := by
  obtain ⟨t, d, e, ei, ht, hd⟩ := ins_split (x := x) h
  have hl : l.length = t.length + d.length := by rw [e, List.length_append]
  have hw : ∀ k : Nat, 1 ≤ k → k ≤ l.length → w64 ((k : Int) - 1) = ((k - 1 : Nat) : Int) := fun k h1 h2 => by
    rw [show (k : Int) - 1 = ((k - 1 : Nat) : Int) by omega]
    exact w64_cast (by omega)
  have key := loop_count (rd := f_s_l5Put_r0 (ints (natsI l)) (x : Int)) (fun j => ((l.length - j : Nat) : Int)) d.length (a := ((t.length : Nat) : Int)) (fun j hj => by
    have d0 : decide (((l.length - j : Nat) : Int) > 0) = true := decide_eq_true (by omega)
    have hat : l.getD (l.length - j - 1) 0 ∈ d := by
      rw [e]
      have : (t ++ d).getD ((t ++ d).length - j - 1) 0 = d.getD (d.length - j - 1) 0 := by
        simp only [List.getD, List.length_append]
        rw [List.getElem?_append_right (by omega), show t.length + d.length - j - 1 - t.length = d.length - j - 1 by omega]
      rw [this]
      exact getD_memN (by omega)
    have dg : decide (((l.getD (l.length - j - 1) 0 : Nat) : Int) > (x : Int)) = true := decide_eq_true (by have := hd _ hat; omega)
    simp only [f_s_l5Put_r0, f_s_l5Put_k0, d0, BEq.rfl, br_true, hw (l.length - j) (by omega) (by omega), ok_natsI (show l.length - j - 1 < l.length by omega), at_natsI, dg]
    rw [show l.length - (j + 1) = l.length - j - 1 by omega]) (by
    rw [show l.length - d.length = t.length by omega]
    by_cases h0 : t.length = 0
    · have d0 : decide (((t.length : Nat) : Int) > 0) = false := decide_eq_false (by omega)
      have bf : (false == true) = false := rfl
      simp only [f_s_l5Put_r0, f_s_l5Put_k0, d0, bf, br_false]
    · have d0 : decide (((t.length : Nat) : Int) > 0) = true := decide_eq_true (by omega)
      have hat : l.getD (t.length - 1) 0 ∈ t := by
        rw [e]
        have : (t ++ d).getD (t.length - 1) 0 = t.getD (t.length - 1) 0 := by
          simp only [List.getD]
          rw [List.getElem?_append_left (by omega)]
        rw [this]
        exact getD_memN (by omega)
      have dg : decide (((l.getD (t.length - 1) 0 : Nat) : Int) > (x : Int)) = false := decide_eq_false (by have := ht _ hat; omega)
      simp only [f_s_l5Put_r0, f_s_l5Put_k0, d0, BEq.rfl, br_true, hw t.length (by omega) (by omega), ok_natsI (show t.length - 1 < l.length by omega), at_natsI, dg, br_false]) 0 (Nat.zero_le _)
  simp only [Nat.sub_zero] at key
  have z0 : sliceA (ints (natsI l)) 0 ((t.length : Nat) : Int) = ints (natsI t) := by
    rw [e]
    simp [sliceA, ints, natsI]
  have z1 : sliceA (ints (natsI l)) ((t.length : Nat) : Int) (l.length : Int) = ints (natsI d) := by
    unfold sliceA
    rw [Int.toNat_natCast, Int.toNat_natCast, List.take_of_length_le (by rw [ints_length, natsI_length]; exact Nat.le_refl _), e]
    simp [ints, natsI]
  have c1 : (decide (0 ≤ (0 : Int)) && (decide ((0 : Int) ≤ ((t.length : Nat) : Int)) && decide (((t.length : Nat) : Int) ≤ (l.length : Int)))) = true := by
    simp only [Bool.and_eq_true, decide_eq_true_eq]; omega
  have c2 : (decide (0 ≤ ((t.length : Nat) : Int)) && (decide (((t.length : Nat) : Int) ≤ (l.length : Int)) && decide ((l.length : Int) ≤ (l.length : Int)))) = true := by
    simp only [Bool.and_eq_true, decide_eq_true_eq]; omega
  have c3 : decide (([] : List Sc).length + t.length ≤ lim) = true := by
    rw [List.length_nil, Nat.zero_add]
    exact decide_eq_true (Nat.le_trans (show t.length ≤ 1000 by omega) (by decide))
  have c4 : decide (t.length + [Sc.n .i64 (x : Int)].length ≤ lim) = true := by
    rw [List.length_singleton]
    exact decide_eq_true (Nat.le_trans (show t.length + 1 ≤ 1001 by omega) (by decide))
  have c5 : decide ((t ++ [x]).length + d.length ≤ lim) = true := by
    rw [List.length_append, List.length_singleton]
    exact decide_eq_true (Nat.le_trans (show t.length + 1 + d.length ≤ 1001 by omega) (by decide))
  have ap : ∀ A B : List Nat, ints (natsI A) ++ ints (natsI B) = ints (natsI (A ++ B)) := fun A B => by simp only [ints, natsI, List.map_append]
  have fin : t ++ [x] ++ d = insN x l := by rw [ei, List.append_assoc]; rfl
  simp only [f_s_l5Put, f_s_l5Put_k, ints_length, natsI_length, key, bl1_one]
  by_cases h0 : t.length = 0
  · have d0 : decide (((t.length : Nat) : Int) > 0) = false := decide_eq_false (by omega)
    have bf : (false == true) = false := rfl
    simp only [d0, bf, br_false, c1, c2, br_true, z0, z1, ints_length, natsI_length, c3, List.nil_append, c4, ints_cast_snoc, c5, ap, fin]
  · have d0 : decide (((t.length : Nat) : Int) > 0) = true := decide_eq_true (by omega)
    have hat : l.getD (t.length - 1) 0 ∈ l := getD_memN (by omega)
    have de : (((l.getD (t.length - 1) 0 : Nat) : Int) == (x : Int)) = false := by
      rw [eq_nat_decM]
      exact decide_eq_false fun h => hx (by rw [← h]; exact hat)
    simp only [d0, BEq.rfl, br_true, hw t.length (by omega) (by omega), ok_natsI (show t.length - 1 < l.length by omega), at_natsI, de, br_false, c1, c2, z0, z1, ints_length, natsI_length, c3, List.nil_append, c4, ints_cast_snoc, c5, ap, fin]
theorem s_l5Put_mem {x : Nat} {l : List Nat} (h : l.Pairwise (· ≤ ·)) (hx : x ∈ l) (hlen : l.length ≤ 1000) : f_s_l5Put (ints (natsI l)) (x : Int) = some (ints (natsI l)) := by
  obtain ⟨t, d, e, ei, ht, hd⟩ := ins_split (x := x) h
  have hl : l.length = t.length + d.length := by rw [e, List.length_append]
  have hw : ∀ k : Nat, 1 ≤ k → k ≤ l.length → w64 ((k : Int) - 1) = ((k - 1 : Nat) : Int) := fun k h1 h2 => by
    rw [show (k : Int) - 1 = ((k - 1 : Nat) : Int) by omega]
    exact w64_cast (by omega)
  have key := loop_count (rd := f_s_l5Put_r0 (ints (natsI l)) (x : Int)) (fun j => ((l.length - j : Nat) : Int)) d.length (a := ((t.length : Nat) : Int)) (fun j hj => by
    have d0 : decide (((l.length - j : Nat) : Int) > 0) = true := decide_eq_true (by omega)
    have hat : l.getD (l.length - j - 1) 0 ∈ d := by
      rw [e]
      have : (t ++ d).getD ((t ++ d).length - j - 1) 0 = d.getD (d.length - j - 1) 0 := by
        simp only [List.getD, List.length_append]
        rw [List.getElem?_append_right (by omega), show t.length + d.length - j - 1 - t.length = d.length - j - 1 by omega]
      rw [this]
      exact getD_memN (by omega)
    have dg : decide (((l.getD (l.length - j - 1) 0 : Nat) : Int) > (x : Int)) = true := decide_eq_true (by have := hd _ hat; omega)
    simp only [f_s_l5Put_r0, f_s_l5Put_k0, d0, BEq.rfl, br_true, hw (l.length - j) (by omega) (by omega), ok_natsI (show l.length - j - 1 < l.length by omega), at_natsI, dg]
    rw [show l.length - (j + 1) = l.length - j - 1 by omega]) (by
    rw [show l.length - d.length = t.length by omega]
    by_cases h0 : t.length = 0
    · have d0 : decide (((t.length : Nat) : Int) > 0) = false := decide_eq_false (by omega)
      have bf : (false == true) = false := rfl
      simp only [f_s_l5Put_r0, f_s_l5Put_k0, d0, bf, br_false]
    · have d0 : decide (((t.length : Nat) : Int) > 0) = true := decide_eq_true (by omega)
      have hat : l.getD (t.length - 1) 0 ∈ t := by
        rw [e]
        have : (t ++ d).getD (t.length - 1) 0 = t.getD (t.length - 1) 0 := by
          simp only [List.getD]
          rw [List.getElem?_append_left (by omega)]
        rw [this]
        exact getD_memN (by omega)
      have dg : decide (((l.getD (t.length - 1) 0 : Nat) : Int) > (x : Int)) = false := decide_eq_false (by have := ht _ hat; omega)
      simp only [f_s_l5Put_r0, f_s_l5Put_k0, d0, BEq.rfl, br_true, hw t.length (by omega) (by omega), ok_natsI (show t.length - 1 < l.length by omega), at_natsI, dg, br_false]) 0 (Nat.zero_le _)
  simp only [Nat.sub_zero] at key
  have ht0 : t.length ≠ 0 := fun hh => by
    rw [List.length_eq_zero_iff] at hh
    subst hh
    rw [e, List.nil_append] at hx
    exact absurd (hd x hx) (by omega)
  have hat : l.getD (t.length - 1) 0 = x := by
    have hi : t.length - 1 < t.length := by omega
    have e1 : l.getD (t.length - 1) 0 = t[t.length - 1] := by
      rw [e]
      simp only [List.getD]
      rw [List.getElem?_append_left hi, List.getElem?_eq_getElem hi]
      rfl
    rw [e1]
    have hle : t[t.length - 1] ≤ x := ht _ (List.getElem_mem hi)
    have hxt : x ∈ t := by
      rw [e] at hx
      rcases List.mem_append.1 hx with h1 | h1
      · exact h1
      · exact absurd (hd x h1) (by omega)
    obtain ⟨j, hj, hjx⟩ := List.getElem_of_mem hxt
    rw [e] at h
    have hp := (List.pairwise_append.1 h).1
    by_cases hjl : j = t.length - 1
    · subst hjl; exact hjx
    · have := List.pairwise_iff_getElem.1 hp j (t.length - 1) hj hi (by omega)
      omega
  have d0 : decide (((t.length : Nat) : Int) > 0) = true := decide_eq_true (by omega)
  simp only [f_s_l5Put, f_s_l5Put_k, ints_length, natsI_length, key, bl1_one, d0, BEq.rfl, br_true, hw t.length (by omega) (by omega), ok_natsI (show t.length - 1 < l.length by omega), at_natsI, hat]
def putN (x : Nat) (l : List Nat) : List Nat := if x ∈ l then l else insN x l
theorem put_mem {x : Nat} {l : List Nat} (y : Nat) : y ∈ putN x l ↔ y = x ∨ y ∈ l := by
  unfold putN
  by_cases h : x ∈ l
  · rw [if_pos h]; exact ⟨Or.inr, fun hh => hh.elim (fun e => e ▸ h) id⟩
  · rw [if_neg h, (ins_perm x l).mem_iff, List.mem_cons]
theorem put_sorted {x : Nat} {l : List Nat} (h : l.Pairwise (· < ·)) : (putN x l).Pairwise (· < ·) := by
  unfold putN
  by_cases hx : x ∈ l
  · rw [if_pos hx]; exact h
  · rw [if_neg hx]
    obtain ⟨t, d, e, ei, ht, hd⟩ := ins_split (x := x) (h.imp fun h => Nat.le_of_lt h)
    rw [ei]
    rw [e] at h hx
    rw [List.pairwise_append] at h ⊢
    refine ⟨h.1, List.pairwise_cons.2 ⟨fun y hy => hd y hy, h.2.1⟩, fun a ha b hb => ?_⟩
    rcases List.mem_cons.1 hb with rfl | hb
    · have h1 := ht a ha
      have h2 : a ≠ b := fun hh => hx (hh ▸ List.mem_append.2 (Or.inl ha))
      omega
    · exact h.2.2 a ha b hb
theorem put_len (x : Nat) (l : List Nat) : (putN x l).length ≤ l.length + 1 := by
  unfold putN
  by_cases hx : x ∈ l
  · rw [if_pos hx]; omega
  · rw [if_neg hx, (ins_perm x l).length_eq]; simp
def putAll (l : List Nat) : List Nat := l.foldl (fun o x => putN x o) []
theorem putAll_step (l : List Nat) (x : Nat) : putAll (l ++ [x]) = putN x (putAll l) := by simp [putAll]
theorem putAll_ok (l : List Nat) : (putAll l).Pairwise (· < ·) ∧ ∀ y, y ∈ putAll l ↔ y ∈ l := by
  have aux : ∀ (l o : List Nat), o.Pairwise (· < ·) → (l.foldl (fun o x => putN x o) o).Pairwise (· < ·) ∧ ∀ y, y ∈ l.foldl (fun o x => putN x o) o ↔ y ∈ o ∨ y ∈ l := by
    intro l
    induction l with
    | nil => intro o h; exact ⟨h, fun y => by simp⟩
    | cons a l ih =>
      intro o h
      obtain ⟨h1, h2⟩ := ih (putN a o) (put_sorted h)
      refine ⟨h1, fun y => ?_⟩
      rw [List.foldl_cons, h2, put_mem, List.mem_cons, or_assoc, or_left_comm]
  obtain ⟨h1, h2⟩ := aux l [] List.Pairwise.nil
  exact ⟨h1, fun y => by unfold putAll; rw [h2]; simp⟩
theorem strict_len : ∀ (n : Nat) (l : List Nat), l.Pairwise (· < ·) → (∀ y ∈ l, y < n) → l.length ≤ n := by
  intro n l h hb
  have hn : l.Nodup := h.imp fun h => Nat.ne_of_lt h
  have := hn.length_le_of_subset (l₂ := List.range n) fun y hy => List.mem_range.2 (hb y hy)
  simpa using this
theorem strict_eq {a b : List Int} (ha : a.Pairwise (· < ·)) (hb : b.Pairwise (· < ·)) (h : ∀ y, y ∈ a ↔ y ∈ b) : a = b := by
  refine List.Perm.eq_of_pairwise (le := fun a b : Int => a < b) (fun a b _ _ h1 h2 => by omega) ha hb ?_
  exact (List.perm_ext_iff_of_nodup (ha.imp fun h => by omega) (hb.imp fun h => by omega)).2 h
theorem compact_ok {zs : List Int} (h : zs.Pairwise (· ≤ ·)) : (Lib.compact zs).Pairwise (· < ·) ∧ ∀ y, y ∈ Lib.compact zs ↔ y ∈ zs := by
  have at_ : ∀ j (hj : j < zs.length), zs.toArray[j]! = zs[j] := fun j hj => by simp [hj]
  have aux : ∀ m, m ≤ zs.length → (Lib.compactUpTo zs.toArray m).Pairwise (· < ·) ∧ ∀ y, y ∈ Lib.compactUpTo zs.toArray m ↔ y ∈ zs.take m := by
    intro m
    induction m with
    | zero => intro _; simp [Lib.compactUpTo]
    | succ m ih =>
      intro hm
      obtain ⟨h1, h2⟩ := ih (by omega)
      have hm' : m < zs.length := by omega
      have et : zs.take (m + 1) = zs.take m ++ [zs[m]] := List.take_succ_eq_append_getElem hm'
      rw [Lib.compactUpTo_succ, et]
      by_cases hk : Lib.keeps zs.toArray m = true
      · rw [if_pos hk, at_ m hm']
        refine ⟨List.pairwise_append.2 ⟨h1, List.pairwise_singleton _ _, fun a ha b hb => ?_⟩, fun y => by simp only [List.mem_append, h2]⟩
        rw [List.mem_singleton] at hb
        subst hb
        have ha := (h2 a).1 ha
        obtain ⟨j, hj, rfl⟩ := List.getElem_of_mem ha
        have hj' : j < m := by rw [List.length_take] at hj; omega
        rw [List.getElem_take]
        unfold Lib.keeps at hk
        have hk := of_decide_eq_true hk
        rw [at_ m hm', at_ (m - 1) (by omega)] at hk
        have hne : zs[m] ≠ zs[m - 1] := hk.resolve_left (by omega)
        have h3 : zs[m - 1] ≤ zs[m] := List.pairwise_iff_getElem.1 h (m - 1) m (by omega) hm' (by omega)
        have h4 : zs[j] ≤ zs[m - 1] := by
          by_cases hjm : j = m - 1
          · subst hjm; exact Int.le_refl _
          · exact List.pairwise_iff_getElem.1 h j (m - 1) (by omega) (by omega) (by omega)
        omega
      · rw [if_neg hk, List.append_nil]
        refine ⟨h1, fun y => ?_⟩
        rw [h2, List.mem_append, List.mem_singleton]
        refine ⟨Or.inl, fun hh => hh.elim id fun e => ?_⟩
        subst e
        unfold Lib.keeps at hk
        have hk : ¬ (m = 0 ∨ zs.toArray[m]! ≠ zs.toArray[m - 1]!) := by simpa using hk
        have h0 : m ≠ 0 := fun h => hk (Or.inl h)
        have he : zs.toArray[m]! = zs.toArray[m - 1]! := Classical.byContradiction fun h => hk (Or.inr h)
        rw [at_ m hm', at_ (m - 1) (by omega)] at he
        rw [he]
        have : (zs.take m)[m - 1]'(by rw [List.length_take]; omega) = zs[m - 1] := List.getElem_take
        rw [← this]
        exact List.getElem_mem _
  obtain ⟨h1, h2⟩ := aux zs.length (Nat.le_refl _)
  exact ⟨h1, fun y => by rw [show Lib.compact zs = Lib.compactUpTo zs.toArray zs.length from rfl, h2, List.take_length]⟩
theorem sortZ_ok (zs : List Int) : (sortZ zs).Pairwise (· ≤ ·) ∧ (sortZ zs).Perm zs := by
  refine ⟨?_, List.mergeSort_perm _ _⟩
  have := List.pairwise_mergeSort (le := fun x y : Int => decide (x ≤ y)) (fun a b c h1 h2 => by simp only [decide_eq_true_eq] at *; omega) (fun a b => by simp only [Bool.or_eq_true, decide_eq_true_eq]; omega) zs
  exact this.imp fun h => of_decide_eq_true h
theorem compact_sort (l : List Nat) : Lib.compact (sortZ (natsI l)) = natsI (putAll l) := by
  obtain ⟨s1, s2⟩ := sortZ_ok (natsI l)
  obtain ⟨c1, c2⟩ := compact_ok s1
  obtain ⟨p1, p2⟩ := putAll_ok l
  refine strict_eq c1 ?_ fun y => ?_
  · unfold natsI
    rw [List.pairwise_map]
    exact p1.imp fun h => by omega
  · rw [c2, s2.mem_iff]
    unfold natsI
    simp only [List.mem_map, p2]
theorem s_put {l : List Nat} (h : l.Pairwise (· < ·)) (x : Nat) (hlen : l.length ≤ 1000) : f_s_l5Put (ints (natsI l)) (x : Int) = some (ints (natsI (putN x l))) := by
  unfold putN
  by_cases hx : x ∈ l
  · rw [if_pos hx]; exact s_l5Put_mem (h.imp fun h => Nat.le_of_lt h) hx hlen
  · rw [if_neg hx]; exact s_l5Put_eq (h.imp fun h => Nat.le_of_lt h) hx hlen
theorem LengthsOf_both (G L : List Int) (h : G.length ≤ lim) (hL : L.length ≤ lim) : ∃ n : List Nat, f_s_LengthsOf (ints G) (ints L) = some (ints (natsI n)) ∧ f_i_LengthsOf (ints G) (ints L) = some (ints (natsI n)) ∧ n.Pairwise (· < ·) ∧ n.length ≤ 14 ∧ ∀ y ∈ n, y < 14 := by
  obtain ⟨fs, ok, e1, e2, hok, hlen, hf⟩ := Factorizations_both G L h hL
  have h7 : (7 : Nat) ^ 12 ≤ lim := by decide
  have hl : fs.length ≤ lim := by omega
  have hb : ∀ y ∈ fs.map List.length, y < 14 := fun y hy => by
    obtain ⟨f, hf', rfl⟩ := List.mem_map.1 hy
    have := hf f hf'
    omega
  have hput : ∀ l : List Nat, (∀ y ∈ l, y < 14) → (putAll l).length ≤ 14 := fun l hl => strict_len 14 _ (putAll_ok l).1 fun y hy => hl y (((putAll_ok l).2 y).1 hy)
  have take1 : ∀ k, k < fs.length → (fs.map List.length).take (k + 1) = (fs.map List.length).take k ++ [(fs.getD k []).length] := fun k hk => by
    rw [List.take_succ_eq_append_getElem (by rw [List.length_map]; exact hk)]
    simp [List.getD, hk]
  have l2 : lim < 9223372036854775807 := by decide
  have ks := loop_count (rd := f_s_LengthsOf_r0 ok) (fun k => (ints (natsI (putAll ((fs.map List.length).take k))), encF fs, (k : Int))) fs.length (a := ints (natsI (putAll (fs.map List.length)))) (fun k hk => by
    have ho : ok = true := by
      cases ok with
      | true => rfl
      | false => rw [hok rfl] at hk; exact absurd hk (by simp)
    have hp := s_put (putAll_ok ((fs.map List.length).take k)).1 (fs.getD k []).length (Nat.le_trans (hput _ fun y hy => hb y (List.mem_of_mem_take hy)) (by decide))
    simp only [f_s_LengthsOf_r0, f_s_LengthsOf_k0, encF_len, lt_dec hk, BEq.rfl, ho, br_true, inRange_nat, decide_eq_true hk, Int.toNat_natCast, lsN_encF, lz_len, hp, bo_some, w64_nat (by omega : k < 9223372036854775807)]
    rw [take1 k hk, putAll_step])
    (by
      have bf : (false == true) = false := rfl
      simp only [f_s_LengthsOf_r0, f_s_LengthsOf_k0, encF_len, lt_dec_self, bf, br_false]
      rw [List.take_of_length_le (by rw [List.length_map]; exact Nat.le_refl _)]) 0 (Nat.zero_le _)
  have ki := loop_count (rd := f_i_LengthsOf_r0 (fs.length : Int)) (fun k => (ints (natsI ((fs.map List.length).take k)), encF fs, (k : Int))) fs.length (a := (ints (natsI (fs.map List.length)), encF fs)) (fun k hk => by
    have hll : decide ((ints (natsI ((fs.map List.length).take k))).length + [Sc.n .i64 (((fs.getD k []).length : Nat) : Int)].length ≤ lim) = true := decide_eq_true (by
      rw [ints_length, natsI_length, List.length_take, List.length_map, List.length_singleton]; omega)
    simp only [f_i_LengthsOf_r0, f_i_LengthsOf_k0, encF_len, lt_dec hk, br_true, inRange_nat, decide_eq_true hk, Int.toNat_natCast, lsN_encF, lz_len, hll, w64_nat (by omega : k < 9223372036854775807)]
    rw [take1 k hk]
    simp [natsI, ints])
    (by
      simp only [f_i_LengthsOf_r0, f_i_LengthsOf_k0, encF_len, lt_dec_self, br_false]
      rw [List.take_of_length_le (by rw [List.length_map]; exact Nat.le_refl _)]) 0 (Nat.zero_le _)
  have es : f_slices_Sort (ints (natsI (fs.map List.length))) = some (ints (sortZ (natsI (fs.map List.length)))) := by
    unfold f_slices_Sort sortSc
    rw [(nums_ints _).1, (nums_ints _).2, ints_length, natsI_length, List.length_map, decide_eq_true hl]
    rfl
  have ec : f_slices_Compact (ints (sortZ (natsI (fs.map List.length)))) = some (ints (natsI (putAll (fs.map List.length)))) := by
    unfold f_slices_Compact compactSc
    rw [(nums_ints _).1, (nums_ints _).2, ints_length, (sortZ_ok _).2.length_eq, natsI_length, List.length_map, decide_eq_true hl, compact_sort]
    rfl
  refine ⟨putAll (fs.map List.length), ?_, ?_, (putAll_ok _).1, hput _ hb, fun y hy => hb y (((putAll_ok _).2 y).1 hy)⟩
  · unfold f_s_LengthsOf f_s_LengthsOf_k
    rw [e1, bo_some]
    have k0 : loopL (f_s_LengthsOf_r0 ok) ([], encF fs, 0) = some (.one (ints (natsI (putAll (fs.map List.length))))) := ks
    simp only [k0, bl1_one]
  · unfold f_i_LengthsOf f_i_LengthsOf_k
    rw [e2, bo_some]
    have k0 : loopL (f_i_LengthsOf_r0 (fs.length : Int)) ([], encF fs, 0) = some (.one (ints (natsI (fs.map List.length)), encF fs)) := ki
    simp only [encF_len, k0, bl1_one, es, bo_some, ec]
end Go.Proofs.Ytdocbpiocinllaa
