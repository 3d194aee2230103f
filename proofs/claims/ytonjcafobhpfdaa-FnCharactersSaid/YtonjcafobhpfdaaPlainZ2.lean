/-
  The plain side, joined.
-/
import Derived.Test.YtonjcafobhpfdaaPlainZ1
set_option linter.unusedVariables false
set_option linter.unusedSimpArgs false
namespace Go.Proofs.Ytonjcafobhpfdaa
open Go Ev
theorem loop_ex2 {S A B : Type} {rd : S → Option (Ro S A B)} (P : Nat → S → Prop) (Q : A → Prop) (step : ∀ n s, P (n + 1) s → (∃ s', rd s = some (.again s') ∧ P n s') ∨ ∃ a, rd s = some (.one a) ∧ Q a)
    (last : ∀ s, P 0 s → ∃ a, rd s = some (.one a) ∧ Q a) : ∀ n s, P n s → ∃ a, loopL rd s = some (.one a) ∧ Q a
  | 0, s, h => by
    obtain ⟨a, e, q⟩ := last s h
    exact ⟨a, loopL_one e, q⟩
  | n + 1, s, h => by
    rcases step n s h with ⟨s', e, h'⟩ | ⟨a, e, q⟩
    · obtain ⟨a, e2, q⟩ := loop_ex2 P Q step last n s' h'
      exact ⟨a, by rw [loopL_again e, e2], q⟩
    · exact ⟨a, loopL_one e, q⟩
theorem l5Put_ok (l : List Nat) (n : Nat) (hl : l.length ≤ 100000) : ∃ r, f_s_l5Put (ints (natsI l)) (n : Int) = some (ints (natsI r)) ∧ r.length ≤ l.length + 1 ∧ 1 ≤ r.length ∧ ∀ x ∈ r, x ∈ l ∨ x = n := by
  have hw : ∀ m, 1 ≤ m → m ≤ l.length → w64 ((m : Int) - 1) = ((m - 1 : Nat) : Int) := fun m h1 h2 => by
    rw [show (m : Int) - 1 = ((m - 1 : Nat) : Int) by omega]
    exact w64_cast (by omega)
  have key := loop_ex2 (rd := f_s_l5Put_r0 (ints (natsI l)) (n : Int)) (fun m s => s = (m : Int) ∧ m ≤ l.length) (fun e => ∃ m : Nat, e = (m : Int) ∧ m ≤ l.length) (fun m s hs => by
      obtain ⟨rfl, hm⟩ := hs
      have d : decide (((m + 1 : Nat) : Int) > 0) = true := decide_eq_true (by omega)
      simp only [f_s_l5Put_r0, f_s_l5Put_k0, d, BEq.rfl, br_true, hw (m + 1) (by omega) hm, ok_natsI (show m + 1 - 1 < l.length by omega), at_natsI]
      cases decide (((l.getD (m + 1 - 1) 0 : Nat) : Int) > (n : Int)) with
      | true => exact .inl ⟨_, rfl, by rw [Nat.add_sub_cancel], by omega⟩
      | false => exact .inr ⟨_, rfl, m + 1, rfl, hm⟩)
    (fun s hs => by
      obtain ⟨rfl, hm⟩ := hs
      have d : decide (((0 : Nat) : Int) > 0) = false := by decide
      simp only [f_s_l5Put_r0, f_s_l5Put_k0, d, show (false == true) = false from rfl, br_false]
      exact ⟨_, rfl, 0, rfl, by omega⟩) l.length (l.length : Int) ⟨rfl, Nat.le_refl _⟩
  obtain ⟨e, ek, m, rfl, hm⟩ := key
  have z0 : sliceA (ints (natsI l)) 0 (m : Int) = ints (natsI (l.take m)) := by simp [sliceA, ints, natsI]
  have z1 : sliceA (ints (natsI l)) (m : Int) (l.length : Int) = ints (natsI (l.drop m)) := by
    unfold sliceA
    rw [Int.toNat_natCast, Int.toNat_natCast, List.take_of_length_le (by rw [ints_length, natsI_length]; exact Nat.le_refl _)]
    simp [ints, natsI]
  have c1 : (decide (0 ≤ (0 : Int)) && (decide ((0 : Int) ≤ (m : Int)) && decide ((m : Int) ≤ (l.length : Int)))) = true := by
    simp only [Bool.and_eq_true, decide_eq_true_eq]; omega
  have c2 : (decide (0 ≤ (m : Int)) && (decide ((m : Int) ≤ (l.length : Int)) && decide ((l.length : Int) ≤ (l.length : Int)))) = true := by
    simp only [Bool.and_eq_true, decide_eq_true_eq]; omega
  have hlim : 1000000 ≤ lim := by decide
  have t1 : (l.take m).length ≤ l.length := by rw [List.length_take]; omega
  have t2 : (l.drop m).length ≤ l.length := by rw [List.length_drop]; omega
  have c3 : decide (([] : List Sc).length + (l.take m).length ≤ lim) = true := decide_eq_true (by rw [List.length_nil]; omega)
  have c4 : decide ((l.take m).length + [Sc.n .i64 (n : Int)].length ≤ lim) = true := decide_eq_true (by rw [List.length_singleton]; omega)
  have c5 : decide ((l.take m ++ [n]).length + (l.drop m).length ≤ lim) = true := decide_eq_true (by rw [List.length_append, List.length_singleton]; omega)
  have ea : ints (natsI (l.take m ++ [n])) ++ ints (natsI (l.drop m)) = ints (natsI (l.take m ++ [n] ++ l.drop m)) := by
    unfold ints natsI
    simp
  have new : ∃ r : List Nat, l.take m ++ [n] ++ l.drop m = r ∧ r.length ≤ l.length + 1 ∧ 1 ≤ r.length ∧ ∀ x ∈ r, x ∈ l ∨ x = n := by
    refine ⟨_, rfl, ?_, ?_, fun x hx => ?_⟩
    · rw [List.length_append, List.length_append, List.length_singleton, List.length_take, List.length_drop]; omega
    · rw [List.length_append, List.length_append, List.length_singleton]; omega
    · rcases List.mem_append.1 hx with hx | hx
      · rcases List.mem_append.1 hx with hx | hx
        · exact .inl (List.mem_of_mem_take hx)
        · exact .inr (List.mem_singleton.1 hx)
      · exact .inl (List.mem_of_mem_drop hx)
  obtain ⟨r, er, r1, r2, r3⟩ := new
  simp only [f_s_l5Put, f_s_l5Put_k, ints_length, natsI_length, ek, bl1_one, c1, z0, c3, List.nil_append, c4, c2, z1, ints_cast_snoc, c5, ea, er, br_true]
  by_cases h0 : m = 0
  · have d : decide ((m : Int) > 0) = false := decide_eq_false (by omega)
    simp only [d, show (false == true) = false from rfl, br_false]
    exact ⟨r, rfl, r1, r2, r3⟩
  · have d : decide ((m : Int) > 0) = true := decide_eq_true (by omega)
    simp only [d, BEq.rfl, br_true, hw m (by omega) hm, ok_natsI (show m - 1 < l.length by omega), at_natsI]
    cases (((l.getD (m - 1) 0 : Nat) : Int) == (n : Int)) with
    | true => exact ⟨l, rfl, by omega, by omega, fun x hx => .inl hx⟩
    | false => exact ⟨r, rfl, r1, r2, r3⟩
theorem get_memW {l : List Nat} {k : Nat} (h : k < l.length) : l.getD k 0 ∈ l := by simp [List.getD, List.getElem?_eq_getElem h]
theorem SubgroupsOf_ok (G : List Int) (h : G.length ≤ lim) : ∃ L b, f_s_SubgroupsOf (ints G) = some (ints L, b) ∧ L.length ≤ 20000 ∧ (b = true → 1 ≤ L.length) := by
  cases hg : isG G with
  | false =>
    refine ⟨[], false, ?_, by simp, fun h => by cases h⟩
    simp only [f_s_SubgroupsOf, f_s_SubgroupsOf_k, s_IsGroup_eq G h, hg, bo_some]
    rfl
  | true =>
    obtain ⟨g, rfl, v⟩ := nat_of_isG hg
    have h24 := v.ord
    have o1 := ordN_pos v.each
    -- the cyclic ones
    have k0 := loop_ex (rd := f_s_SubgroupsOf_r0 (ints (natsI g)) [] ((ordN g : Nat) : Int)) (fun m s => ∃ l : List Nat, s = (ints (natsI l), ((ordN g - m : Nat) : Int)) ∧ m ≤ ordN g ∧ l.length + m ≤ ordN g ∧ (m < ordN g → 1 ≤ l.length) ∧ ∀ x ∈ l, x < 2 ^ ordN g)
      (fun a => ∃ l : List Nat, a = ints (natsI l) ∧ l.length ≤ ordN g ∧ 1 ≤ l.length ∧ ∀ x ∈ l, x < 2 ^ ordN g) (fun m s hs => by
        obtain ⟨l, rfl, hm, hl, hne, hx⟩ := hs
        have hd : decide (((ordN g - (m + 1) : Nat) : Int) < ((ordN g : Nat) : Int)) = true := decide_eq_true (by omega)
        obtain ⟨c, ec, hc, _⟩ := s_close v (two_pow_lt (show ordN g - (m + 1) < ordN g by omega))
        obtain ⟨r, er, r1, r2, r3⟩ := l5Put_ok l c (by omega)
        have hw : w64 (((ordN g - (m + 1) : Nat) : Int) + 1) = ((ordN g - m : Nat) : Int) := by rw [w64_nat (by omega), show ordN g - (m + 1) + 1 = ordN g - m by omega]
        simp only [f_s_SubgroupsOf_r0, f_s_SubgroupsOf_k0, hd, br_true, neg_dec, br_false, shl1_nat (show ordN g - (m + 1) ≤ 62 by omega), ec, bo_some, er, hw]
        refine ⟨_, rfl, r, rfl, by omega, by omega, fun _ => r2, fun x hx' => ?_⟩
        rcases r3 x hx' with h1 | h1
        · exact hx x h1
        · rw [h1]; exact hc)
      (fun s hs => by
        obtain ⟨l, rfl, hm, hl, hne, hx⟩ := hs
        have hd : decide (((ordN g - 0 : Nat) : Int) < ((ordN g : Nat) : Int)) = false := decide_eq_false (by omega)
        simp only [f_s_SubgroupsOf_r0, f_s_SubgroupsOf_k0, hd, br_false]
        exact ⟨_, rfl, l, rfl, by omega, hne (by omega), hx⟩) (ordN g) (ints (natsI []), ((ordN g - ordN g : Nat) : Int)) ⟨[], rfl, Nat.le_refl _, by simp, fun h => by omega, fun x hx => by cases hx⟩
    obtain ⟨_, e0, cyc, rfl, hc1, hc2, hcx⟩ := k0
    have e0' : loopL (f_s_SubgroupsOf_r0 (ints (natsI g)) [] ((ordN g : Nat) : Int)) ([], 0) = some (.one (ints (natsI cyc))) := by rw [← e0, Nat.sub_self]; rfl
    -- a walk along the cyclic ones
    have inner : ∀ (i : Nat), i < cyc.length → ∀ (l : List Nat), l.length ≤ 90000 → (∀ x ∈ l, x < 2 ^ ordN g) → ∃ r : List Nat, loopL (f_s_SubgroupsOf_r4 (ints (natsI g)) (ints (natsI cyc)) (i : Int)) (ints (natsI l), 0) = some (.one (ints (natsI r))) ∧ r.length ≤ l.length + 25 ∧ 1 ≤ r.length ∧ ∀ x ∈ r, x < 2 ^ ordN g := by
      intro i hi l hl hx
      have k := loop_ex (rd := f_s_SubgroupsOf_r4 (ints (natsI g)) (ints (natsI cyc)) (i : Int)) (fun m s => ∃ q : List Nat, s = (ints (natsI q), ((i + 1 - m : Nat) : Int)) ∧ m ≤ i + 1 ∧ q.length + m ≤ l.length + (i + 1) ∧ (m < i + 1 → 1 ≤ q.length) ∧ ∀ x ∈ q, x < 2 ^ ordN g)
        (fun a => ∃ q : List Nat, a = ints (natsI q) ∧ q.length ≤ l.length + 25 ∧ 1 ≤ q.length ∧ ∀ x ∈ q, x < 2 ^ ordN g) (fun m s hs => by
          obtain ⟨q, rfl, hm, hq, hne, hx⟩ := hs
          have hd : decide (((i + 1 - (m + 1) : Nat) : Int) ≤ (i : Int)) = true := decide_eq_true (by omega)
          have a1 := hcx _ (get_memW (show i < cyc.length from hi))
          have a2 := hcx _ (get_memW (show i + 1 - (m + 1) < cyc.length by omega))
          obtain ⟨r, er, r1, r2, r3⟩ := l5Put_ok q (sumN g (cyc.getD (i + 1 - (m + 1)) 0) (cyc.getD i 0)) (by omega)
          have hw : w64 (((i + 1 - (m + 1) : Nat) : Int) + 1) = ((i + 1 - m : Nat) : Int) := by rw [w64_nat (by omega), show i + 1 - (m + 1) + 1 = i + 1 - m by omega]
          simp only [f_s_SubgroupsOf_r4, f_s_SubgroupsOf_k4, hd, br_true, ok_natsI hi, ok_natsI (show i + 1 - (m + 1) < cyc.length by omega), at_natsI, s_l4Sum_eq v a1 a2, bo_some, er, hw]
          refine ⟨_, rfl, r, rfl, by omega, by omega, fun _ => r2, fun x hx' => ?_⟩
          rcases r3 x hx' with h1 | h1
          · exact hx x h1
          · rw [h1]; exact sumN_lt v _ _)
        (fun s hs => by
          obtain ⟨q, rfl, hm, hq, hne, hx⟩ := hs
          have hd : decide (((i + 1 - 0 : Nat) : Int) ≤ (i : Int)) = false := decide_eq_false (by omega)
          simp only [f_s_SubgroupsOf_r4, f_s_SubgroupsOf_k4, hd, br_false]
          exact ⟨_, rfl, q, rfl, by omega, hne (by omega), hx⟩) (i + 1) (ints (natsI l), ((i + 1 - (i + 1) : Nat) : Int)) ⟨l, rfl, Nat.le_refl _, by omega, fun h => by omega, hx⟩
      obtain ⟨_, e, r, rfl, q1, q2, q3⟩ := k
      exact ⟨r, by rw [← e, Nat.sub_self]; rfl, q1, q2, q3⟩
    have k2 := loop_ex (rd := f_s_SubgroupsOf_r2 (ints (natsI g)) (ints (natsI cyc))) (fun m s => ∃ q : List Nat, s = (ints (natsI q), ((cyc.length - m : Nat) : Int)) ∧ m ≤ cyc.length ∧ q.length + 25 * m ≤ 25 * cyc.length ∧ (m < cyc.length → 1 ≤ q.length) ∧ ∀ x ∈ q, x < 2 ^ ordN g)
      (fun a => ∃ (q : List Nat) (z : Int), a = (ints (natsI q), z) ∧ q.length ≤ 600 ∧ 1 ≤ q.length ∧ ∀ x ∈ q, x < 2 ^ ordN g) (fun m s hs => by
        obtain ⟨q, rfl, hm, hq, hne, hx⟩ := hs
        have hd : decide (((cyc.length - (m + 1) : Nat) : Int) < (cyc.length : Int)) = true := decide_eq_true (by omega)
        obtain ⟨r, er, r1, r2, r3⟩ := inner (cyc.length - (m + 1)) (by omega) q (by omega) hx
        have hw : w64 (((cyc.length - (m + 1) : Nat) : Int) + 1) = ((cyc.length - m : Nat) : Int) := by rw [w64_nat (by omega), show cyc.length - (m + 1) + 1 = cyc.length - m by omega]
        simp only [f_s_SubgroupsOf_r2, f_s_SubgroupsOf_k2, ints_length, natsI_length, hd, br_true, er, bl1_one, hw]
        exact ⟨_, rfl, r, rfl, by omega, by omega, fun _ => r2, r3⟩)
      (fun s hs => by
        obtain ⟨q, rfl, hm, hq, hne, hx⟩ := hs
        have hd : decide (((cyc.length - 0 : Nat) : Int) < (cyc.length : Int)) = false := decide_eq_false (by omega)
        simp only [f_s_SubgroupsOf_r2, f_s_SubgroupsOf_k2, ints_length, natsI_length, hd, br_false]
        exact ⟨_, rfl, q, _, rfl, by omega, hne (by omega), hx⟩) cyc.length (ints (natsI []), ((cyc.length - cyc.length : Nat) : Int)) ⟨[], rfl, Nat.le_refl _, by simp, fun h => by omega, fun x hx => by cases hx⟩
    obtain ⟨_, e2, two, z2, rfl, ht1, ht2, htx⟩ := k2
    have e2' : loopL (f_s_SubgroupsOf_r2 (ints (natsI g)) (ints (natsI cyc))) ([], 0) = some (.one (ints (natsI two), z2)) := by rw [← e2, Nat.sub_self]; rfl
    have inner2 : ∀ (i : Nat), i < two.length → ∀ (l : List Nat), l.length ≤ 90000 → 1 ≤ l.length → (∀ x ∈ l, x < 2 ^ ordN g) → ∃ r : List Nat, loopL (f_s_SubgroupsOf_r8 (ints (natsI g)) (ints (natsI cyc)) (ints (natsI two)) (i : Int)) (ints (natsI l), 0) = some (.one (ints (natsI r))) ∧ r.length ≤ l.length + 25 ∧ 1 ≤ r.length ∧ ∀ x ∈ r, x < 2 ^ ordN g := by
      intro i hi l hl hl1 hx
      have k := loop_ex (rd := f_s_SubgroupsOf_r8 (ints (natsI g)) (ints (natsI cyc)) (ints (natsI two)) (i : Int)) (fun m s => ∃ q : List Nat, s = (ints (natsI q), ((cyc.length - m : Nat) : Int)) ∧ m ≤ cyc.length ∧ q.length + m ≤ l.length + cyc.length ∧ 1 ≤ q.length ∧ ∀ x ∈ q, x < 2 ^ ordN g)
        (fun a => ∃ q : List Nat, a = ints (natsI q) ∧ q.length ≤ l.length + 25 ∧ 1 ≤ q.length ∧ ∀ x ∈ q, x < 2 ^ ordN g) (fun m s hs => by
          obtain ⟨q, rfl, hm, hq, hne, hx⟩ := hs
          have hd : decide (((cyc.length - (m + 1) : Nat) : Int) < (cyc.length : Int)) = true := decide_eq_true (by omega)
          have a1 := htx _ (get_memW (show i < two.length from hi))
          have a2 := hcx _ (get_memW (show cyc.length - (m + 1) < cyc.length by omega))
          obtain ⟨r, er, r1, r2, r3⟩ := l5Put_ok q (sumN g (cyc.getD (cyc.length - (m + 1)) 0) (two.getD i 0)) (by omega)
          have hw : w64 (((cyc.length - (m + 1) : Nat) : Int) + 1) = ((cyc.length - m : Nat) : Int) := by rw [w64_nat (by omega), show cyc.length - (m + 1) + 1 = cyc.length - m by omega]
          simp only [f_s_SubgroupsOf_r8, f_s_SubgroupsOf_k8, ints_length, natsI_length, hd, br_true, ok_natsI hi, ok_natsI (show cyc.length - (m + 1) < cyc.length by omega), at_natsI, s_l4Sum_eq v a1 a2, bo_some, er, hw]
          refine ⟨_, rfl, r, rfl, by omega, by omega, r2, fun x hx' => ?_⟩
          rcases r3 x hx' with h1 | h1
          · exact hx x h1
          · rw [h1]; exact sumN_lt v _ _)
        (fun s hs => by
          obtain ⟨q, rfl, hm, hq, hne, hx⟩ := hs
          have hd : decide (((cyc.length - 0 : Nat) : Int) < (cyc.length : Int)) = false := decide_eq_false (by omega)
          simp only [f_s_SubgroupsOf_r8, f_s_SubgroupsOf_k8, ints_length, natsI_length, hd, br_false]
          exact ⟨_, rfl, q, rfl, by omega, hne, hx⟩) cyc.length (ints (natsI l), ((cyc.length - cyc.length : Nat) : Int)) ⟨l, rfl, Nat.le_refl _, by omega, hl1, hx⟩
      obtain ⟨_, e, r, rfl, q1, q2, q3⟩ := k
      exact ⟨r, by rw [← e, Nat.sub_self]; rfl, q1, q2, q3⟩
    have k6 := loop_ex (rd := f_s_SubgroupsOf_r6 (ints (natsI g)) (ints (natsI cyc)) (ints (natsI two))) (fun m s => ∃ q : List Nat, s = (ints (natsI q), ((two.length - m : Nat) : Int)) ∧ m ≤ two.length ∧ q.length + 25 * m ≤ 26 * two.length ∧ 1 ≤ q.length ∧ ∀ x ∈ q, x < 2 ^ ordN g)
      (fun a => ∃ (q : List Nat) (z : Int), a = (ints (natsI q), z) ∧ q.length ≤ 20000 ∧ 1 ≤ q.length) (fun m s hs => by
        obtain ⟨q, rfl, hm, hq, hne, hx⟩ := hs
        have hd : decide (((two.length - (m + 1) : Nat) : Int) < (two.length : Int)) = true := decide_eq_true (by omega)
        obtain ⟨r, er, r1, r2, r3⟩ := inner2 (two.length - (m + 1)) (by omega) q (by omega) hne hx
        have hw : w64 (((two.length - (m + 1) : Nat) : Int) + 1) = ((two.length - m : Nat) : Int) := by rw [w64_nat (by omega), show two.length - (m + 1) + 1 = two.length - m by omega]
        simp only [f_s_SubgroupsOf_r6, f_s_SubgroupsOf_k6, ints_length, natsI_length, hd, br_true, er, bl1_one, hw]
        exact ⟨_, rfl, r, rfl, by omega, by omega, r2, r3⟩)
      (fun s hs => by
        obtain ⟨q, rfl, hm, hq, hne, hx⟩ := hs
        have hd : decide (((two.length - 0 : Nat) : Int) < (two.length : Int)) = false := decide_eq_false (by omega)
        simp only [f_s_SubgroupsOf_r6, f_s_SubgroupsOf_k6, ints_length, natsI_length, hd, br_false]
        exact ⟨_, rfl, q, _, rfl, by omega, hne⟩) two.length (ints (natsI two), ((two.length - two.length : Nat) : Int)) ⟨two, rfl, Nat.le_refl _, by omega, ht2, htx⟩
    obtain ⟨_, e6, out, z6, rfl, hu1, hu2⟩ := k6
    have e6' : loopL (f_s_SubgroupsOf_r6 (ints (natsI g)) (ints (natsI cyc)) (ints (natsI two))) (ints (natsI two), 0) = some (.one (ints (natsI out), z6)) := by rw [← e6, Nat.sub_self]; rfl
    refine ⟨natsI out, true, ?_, by rw [natsI_length]; exact hu1, fun _ => by rw [natsI_length]; exact hu2⟩
    simp only [f_s_SubgroupsOf, f_s_SubgroupsOf_k, s_IsGroup_eq _ h, hg, bo_some, Bool.not_true, br_false, s_l2Order_eq _ h, prodW_nat g v.len v.each, e0', e2', e6', bl1_one]
theorem l1Below_big {x0 : List Int} {c : List Sc × Int × Int} (hc : Cur x0 c) (n : Int) : ∃ r c', f_s_l1Below_io n c.1 c.2.1 c.2.2 = some (r, c') ∧ Cur x0 c' ∧ 0 ≤ r ∧ (0 < n → n ≤ 1000000 → r < n) := by
  by_cases hn : n ≤ 256
  · obtain ⟨r, c', e, h', h0, h1, _⟩ := l1Below_ok hc n hn
    exact ⟨r, c', e, h', h0, fun h _ => h1 h⟩
  · obtain ⟨x, c1, e1, h1, hx⟩ := l1Byte_ok hc
    obtain ⟨y, c2, e2, h2, hy⟩ := l1Byte_ok h1
    obtain ⟨z, c3, e3, h3, hz⟩ := l1Byte_ok h2
    obtain ⟨w, c4, e4, h4, hw⟩ := l1Byte_ok h3
    have d0 : decide (n ≤ 0) = false := decide_eq_false (by omega)
    have d1 : decide (n ≤ 256) = false := decide_eq_false hn
    have hz0 : (n == 0) = false := beq_eq_false_iff_ne.2 (by omega)
    have w1 : w64 (x * 16777216) = x * 16777216 := w64_in (by omega) (by omega)
    have w2 : w64 (y * 65536) = y * 65536 := w64_in (by omega) (by omega)
    have w3 : w64 (z * 256) = z * 256 := w64_in (by omega) (by omega)
    have w4 : w64 (x * 16777216 + y * 65536) = x * 16777216 + y * 65536 := w64_in (by omega) (by omega)
    have w5 : w64 (x * 16777216 + y * 65536 + z * 256) = x * 16777216 + y * 65536 + z * 256 := w64_in (by omega) (by omega)
    have w6 : w64 (x * 16777216 + y * 65536 + z * 256 + w) = x * 16777216 + y * 65536 + z * 256 + w := w64_in (by omega) (by omega)
    simp only [f_s_l1Below_io, f_s_l1Below_io_k, d0, d1, br_false, e1, e2, e3, e4, bo_some, hz0, w1, w2, w3, w4, w5, w6]
    have hr := tmod_range (a := x * 16777216 + y * 65536 + z * 256 + w) (n := n) (by omega) (by omega)
    exact ⟨_, _, rfl, ⟨h4.row, h4.low, h4.len⟩, hr.1, fun _ _ => hr.2⟩
theorem l5Group_ok {x0 : List Int} {c : List Sc × Int × Int} (hc : Cur x0 c) : ∃ G x c', f_s_l5Group_io c.1 c.2.1 c.2.2 = some (ints G, x, c') ∧ Cur x0 c' ∧ G.length ≤ 4 := by
  obtain ⟨G, c1, e1, h1, hG⟩ := l2Any_ok hc
  have hGl : G.length ≤ lim := Nat.le_trans hG (by decide)
  obtain ⟨L, b, e2, hL, hb⟩ := SubgroupsOf_ok G hGl
  obtain ⟨a0, c0, f0, g0⟩ := l3Set_ok h1 G hGl
  cases b with
  | false =>
    simp only [f_s_l5Group_io, f_s_l5Group_io_k, f_s_l5Group_io_g4, f_s_l5Group_io_g4_k, e1, bo_some, e2, Bool.not_false, show (true == false) = false from rfl, br_false, f0]
    exact ⟨G, _, _, rfl, ⟨g0.row, g0.low, g0.len⟩, hG⟩
  | true =>
    obtain ⟨q, c2, e3, h2⟩ := l1Once_ok h1 5 (by decide)
    obtain ⟨a3, c3, f3, g3⟩ := l3Set_ok h2 G hGl
    have hL1 := hb rfl
    obtain ⟨r, c4, f4, g4, r0, r1⟩ := l1Below_big h2 (L.length : Int)
    obtain ⟨k, rfl⟩ : ∃ k : Nat, r = k := ⟨r.toNat, by omega⟩
    have hk : k < L.length := by have := r1 (by omega) (by omega); omega
    simp only [f_s_l5Group_io, f_s_l5Group_io_k, f_s_l5Group_io_g4, f_s_l5Group_io_g4_k, f_s_l5Group_io_g5, f_s_l5Group_io_g5_k, e1, bo_some, e2, Bool.not_true, BEq.rfl, br_true, e3, f3, ints_length, f4, ok_nat hk]
    cases q with
    | true => exact ⟨G, _, _, rfl, ⟨g3.row, g3.low, g3.len⟩, hG⟩
    | false => exact ⟨G, _, _, rfl, ⟨g4.row, g4.low, g4.len⟩, hG⟩
theorem l2Element_okC {x0 : List Int} {c : List Sc × Int × Int} (hc : Cur x0 c) (G : List Int) (hG : G.length ≤ lim) : ∃ r c', f_s_l2Element_io (ints G) c.1 c.2.1 c.2.2 = some (r, c') ∧ Cur x0 c' := by
  obtain ⟨b, c1, e1, h1⟩ := l1Once_ok hc 16 (by decide)
  obtain ⟨k, c2, e2, h2, _⟩ := l1PickInt_ok h1 [-1, 24, 9223372036854775807] (by decide) (by decide)
  have hO := ordG_range G
  have hif : (if ordG G > 1 then ordG G else 1) ≤ 256 := by split <;> omega
  obtain ⟨r, c3, e3, h3, _⟩ := l1Below_ok h1 (if ordG G > 1 then ordG G else 1) hif
  have e2' : f_s_l1PickInt_io [(Sc.n .i64 (-1)), (Sc.n .i64 24), (Sc.n .i64 9223372036854775807)] c1.1 c1.2.1 c1.2.2 = _ := e2
  simp only [f_s_l2Element_io, f_s_l2Element_io_k, e1, bo_some, e2', s_OrderOf_eq G hG, e3]
  cases b with
  | true => exact ⟨_, _, rfl, ⟨h2.row, h2.low, h2.len⟩⟩
  | false => exact ⟨_, _, rfl, ⟨h3.row, h3.low, h3.len⟩⟩
theorem lim4 {G : List Int} (hG : G.length ≤ 4) : G.length ≤ lim := Nat.le_trans hG (by decide)
theorem DrawCharacterValue_ok {x0 : List Int} (hx : x0.length ≤ 1048576) : ∃ G k x, f_s_DrawCharacterValue (bytesL x0) = some (ints G, k, x) ∧ G.length ≤ 4 := by
  obtain ⟨c, e, h⟩ := l1New_ok hx
  obtain ⟨G, c1, e1, h1, hG⟩ := l2Any_ok h
  obtain ⟨k, c2, e2, h2⟩ := l2Element_okC h1 G (lim4 hG)
  obtain ⟨x, c3, e3, h3⟩ := l2Element_okC h2 G (lim4 hG)
  simp only [f_s_DrawCharacterValue, f_s_DrawCharacterValue_k, f_s_l2Two, f_s_l2Two_k, f_s_l2Two_g4, f_s_l2Two_g4_k, e, bo_some, e1, e2, e3]
  exact ⟨G, k, x, rfl, hG⟩
theorem DrawKernelOf_ok {x0 : List Int} (hx : x0.length ≤ 1048576) : ∃ G k, f_s_DrawKernelOf (bytesL x0) = some (ints G, k) ∧ G.length ≤ 4 := by
  obtain ⟨c, e, h⟩ := l1New_ok hx
  obtain ⟨G, c1, e1, h1, hG⟩ := l2Any_ok h
  obtain ⟨k, c2, e2, h2⟩ := l2Element_okC h1 G (lim4 hG)
  simp only [f_s_DrawKernelOf, f_s_DrawKernelOf_k, f_s_l2One, f_s_l2One_k, f_s_l2One_g3, f_s_l2One_g3_k, e, bo_some, e1, e2]
  exact ⟨G, k, rfl, hG⟩
theorem DrawAnnihilatorOf_ok {x0 : List Int} (hx : x0.length ≤ 1048576) : ∃ G k, f_s_DrawAnnihilatorOf (bytesL x0) = some (ints G, k) ∧ G.length ≤ 4 := by
  obtain ⟨c, e, h⟩ := l1New_ok hx
  obtain ⟨G, x, c1, e1, h1, hG⟩ := l5Group_ok h
  simp only [f_s_DrawAnnihilatorOf, f_s_DrawAnnihilatorOf_k, f_s_l5Both, f_s_l5Both_k, e, bo_some, e1]
  exact ⟨G, x, rfl, hG⟩
theorem l6Set_ok {x0 : List Int} {c : List Sc × Int × Int} (hc : Cur x0 c) : ∃ G a c', f_s_l6Set_io c.1 c.2.1 c.2.2 = some (ints G, a, c') ∧ Cur x0 c' ∧ G.length ≤ 4 := by
  obtain ⟨G, x, c1, e1, h1, hG⟩ := l5Group_ok hc
  have hGl := lim4 hG
  obtain ⟨a, c2, e2, h2⟩ := l3Set_ok h1 G hGl
  obtain ⟨b, s1, _, s3⟩ := IsSubgroup_both G x hGl
  obtain ⟨q, c3, e3, h3⟩ := l1Once_ok h2 2 (by decide)
  simp only [f_s_l6Set_io, f_s_l6Set_io_k, bo_some, e1, e2, s_IsSet_eq G a hGl, s1, e3]
  cases hs : setG G a with
  | false => exact ⟨G, _, _, rfl, ⟨h2.row, h2.low, h2.len⟩, hG⟩
  | true =>
    cases b with
    | false => exact ⟨G, _, _, rfl, ⟨h2.row, h2.low, h2.len⟩, hG⟩
    | true =>
      obtain ⟨g, n, rfl, v, rfl, s⟩ := s3 rfl
      obtain ⟨g', m, eg, v', rfl, hm⟩ := nat_of_set hs
      have eg2 : g = g' := by
        have := congrArg (List.map Int.toNat) eg
        rwa [toNat_natsI, toNat_natsI] at this
      subst eg2
      simp only [s_l4Sum_eq v hm s.lt, bo_some]
      cases q with
      | true => exact ⟨natsI g, _, _, rfl, ⟨h3.row, h3.low, h3.len⟩, hG⟩
      | false => exact ⟨natsI g, _, _, rfl, ⟨h3.row, h3.low, h3.len⟩, hG⟩
theorem l7Both_ok {x0 : List Int} (hx : x0.length ≤ 1048576) : ∃ G a k, f_s_l7Both (bytesL x0) = some (ints G, a, k) ∧ G.length ≤ 4 := by
  obtain ⟨c, e, h⟩ := l1New_ok hx
  obtain ⟨G, a, c1, e1, h1, hG⟩ := l6Set_ok h
  obtain ⟨k, c2, e2, h2⟩ := l2Element_okC h1 G (lim4 hG)
  simp only [f_s_l7Both, f_s_l7Both_k, f_s_l7Both_g3, f_s_l7Both_g3_k, e, bo_some, e1, e2]
  exact ⟨G, a, k, rfl, hG⟩
theorem Coe_ex (G : List Int) (x k : Int) (h : G.length ≤ lim) : ∃ R, f_s_CoefficientCounts (ints G) x k = some (ints R) ∧ f_i_CoefficientCounts (ints G) x k = some (ints R) ∧ R.length ≤ 24 := by
  rcases CoefficientCounts_more G x k h with ⟨_, e1, e2⟩ | ⟨g, a, d, rfl, v, rfl, ha, rfl, hd⟩
  · exact ⟨[], e1, e2, by simp⟩
  · exact ⟨_, s_coe_eq v ha hd, i_coe_eq v ha hd, by rw [natsI_length, rowN_length]; exact (exp24 v).2⟩
theorem l7Pair_ok {x0 : List Int} (hx : x0.length ≤ 1048576) : ∃ P Q, f_s_l7Pair (bytesL x0) = some (ints P, ints Q) ∧ P.length ≤ 24 ∧ Q.length ≤ 24 := by
  obtain ⟨c, e, h⟩ := l1New_ok hx
  obtain ⟨G, c1, e1, h1, _, _, hG⟩ := l2Draw_ok h 12
  have hGl : G.length ≤ lim := lim4 (by omega)
  obtain ⟨a, c2, e2, h2⟩ := l3Set_ok h1 G hGl
  obtain ⟨k, c3, e3, h3⟩ := l2Element_okC h2 G hGl
  obtain ⟨P, p1, _, hP⟩ := Coe_ex G a k hGl
  obtain ⟨b, c4, e4, h4⟩ := l3Set_ok h3 G hGl
  obtain ⟨d, c5, e5, h5⟩ := l2Element_okC h4 G hGl
  obtain ⟨Q, q1, _, hQ⟩ := Coe_ex G b d hGl
  obtain ⟨o, c6, e6, h6⟩ := l1Once_ok h5 8 (by decide)
  obtain ⟨z, c7, e7, h7, _⟩ := l1PickInt_ok h6 [-1, 1000, 1001, -9223372036854775808] (by decide) (by decide)
  have e7' : f_s_l1PickInt_io [(Sc.n .i64 (-1)), (Sc.n .i64 1000), (Sc.n .i64 1001), (Sc.n .i64 (-9223372036854775808))] c6.1 c6.2.1 c6.2.2 = _ := e7
  simp only [f_s_l7Pair, f_s_l7Pair_k, f_s_l7Pair_g4, f_s_l7Pair_g4_k, f_s_l7Pair_g5, f_s_l7Pair_g5_k, e, bo_some, e1, e2, e3, p1, e4, e5, q1, e6, e7', ints_length]
  by_cases hl : (P.length : Int) > 0
  · have i0 : inRange 0 P.length = true := in_nat (k := 0) (by omega)
    rw [decide_eq_true hl]
    simp only [BEq.rfl, br_true, i0, ints_set, show (0 : Int).toNat = 0 from rfl]
    cases o with
    | true => exact ⟨_, Q, rfl, by rw [List.length_set]; exact hP, hQ⟩
    | false => exact ⟨P, Q, rfl, hP, hQ⟩
  · rw [decide_eq_false hl]
    exact ⟨P, Q, rfl, hP, hQ⟩
theorem FnCharacters_w23 {x0 : List Int} (hx : x0.length ≤ 1048576) : f_l_FnCharacters_w23 (bytesL x0) = some true := by
  obtain ⟨G, a, k, e1, hG⟩ := l7Both_ok hx
  obtain ⟨H, x, e2, hH⟩ := DrawKernelOf_ok hx
  obtain ⟨P, Q, e3, hP, hQ⟩ := l7Pair_ok hx
  have hGl := lim4 hG
  have hHl := lim4 hH
  obtain ⟨r, k1, k2⟩ := KernelOf_both H x hHl
  obtain ⟨A, a1, a2, hA⟩ := AddCounts_both P Q (by omega) (by omega)
  obtain ⟨M, m1, m2, hM⟩ := MultiplyCounts_both P Q (by omega) (by omega)
  obtain ⟨z, z1, z2⟩ := IsZero_both G a k hGl
  have sA := sameInts_self A (Nat.le_trans hA (by decide))
  have sM := sameInts_self M (Nat.le_trans hM (by decide))
  rcases CoefficientCounts_more G a k hGl with ⟨_, c1, c2⟩ | ⟨g, n, d, rfl, v, rfl, hn, rfl, hd⟩
  · have s0 : f_l_sameInts [] [] = some true := sameInts_self [] (by simp)
    simp only [f_l_FnCharacters_w23, f_l_FnCharacters_w23_k, f_s_DrawCoefficientCounts, f_s_DrawCoefficientCounts_k, f_s_DrawAddCounts, f_s_DrawAddCounts_k, f_s_DrawMultiplyCounts, f_s_DrawMultiplyCounts_k, f_s_DrawIsZeroCoefficient, f_s_DrawIsZeroCoefficient_k, e1, e2, e3, bo_some, c1, c2, f_l_FnCharacters_w29, f_l_FnCharacters_w29_k, f_l_FnCharacters_m29_1_k, f_l_FnCharacters_m29_0_k, f_l_FnCharacters_m29_2_k, s0, BEq.rfl, br_true, k1, k2, a1, a2, sA, m1, m2, sM, z1, z2]
    rfl
  · obtain ⟨E1, E24⟩ := exp24 v
    have c1 := s_coe_eq v hn hd
    have c2 := i_coe_eq v hn hd
    have hl : (rowN (expN g) (coeN g n d)).length = expN g := rowN_length _ _
    have s0 := sameInts_self (natsI (rowN (expN g) (coeN g n d))) (by rw [natsI_length, hl]; exact Nat.le_trans E24 (by decide))
    have hsum := coe_sum v n d
    have hp := popN_le n
    have ht := l_total_nat (rowN (expN g) (coeN g n d)) (by omega) (by omega)
    rw [hsum] at ht
    have hcs : f_s_CountSet (ints (natsI g)) (n : Int) = some ((popN n : Nat) : Int) := by
      simp only [f_s_CountSet, f_s_CountSet_k, s_IsSet_eq _ _ v.lim, set_of v hn, bo_some, Bool.not_true, br_false, s_l3Bits_eq (set_i64 v hn)]
    have hz : (((expN g : Nat) : Int) == 0) = false := by rw [eq0]; exact decide_eq_false (by omega)
    simp only [f_l_FnCharacters_w23, f_l_FnCharacters_w23_k, f_s_DrawCoefficientCounts, f_s_DrawCoefficientCounts_k, f_s_DrawAddCounts, f_s_DrawAddCounts_k, f_s_DrawMultiplyCounts, f_s_DrawMultiplyCounts_k, f_s_DrawIsZeroCoefficient, f_s_DrawIsZeroCoefficient_k, e1, e2, e3, bo_some, c1, c2, f_l_FnCharacters_w29, f_l_FnCharacters_w29_k, f_l_FnCharacters_m29_1_k, f_l_FnCharacters_m29_0_k, f_l_FnCharacters_m29_2_k, s0, ints_length, natsI_length, hl, hz, ht, hcs, BEq.rfl, br_true, k1, k2, a1, a2, sA, m1, m2, sM, z1, z2]
theorem l_has_nat (l : List Nat) (x : Nat) (hl : l.length ≤ 1000) : f_l_has (ints (natsI l)) (x : Int) = some (l.any fun y => decide (y = x)) := by
  have key := loop_any (rd := f_l_has_r0 (ints (natsI l)) (x : Int)) (fun k => (k : Int)) l.length (fun k => decide (l.getD k 0 = x)) (a := ()) (b := ()) (fun k hk => by
    simp only [f_l_has_r0, f_l_has_k0, ints_length, natsI_length, lt_dec hk, ok_natsI hk, at_natsI, br_true, eq_nat_decM, w64_nat (show k < 9223372036854775807 by omega)]
    cases decide (l.getD k 0 = x) <;> rfl) (by
    simp only [f_l_has_r0, f_l_has_k0, ints_length, natsI_length, lt_dec_self, br_false])
  have e : (List.range l.length).any (fun k => decide (l.getD k 0 = x)) = l.any fun y => decide (y = x) := by
    rw [Bool.eq_iff_iff, List.any_eq_true, List.any_eq_true]
    constructor
    · rintro ⟨k, hk, h⟩
      exact ⟨l.getD k 0, mem_at (List.mem_range.1 hk), h⟩
    · rintro ⟨y, hy, h⟩
      obtain ⟨k, hk, ek⟩ := List.mem_iff_getElem.1 hy
      refine ⟨k, List.mem_range.2 hk, ?_⟩
      have : l.getD k 0 = y := by simp [List.getD, hk, ek]
      rw [this]
      exact h
  rw [e] at key
  have key' : loopL (f_l_has_r0 (ints (natsI l)) (x : Int)) 0 = if (l.any fun y => decide (y = x)) = true then some (.two ()) else some (.one ()) := key
  simp only [f_l_has, f_l_has_k, key']
  cases (l.any fun y => decide (y = x)) <;> rfl
theorem elems_has {g : List Nat} (v : VG g) {m : Nat} (hm : m < 2 ^ ordN g) (x : Nat) : (elems m).any (fun y => decide (y = x)) = m.testBit x := by
  rw [Bool.eq_iff_iff, List.any_eq_true]
  constructor
  · rintro ⟨y, hy, e⟩
    rw [← of_decide_eq_true e]
    exact (mem_elems (set_i64 v hm)).1 hy
  · intro h
    exact ⟨x, (mem_elems (set_i64 v hm)).2 h, decide_eq_true rfl⟩
theorem w15_yes {x0 : List Int} (hx : x0.length ≤ 1048576) {g : List Nat} {h : Nat} (v : VG g) (s : Subg g h) : f_l_FnCharacters_w15 (ints (natsI g)) (bytesL x0) (h : Int) ((annN g h : Nat) : Int) = some true := by
  have h24 := v.ord
  have o1 := ordN_pos v.each
  have sA := ann_sub v s.lt
  have hsz := ann_size v s
  have hp1 : 1 ≤ popN (annN g h) := by
    rcases Nat.eq_zero_or_pos (popN (annN g h)) with hz | hz
    · rw [hz, Nat.zero_mul] at hsz; omega
    · exact hz
  obtain ⟨b, t1, _⟩ := s_IsSubgroup_eq v s.lt (set_of v s.lt)
  have tb : f_s_IsSubgroup (ints (natsI g)) (h : Int) = some true := by
    obtain ⟨b, t1, t2⟩ := s_IsSubgroup_eq v s.lt (set_of v s.lt)
    rw [t1, t2.2 s]
  have cs : ∀ a : Nat, a < 2 ^ ordN g → f_s_CountSet (ints (natsI g)) (a : Int) = some ((popN a : Nat) : Int) := fun a ha => by
    simp only [f_s_CountSet, f_s_CountSet_k, s_IsSet_eq _ _ v.lim, set_of v ha, bo_some, Bool.not_true, br_false, s_l3Bits_eq (set_i64 v ha)]
  have ls : f_s_ListOf (ints (natsI g)) ((annN g h : Nat) : Int) = some (ints (natsI (elems (annN g h)))) := by
    simp only [f_s_ListOf, f_s_ListOf_k, s_IsSet_eq _ _ v.lim, set_of v sA.lt, bo_some, Bool.not_true, br_false, s_l3List_eq (set_i64 v sA.lt)]
  have hO : f_s_OrderOf (ints (natsI g)) = some ((ordN g : Nat) : Int) := by rw [s_OrderOf_eq _ v.lim, v.ordG]
  have hmul : w64 (((popN (annN g h) : Nat) : Int) * ((popN h : Nat) : Int)) = ((ordN g : Nat) : Int) := by
    rw [w64_mulN (by omega), hsz]
  have i2 := i_ann_eq v sA.lt
  rw [ann_ann v s] at i2
  have key := loop_count (rd := f_l_FnCharacters_r0 (bytesL x0) (h : Int) ((annN g h : Nat) : Int)) (fun k => (ints (natsI g), (k : Int))) (ordN g) (a := ()) (fun k hk => by
    have hm : decide ((((annN g h : Nat) : Int).tmod 2) ≥ 0) = true := by
      have : ((annN g h : Nat) : Int).tmod 2 = ((annN g h % 2 : Nat) : Int) := rfl
      rw [this]
      exact decide_eq_true (by omega)
    have hp : decide (((popN (annN g h) : Nat) : Int) ≥ 1) = true := decide_eq_true (by omega)
    have ht : (annN g h).testBit k = annP g h k := by rw [ann_test, decide_eq_true hk, Bool.true_and]
    have hn := elems_len (annN g h)
    simp only [f_l_FnCharacters_r0, f_l_FnCharacters_k0, hO, bo_some, lt_dec hk, br_true, (IsZero_yes v s.lt hk).2, zero_sub v s k, hm, BEq.rfl, cs _ sA.lt, hp, ls, l_has_nat _ k (show (elems (annN g h)).length ≤ 1000 by omega), elems_has v sA.lt, ht, Bool.not_true, br_false, w64_nat (show k < 9223372036854775807 by omega)]) (by
    simp only [f_l_FnCharacters_r0, f_l_FnCharacters_k0, hO, bo_some, lt_dec_self, br_false]) 0 (Nat.zero_le _)
  have key' : loopL (f_l_FnCharacters_r0 (bytesL x0) (h : Int) ((annN g h : Nat) : Int)) (ints (natsI g), 0) = some (.one ()) := key
  simp only [f_l_FnCharacters_w15, f_l_FnCharacters_w15_k, tb, bo_some, br_true, i2, bne_self_eq_false, BEq.rfl, cs _ sA.lt, cs _ s.lt, hO, hmul, br_false, key', bl_one, FnCharacters_w23 hx]
theorem w11_ok {x0 : List Int} (hx : x0.length ≤ 1048576) : f_l_FnCharacters_w11 (bytesL x0) = some true := by
  obtain ⟨G, x, e1, hG⟩ := DrawAnnihilatorOf_ok hx
  have hGl := lim4 hG
  obtain ⟨b, b1, b2, b3⟩ := IsSubgroup_both G x hGl
  have no : b = false → ∀ n, f_l_FnCharacters_w15 (ints G) (bytesL x0) x n = some true := fun hb n => by
    rw [hb] at b1
    simp only [f_l_FnCharacters_w15, f_l_FnCharacters_w15_k, b1, bo_some, br_false, FnCharacters_w23 hx]
  rcases AnnihilatorOf_more G x hGl with ⟨hs, a1, a2⟩ | ⟨g, a, rfl, v, rfl, ha⟩
  · have hb : b = false := by
      cases b with
      | false => rfl
      | true =>
        obtain ⟨g, n, rfl, v, rfl, s⟩ := b3 rfl
        rw [set_of v s.lt] at hs
        cases hs
    have d1 : decide ((-1 : Int) ≥ 0) = false := by decide
    simp only [f_l_FnCharacters_w11, f_l_FnCharacters_w11_k, e1, bo_some, a1, a2, bne_self_eq_false, BEq.rfl, br_true, d1, show (false == true) = false from rfl, br_false, no hb]
  · have sA := ann_sub v ha
    obtain ⟨b', t1, t2⟩ := i_IsSubgroup_eq v sA.lt (set_of v sA.lt)
    have hb' := t2.2 sA
    rw [hb'] at t1
    have d1 : decide (((annN g a : Nat) : Int) ≥ 0) = true := decide_eq_true (by omega)
    have hw : f_l_FnCharacters_w15 (ints (natsI g)) (bytesL x0) (a : Int) ((annN g a : Nat) : Int) = some true := by
      cases hb : b with
      | false => exact no hb _
      | true =>
        obtain ⟨g', n, eg, v', en, s⟩ := b3 hb
        have eg2 : g = g' := by
          have := congrArg (List.map Int.toNat) eg
          rwa [toNat_natsI, toNat_natsI] at this
        subst eg2
        have en' : a = n := by omega
        subst en'
        exact w15_yes hx v s
    simp only [f_l_FnCharacters_w11, f_l_FnCharacters_w11_k, e1, bo_some, s_ann_eq v ha, i_ann_eq v ha, bne_self_eq_false, BEq.rfl, br_true, d1, t1, Bool.not_true, br_false, hw]
theorem l_at_ok {x0 : List Int} (hx : x0.length ≤ 1048576) (hb : ∀ x ∈ x0, 0 ≤ x ∧ x ≤ 255) : ∃ y : Nat, f_l_at (bytesL x0) 3 = some (y : Int) := by
  simp only [f_l_at, f_l_at_k, bytesL_len]
  by_cases hl : (3 : Int) < (x0.length : Int)
  · have hl' : 3 < x0.length := by omega
    have h1 : sAt (bytesL x0) .u8 3 = x0[3] := by simp [sAt, bytesL, List.getD, hl', numOf]
    obtain ⟨b1, b2⟩ := hb x0[3] (List.getElem_mem hl')
    refine ⟨(x0[3]).toNat, ?_⟩
    rw [decide_eq_true hl, br_true, okZ_bytes (by omega) hl, br_true, h1, w64_in (by omega) (by omega)]
    congr 1
    omega
  · refine ⟨((111 + x0.length * 11) % 256 : Nat), ?_⟩
    rw [decide_eq_false hl, br_false]
    have e1 : w64 ((3 : Int) * 37) = 111 := by decide
    have e2 : w64 ((x0.length : Int) * 11) = ((x0.length * 11 : Nat) : Int) := by
      rw [w64_in (by omega) (by omega)]
      omega
    have e3 : w64 ((111 : Int) + ((x0.length * 11 : Nat) : Int)) = ((111 + x0.length * 11 : Nat) : Int) := by
      rw [w64_in (by omega) (by omega)]
      omega
    rw [e1, e2, e3]
    rfl
theorem FnCharacters_plain (x0 : List Int) (w0 : x0.length ≤ maxLen ∧ ∀ x ∈ x0, 0 ≤ x ∧ x ≤ 255) : f_l_FnCharacters (bytesL x0) = some true := by
  simp only [f_l_FnCharacters, f_l_FnCharacters_k, f_l_big, f_l_big_k, bytesL_len, bo_some]
  by_cases hb : (x0.length : Int) > 1048576
  · rw [decide_eq_true hb]
    rfl
  · rw [decide_eq_false hb]
    have hx : x0.length ≤ 1048576 := by omega
    obtain ⟨G, k, x, e, hG⟩ := DrawCharacterValue_ok hx
    have hGl := lim4 hG
    obtain ⟨y, ey⟩ := l_at_ok hx w0.2
    have key : f_l_FnCharacters_w3 (bytesL x0) = some true := by
      rcases CharacterValue_more G k x hGl with ⟨_, c1, c2⟩ | ⟨g, a, z, rfl, v, rfl, rfl, ha, hz⟩
      · have d1 : decide ((-1 : Int) ≥ 0) = false := by decide
        simp only [f_l_FnCharacters_w3, f_l_FnCharacters_w3_k, e, bo_some, c1, c2, bne_self_eq_false, br_false, f_l_FnCharacters_w7, f_l_FnCharacters_w7_k, d1, w11_ok hx]
      · obtain ⟨E1, E24⟩ := exp24 v
        have o1 := ordN_pos v.each
        have hy : y % ordN g < ordN g := Nat.mod_lt _ o1
        have d1 : decide (((chN g a z : Nat) : Int) ≥ 0) = true := decide_eq_true (by omega)
        have hO : f_s_OrderOf (ints (natsI g)) = some ((ordN g : Nat) : Int) := by rw [s_OrderOf_eq _ v.lim, v.ordG]
        have z1 : (((ordN g : Nat) : Int) == 0) = false := by rw [eq0]; exact decide_eq_false (by omega)
        have z2 : (((expN g : Nat) : Int) == 0) = false := by rw [eq0]; exact decide_eq_false (by omega)
        have l1 := chN_lt v a z
        have l2 := chN_lt v a (y % ordN g)
        have hadd := chN_add v a z (y % ordN g)
        have hw : (w64 (((chN g a z : Nat) : Int) + ((chN g a (y % ordN g) : Nat) : Int))).tmod ((expN g : Nat) : Int) = ((chN g a (addN g z (y % ordN g)) : Nat) : Int) := by
          rw [w64_addN (by omega), hadd]
          rfl
        have hcm : chN g z a = chN g a z := chN_comm g z a
        simp only [f_l_FnCharacters_w3, f_l_FnCharacters_w3_k, e, bo_some, s_CharacterValue_yes v ha hz, i_CharacterValue_yes v ha hz, bne_self_eq_false, br_false, f_l_FnCharacters_w7, f_l_FnCharacters_w7_k, d1, br_true, ey, hO, z1, tmod_nat y, i_CharacterValue_yes v ha hy, s_exp_eq v, z2, s_AddElements_eq v hz hy, i_CharacterValue_yes v ha (addN_lt v.each z (y % ordN g)), hw, BEq.rfl, i_CharacterValue_yes v hz ha, hcm, w11_ok hx]
    simp only [key, bo_some]
    rfl
end Go.Proofs.Ytonjcafobhpfdaa
