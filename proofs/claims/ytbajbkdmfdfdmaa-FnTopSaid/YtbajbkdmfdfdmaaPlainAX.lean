/-
  PlainAX: FnPeriods: the draws and the law.
-/
import Derived.Test.YtbajbkdmfdfdmaaPlainAW
import Derived.Test.YtbajbkdmfdfdmaaPlainAZ
set_option linter.unusedVariables false
set_option linter.unusedSimpArgs false
namespace Go.Proofs.Ytbajbkdmfdfdmaa
open Go Ev

/-! ### A list of subgroups -/
theorem loop_ex2 {S A B : Type} {rd : S → Option (Ro S A B)} (P : Nat → S → Prop) (Q : A → Prop) (step : ∀ n s, P (n + 1) s → (∃ s', rd s = some (.again s') ∧ P n s') ∨ ∃ a, rd s = some (.one a) ∧ Q a)
    (last : ∀ s, P 0 s → ∃ a, rd s = some (.one a) ∧ Q a) : ∀ n s, P n s → ∃ a, loopL rd s = some (.one a) ∧ Q a
  | 0, s, h => by
    obtain ⟨a, e, q⟩ := last s h
    exact ⟨a, loopL_one e, q⟩
  | n + 1, s, h => by
    rcases step n s h with ⟨s', e, h'⟩ | ⟨a, e, q⟩
    · obtain ⟨a, e2, q⟩ := loop_ex2 P Q step last n s' h'
      exact ⟨a, by rw [loopL_again e, e2], q⟩
    · exact ⟨a, loopL_one e, q⟩
theorem l5Put_ok (l : List Nat) (n : Nat) (hl : l.length ≤ 100000) : ∃ r, f_s_l5Put (ints (natsI l)) (n : Int) = some (ints (natsI r)) ∧ r.length ≤ l.length + 1 ∧ 1 ≤ r.length ∧ ∀ x ∈ r, x ∈ l ∨ x = n := by
  have hw : ∀ m, 1 ≤ m → m ≤ l.length → w64 ((m : Int) - 1) = ((m - 1 : Nat) : Int) := fun m h1 h2 => by
    rw [show (m : Int) - 1 = ((m - 1 : Nat) : Int) by omega]
    exact w64_cast (by omega)
  have key := loop_ex2 (rd := f_s_l5Put_r0 (ints (natsI l)) (n : Int)) (fun m s => s = (m : Int) ∧ m ≤ l.length) (fun e => ∃ m : Nat, e = (m : Int) ∧ m ≤ l.length) (fun m s hs => by
      obtain ⟨rfl, hm⟩ := hs
      have d : decide (((m + 1 : Nat) : Int) > 0) = true := decide_eq_true (by omega)
      simp only [f_s_l5Put_r0, f_s_l5Put_k0, d, BEq.rfl, br_true, hw (m + 1) (by omega) hm, ok_natsI (show m + 1 - 1 < l.length by omega), at_natsI]
      cases decide (((l.getD (m + 1 - 1) 0 : Nat) : Int) > (n : Int)) with
      | true => exact .inl ⟨_, rfl, by rw [Nat.add_sub_cancel], by omega⟩
      | false => exact .inr ⟨_, rfl, m + 1, rfl, hm⟩)
    (fun s hs => by
      obtain ⟨rfl, hm⟩ := hs
      have d : decide (((0 : Nat) : Int) > 0) = false := by decide
      simp only [f_s_l5Put_r0, f_s_l5Put_k0, d, show (false == true) = false from rfl, br_false]
      exact ⟨_, rfl, 0, rfl, by omega⟩) l.length (l.length : Int) ⟨rfl, Nat.le_refl _⟩
  obtain ⟨e, ek, m, rfl, hm⟩ := key
  have z0 : sliceA (ints (natsI l)) 0 (m : Int) = ints (natsI (l.take m)) := by simp [sliceA, ints, natsI]
  have z1 : sliceA (ints (natsI l)) (m : Int) (l.length : Int) = ints (natsI (l.drop m)) := by
    unfold sliceA
    rw [Int.toNat_natCast, Int.toNat_natCast, List.take_of_length_le (by rw [ints_length, natsI_length]; exact Nat.le_refl _)]
    simp [ints, natsI]
  have c1 : (decide (0 ≤ (0 : Int)) && (decide ((0 : Int) ≤ (m : Int)) && decide ((m : Int) ≤ (l.length : Int)))) = true := by
    simp only [Bool.and_eq_true, decide_eq_true_eq]; omega
  have c2 : (decide (0 ≤ (m : Int)) && (decide ((m : Int) ≤ (l.length : Int)) && decide ((l.length : Int) ≤ (l.length : Int)))) = true := by
    simp only [Bool.and_eq_true, decide_eq_true_eq]; omega
  have hlim : 1000000 ≤ lim := by decide
  have t1 : (l.take m).length ≤ l.length := by rw [List.length_take]; omega
  have t2 : (l.drop m).length ≤ l.length := by rw [List.length_drop]; omega
  have c3 : decide (([] : List Sc).length + (l.take m).length ≤ lim) = true := decide_eq_true (by rw [List.length_nil]; omega)
  have c4 : decide ((l.take m).length + [Sc.n .i64 (n : Int)].length ≤ lim) = true := decide_eq_true (by rw [List.length_singleton]; omega)
  have c5 : decide ((l.take m ++ [n]).length + (l.drop m).length ≤ lim) = true := decide_eq_true (by rw [List.length_append, List.length_singleton]; omega)
  have ea : ints (natsI (l.take m ++ [n])) ++ ints (natsI (l.drop m)) = ints (natsI (l.take m ++ [n] ++ l.drop m)) := by
    unfold ints natsI
    simp
  have new : ∃ r : List Nat, l.take m ++ [n] ++ l.drop m = r ∧ r.length ≤ l.length + 1 ∧ 1 ≤ r.length ∧ ∀ x ∈ r, x ∈ l ∨ x = n := by
    refine ⟨_, rfl, ?_, ?_, fun x hx => ?_⟩
    · rw [List.length_append, List.length_append, List.length_singleton, List.length_take, List.length_drop]; omega
    · rw [List.length_append, List.length_append, List.length_singleton]; omega
    · rcases List.mem_append.1 hx with hx | hx
      · rcases List.mem_append.1 hx with hx | hx
        · exact .inl (List.mem_of_mem_take hx)
        · exact .inr (List.mem_singleton.1 hx)
      · exact .inl (List.mem_of_mem_drop hx)
  obtain ⟨r, er, r1, r2, r3⟩ := new
  simp only [f_s_l5Put, f_s_l5Put_k, ints_length, natsI_length, ek, bl1_one, c1, z0, c3, List.nil_append, c4, c2, z1, ints_cast_snoc, c5, ea, er, br_true]
  by_cases h0 : m = 0
  · have d : decide ((m : Int) > 0) = false := decide_eq_false (by omega)
    simp only [d, show (false == true) = false from rfl, br_false]
    exact ⟨r, rfl, r1, r2, r3⟩
  · have d : decide ((m : Int) > 0) = true := decide_eq_true (by omega)
    simp only [d, BEq.rfl, br_true, hw m (by omega) hm, ok_natsI (show m - 1 < l.length by omega), at_natsI]
    cases (((l.getD (m - 1) 0 : Nat) : Int) == (n : Int)) with
    | true => exact ⟨l, rfl, by omega, by omega, fun x hx => .inl hx⟩
    | false => exact ⟨r, rfl, r1, r2, r3⟩
theorem get_memW {l : List Nat} {k : Nat} (h : k < l.length) : l.getD k 0 ∈ l := by simp [List.getD, List.getElem?_eq_getElem h]
theorem SubgroupsOf_ok (G : List Int) (h : G.length ≤ lim) : ∃ L b, f_s_SubgroupsOf (ints G) = some (ints L, b) ∧ L.length ≤ 20000 ∧ (b = true → 1 ≤ L.length) := by
  cases hg : isG G with
  | false =>
    refine ⟨[], false, ?_, by simp, fun h => by cases h⟩
    simp only [f_s_SubgroupsOf, f_s_SubgroupsOf_k, s_IsGroup_eq G h, hg, bo_some]
    rfl
  | true =>
    obtain ⟨g, rfl, v⟩ := nat_of_isG hg
    have h24 := v.ord
    have o1 := ordN_pos v.each
    -- the cyclic ones
    have k0 := loop_ex (rd := f_s_SubgroupsOf_r0 (ints (natsI g)) [] ((ordN g : Nat) : Int)) (fun m s => ∃ l : List Nat, s = (ints (natsI l), ((ordN g - m : Nat) : Int)) ∧ m ≤ ordN g ∧ l.length + m ≤ ordN g ∧ (m < ordN g → 1 ≤ l.length) ∧ ∀ x ∈ l, x < 2 ^ ordN g)
      (fun a => ∃ l : List Nat, a = ints (natsI l) ∧ l.length ≤ ordN g ∧ 1 ≤ l.length ∧ ∀ x ∈ l, x < 2 ^ ordN g) (fun m s hs => by
        obtain ⟨l, rfl, hm, hl, hne, hx⟩ := hs
        have hd : decide (((ordN g - (m + 1) : Nat) : Int) < ((ordN g : Nat) : Int)) = true := decide_eq_true (by omega)
        obtain ⟨c, ec, hc, _⟩ := s_close v (two_pow_lt (show ordN g - (m + 1) < ordN g by omega))
        obtain ⟨r, er, r1, r2, r3⟩ := l5Put_ok l c (by omega)
        have hw : w64 (((ordN g - (m + 1) : Nat) : Int) + 1) = ((ordN g - m : Nat) : Int) := by rw [w64_nat (by omega), show ordN g - (m + 1) + 1 = ordN g - m by omega]
        simp only [f_s_SubgroupsOf_r0, f_s_SubgroupsOf_k0, hd, br_true, neg_dec, br_false, shl1_nat (show ordN g - (m + 1) ≤ 62 by omega), ec, bo_some, er, hw]
        refine ⟨_, rfl, r, rfl, by omega, by omega, fun _ => r2, fun x hx' => ?_⟩
        rcases r3 x hx' with h1 | h1
        · exact hx x h1
        · rw [h1]; exact hc)
      (fun s hs => by
        obtain ⟨l, rfl, hm, hl, hne, hx⟩ := hs
        have hd : decide (((ordN g - 0 : Nat) : Int) < ((ordN g : Nat) : Int)) = false := decide_eq_false (by omega)
        simp only [f_s_SubgroupsOf_r0, f_s_SubgroupsOf_k0, hd, br_false]
        exact ⟨_, rfl, l, rfl, by omega, hne (by omega), hx⟩) (ordN g) (ints (natsI []), ((ordN g - ordN g : Nat) : Int)) ⟨[], rfl, Nat.le_refl _, by simp, fun h => by omega, fun x hx => by cases hx⟩
    obtain ⟨_, e0, cyc, rfl, hc1, hc2, hcx⟩ := k0
    have e0' : loopL (f_s_SubgroupsOf_r0 (ints (natsI g)) [] ((ordN g : Nat) : Int)) ([], 0) = some (.one (ints (natsI cyc))) := by rw [← e0, Nat.sub_self]; rfl
    -- a walk along the cyclic ones
    have inner : ∀ (i : Nat), i < cyc.length → ∀ (l : List Nat), l.length ≤ 90000 → (∀ x ∈ l, x < 2 ^ ordN g) → ∃ r : List Nat, loopL (f_s_SubgroupsOf_r4 (ints (natsI g)) (ints (natsI cyc)) (i : Int)) (ints (natsI l), 0) = some (.one (ints (natsI r))) ∧ r.length ≤ l.length + 25 ∧ 1 ≤ r.length ∧ ∀ x ∈ r, x < 2 ^ ordN g := by
      intro i hi l hl hx
      have k := loop_ex (rd := f_s_SubgroupsOf_r4 (ints (natsI g)) (ints (natsI cyc)) (i : Int)) (fun m s => ∃ q : List Nat, s = (ints (natsI q), ((i + 1 - m : Nat) : Int)) ∧ m ≤ i + 1 ∧ q.length + m ≤ l.length + (i + 1) ∧ (m < i + 1 → 1 ≤ q.length) ∧ ∀ x ∈ q, x < 2 ^ ordN g)
        (fun a => ∃ q : List Nat, a = ints (natsI q) ∧ q.length ≤ l.length + 25 ∧ 1 ≤ q.length ∧ ∀ x ∈ q, x < 2 ^ ordN g) (fun m s hs => by
          obtain ⟨q, rfl, hm, hq, hne, hx⟩ := hs
          have hd : decide (((i + 1 - (m + 1) : Nat) : Int) ≤ (i : Int)) = true := decide_eq_true (by omega)
          have a1 := hcx _ (get_memW (show i < cyc.length from hi))
          have a2 := hcx _ (get_memW (show i + 1 - (m + 1) < cyc.length by omega))
          obtain ⟨r, er, r1, r2, r3⟩ := l5Put_ok q (sumN g (cyc.getD (i + 1 - (m + 1)) 0) (cyc.getD i 0)) (by omega)
          have hw : w64 (((i + 1 - (m + 1) : Nat) : Int) + 1) = ((i + 1 - m : Nat) : Int) := by rw [w64_nat (by omega), show i + 1 - (m + 1) + 1 = i + 1 - m by omega]
          simp only [f_s_SubgroupsOf_r4, f_s_SubgroupsOf_k4, hd, br_true, ok_natsI hi, ok_natsI (show i + 1 - (m + 1) < cyc.length by omega), at_natsI, s_l4Sum_eq v a1 a2, bo_some, er, hw]
          refine ⟨_, rfl, r, rfl, by omega, by omega, fun _ => r2, fun x hx' => ?_⟩
          rcases r3 x hx' with h1 | h1
          · exact hx x h1
          · rw [h1]; exact sumN_lt v _ _)
        (fun s hs => by
          obtain ⟨q, rfl, hm, hq, hne, hx⟩ := hs
          have hd : decide (((i + 1 - 0 : Nat) : Int) ≤ (i : Int)) = false := decide_eq_false (by omega)
          simp only [f_s_SubgroupsOf_r4, f_s_SubgroupsOf_k4, hd, br_false]
          exact ⟨_, rfl, q, rfl, by omega, hne (by omega), hx⟩) (i + 1) (ints (natsI l), ((i + 1 - (i + 1) : Nat) : Int)) ⟨l, rfl, Nat.le_refl _, by omega, fun h => by omega, hx⟩
      obtain ⟨_, e, r, rfl, q1, q2, q3⟩ := k
      exact ⟨r, by rw [← e, Nat.sub_self]; rfl, q1, q2, q3⟩
    have k2 := loop_ex (rd := f_s_SubgroupsOf_r2 (ints (natsI g)) (ints (natsI cyc))) (fun m s => ∃ q : List Nat, s = (ints (natsI q), ((cyc.length - m : Nat) : Int)) ∧ m ≤ cyc.length ∧ q.length + 25 * m ≤ 25 * cyc.length ∧ (m < cyc.length → 1 ≤ q.length) ∧ ∀ x ∈ q, x < 2 ^ ordN g)
      (fun a => ∃ (q : List Nat) (z : Int), a = (ints (natsI q), z) ∧ q.length ≤ 600 ∧ 1 ≤ q.length ∧ ∀ x ∈ q, x < 2 ^ ordN g) (fun m s hs => by
        obtain ⟨q, rfl, hm, hq, hne, hx⟩ := hs
        have hd : decide (((cyc.length - (m + 1) : Nat) : Int) < (cyc.length : Int)) = true := decide_eq_true (by omega)
        obtain ⟨r, er, r1, r2, r3⟩ := inner (cyc.length - (m + 1)) (by omega) q (by omega) hx
        have hw : w64 (((cyc.length - (m + 1) : Nat) : Int) + 1) = ((cyc.length - m : Nat) : Int) := by rw [w64_nat (by omega), show cyc.length - (m + 1) + 1 = cyc.length - m by omega]
        simp only [f_s_SubgroupsOf_r2, f_s_SubgroupsOf_k2, ints_length, natsI_length, hd, br_true, er, bl1_one, hw]
        exact ⟨_, rfl, r, rfl, by omega, by omega, fun _ => r2, r3⟩)
      (fun s hs => by
        obtain ⟨q, rfl, hm, hq, hne, hx⟩ := hs
        have hd : decide (((cyc.length - 0 : Nat) : Int) < (cyc.length : Int)) = false := decide_eq_false (by omega)
        simp only [f_s_SubgroupsOf_r2, f_s_SubgroupsOf_k2, ints_length, natsI_length, hd, br_false]
        exact ⟨_, rfl, q, _, rfl, by omega, hne (by omega), hx⟩) cyc.length (ints (natsI []), ((cyc.length - cyc.length : Nat) : Int)) ⟨[], rfl, Nat.le_refl _, by simp, fun h => by omega, fun x hx => by cases hx⟩
    obtain ⟨_, e2, two, z2, rfl, ht1, ht2, htx⟩ := k2
    have e2' : loopL (f_s_SubgroupsOf_r2 (ints (natsI g)) (ints (natsI cyc))) ([], 0) = some (.one (ints (natsI two), z2)) := by rw [← e2, Nat.sub_self]; rfl
    have inner2 : ∀ (i : Nat), i < two.length → ∀ (l : List Nat), l.length ≤ 90000 → 1 ≤ l.length → (∀ x ∈ l, x < 2 ^ ordN g) → ∃ r : List Nat, loopL (f_s_SubgroupsOf_r8 (ints (natsI g)) (ints (natsI cyc)) (ints (natsI two)) (i : Int)) (ints (natsI l), 0) = some (.one (ints (natsI r))) ∧ r.length ≤ l.length + 25 ∧ 1 ≤ r.length ∧ ∀ x ∈ r, x < 2 ^ ordN g := by
      intro i hi l hl hl1 hx
      have k := loop_ex (rd := f_s_SubgroupsOf_r8 (ints (natsI g)) (ints (natsI cyc)) (ints (natsI two)) (i : Int)) (fun m s => ∃ q : List Nat, s = (ints (natsI q), ((cyc.length - m : Nat) : Int)) ∧ m ≤ cyc.length ∧ q.length + m ≤ l.length + cyc.length ∧ 1 ≤ q.length ∧ ∀ x ∈ q, x < 2 ^ ordN g)
        (fun a => ∃ q : List Nat, a = ints (natsI q) ∧ q.length ≤ l.length + 25 ∧ 1 ≤ q.length ∧ ∀ x ∈ q, x < 2 ^ ordN g) (fun m s hs => by
          obtain ⟨q, rfl, hm, hq, hne, hx⟩ := hs
          have hd : decide (((cyc.length - (m + 1) : Nat) : Int) < (cyc.length : Int)) = true := decide_eq_true (by omega)
          have a1 := htx _ (get_memW (show i < two.length from hi))
          have a2 := hcx _ (get_memW (show cyc.length - (m + 1) < cyc.length by omega))
          obtain ⟨r, er, r1, r2, r3⟩ := l5Put_ok q (sumN g (cyc.getD (cyc.length - (m + 1)) 0) (two.getD i 0)) (by omega)
          have hw : w64 (((cyc.length - (m + 1) : Nat) : Int) + 1) = ((cyc.length - m : Nat) : Int) := by rw [w64_nat (by omega), show cyc.length - (m + 1) + 1 = cyc.length - m by omega]
          simp only [f_s_SubgroupsOf_r8, f_s_SubgroupsOf_k8, ints_length, natsI_length, hd, br_true, ok_natsI hi, ok_natsI (show cyc.length - (m + 1) < cyc.length by omega), at_natsI, s_l4Sum_eq v a1 a2, bo_some, er, hw]
          refine ⟨_, rfl, r, rfl, by omega, by omega, r2, fun x hx' => ?_⟩
          rcases r3 x hx' with h1 | h1
          · exact hx x h1
          · rw [h1]; exact sumN_lt v _ _)
        (fun s hs => by
          obtain ⟨q, rfl, hm, hq, hne, hx⟩ := hs
          have hd : decide (((cyc.length - 0 : Nat) : Int) < (cyc.length : Int)) = false := decide_eq_false (by omega)
          simp only [f_s_SubgroupsOf_r8, f_s_SubgroupsOf_k8, ints_length, natsI_length, hd, br_false]
          exact ⟨_, rfl, q, rfl, by omega, hne, hx⟩) cyc.length (ints (natsI l), ((cyc.length - cyc.length : Nat) : Int)) ⟨l, rfl, Nat.le_refl _, by omega, hl1, hx⟩
      obtain ⟨_, e, r, rfl, q1, q2, q3⟩ := k
      exact ⟨r, by rw [← e, Nat.sub_self]; rfl, q1, q2, q3⟩
    have k6 := loop_ex (rd := f_s_SubgroupsOf_r6 (ints (natsI g)) (ints (natsI cyc)) (ints (natsI two))) (fun m s => ∃ q : List Nat, s = (ints (natsI q), ((two.length - m : Nat) : Int)) ∧ m ≤ two.length ∧ q.length + 25 * m ≤ 26 * two.length ∧ 1 ≤ q.length ∧ ∀ x ∈ q, x < 2 ^ ordN g)
      (fun a => ∃ (q : List Nat) (z : Int), a = (ints (natsI q), z) ∧ q.length ≤ 20000 ∧ 1 ≤ q.length) (fun m s hs => by
        obtain ⟨q, rfl, hm, hq, hne, hx⟩ := hs
        have hd : decide (((two.length - (m + 1) : Nat) : Int) < (two.length : Int)) = true := decide_eq_true (by omega)
        obtain ⟨r, er, r1, r2, r3⟩ := inner2 (two.length - (m + 1)) (by omega) q (by omega) hne hx
        have hw : w64 (((two.length - (m + 1) : Nat) : Int) + 1) = ((two.length - m : Nat) : Int) := by rw [w64_nat (by omega), show two.length - (m + 1) + 1 = two.length - m by omega]
        simp only [f_s_SubgroupsOf_r6, f_s_SubgroupsOf_k6, ints_length, natsI_length, hd, br_true, er, bl1_one, hw]
        exact ⟨_, rfl, r, rfl, by omega, by omega, r2, r3⟩)
      (fun s hs => by
        obtain ⟨q, rfl, hm, hq, hne, hx⟩ := hs
        have hd : decide (((two.length - 0 : Nat) : Int) < (two.length : Int)) = false := decide_eq_false (by omega)
        simp only [f_s_SubgroupsOf_r6, f_s_SubgroupsOf_k6, ints_length, natsI_length, hd, br_false]
        exact ⟨_, rfl, q, _, rfl, by omega, hne⟩) two.length (ints (natsI two), ((two.length - two.length : Nat) : Int)) ⟨two, rfl, Nat.le_refl _, by omega, ht2, htx⟩
    obtain ⟨_, e6, out, z6, rfl, hu1, hu2⟩ := k6
    have e6' : loopL (f_s_SubgroupsOf_r6 (ints (natsI g)) (ints (natsI cyc)) (ints (natsI two))) (ints (natsI two), 0) = some (.one (ints (natsI out), z6)) := by rw [← e6, Nat.sub_self]; rfl
    refine ⟨natsI out, true, ?_, by rw [natsI_length]; exact hu1, fun _ => by rw [natsI_length]; exact hu2⟩
    simp only [f_s_SubgroupsOf, f_s_SubgroupsOf_k, s_IsGroup_eq _ h, hg, bo_some, Bool.not_true, br_false, s_l2Order_eq _ h, prodW_nat g v.len v.each, e0', e2', e6', bl1_one]
theorem l1Below_big {x0 : List Int} {c : List Sc × Int × Int} (hc : Cur x0 c) (n : Int) : ∃ r c', f_s_l1Below_io n c.1 c.2.1 c.2.2 = some (r, c') ∧ Cur x0 c' ∧ 0 ≤ r ∧ (0 < n → n ≤ 1000000 → r < n) := by
  by_cases hn : n ≤ 256
  · obtain ⟨r, c', e, h', h0, h1, _⟩ := l1Below_ok hc n hn
    exact ⟨r, c', e, h', h0, fun h _ => h1 h⟩
  · obtain ⟨x, c1, e1, h1, hx⟩ := l1Byte_ok hc
    obtain ⟨y, c2, e2, h2, hy⟩ := l1Byte_ok h1
    obtain ⟨z, c3, e3, h3, hz⟩ := l1Byte_ok h2
    obtain ⟨w, c4, e4, h4, hw⟩ := l1Byte_ok h3
    have d0 : decide (n ≤ 0) = false := decide_eq_false (by omega)
    have d1 : decide (n ≤ 256) = false := decide_eq_false hn
    have hz0 : (n == 0) = false := beq_eq_false_iff_ne.2 (by omega)
    have w1 : w64 (x * 16777216) = x * 16777216 := w64_in (by omega) (by omega)
    have w2 : w64 (y * 65536) = y * 65536 := w64_in (by omega) (by omega)
    have w3 : w64 (z * 256) = z * 256 := w64_in (by omega) (by omega)
    have w4 : w64 (x * 16777216 + y * 65536) = x * 16777216 + y * 65536 := w64_in (by omega) (by omega)
    have w5 : w64 (x * 16777216 + y * 65536 + z * 256) = x * 16777216 + y * 65536 + z * 256 := w64_in (by omega) (by omega)
    have w6 : w64 (x * 16777216 + y * 65536 + z * 256 + w) = x * 16777216 + y * 65536 + z * 256 + w := w64_in (by omega) (by omega)
    simp only [f_s_l1Below_io, f_s_l1Below_io_k, d0, d1, br_false, e1, e2, e3, e4, bo_some, hz0, w1, w2, w3, w4, w5, w6]
    have hr := tmod_range (a := x * 16777216 + y * 65536 + z * 256 + w) (n := n) (by omega) (by omega)
    exact ⟨_, _, rfl, ⟨h4.row, h4.low, h4.len⟩, hr.1, fun _ _ => hr.2⟩
theorem l5Group_ok {x0 : List Int} {c : List Sc × Int × Int} (hc : Cur x0 c) : ∃ G x c', f_s_l5Group_io c.1 c.2.1 c.2.2 = some (ints G, x, c') ∧ Cur x0 c' ∧ G.length ≤ 4 := by
  obtain ⟨G, c1, e1, h1, hG⟩ := l2Any_ok hc
  have hGl : G.length ≤ lim := Nat.le_trans hG (by decide)
  obtain ⟨L, b, e2, hL, hb⟩ := SubgroupsOf_ok G hGl
  obtain ⟨a0, c0, f0, g0⟩ := l3Set_ok h1 G hGl
  cases b with
  | false =>
    simp only [f_s_l5Group_io, f_s_l5Group_io_k, f_s_l5Group_io_g4, f_s_l5Group_io_g4_k, e1, bo_some, e2, Bool.not_false, show (true == false) = false from rfl, br_false, f0]
    exact ⟨G, _, _, rfl, ⟨g0.row, g0.low, g0.len⟩, hG⟩
  | true =>
    obtain ⟨q, c2, e3, h2⟩ := l1Once_ok h1 5 (by decide)
    obtain ⟨a3, c3, f3, g3⟩ := l3Set_ok h2 G hGl
    have hL1 := hb rfl
    obtain ⟨r, c4, f4, g4, r0, r1⟩ := l1Below_big h2 (L.length : Int)
    obtain ⟨k, rfl⟩ : ∃ k : Nat, r = k := ⟨r.toNat, by omega⟩
    have hk : k < L.length := by have := r1 (by omega) (by omega); omega
    simp only [f_s_l5Group_io, f_s_l5Group_io_k, f_s_l5Group_io_g4, f_s_l5Group_io_g4_k, f_s_l5Group_io_g5, f_s_l5Group_io_g5_k, e1, bo_some, e2, Bool.not_true, BEq.rfl, br_true, e3, f3, ints_length, f4, ok_nat hk]
    cases q with
    | true => exact ⟨G, _, _, rfl, ⟨g3.row, g3.low, g3.len⟩, hG⟩
    | false => exact ⟨G, _, _, rfl, ⟨g4.row, g4.low, g4.len⟩, hG⟩
/-! ### The law -/
end Go.Proofs.Ytbajbkdmfdfdmaa
