/-
  PlainAU: FnEnergies.
-/
import Derived.Test.YtphbclogflflmaaPlainAT
set_option linter.unusedVariables false
set_option linter.unusedSimpArgs false
namespace Go.Proofs.Ytphbclogflflmaa
open Go Ev

/-! ### The draws of sets -/
theorem l3Set_ok {x0 : List Int} {c : List Sc × Int × Int} (hc : Cur x0 c) (G : List Int) (hG : G.length ≤ lim) : ∃ r c', f_s_l3Set_io (ints G) c.1 c.2.1 c.2.2 = some (r, c') ∧ Cur x0 c' := by
  have hO := ordG_range G
  have hif : (if ordG G > 1 then ordG G else 1) ≤ 256 := by split <;> omega
  have hif0 : decide ((if ordG G > 1 then ordG G else 1) < 0) = false := decide_eq_false (by split <;> omega)
  obtain ⟨n, c1, e1, h1, hn0, hn1, _⟩ := l1Below_ok hc 6 (by decide)
  obtain ⟨n, rfl⟩ : ∃ k : Nat, n = k := ⟨n.toNat, by omega⟩
  have hn : n < 6 := by have := hn1 (by decide); omega
  have key := loop_ex (rd := f_s_l3Set_io_r0 (if ordG G > 1 then ordG G else 1)) (fun m s => ∃ (d : List Sc × Int × Int) (a : Int), s = (d.1, d.2.1, d.2.2, a, (m : Int)) ∧ Cur x0 d ∧ m < 6)
    (fun r => ∃ (d : List Sc × Int × Int) (a : Int), r = (d.1, d.2.1, d.2.2, a) ∧ Cur x0 d) (fun m s hs => by
      obtain ⟨d, a, rfl, hd, hm⟩ := hs
      obtain ⟨y, d1, f1, g1, hy, _⟩ := l1Below_ok hd (if ordG G > 1 then ordG G else 1) hif
      have hpos : decide (((m + 1 : Nat) : Int) > 0) = true := decide_eq_true (by omega)
      have hw : w64 (((m + 1 : Nat) : Int) - 1) = (m : Int) := by rw [show ((m + 1 : Nat) : Int) - 1 = (m : Int) by omega]; exact w64_cast (by omega)
      have hy0 : decide (y < 0) = false := decide_eq_false (by omega)
      simp only [f_s_l3Set_io_r0, f_s_l3Set_io_k0, hpos, br_true, f1, bo_some, hy0, br_false, hw]
      exact ⟨_, rfl, d1, _, rfl, g1, by omega⟩)
    (fun s hs => by
      obtain ⟨d, a, rfl, hd, hm⟩ := hs
      have hpos : decide (((0 : Nat) : Int) > 0) = false := by decide
      simp only [f_s_l3Set_io_r0, f_s_l3Set_io_k0, hpos, br_false]
      exact ⟨_, rfl, d, a, rfl, hd⟩) n (c1.1, c1.2.1, c1.2.2, 0, (n : Int)) ⟨c1, 0, rfl, h1, hn⟩
  obtain ⟨r, ek, d, a, rfl, hd⟩ := key
  obtain ⟨q, d1, f1, g1, _⟩ := l1Below_ok hd 20 (by decide)
  obtain ⟨k, d2, f2, g2, _⟩ := l1PickInt_ok g1 [-1, 16777216, 9223372036854775807] (by decide) (by decide)
  have f2' : f_s_l1PickInt_io [(Sc.n .i64 (-1)), (Sc.n .i64 16777216), (Sc.n .i64 9223372036854775807)] d1.1 d1.2.1 d1.2.2 = _ := f2
  simp only [f_s_l3Set_io, f_s_l3Set_io_k, s_OrderOf_eq G hG, bo_some, e1, ek, bl1_one, f1, f2', hif0, br_false]
  cases (q == 0) with
  | true => exact ⟨_, _, rfl, ⟨g1.row, g1.low, g1.len⟩⟩
  | false =>
    cases (q == 1) with
    | true => exact ⟨_, _, rfl, ⟨g2.row, g2.low, g2.len⟩⟩
    | false => exact ⟨_, _, rfl, ⟨g1.row, g1.low, g1.len⟩⟩
theorem l3One_ok {x0 : List Int} (hx : x0.length ≤ 1048576) : ∃ G a, f_s_l3One (bytesL x0) = some (ints G, a) ∧ G.length ≤ 4 := by
  obtain ⟨c, e, h⟩ := l1New_ok hx
  obtain ⟨G, c1, e1, h1, hG⟩ := l2Any_ok h
  obtain ⟨a, c2, e2, h2⟩ := l3Set_ok h1 G (Nat.le_trans hG (by decide))
  simp only [f_s_l3One, f_s_l3One_k, f_s_l3One_g3, f_s_l3One_g3_k, e, bo_some, e1, e2]
  exact ⟨G, a, rfl, hG⟩
theorem l3Two_ok {x0 : List Int} (hx : x0.length ≤ 1048576) : ∃ G a b, f_s_l3Two (bytesL x0) = some (ints G, a, b) ∧ G.length ≤ 4 := by
  obtain ⟨c, e, h⟩ := l1New_ok hx
  obtain ⟨G, c1, e1, h1, hG⟩ := l2Any_ok h
  obtain ⟨a, c2, e2, h2⟩ := l3Set_ok h1 G (Nat.le_trans hG (by decide))
  obtain ⟨b, c3, e3, h3⟩ := l3Set_ok h2 G (Nat.le_trans hG (by decide))
  simp only [f_s_l3Two, f_s_l3Two_k, f_s_l3Two_g4, f_s_l3Two_g4_k, e, bo_some, e1, e2, e3]
  exact ⟨G, a, b, rfl, hG⟩
theorem DrawPopularSums_ok {x0 : List Int} (hx : x0.length ≤ 1048576) : ∃ G a b t, f_s_DrawPopularSums (bytesL x0) = some (ints G, a, b, t) ∧ G.length ≤ 4 ∧ 0 ≤ t ∧ t ≤ 25 := by
  obtain ⟨G, a, b, e, hG⟩ := l3Two_ok hx
  obtain ⟨r, hr⟩ : ∃ r : Nat, ((bytesL x0).length : Int).tmod 6 = (r : Int) := ⟨(bytesL x0).length % 6, rfl⟩
  have hr6 : r < 6 := by
    have := tmod_range (a := ((bytesL x0).length : Int)) (n := 6) (by omega) (by decide)
    rw [hr] at this
    omega
  have i0 : inRange (r : Int) (ints [1, 2, 3, 0, 24, 25]).length = true := by rw [inRange_nat]; exact decide_eq_true hr6
  have i1 : inRange (r : Int) [(Sc.n .i64 1), (Sc.n .i64 2), (Sc.n .i64 3), (Sc.n .i64 0), (Sc.n .i64 24), (Sc.n .i64 25)].length = true := i0
  have i2 : kAt [(Sc.n .i64 1), (Sc.n .i64 2), (Sc.n .i64 3), (Sc.n .i64 0), (Sc.n .i64 24), (Sc.n .i64 25)] r = true := kAt_ints [1, 2, 3, 0, 24, 25] r
  have i3 : atN [(Sc.n .i64 1), (Sc.n .i64 2), (Sc.n .i64 3), (Sc.n .i64 0), (Sc.n .i64 24), (Sc.n .i64 25)] r = ([1, 2, 3, 0, 24, 25] : List Int).getD r 0 := atN_ints [1, 2, 3, 0, 24, 25] r
  have i4 : ∀ r : Fin 6, 0 ≤ ([1, 2, 3, 0, 24, 25] : List Int).getD r.1 0 ∧ ([1, 2, 3, 0, 24, 25] : List Int).getD r.1 0 ≤ 25 := by decide
  simp only [f_s_DrawPopularSums, f_s_DrawPopularSums_k, f_s_DrawPopularSums_g2, f_s_DrawPopularSums_g2_k, e, bo_some, hr, i1, Int.toNat_natCast, i2, i3, br_true]
  exact ⟨G, a, b, _, rfl, hG, (i4 ⟨r, hr6⟩).1, (i4 ⟨r, hr6⟩).2⟩
theorem DrawTripleCount_ok {x0 : List Int} (hx : x0.length ≤ 1048576) : ∃ G a b d, f_s_DrawTripleCount (bytesL x0) = some (ints G, a, b, d) ∧ G.length ≤ 4 := by
  obtain ⟨c, e, h⟩ := l1New_ok hx
  obtain ⟨G, c1, e1, h1, hG⟩ := l2Any_ok h
  obtain ⟨a, c2, e2, h2⟩ := l3Set_ok h1 G (Nat.le_trans hG (by decide))
  obtain ⟨b, c3, e3, h3⟩ := l3Set_ok h2 G (Nat.le_trans hG (by decide))
  obtain ⟨d, c4, e4, h4⟩ := l3Set_ok h3 G (Nat.le_trans hG (by decide))
  simp only [f_s_DrawTripleCount, f_s_DrawTripleCount_k, f_s_DrawTripleCount_g5, f_s_DrawTripleCount_g5_k, e, bo_some, e1, e2, e3, e4]
  exact ⟨G, a, b, d, rfl, hG⟩
theorem DrawConvolveTables_ok {x0 : List Int} (hx : x0.length ≤ 1048576) : ∃ G P Q, f_s_DrawConvolveTables (bytesL x0) = some (ints G, ints P, ints Q) ∧ G.length ≤ 4 ∧ P.length ≤ 24 ∧ Q.length ≤ 24 := by
  obtain ⟨c, e, h⟩ := l1New_ok hx
  obtain ⟨G, c1, e1, h1, hmem, _, hG⟩ := l2Draw_ok h 12
  have hGl : G.length ≤ lim := Nat.le_trans hG (by decide)
  have hpr : ∀ G ∈ drawT, 1 ≤ prodW G ∧ prodW G ≤ 24 := by decide
  obtain ⟨N, hN⟩ : ∃ N : Nat, prodW G = N := ⟨(prodW G).toNat, by have := hpr G hmem; omega⟩
  have hN1 : 1 ≤ N ∧ N ≤ 24 := by have := hpr G hmem; omega
  have key := loop_ex (rd := f_s_DrawConvolveTables_r0) (fun m s => ∃ (d : List Sc × Int × Int) (P Q : List Int), s = ([], ints G, d.1, d.2.1, d.2.2, ints P, ints Q, ((N - m : Nat) : Int)) ∧ Cur x0 d ∧ P.length + m = N ∧ Q.length + m = N)
    (fun r => ∃ (d : List Sc × Int × Int) (P Q : List Int), r = ([], ints G, d.1, d.2.1, d.2.2, ints P, ints Q) ∧ Cur x0 d ∧ P.length = N ∧ Q.length = N) (fun m s hs => by
      obtain ⟨d, P, Q, rfl, hd, h1, h2⟩ := hs
      obtain ⟨y, d1, f1, g1, _⟩ := l1Below_ok hd 5 (by decide)
      obtain ⟨z, d2, f2, g2, _⟩ := l1Below_ok g1 5 (by decide)
      have hlt : decide (((N - (m + 1) : Nat) : Int) < (N : Int)) = true := decide_eq_true (by omega)
      have hw : w64 (((N - (m + 1) : Nat) : Int) + 1) = ((N - m : Nat) : Int) := by rw [w64_nat (by omega), show N - (m + 1) + 1 = N - m by omega]
      have l1 : decide (P.length + [Sc.n .i64 (w64 (y - 2))].length ≤ lim) = true := decide_eq_true (by rw [List.length_singleton]; exact Nat.le_trans (show P.length + 1 ≤ 25 by omega) (by decide))
      have l2 : decide (Q.length + [Sc.n .i64 (w64 (z - 2))].length ≤ lim) = true := decide_eq_true (by rw [List.length_singleton]; exact Nat.le_trans (show Q.length + 1 ≤ 25 by omega) (by decide))
      simp only [f_s_DrawConvolveTables_r0, f_s_DrawConvolveTables_k0, s_l2Order_eq G hGl, hN, bo_some, hlt, br_true, f1, f2, ints_length, l1, l2, hw, ints_snoc]
      exact ⟨_, rfl, d2, P ++ [w64 (y - 2)], Q ++ [w64 (z - 2)], rfl, g2, by rw [List.length_append, List.length_singleton]; omega, by rw [List.length_append, List.length_singleton]; omega⟩)
    (fun s hs => by
      obtain ⟨d, P, Q, rfl, hd, h1, h2⟩ := hs
      have hlt : decide (((N - 0 : Nat) : Int) < (N : Int)) = false := decide_eq_false (by omega)
      simp only [f_s_DrawConvolveTables_r0, f_s_DrawConvolveTables_k0, s_l2Order_eq G hGl, hN, bo_some, hlt, br_false]
      exact ⟨_, rfl, d, P, Q, rfl, hd, by omega, by omega⟩) N ([], ints G, c1.1, c1.2.1, c1.2.2, ints [], ints [], ((N - N : Nat) : Int)) ⟨c1, [], [], rfl, h1, by simp, by simp⟩
  obtain ⟨r, ek, d, P, Q, rfl, hd, hP, hQ⟩ := key
  have ek' : loopL f_s_DrawConvolveTables_r0 ([], ints G, c1.1, c1.2.1, c1.2.2, [], [], 0) = some (.one ([], ints G, d.1, d.2.1, d.2.2, ints P, ints Q)) := by rw [← ek, Nat.sub_self]; rfl
  obtain ⟨q, d1, f1, g1⟩ := l1Once_ok hd 10 (by decide)
  obtain ⟨k, d2, f2, g2, _⟩ := l1PickInt_ok g1 [10001, -9223372036854775808, 10000] (by decide) (by decide)
  have f2' : f_s_l1PickInt_io [(Sc.n .i64 10001), (Sc.n .i64 (-9223372036854775808)), (Sc.n .i64 10000)] d1.1 d1.2.1 d1.2.2 = _ := f2
  have hin : inRange 0 P.length = true := in_nat (k := 0) (by omega)
  simp only [f_s_DrawConvolveTables, f_s_DrawConvolveTables_k, e, bo_some, e1, ek', bl1_one, f1, f2', ints_length, hin, br_true, Int.toNat_zero, ints_set]
  cases q with
  | true => exact ⟨G, _, Q, rfl, by omega, by rw [List.length_set]; omega, by omega⟩
  | false => exact ⟨G, P, Q, rfl, by omega, by omega, by omega⟩
/-! ### The law -/
theorem l_total_eq' (A : List Int) (h : A.length ≤ lim) : f_l_total (ints A) = some (sumL A) := by
  have hl := lim_lt h
  have key := loop_fold (rd := f_l_total_r0 (ints A)) A (fun s x => w64 (s + x)) id 0 (fun k t hk => by
    simp only [f_l_total_r0, f_l_total_k0, ints_length, lt_dec hk, ok_nat hk, at_nat, br_true, w64_nat (show k < 9223372036854775807 by omega)])
    (fun t => by simp only [f_l_total_r0, f_l_total_k0, ints_length, lt_dec_self, br_false, id])
  simp only [f_l_total, f_l_total_k, key, bl1_one, id]
  rfl
theorem popS_mono (t : Int) (T : Nat → Nat) (N : Nat) (hN : N ≤ 24) : and64 ((popS (t + 1) T N : Nat) : Int) ((popS t T N : Nat) : Int) = ((popS (t + 1) T N : Nat) : Int) := by
  have h1 := popS_lt (t + 1) T N
  have h2 := popS_lt t T N
  have h3 : 2 ^ N ≤ 2 ^ 24 := Nat.pow_le_pow_right (by decide) hN
  rw [and64_nat (by omega) (by omega)]
  congr 1
  apply Nat.eq_of_testBit_eq
  intro i
  rw [Nat.testBit_and, popS_test, popS_test]
  by_cases hi : i < N
  · rw [decide_eq_true hi, Bool.true_and, Bool.true_and]
    by_cases hc : t + 1 ≤ ((T i : Nat) : Int)
    · rw [decide_eq_true hc, decide_eq_true (show t ≤ ((T i : Nat) : Int) by omega)]; rfl
    · rw [decide_eq_false hc]; rfl
  · rw [decide_eq_false hi]; rfl
theorem FnEnergies_w20 {x0 : List Int} (hx : x0.length ≤ 1048576) : f_l_FnEnergies_w20 (bytesL x0) = some true := by
  obtain ⟨G, P, Q, e1, hG, hP, hQ⟩ := DrawConvolveTables_ok hx
  obtain ⟨H, a, b, e2, hH⟩ := l3Two_ok hx
  have hGl : G.length ≤ lim := Nat.le_trans hG (by decide)
  have hHl : H.length ≤ lim := Nat.le_trans hH (by decide)
  obtain ⟨R, c1, c2, hR⟩ := Convolve_more G P Q hGl (by omega) (by omega)
  obtain ⟨C, k1, k2, hC⟩ := CorrelationOf_both H a b hHl
  have hE : ∃ r, f_s_EnergyOf (ints H) a b = some r ∧ f_i_EnergyOf (ints H) a b = some r := by
    rcases EnergyOf_more H a b hHl with ⟨_, n1, n2⟩ | ⟨g, x, y, _, _, _, _, _, _, n1, n2⟩
    · exact ⟨_, n1, n2⟩
    · exact ⟨_, n1, n2⟩
  obtain ⟨r, n1, n2⟩ := hE
  have hRl : R.length ≤ lim := by
    rcases hR with ⟨rfl, _⟩ | ⟨g, _, v, _, _, rfl⟩
    · exact Nat.zero_le _
    · rw [rowI_length]; exact Nat.le_trans v.ord (by decide)
  have s1 := sameInts_self R hRl
  have s2 := sameInts_self C (Nat.le_trans hC (by decide))
  simp only [f_l_FnEnergies_w20, f_l_FnEnergies_w20_k, e1, f_s_DrawCorrelationOf, f_s_DrawCorrelationOf_k, f_s_DrawEnergyOf, f_s_DrawEnergyOf_k, e2, bo_some, c1, c2, s1, BEq.rfl, br_true, ints_length, k1, k2, s2, n1, n2]
  rcases hR with ⟨rfl, _⟩ | ⟨g, _, v, l1, l2, rfl⟩
  · rfl
  · have o1 := ordN_pos v.each
    have hz : (((rowI (ordN g) (convN g P Q)).length : Int) == 0) = false := by rw [rowI_length]; exact beq_eq_false_iff_ne.2 (by omega)
    simp only [hz, BEq.rfl, br_true, l_total_eq' _ hRl, l_total_eq' P (Nat.le_trans (show P.length ≤ 24 by omega) (by decide)), l_total_eq' Q (Nat.le_trans (show Q.length ≤ 24 by omega) (by decide)), bo_some, conv_total v l1 l2]
theorem FnEnergies_w16 {x0 : List Int} (hx : x0.length ≤ 1048576) : f_l_FnEnergies_w16 (bytesL x0) = some true := by
  obtain ⟨G, x, y, z, e1, hG⟩ := DrawTripleCount_ok hx
  have hGl : G.length ≤ lim := Nat.le_trans hG (by decide)
  by_cases hall : setG G x = true ∧ setG G y = true ∧ setG G z = true
  · obtain ⟨sx, sy, sz⟩ := hall
    obtain ⟨g, a, b, rfl, v, rfl, rfl, ha, hb⟩ := two_sets sx sy
    obtain ⟨g', a', c, eg, v', ea, rfl, ha', hc⟩ := two_sets sx sz
    have e2 : g = g' := by
      have := congrArg (List.map Int.toNat) eg
      rwa [toNat_natsI, toNat_natsI] at this
    subst e2
    obtain ⟨t1, t2⟩ := Trip_yes v ha hb hc
    obtain ⟨t3, t4⟩ := Trip_yes v hb ha hc
    rw [tripN_comm g b a c] at t4
    have hp : decide (((tripN g a b c : Nat) : Int) ≥ 0) = true := decide_eq_true (by omega)
    simp only [f_l_FnEnergies_w16, f_l_FnEnergies_w16_k, e1, bo_some, t1, t2, bne_self_eq_false, BEq.rfl, br_true, hp, t4, br_false, FnEnergies_w20 hx]
  · have hn : setG G x = false ∨ setG G y = false ∨ setG G z = false := by
      by_cases sx : setG G x = true
      · by_cases sy : setG G y = true
        · by_cases sz : setG G z = true
          · exact absurd ⟨sx, sy, sz⟩ hall
          · exact .inr (.inr (by simpa using sz))
        · exact .inr (.inl (by simpa using sy))
      · exact .inl (by simpa using sx)
    obtain ⟨t1, t2⟩ := Trip_no G x y z hGl hn
    have hp : decide ((-1 : Int) ≥ 0) = false := by decide
    have ff : (false == true) = false := rfl
    simp only [f_l_FnEnergies_w16, f_l_FnEnergies_w16_k, e1, bo_some, t1, t2, bne_self_eq_false, BEq.rfl, br_true, hp, ff, br_false, FnEnergies_w20 hx]
theorem FnEnergies_w11 {x0 : List Int} (hx : x0.length ≤ 1048576) : f_l_FnEnergies_w11 (bytesL x0) = some true := by
  obtain ⟨G, x, y, t, e1, hG, ht0, ht1⟩ := DrawPopularSums_ok hx
  have hGl : G.length ≤ lim := Nat.le_trans hG (by decide)
  obtain ⟨p, p1, p2, hp⟩ := PopularSums_more G x y t hGl
  obtain ⟨q, q1, q2, hq⟩ := PopularSums_more G x y (t + 1) hGl
  have ew : w64 (t + 1) = t + 1 := w64_in (by omega) (by omega)
  have w16 := FnEnergies_w16 hx
  have ff : (false == true) = false := rfl
  have hqp : q ≥ 0 → p ≥ 0 → and64 q p = q := fun hq0 hp0 => by
    rcases hp with ⟨rfl, _⟩ | ⟨g, a, b, rfl, v, rfl, rfl, ha, hb, _, rfl⟩
    · exact absurd hp0 (by decide)
    · rcases hq with ⟨rfl, _⟩ | ⟨g', a', b', eg, v', ea, eb, _, _, _, rfl⟩
      · exact absurd hq0 (by decide)
      · have e2 : g = g' := by
          have := congrArg (List.map Int.toNat) eg
          rwa [toNat_natsI, toNat_natsI] at this
        have e3 : a = a' := by omega
        have e4 : b = b' := by omega
        subst e2; subst e3; subst e4
        exact popS_mono t _ _ v.ord
  have hps : p ≥ 0 → t = 1 → ∃ s, f_s_SumOfSets (ints G) x y = some s ∧ p = s := fun hp0 h1 => by
    rcases hp with ⟨rfl, _⟩ | ⟨g, a, b, rfl, v, rfl, rfl, ha, hb, _, rfl⟩
    · exact absurd hp0 (by decide)
    · refine ⟨_, ?_, rfl⟩
      simp only [f_s_SumOfSets, f_s_SumOfSets_k, s_IsSet_eq _ _ v.lim, set_of v ha, set_of v hb, bo_some, Bool.not_true, BEq.rfl, br_true, br_false, s_l4Sum_eq v ha hb]
      rw [h1, pop_sum v ha hb]
  have rest : ∀ (k : Option Bool), k = some true → (p ≥ 0 → (br ((t == 1) == true) (bo (f_s_SumOfSets (ints G) x y) 0 fun r => br (p != r) (some false) k) k) = some true) := fun k hk hp0 => by
    by_cases h1 : t = 1
    · obtain ⟨s, es, eps⟩ := hps hp0 h1
      have e : (t == 1) = true := by rw [h1]; rfl
      simp only [e, BEq.rfl, br_true, es, bo_some, eps, bne_self_eq_false, br_false]
      exact hk
    · have e : (t == 1) = false := beq_eq_false_iff_ne.2 h1
      simp only [e, ff, br_false]
      exact hk
  simp only [f_l_FnEnergies_w11, f_l_FnEnergies_w11_k, e1, bo_some, p1, p2, q2, ew, bne_self_eq_false, BEq.rfl, br_true, w16]
  by_cases hp0 : p ≥ 0
  · by_cases hq0 : q ≥ 0
    · simp only [decide_eq_true hp0, decide_eq_true hq0, BEq.rfl, br_true, hqp hq0 hp0, bne_self_eq_false, br_false]
      exact rest _ rfl hp0
    · simp only [decide_eq_true hp0, decide_eq_false hq0, BEq.rfl, br_true, ff, br_false]
      exact rest _ rfl hp0
  · simp only [decide_eq_false hp0, ff, br_false]
theorem FnEnergies_w7 {x0 : List Int} (hx : x0.length ≤ 1048576) {g : List Nat} (v : VG g) {a : Nat} (ha : a < 2 ^ ordN g) : f_l_FnEnergies_w7 (ints (natsI g)) (bytesL x0) (a : Int) ((quadN g a : Nat) : Int) = some true := by
  have hq1 := quad_ge v ha
  have hq2 := quad_le (g := g) a
  have hp := popN_le a
  have hpp : popN a * popN a ≤ 63 * 63 := Nat.mul_le_mul hp hp
  have hppp : popN a * popN a * popN a ≤ 63 * 63 * 63 := Nat.mul_le_mul hpp hp
  have e1 : w64 (((popN a : Nat) : Int) * ((popN a : Nat) : Int)) = ((popN a * popN a : Nat) : Int) := by rw [← Int.natCast_mul]; exact w64_cast (by omega)
  have e2 : w64 (((popN a * popN a : Nat) : Int) * ((popN a : Nat) : Int)) = ((popN a * popN a * popN a : Nat) : Int) := by rw [← Int.natCast_mul]; exact w64_cast (by omega)
  have cs : f_s_CountSet (ints (natsI g)) (a : Int) = some ((popN a : Nat) : Int) := by
    simp only [f_s_CountSet, f_s_CountSet_k, s_IsSet_eq _ _ v.lim, set_of v ha, bo_some, Bool.not_true, br_false, s_l3Bits_eq (set_i64 v ha)]
  have d0 : decide (((quadN g a : Nat) : Int) ≥ 0) = true := decide_eq_true (by omega)
  have d1 : decide (((quadN g a : Nat) : Int) < ((popN a * popN a : Nat) : Int)) = false := decide_eq_false (by omega)
  have d2 : decide (((quadN g a : Nat) : Int) > ((popN a * popN a * popN a : Nat) : Int)) = false := decide_eq_false (by omega)
  simp only [f_l_FnEnergies_w7, f_l_FnEnergies_w7_k, d0, br_true, cs, bo_some, e1, e2, d1, d2, BEq.rfl, br_false, FnEnergies_w11 hx]
theorem FnEnergies_plain (x0 : List Int) (w0 : x0.length ≤ maxLen) : f_l_FnEnergies (bytesL x0) = some true := by
  simp only [f_l_FnEnergies, f_l_FnEnergies_k, f_l_big, f_l_big_k, bytesL_len, bo_some]
  by_cases hb : (x0.length : Int) > 1048576
  · rw [decide_eq_true hb]
    rfl
  · rw [decide_eq_false hb]
    have hx : x0.length ≤ 1048576 := by omega
    obtain ⟨G, x, e1, hG⟩ := l3One_ok hx
    have hGl : G.length ≤ lim := Nat.le_trans hG (by decide)
    have key : f_l_FnEnergies_w3 (bytesL x0) = some true := by
      cases hs : setG G x with
      | true =>
        obtain ⟨g, a, rfl, v, rfl, ha⟩ := nat_of_set hs
        have q1 := s_Quad_eq v ha
        have q2 := i_Quad_eq v ha
        have en : f_i_EnergyOf (ints (natsI g)) (a : Int) (a : Int) = some ((quadN g a : Nat) : Int) := by
          rcases EnergyOf_more (natsI g) (a : Int) (a : Int) hGl with ⟨hn, _⟩ | ⟨g', x', y', eg, _, ex, ey, _, _, _, n2⟩
          · rw [hs] at hn
            rcases hn with hn | hn <;> cases hn
          · have e2 : g = g' := by
              have := congrArg (List.map Int.toNat) eg
              rwa [toNat_natsI, toNat_natsI] at this
            have e3 : a = x' := by omega
            have e4 : a = y' := by omega
            subst e2
            rw [← e3, ← e4] at n2
            rw [quad_energy v ha]
            exact n2
        simp only [f_l_FnEnergies_w3, f_l_FnEnergies_w3_k, f_s_DrawQuadruplesOf, f_s_DrawQuadruplesOf_k, e1, bo_some, q1, q2, en, bne_self_eq_false, BEq.rfl, br_true, br_false, FnEnergies_w7 hx v ha]
      | false =>
        have q1 : f_s_QuadruplesOf (ints G) x = some (-1) := by
          simp only [f_s_QuadruplesOf, f_s_QuadruplesOf_k, s_IsSet_eq _ _ hGl, hs, bo_some]; rfl
        have q2 : f_i_QuadruplesOf (ints G) x = some (-1) := by
          simp only [f_i_QuadruplesOf, f_i_QuadruplesOf_k, i_IsSet_eq _ _ hGl, hs, bo_some]; rfl
        have en : f_i_EnergyOf (ints G) x x = some (-1) := by
          simp only [f_i_EnergyOf, f_i_EnergyOf_k, i_areSets2 _ _ _ hGl, hs, Bool.false_and, bo_some]; rfl
        have d0 : decide ((-1 : Int) ≥ 0) = false := by decide
        simp only [f_l_FnEnergies_w3, f_l_FnEnergies_w3_k, f_s_DrawQuadruplesOf, f_s_DrawQuadruplesOf_k, e1, bo_some, q1, q2, en, bne_self_eq_false, BEq.rfl, br_true, br_false, f_l_FnEnergies_w7, f_l_FnEnergies_w7_k, d0, FnEnergies_w11 hx]
    rw [key]
    rfl
end Go.Proofs.Ytphbclogflflmaa
