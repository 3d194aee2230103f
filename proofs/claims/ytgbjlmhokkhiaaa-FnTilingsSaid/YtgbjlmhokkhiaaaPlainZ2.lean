/-
  The plain side, joined.
-/
import Derived.Test.YtgbjlmhokkhiaaaPlainZ1
set_option linter.unusedVariables false
set_option linter.unusedSimpArgs false
namespace Go.Proofs.Ytgbjlmhokkhiaaa
open Go Ev
theorem l20Both_ok {x0 : List Int} (hx : x0.length ≤ 1048576) : ∃ G a b, f_s_l20Both (bytesL x0) = some (ints G, a, b) ∧ G.length ≤ 4 := by
  obtain ⟨c, e, h⟩ := l1New_ok hx
  obtain ⟨G, a, b, c1, e1, h1, hG⟩ := l20Pair_ok h
  simp only [f_s_l20Both, f_s_l20Both_k, e, bo_some, e1]
  exact ⟨G, a, b, rfl, hG⟩
theorem DrawReplaceFactor_ok {x0 : List Int} (hx : x0.length ≤ 1048576) : ∃ G a b n, f_s_DrawReplaceFactor (bytesL x0) = some (ints G, a, b, n) ∧ G.length ≤ 4 := by
  obtain ⟨G, a, b, e, hG⟩ := l20Both_ok hx
  obtain ⟨r, hr⟩ : ∃ r : Nat, ((bytesL x0).length : Int).tmod 7 = (r : Int) := ⟨(bytesL x0).length % 7, rfl⟩
  have hr6 : r < 7 := by
    have := tmod_range (a := ((bytesL x0).length : Int)) (n := 7) (by omega) (by decide)
    rw [hr] at this
    omega
  have i0 : inRange (r : Int) (ints [1, -1, 2, 3, 5, 7, 101]).length = true := by rw [inRange_nat]; exact decide_eq_true hr6
  have i1 : inRange (r : Int) [(Sc.n .i64 1), (Sc.n .i64 (-1)), (Sc.n .i64 2), (Sc.n .i64 3), (Sc.n .i64 5), (Sc.n .i64 7), (Sc.n .i64 101)].length = true := i0
  have i2 : kAt [(Sc.n .i64 1), (Sc.n .i64 (-1)), (Sc.n .i64 2), (Sc.n .i64 3), (Sc.n .i64 5), (Sc.n .i64 7), (Sc.n .i64 101)] r = true := kAt_ints [1, -1, 2, 3, 5, 7, 101] r
  simp only [f_s_DrawReplaceFactor, f_s_DrawReplaceFactor_k, f_s_DrawReplaceFactor_g2, f_s_DrawReplaceFactor_g2_k, e, bo_some, hr, i1, Int.toNat_natCast, i2, br_true]
  exact ⟨G, a, b, _, rfl, hG⟩
theorem til_prime_loop (L0 V : List Sc) (t15 t16 n : Int) (t18 : Bool) (N : Nat) (hN : N ≤ 24) (p0 : Bool) :
    ∃ p, loopL (f_l_FnTilings_r2 L0 t15 t16 n t18 (N : Int)) (V, p0, 2) = some (.one (V, p)) ∧ (p = true → p0 = true ∧ ∀ q : Nat, 2 ≤ q → q ≤ N → ¬ (N % q = 0 ∧ n.tmod (q : Int) = 0)) := by
  have key := loop_ex2 (rd := f_l_FnTilings_r2 L0 t15 t16 n t18 (N : Int)) (fun m s => ∃ (q : Nat) (p : Bool), s = (V, p, (q : Int)) ∧ 2 ≤ q ∧ q ≤ 100 ∧ N + 1 ≤ q + m ∧ (p = true → p0 = true ∧ ∀ q', 2 ≤ q' → q' < q → ¬ (N % q' = 0 ∧ n.tmod (q' : Int) = 0)))
    (fun e => ∃ p, e = (V, p) ∧ (p = true → p0 = true ∧ ∀ q : Nat, 2 ≤ q → q ≤ N → ¬ (N % q = 0 ∧ n.tmod (q : Int) = 0))) (fun m s hs => by
      obtain ⟨q, p, rfl, hq2, hq100, hm, hp⟩ := hs
      have hz : ((q : Int) == 0) = false := beq_eq_false_iff_ne.2 (by omega)
      have hw : w64 ((q : Int) + 1) = ((q + 1 : Nat) : Int) := w64_nat (by omega)
      have ff : (false == true) = false := rfl
      have em : ((N : Int).tmod (q : Int)) = ((N % q : Nat) : Int) := tmod_nat N q
      simp only [f_l_FnTilings_r2, f_l_FnTilings_k2, hz, br_false, em, hw]
      by_cases hle : q ≤ N
      · have d : decide ((q : Int) ≤ (N : Int)) = true := decide_eq_true (by omega)
        simp only [d, BEq.rfl, br_true]
        cases p with
        | false =>
          simp only [br_false]
          exact .inr ⟨_, rfl, false, rfl, fun h => by cases h⟩
        | true =>
          obtain ⟨hp0, hp⟩ := hp rfl
          simp only [br_true]
          by_cases h1 : N % q = 0
          · have e1 : (((N % q : Nat) : Int) == 0) = true := by rw [h1]; rfl
            simp only [e1, BEq.rfl, br_true]
            by_cases h2 : n.tmod (q : Int) = 0
            · have e2 : (n.tmod (q : Int) == 0) = true := by rw [h2]; rfl
              simp only [e2, br_true]
              exact .inl ⟨_, rfl, q + 1, false, rfl, by omega, by omega, by omega, fun h => by cases h⟩
            · have e2 : (n.tmod (q : Int) == 0) = false := beq_eq_false_iff_ne.2 h2
              simp only [e2, br_false]
              refine .inl ⟨_, rfl, q + 1, true, rfl, by omega, by omega, by omega, fun _ => ⟨hp0, fun q' a b => ?_⟩⟩
              by_cases e : q' = q
              · subst e; exact fun h => h2 h.2
              · exact hp q' a (by omega)
          · have e1 : (((N % q : Nat) : Int) == 0) = false := beq_eq_false_iff_ne.2 (by omega)
            simp only [e1, ff, br_false]
            refine .inl ⟨_, rfl, q + 1, true, rfl, by omega, by omega, by omega, fun _ => ⟨hp0, fun q' a b => ?_⟩⟩
            by_cases e : q' = q
            · subst e; exact fun h => h1 h.1
            · exact hp q' a (by omega)
      · have d : decide ((q : Int) ≤ (N : Int)) = false := decide_eq_false (by omega)
        simp only [d, ff, br_false]
        exact .inr ⟨_, rfl, p, rfl, fun h => ⟨(hp h).1, fun q' a b => (hp h).2 q' a (by omega)⟩⟩)
    (fun s hs => by
      obtain ⟨q, p, rfl, hq2, hq100, hm, hp⟩ := hs
      have ff : (false == true) = false := rfl
      have d : decide ((q : Int) ≤ (N : Int)) = false := decide_eq_false (by omega)
      simp only [f_l_FnTilings_r2, f_l_FnTilings_k2, d, ff, br_false]
      exact ⟨_, rfl, p, rfl, fun h => ⟨(hp h).1, fun q' a b => (hp h).2 q' a (by omega)⟩⟩) N (V, p0, ((2 : Nat) : Int)) ⟨2, p0, rfl, by decide, by decide, by omega, fun h => ⟨h, fun q' a b => by omega⟩⟩
  obtain ⟨_, ek, p, rfl, hp⟩ := key
  exact ⟨p, ek, hp⟩
theorem FnTilings_w30 {x0 : List Int} (hx : x0.length ≤ 1048576) : f_l_FnTilings_w30 (bytesL x0) = some true := by
  obtain ⟨G, a, b, e, hG⟩ := l20Both_ok hx
  have hGl : G.length ≤ lim := Nat.le_trans hG (by decide)
  obtain ⟨t, t1, t2, _⟩ := IsTiling_more G a b hGl
  obtain ⟨p, p1, p2⟩ := HasPeriodicFactor_both G a b hGl
  simp only [f_l_FnTilings_w30, f_l_FnTilings_w30_k, f_s_DrawIsTiling, f_s_DrawIsTiling_k, f_s_DrawHasPeriodicFactor, f_s_DrawHasPeriodicFactor_k, f_s_DrawIsDirect, f_s_DrawIsDirect_k, e, bo_some, t1, t2, p1, p2, s_IsDirect_eq G a b hGl, i_IsDirect_eq G a b hGl, BEq.rfl, br_true]
theorem FnTilings_w28 {x0 : List Int} (hx : x0.length ≤ 1048576) {G : List Int} (hGl : G.length ≤ lim) {d e : Int} {r p : Bool} (h : p = true → f_i_IsTiling (ints G) d e = some true → r = true) : f_l_FnTilings_w28 (ints G) (bytesL x0) d e r p = some true := by
  obtain ⟨t, t1, t2, _⟩ := IsTiling_more G d e hGl
  have ff : (false == true) = false := rfl
  simp only [f_l_FnTilings_w28, f_l_FnTilings_w28_k, t2, bo_some, FnTilings_w30 hx]
  cases p with
  | false => simp only [ff, br_false]
  | true =>
    simp only [BEq.rfl, br_true]
    cases t with
    | false => simp only [ff, br_false]
    | true =>
      rw [h rfl t2]
      simp only [BEq.rfl, br_true, Bool.not_true, br_false]
theorem FnTilings_w17 {x0 : List Int} (hx : x0.length ≤ 1048576) : f_l_FnTilings_w17 (bytesL x0) = some true := by
  obtain ⟨G, d, e, n, e1, hG⟩ := DrawReplaceFactor_ok hx
  have hGl : G.length ≤ lim := Nat.le_trans hG (by decide)
  obtain ⟨r, r1, r2⟩ := ReplaceFactor_both G d e n hGl
  have hO := ordG_range G
  obtain ⟨N, hN⟩ : ∃ N : Nat, ordG G = N := ⟨(ordG G).toNat, by omega⟩
  have w21 : f_l_FnTilings_w21 (ints G) (bytesL x0) d e n r = some true := by
    have go : ∀ p0 : Bool, (p0 = true → 1 ≤ n ∧ n ≤ 100 ∧ 0 < N) → (bl1 (loopL (f_l_FnTilings_r2 (bytesL x0) d e n r (N : Int)) (ints G, p0, 2)) ([], false) fun e20 => bo (f_l_FnTilings_w28 e20.1 (bytesL x0) d e r e20.2) false fun w34 => some w34) = some true := fun p0 h0 => by
      obtain ⟨p, ek, hp⟩ := til_prime_loop (bytesL x0) (ints G) d e n r N (by omega) p0
      rw [ek, bl1_one]
      show (bo (f_l_FnTilings_w28 (ints G) (bytesL x0) d e r p) false fun w34 => some w34) = some true
      rw [FnTilings_w28 hx hGl (r := r) (p := p) fun hpt ht => ?_]
      · rfl
      · obtain ⟨hp0, hq⟩ := hp hpt
        obtain ⟨hn1, hn2, hN0⟩ := h0 hp0
        obtain ⟨t, t1, t2, t3⟩ := IsTiling_more G d e hGl
        rw [ht] at t2
        injection t2 with t2
        obtain ⟨g, a, b, rfl, v, rfl, rfl, til⟩ := t3 t2.symm
        obtain ⟨k, rfl⟩ : ∃ k : Nat, n = k := ⟨n.toNat, by omega⟩
        rw [v.ordG] at hN
        have hNe : N = ordN g := by omega
        have := Replace_yes v til (n := k) (by omega) (by omega) fun q h1 h2 h3 => by
          have hle := Nat.le_of_dvd (by omega) h3
          refine hq q h1 (by omega) ⟨by rw [hNe]; exact Nat.mod_eq_zero_of_dvd h3, ?_⟩
          rw [tmod_nat, Nat.mod_eq_zero_of_dvd h2]
          rfl
        rw [this] at r2
        injection r2 with r2
        exact r2.symm
    have ff : (false == true) = false := rfl
    simp only [f_l_FnTilings_w21, f_l_FnTilings_w21_k, s_OrderOf_eq G hGl, hN, bo_some]
    by_cases h1 : n ≥ 1
    · by_cases h2 : n ≤ 100
      · simp only [decide_eq_true h1, decide_eq_true h2, BEq.rfl, br_true]
        exact go _ fun h => ⟨h1, h2, by have := of_decide_eq_true h; omega⟩
      · simp only [decide_eq_true h1, decide_eq_false h2, BEq.rfl, br_true, ff, br_false]
        exact go _ fun h => by cases h
    · simp only [decide_eq_false h1, ff, br_false]
      exact go _ fun h => by cases h
  simp only [f_l_FnTilings_w17, f_l_FnTilings_w17_k, e1, bo_some, r1, r2, BEq.rfl, Bool.not_true, br_false, w21]
theorem FnTilings_w10 {x0 : List Int} (hx : x0.length ≤ 1048576) {g : List Nat} (v : VG g) {n : Nat} (hn : n < 2 ^ ordN g) (h0 : n ≠ 0) {L : List Nat} (hL : ∀ m ∈ L, m ∈ tilesN g n) (hl : L.length ≤ 200) :
    f_l_FnTilings_w10 (ints (natsI g)) (bytesL x0) (n : Int) (ints (natsI L)) (decide (0 < L.length)) = some true := by
  have key := loop_count (rd := f_l_FnTilings_r0 (bytesL x0) (n : Int) (ints (natsI L)) (decide (0 < L.length))) (fun k => (ints (natsI g), (k : Int))) L.length (a := ints (natsI g)) (fun k hk => by
    obtain ⟨t, hb⟩ := til_tile v hn h0 (hL _ (getD_mem hk))
    have ha := and_one_zero (set_i64 v t.lb)
    rw [hb] at ha
    simp only [f_l_FnTilings_r0, f_l_FnTilings_k0, ints_length, natsI_length, lt_dec hk, ok_natsI hk, at_natsI, br_true, Tiling_yes v t, Tiling_yes v t.swap, bo_some, Bool.not_true, BEq.rfl, ha, i_IsDirect_eq _ _ _ v.lim, t.direct v, br_false, w64_nat (show k < 9223372036854775807 by omega)]) (by
    simp only [f_l_FnTilings_r0, f_l_FnTilings_k0, ints_length, natsI_length, lt_dec_self, br_false]) 0 (Nat.zero_le _)
  have key' : loopL (f_l_FnTilings_r0 (bytesL x0) (n : Int) (ints (natsI L)) (decide (0 < L.length))) (ints (natsI g), 0) = _ := key
  have w15 : f_l_FnTilings_w15 (ints (natsI g)) (bytesL x0) (n : Int) (decide (0 < L.length)) = some true := by
    have ff : (false == true) = false := rfl
    simp only [f_l_FnTilings_w15, f_l_FnTilings_w15_k, FnTilings_w17 hx, bo_some]
    by_cases hpos : 0 < L.length
    · obtain ⟨t, _⟩ := til_tile v hn h0 (hL _ (getD_mem hpos))
      have cS : f_s_CountSet (ints (natsI g)) (n : Int) = some ((popN n : Nat) : Int) := by
        simp only [f_s_CountSet, f_s_CountSet_k, s_IsSet_eq _ _ v.lim, set_ofW v hn, bo_some, Bool.not_true, br_false, s_l3Bits_eq (set_i64 v hn)]
      have o1 := ordN_pos v.each
      have hsz := t.size
      have hp0 : popN n ≠ 0 := fun e => by rw [e, Nat.zero_mul] at hsz; omega
      have z0 : (((popN n : Nat) : Int) == 0) = false := beq_eq_false_iff_ne.2 (by omega)
      have em : (((ordN g : Nat) : Int).tmod ((popN n : Nat) : Int)) = ((ordN g % popN n : Nat) : Int) := tmod_nat _ _
      have e0 : ordN g % popN n = 0 := by rw [← hsz]; exact Nat.mul_mod_right _ _
      simp only [decide_eq_true hpos, BEq.rfl, br_true, s_OrderOf_eq _ v.lim, v.ordG, cS, bo_some, z0, br_false, em, e0, bne_self_eq_false, Int.ofNat_zero, Int.natCast_zero]
    · simp only [decide_eq_false hpos, ff, br_false]
  simp only [f_l_FnTilings_w10, f_l_FnTilings_w10_k, key', bl_one, w15, bo_some]
theorem FnTilings_plain (x0 : List Int) (w0 : x0.length ≤ maxLen) : f_l_FnTilings (bytesL x0) = some true := by
  simp only [f_l_FnTilings, f_l_FnTilings_k, f_l_big, f_l_big_k, bytesL_len, bo_some]
  by_cases hbig : (x0.length : Int) > 1048576
  · rw [decide_eq_true hbig]
    rfl
  · rw [decide_eq_false hbig]
    have hx : x0.length ≤ 1048576 := by omega
    obtain ⟨G, a, b, e1, hG⟩ := l20Both_ok hx
    have hGl : G.length ≤ lim := Nat.le_trans hG (by decide)
    have ff : (false == true) = false := rfl
    have key : f_l_FnTilings_w3 (bytesL x0) = some true := by
      rcases tiles_more G a hGl with ⟨t1, t2, t3, t4, t5, t6⟩ | ⟨g, n, L, x, k, rfl, v, rfl, hn, h0, hL, hl, t1, t2, t3, t4, t5, t6⟩
      · have s0 : f_l_sameInts [] [] = some true := sameInts_self [] (by decide)
        have lp : loopL (f_l_FnTilings_r0 (bytesL x0) a [] false) (ints G, 0) = some (.one (ints G)) := loopL_one (by
          have d : decide ((0 : Int) < (([] : List Sc).length : Int)) = false := by decide
          simp only [f_l_FnTilings_r0, f_l_FnTilings_k0, d, br_false])
        simp only [f_l_FnTilings_w3, f_l_FnTilings_w3_k, f_s_DrawTilesOf, f_s_DrawTilesOf_k, e1, bo_some, t1, t2, t3, t4, t5, t6, s0, BEq.rfl, Bool.not_true, br_true, bne_self_eq_false, ff, br_false, f_l_FnTilings_w10, f_l_FnTilings_w10_k, lp, bl_one, f_l_FnTilings_w15, f_l_FnTilings_w15_k, FnTilings_w17 hx]
      · have sm := sameInts_self (natsI L) (by rw [natsI_length]; exact Nat.le_trans hl (by decide))
        have d : decide (((L.length : Nat) : Int) > 0) = decide (0 < L.length) := by rw [decide_eq_decide]; omega
        simp only [f_l_FnTilings_w3, f_l_FnTilings_w3_k, f_s_DrawTilesOf, f_s_DrawTilesOf_k, e1, bo_some, t1, t2, t3, t4, t5, t6, sm, BEq.rfl, Bool.not_true, br_true, bne_self_eq_false, br_false, ints_length, natsI_length, d, FnTilings_w10 hx v hn h0 hL hl]
    rw [key]
    rfl
end Go.Proofs.Ytgbjlmhokkhiaaa
