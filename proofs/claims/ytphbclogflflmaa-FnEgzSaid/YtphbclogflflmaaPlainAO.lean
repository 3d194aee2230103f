/-
  PlainAO: FnEgz, from the draws on.
-/
import Derived.Test.YtphbclogflflmaaPlainAN
set_option linter.unusedVariables false
set_option linter.unusedSimpArgs false
namespace Go.Proofs.Ytphbclogflflmaa
open Go Ev

theorem l16Both_ok {x0 : List Int} (hx : x0.length ≤ 1048576) : ∃ G L, f_s_l16Both (bytesL x0) = some (ints G, ints L) ∧ G.length ≤ 4 ∧ L.length ≤ 8 := by
  obtain ⟨c, e, h⟩ := l1New_ok hx
  obtain ⟨G, L, c1, e1, h1, hG, hL⟩ := l16Draw_ok h 7 (by decide)
  have e1' : f_s_l16Draw_io 7 c.1 c.2.1 c.2.2 = _ := e1
  simp only [f_s_l16Both, f_s_l16Both_k, e, bo_some, e1']
  exact ⟨G, L, rfl, hG, hL⟩
theorem DrawWeightedZero_ok {x0 : List Int} (hx : x0.length ≤ 1048576) : ∃ G L, f_s_DrawWeightedZero (bytesL x0) = some (ints G, ints L) ∧ G.length ≤ 4 ∧ L.length ≤ 8 := by
  obtain ⟨G, L, e, hG, hL⟩ := l16Both_ok hx
  simp only [f_s_DrawWeightedZero, f_s_DrawWeightedZero_k, e, bo_some]
  exact ⟨G, L, rfl, hG, hL⟩
theorem DrawZeroOfLength_ok {x0 : List Int} (hx : x0.length ≤ 1048576) : ∃ G L k, f_s_DrawZeroOfLength (bytesL x0) = some (ints G, ints L, k) ∧ G.length ≤ 4 ∧ L.length ≤ 8 := by
  obtain ⟨G, L, e, hG, hL⟩ := l16Both_ok hx
  obtain ⟨r, hr⟩ : ∃ r : Nat, ((bytesL x0).length : Int).tmod 6 = (r : Int) := ⟨(bytesL x0).length % 6, rfl⟩
  have hr6 : r < 6 := by
    have := tmod_range (a := ((bytesL x0).length : Int)) (n := 6) (by omega) (by decide)
    rw [hr] at this
    omega
  have i0 : inRange (r : Int) (ints [1, 2, 3, 4, 0, 13]).length = true := by rw [inRange_nat]; exact decide_eq_true hr6
  have i1 : inRange (r : Int) [(Sc.n .i64 1), (Sc.n .i64 2), (Sc.n .i64 3), (Sc.n .i64 4), (Sc.n .i64 0), (Sc.n .i64 13)].length = true := i0
  have i2 : kAt [(Sc.n .i64 1), (Sc.n .i64 2), (Sc.n .i64 3), (Sc.n .i64 4), (Sc.n .i64 0), (Sc.n .i64 13)] r = true := kAt_ints [1, 2, 3, 4, 0, 13] r
  simp only [f_s_DrawZeroOfLength, f_s_DrawZeroOfLength_k, f_s_DrawZeroOfLength_g2, f_s_DrawZeroOfLength_g2_k, e, bo_some, hr, i1, Int.toNat_natCast, i2, br_true]
  exact ⟨G, L, _, rfl, hG, hL⟩
def egzT : List (List Int) := [[], [2], [3], [4], [2, 2], [5], [6], [1]]
theorem egzT_lit : ([[], [(Sc.n .i64 2)], [(Sc.n .i64 3)], [(Sc.n .i64 4)], [(Sc.n .i64 2), (Sc.n .i64 2)], [(Sc.n .i64 5)], [(Sc.n .i64 6)], [(Sc.n .i64 1)]] : List (List Sc)) = egzT.map ints := rfl
theorem DrawEgzExample_ok {x0 : List Int} (hx : x0.length ≤ 1048576) : ∃ G, f_s_DrawEgzExample (bytesL x0) = some (ints G) ∧ G.length ≤ 4 := by
  obtain ⟨c, e, h⟩ := l1New_ok hx
  simp only [f_s_DrawEgzExample, f_s_DrawEgzExample_k, f_s_l18Group, f_s_l18Group_k, egzT_lit]
  obtain ⟨r, c', e1, h', h0, hr, _⟩ := l1Below_ok h ((egzT.map ints).length : Int) (by decide)
  have hlen : (egzT.map ints).length = 8 := rfl
  obtain ⟨k, rfl⟩ : ∃ k : Nat, r = k := ⟨r.toNat, by omega⟩
  have hk : k < 8 := by have := hr (by rw [hlen]; decide); rw [hlen] at this; omega
  have hin : inRange (k : Int) (egzT.map ints).length = true := by rw [hlen, inRange_nat]; simpa using hk
  have eG : (egzT.map ints).getD k [] = ints (egzT.getD k []) := by
    simp only [List.getD, List.getElem?_map]
    cases egzT[k]? <;> rfl
  have hG : ∀ k : Fin 8, (egzT.getD k.1 []).length ≤ 4 := by decide
  simp only [e, bo_some, e1, hin, br_true, Int.toNat_natCast, eG]
  exact ⟨_, rfl, hG ⟨k, hk⟩⟩
theorem DrawEgzPart_ok {x0 : List Int} (hx : x0.length ≤ 1048576) : ∃ L n, f_s_DrawEgzPart (bytesL x0) = some (ints L, n) ∧ L.length ≤ 20 := by
  obtain ⟨c, e, h⟩ := l1New_ok hx
  obtain ⟨a, c1, e1, h1, ha0, ha1, _⟩ := l1Below_ok h 6 (by decide)
  have ha : a < 6 := ha1 (by decide)
  obtain ⟨b, c2, e2, h2, hb0, hb1, _⟩ := l1Below_ok h1 2 (by decide)
  have hb : b < 2 := hb1 (by decide)
  have w1 : w64 (1 + a) = 1 + a := w64_in (by omega) (by omega)
  have w2 : w64 (2 * (1 + a)) = 2 * (1 + a) := w64_in (by omega) (by omega)
  have w3 : w64 (2 * (1 + a) - 1) = 2 * (1 + a) - 1 := w64_in (by omega) (by omega)
  have w4 : w64 (2 * (1 + a) - 1 + b) = 2 * (1 + a) - 1 + b := w64_in (by omega) (by omega)
  obtain ⟨n, hn⟩ : ∃ n : Nat, 2 * (1 + a) - 1 + b = n := ⟨(2 * (1 + a) - 1 + b).toNat, by omega⟩
  have w5 : w64 (n : Int) = n := w64_cast (by omega)
  have key := loop_ex (rd := f_s_DrawEgzPart_r0 (1 + a)) (fun m s => ∃ (d : List Sc × Int × Int) (L : List Int), s = (d.1, d.2.1, d.2.2, ints L, (m : Int)) ∧ Cur x0 d ∧ L.length + m = n)
    (fun r => ∃ (d : List Sc × Int × Int) (L : List Int), r = (d.1, d.2.1, d.2.2, ints L) ∧ Cur x0 d ∧ L.length = n) (fun m s hs => by
      obtain ⟨d, L, rfl, hd, hl⟩ := hs
      obtain ⟨y, d1, f1, g1, _⟩ := l1Below_ok hd 30 (by decide)
      have hpos : decide (((m + 1 : Nat) : Int) > 0) = true := decide_eq_true (by omega)
      have hw : w64 (((m + 1 : Nat) : Int) - 1) = (m : Int) := by rw [show ((m + 1 : Nat) : Int) - 1 = (m : Int) by omega]; exact w64_cast (by omega)
      have hl2 : decide (L.length + [Sc.n .i64 (w64 (y - 10))].length ≤ lim) = true := decide_eq_true (by rw [List.length_singleton]; exact Nat.le_trans (show L.length + 1 ≤ 20 by omega) (by decide))
      simp only [f_s_DrawEgzPart_r0, f_s_DrawEgzPart_k0, hpos, br_true, f1, bo_some, ints_length, hl2, hw, ints_snoc]
      exact ⟨_, rfl, d1, L ++ [w64 (y - 10)], rfl, g1, by rw [List.length_append, List.length_singleton]; omega⟩)
    (fun s hs => by
      obtain ⟨d, L, rfl, hd, hl⟩ := hs
      have hpos : decide (((0 : Nat) : Int) > 0) = false := by decide
      simp only [f_s_DrawEgzPart_r0, f_s_DrawEgzPart_k0, hpos, br_false]
      exact ⟨_, rfl, d, L, rfl, hd, by omega⟩) n (c2.1, c2.2.1, c2.2.2, ints [], (n : Int)) ⟨c2, [], rfl, h2, by simp⟩
  obtain ⟨r, ek, d, L, rfl, hd, hL⟩ := key
  have ek' : loopL (f_s_DrawEgzPart_r0 (1 + a)) (c2.1, c2.2.1, c2.2.2, [], (n : Int)) = _ := ek
  obtain ⟨q, d1, f1, g1, _⟩ := l1Below_ok hd 10 (by decide)
  obtain ⟨k1, d2, f2, g2, _⟩ := l1PickInt_ok g1 [1000001, -9223372036854775808] (by decide) (by decide)
  obtain ⟨k2, d3, f3, g3, _⟩ := l1PickInt_ok g1 [0, 7, -1] (by decide) (by decide)
  have f2' : f_s_l1PickInt_io [(Sc.n .i64 1000001), (Sc.n .i64 (-9223372036854775808))] d1.1 d1.2.1 d1.2.2 = _ := f2
  have f3' : f_s_l1PickInt_io [(Sc.n .i64 0), (Sc.n .i64 7), (Sc.n .i64 (-1))] d1.1 d1.2.1 d1.2.2 = _ := f3
  have hc1 : (decide (0 ≤ (1 : Int)) && (decide ((1 : Int) ≤ (L.length : Int)) && decide ((L.length : Int) ≤ (L.length : Int)))) = true := by
    simp only [Bool.and_eq_true, decide_eq_true_eq]
    omega
  have hin : inRange 0 L.length = true := by
    rw [show (0 : Int) = ((0 : Nat) : Int) from rfl]
    exact in_nat (by omega)
  have hsl : sliceA (ints L) 1 (L.length : Int) = ints (L.drop 1) := by
    unfold sliceA
    rw [Int.toNat_natCast, List.take_of_length_le (by rw [ints_length]; exact Nat.le_refl _)]
    simp [ints]
  simp only [f_s_DrawEgzPart, f_s_DrawEgzPart_k, e, bo_some, e1, e2, w1, w2, w3, w4, hn, w5, ek', bl1_one, f1, f2', f3', ints_length, hc1, hsl, hin, br_true, Int.toNat_zero, ints_set]
  have hlen : L.length ≤ 20 := by omega
  cases (q == 0) with
  | true => exact ⟨L.drop 1, _, rfl, by rw [List.length_drop]; omega⟩
  | false =>
    cases (q == 1) with
    | true => exact ⟨_, _, rfl, by rw [List.length_set]; exact hlen⟩
    | false =>
      cases (q == 2) with
      | true => exact ⟨L, _, rfl, hlen⟩
      | false => exact ⟨L, _, rfl, hlen⟩
/-! ### The law -/
theorem FnEgz_w35 {g l : List Nat} {c : Nat} (v : VS g l) (ht : totW g l l.length c = 0) : f_l_FnEgz_w35 (ints (natsI g)) (ints (natsI l)) true (ints (preW l.length c)) = some true := by
  have hlen := v.len
  have o1 := ordN_pos v.grp.each
  have key := loop_count (rd := f_l_FnEgz_r2) (fun i => (ints (natsI g), ints (natsI l), ints (preW l.length c), ((totW g l i (c / 3 ^ (l.length - i)) : Nat) : Int), (i : Int))) l.length (a := (ints (natsI l), ints (preW l.length c), ((totW g l l.length (c / 3 ^ (l.length - l.length)) : Nat) : Int))) (fun i hi => by
    have hx := v.at hi
    have e1 : (preW l.length c).getD i 0 = sgnW (c / 3 ^ (l.length - 1 - i) % 3) := preW_at l.length c i hi
    have e2 : l.length - 1 - i = l.length - (i + 1) := by omega
    have e3 : c / 3 ^ (l.length - (i + 1)) / 3 = c / 3 ^ (l.length - i) := by
      have e0 : 3 ^ (l.length - (i + 1)) * 3 = 3 ^ (l.length - i) := by
        rw [← Nat.pow_succ]
        congr 1
        omega
      rw [Nat.div_div_eq_div_mul, e0]
    have e4 : totW g l (i + 1) (c / 3 ^ (l.length - (i + 1))) = addN g (totW g l i (c / 3 ^ (l.length - i))) (mulN g (l.getD i 0) (sgnW (c / 3 ^ (l.length - (i + 1)) % 3))) := by
      rw [totW, e3]
    have e5 := s_MultipleOf_sgn v.grp hx (sgn_cases (c / 3 ^ (l.length - (i + 1)) % 3))
    have e6 := s_AddElements_eq v.grp (totW_lt v.grp l i (c / 3 ^ (l.length - i))) (mulN_lt v.grp (l.getD i 0) (sgnW (c / 3 ^ (l.length - (i + 1)) % 3)))
    simp only [f_l_FnEgz_r2, f_l_FnEgz_k2, ints_length, natsI_length, preW_len, lt_dec hi, in_nat hi, br_true, Int.toNat_natCast, kAt_ints, atN_ints, natsI_getD, e1, e2, e5, bo_some, e6, ← e4, w64_nat (show i < 9223372036854775807 by omega)]) (by
    have hd : decide ((l.length : Int) < ((preW l.length c).length : Int)) = false := by rw [preW_len]; exact lt_dec_self _
    simp only [f_l_FnEgz_r2, f_l_FnEgz_k2, ints_length, hd, br_false]) 0 (Nat.zero_le _)
  have e0 : totW g l l.length (c / 3 ^ (l.length - l.length)) = 0 := by rw [Nat.sub_self, Nat.pow_zero, Nat.div_one, ht]
  have e1 : totW g l 0 (c / 3 ^ (l.length - 0)) = 0 := rfl
  simp only [e0, e1] at key
  have key' : loopL f_l_FnEgz_r2 (ints (natsI g), ints (natsI l), ints (preW l.length c), 0, 0) = some (.one (ints (natsI l), ints (preW l.length c), 0)) := key
  simp only [f_l_FnEgz_w35, f_l_FnEgz_w35_k, br_true, key', bl1_one, BEq.rfl, ints_length, preW_len, natsI_length]
theorem FnEgz_w30 {x0 : List Int} (hx : x0.length ≤ 1048576) : f_l_FnEgz_w30 (bytesL x0) = some true := by
  obtain ⟨G, L, e1, hG, hL⟩ := DrawWeightedZero_ok hx
  have hGl : G.length ≤ lim := Nat.le_trans hG (by decide)
  have hLl : L.length ≤ lim := Nat.le_trans hL (by decide)
  rcases WeightedZero_more G L hGl hLl with ⟨f1, f2⟩ | ⟨g, l, c, rfl, rfl, v, ht, f1, f2⟩
  · have s0 : f_l_sameInts [] [] = some true := sameInts_self [] (by decide)
    simp only [f_l_FnEgz_w30, f_l_FnEgz_w30_k, e1, bo_some, f1, f2, BEq.rfl, Bool.not_true, br_true, br_false, s0, f_l_FnEgz_w35, f_l_FnEgz_w35_k, f_l_FnEgz_w42, f_l_FnEgz_w42_k]
  · have s0 := sameInts_self (preW l.length c) (by rw [preW_len]; exact v.lim)
    simp only [f_l_FnEgz_w30, f_l_FnEgz_w30_k, e1, bo_some, f1, f2, BEq.rfl, Bool.not_true, br_true, br_false, s0, FnEgz_w35 v ht]
theorem FnEgz_w25 {x0 : List Int} (hx : x0.length ≤ 1048576) : f_l_FnEgz_w25 (bytesL x0) = some true := by
  obtain ⟨G, L, k, e1, hG, hL⟩ := DrawZeroOfLength_ok hx
  have hGl : G.length ≤ lim := Nat.le_trans hG (by decide)
  have hLl : L.length ≤ lim := Nat.le_trans hL (by decide)
  obtain ⟨R, b, f1, f2, hR, hb⟩ := ZeroOfLength_more G L k hGl hLl
  have s0 := sameInts_self R (Nat.le_trans hR (by decide))
  cases b with
  | false => simp only [f_l_FnEgz_w25, f_l_FnEgz_w25_k, e1, bo_some, f1, f2, BEq.rfl, Bool.not_true, br_true, br_false, s0, FnEgz_w30 hx, show (false == true) = false from rfl]
  | true =>
    obtain ⟨g, l, k, c, rfl, rfl, rfl, v, hs, hc, hg, rfl⟩ := hb rfl
    obtain ⟨p1, p2⟩ := good_facts v hs hc hg
    simp only [f_l_FnEgz_w25, f_l_FnEgz_w25_k, e1, bo_some, f1, f2, BEq.rfl, Bool.not_true, br_true, br_false, s0, FnEgz_w30 hx, ints_length, natsI_length, p1, p2, bne_self_eq_false]
theorem FnEgz_w15 {x0 : List Int} (hx : x0.length ≤ 1048576) : f_l_FnEgz_w15 (bytesL x0) = some true := by
  obtain ⟨G, e1, hG⟩ := DrawEgzExample_ok hx
  have hGl : G.length ≤ lim := Nat.le_trans hG (by decide)
  rcases EgzExample_more G hGl with ⟨f1, f2⟩ | ⟨g, rfl, v, h5, f1, f2⟩
  · have s0 : f_l_sameInts [] [] = some true := sameInts_self [] (by decide)
    have c1 : f_s_EgzConstant (ints G) = some (-1) := by
      simp only [f_s_EgzConstant, f_s_EgzConstant_k, f1, bo_some]
      rfl
    have c2 : f_i_EgzConstant (ints G) = some (-1) := by
      simp only [f_i_EgzConstant, f_i_EgzConstant_k, f2, bo_some]
      rfl
    simp only [f_l_FnEgz_w15, f_l_FnEgz_w15_k, e1, bo_some, f1, f2, c1, c2, BEq.rfl, Bool.not_true, br_true, br_false, s0, bne_self_eq_false, f_l_FnEgz_w21, f_l_FnEgz_w21_k, FnEgz_w25 hx]
  · have h13 := egzN_len g
    have hm : (natsI (egzN g)).length ≤ lim := by rw [natsI_length]; exact Nat.le_trans h13 (by decide)
    have s0 := sameInts_self (natsI (egzN g)) hm
    have ew : w64 (((egzN g).length : Int) + 1) = (((egzN g).length + 1 : Nat) : Int) := w64_nat (by omega)
    have c1 : f_s_EgzConstant (ints (natsI g)) = some (((egzN g).length + 1 : Nat) : Int) := by
      simp only [f_s_EgzConstant, f_s_EgzConstant_k, f1, bo_some, ints_length, natsI_length, ew]
      rfl
    have c2 : f_i_EgzConstant (ints (natsI g)) = some (((egzN g).length + 1 : Nat) : Int) := by
      simp only [f_i_EgzConstant, f_i_EgzConstant_k, f2, bo_some, ints_length, natsI_length, ew]
      rfl
    have hk := List.all_eq_true.1 chkG_all g v.mem
    unfold chkG at hk
    have hb5 : Nat.blt 5 (ordN g) = false := by
      cases hb : Nat.blt 5 (ordN g) with
      | false => rfl
      | true => have := Nat.blt_eq.mp hb; omega
    rw [hb5, Bool.false_or, Bool.and_eq_true] at hk
    obtain ⟨R, b, z1, z2, hR, hz⟩ := ZeroOfLength_more (natsI g) (natsI (egzN g)) ((expN g : Nat) : Int) v.lim hm
    have hb : b = false := by
      cases b with
      | false => rfl
      | true =>
        obtain ⟨g', l', k', c, q1, q2, q3, _, _, hc, hgz, _⟩ := hz rfl
        have q1 := natsI_inj q1
        have q2 := natsI_inj q2
        have q3 : expN g = k' := by omega
        subst q1
        subst q3
        rw [← q2] at hc hgz
        have := List.all_eq_true.1 hk.1 c (List.mem_range.2 hc)
        rw [hgz] at this
        cases this
    subst hb
    simp only [f_l_FnEgz_w15, f_l_FnEgz_w15_k, e1, bo_some, f1, f2, c1, c2, BEq.rfl, Bool.not_true, br_true, br_false, s0, bne_self_eq_false, f_l_FnEgz_w21, f_l_FnEgz_w21_k, FnEgz_w25 hx, s_exp_eq v, z2, ints_length, natsI_length, ew]
    by_cases h2 : g.length < 2
    · have d2 : decide ((g.length : Int) < 2) = true := decide_eq_true (by omega)
      have hble : Nat.ble 2 g.length = false := by
        cases hb : Nat.ble 2 g.length with
        | false => rfl
        | true => have := Nat.le_of_ble_eq_true hb; omega
      have hq := hk.2
      rw [hble, Bool.false_or] at hq
      have hq := Nat.eq_of_beq_eq_true hq
      have o1 := ordN_pos v.each
      have w1 : w64 (2 * ((ordN g : Nat) : Int)) = 2 * ((ordN g : Nat) : Int) := w64_in (by omega) (by omega)
      have w2 : w64 (2 * ((ordN g : Nat) : Int) - 1) = (((egzN g).length + 1 : Nat) : Int) := by rw [hq, w64_in (by omega) (by omega)]; omega
      simp only [d2, BEq.rfl, br_true, s_OrderOf_eq _ v.lim, v.ordG, bo_some, w1, w2, bne_self_eq_false, br_false]
    · have d2 : decide ((g.length : Int) < 2) = false := decide_eq_false (by omega)
      simp only [d2, br_false, bo_some, show (false == true) = false from rfl]
theorem FnEgz_fine {x0 L R : List Int} {n : Int} {b t : Bool} (hL : L.length ≤ 20) : loopL (f_l_FnEgz_r0 (bytesL x0) (ints L) n b) (ints R, t, 0) = some (.one (ints R, t && L.all fun x => inB x (-1000000) 1000000)) := by
  have key := loop_count (rd := f_l_FnEgz_r0 (bytesL x0) (ints L) n b) (fun k => (ints R, t && (L.take k).all (fun x => inB x (-1000000) 1000000), (k : Int))) L.length (a := (ints R, t && (L.take L.length).all fun x => inB x (-1000000) 1000000)) (fun k hk => by
    have e : (L.take (k + 1)).all (fun x => inB x (-1000000) 1000000) = ((L.take k).all (fun x => inB x (-1000000) 1000000) && inB (L.getD k 0) (-1000000) 1000000) := by
      rw [take_snocI L hk, List.all_append]
      simp
    simp only [f_l_FnEgz_r0, f_l_FnEgz_k0, ints_length, lt_dec hk, br_true, ok_nat hk, at_nat, w64_nat (show k < 9223372036854775807 by omega), e]
    cases ht : (t && (L.take k).all fun x => inB x (-1000000) 1000000) with
    | false =>
      rw [← Bool.and_assoc, ht]
      rfl
    | true =>
      rw [← Bool.and_assoc, ht, Bool.true_and]
      simp only [inB]
      cases decide (L.getD k 0 ≥ -1000000) <;> rfl) (by
    simp only [f_l_FnEgz_r0, f_l_FnEgz_k0, ints_length, lt_dec_self, br_false]) 0 (Nat.zero_le _)
  rw [List.take_length] at key
  simpa using key
theorem FnEgz_w13 {x0 R : List Int} {n : Int} {b : Bool} (hx : x0.length ≤ 1048576) (hR : R.length ≤ 12) (h : b = true → 1 ≤ n ∧ (R.length : Int) = n ∧ (sumL R).tmod n = 0) : f_l_FnEgz_w13 (bytesL x0) n b (ints R) b = some true := by
  cases b with
  | false => simp only [f_l_FnEgz_w13, f_l_FnEgz_w13_k, BEq.rfl, Bool.not_true, br_true, FnEgz_w15 hx, bo_some, br_false, show (false == true) = false from rfl]
  | true =>
    obtain ⟨h1, h2, h3⟩ := h rfl
    have hz : (n == 0) = false := beq_eq_false_iff_ne.2 (by omega)
    simp only [f_l_FnEgz_w13, f_l_FnEgz_w13_k, BEq.rfl, Bool.not_true, br_true, FnEgz_w15 hx, bo_some, br_false, ints_length, h2, bne_self_eq_false, l_total_eq R (Nat.le_trans hR (by decide)), hz, h3]
theorem FnEgz_plain (x0 : List Int) (w0 : x0.length ≤ maxLen) : f_l_FnEgz (bytesL x0) = some true := by
  simp only [f_l_FnEgz, f_l_FnEgz_k, f_l_big, f_l_big_k, bytesL_len, bo_some]
  by_cases hb : (x0.length : Int) > 1048576
  · rw [decide_eq_true hb]
    rfl
  · rw [decide_eq_false hb]
    have hx : x0.length ≤ 1048576 := by omega
    obtain ⟨L, n, e1, hL⟩ := DrawEgzPart_ok hx
    have hLl : L.length ≤ lim := Nat.le_trans hL (by decide)
    obtain ⟨R, b, f1, f2, hR, hbe, hbt⟩ := EgzPart_more L n hLl
    have s0 := sameInts_self R (Nat.le_trans hR (by decide))
    have w8 : f_l_FnEgz_w8 (bytesL x0) (ints L) n b (ints R) = some true := by
      have w13 := FnEgz_w13 hx hR hbt
      simp only [f_l_FnEgz_w8, f_l_FnEgz_w8_k, FnEgz_fine hL, bl1_one, ints_length]
      have fe : fineE L n = ((decide (n ≥ 1) && decide (n ≤ 6)) && ((decide ((L.length : Int) ≥ w64 (w64 (2 * n) - 1)) && decide ((L.length : Int) ≤ 12)) && L.all fun x => inB x (-1000000) 1000000)) := rfl
      rw [fe] at hbe
      cases h1 : decide (n ≥ 1) with
      | false =>
        rw [h1] at hbe
        have hb0 : b = false := hbe
        subst hb0
        simp only [Bool.false_and, w13, bo_some, br_false, show (false == true) = false from rfl]
      | true =>
        cases h6 : decide (n ≤ 6) with
        | false =>
          rw [h1, h6] at hbe
          have hb0 : b = false := hbe
          subst hb0
          simp only [Bool.false_and, w13, bo_some, br_false, BEq.rfl, br_true, show (false == true) = false from rfl]
        | true =>
          cases hl : decide ((L.length : Int) ≥ w64 (w64 (2 * n) - 1)) with
          | false =>
            rw [h1, h6, hl] at hbe
            have hb0 : b = false := hbe
            subst hb0
            simp only [Bool.false_and, w13, bo_some, br_false, BEq.rfl, br_true, show (false == true) = false from rfl]
          | true =>
            rw [h1, h6, hl, Bool.true_and, Bool.true_and, Bool.true_and] at hbe
            rw [← hbe]
            simp only [w13, bo_some, BEq.rfl, br_true]
    have key : f_l_FnEgz_w3 (bytesL x0) = some true := by
      simp only [f_l_FnEgz_w3, f_l_FnEgz_w3_k, e1, bo_some, f1, f2, BEq.rfl, Bool.not_true, br_true, br_false, s0, w8]
    rw [key]
    rfl
end Go.Proofs.Ytphbclogflflmaa
