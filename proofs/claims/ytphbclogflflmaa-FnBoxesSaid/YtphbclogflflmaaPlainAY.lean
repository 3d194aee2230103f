/-
  PlainAY: FnBoxes.
-/
import Derived.Test.YtphbclogflflmaaPlainAF
import Derived.Test.YtphbclogflflmaaPlainU
import Derived.Test.YtphbclogflflmaaPlainV
import Derived.Test.YtphbclogflflmaaPlainAK
set_option linter.unusedVariables false
set_option linter.unusedSimpArgs false
namespace Go.Proofs.Ytphbclogflflmaa
open Go Ev

theorem set_ofB {g : List Nat} (v : VG g) {a : Nat} (ha : a < 2 ^ ordN g) : setG (natsI g) (a : Int) = true := by
  unfold setG
  rw [v.isG, v.ordG, shl_ord v, decide_eq_true (show (a : Int) ≥ 0 by omega), decide_eq_true (show (a : Int) < ((2 ^ ordN g : Nat) : Int) by omega)]
  rfl
theorem same_g {g g' : List Nat} (e : natsI g = natsI g') : g = g' := by
  have := congrArg (List.map Int.toNat) e
  rwa [toNat_natsI, toNat_natsI] at this
/-! ### Cubes -/
def cubeN (g : List Nat) : Nat → Nat → Bool
  | 0, a => decide (0 < a)
  | d + 1, a => (List.range' 1 (ordN g - 1)).any fun x => cubeN g d (a &&& shiftN g a x)
theorem cube_zero (g : List Nat) : ∀ d, cubeN g d 0 = false
  | 0 => rfl
  | d + 1 => by
    unfold cubeN
    rw [List.any_eq_false]
    intro x _
    rw [Nat.zero_and, cube_zero g d]
    simp
theorem cube_less (g : List Nat) : ∀ d a, cubeN g (d + 1) a = true → cubeN g d a = true
  | 0, a, h => by
    unfold cubeN at h
    obtain ⟨x, _, hx⟩ := List.any_eq_true.1 h
    have hx : 0 < a &&& shiftN g a x := of_decide_eq_true hx
    have : a &&& shiftN g a x ≤ a := Nat.and_le_left
    exact decide_eq_true (by omega)
  | d + 1, a, h => by
    unfold cubeN at h
    obtain ⟨x, hx, hc⟩ := List.any_eq_true.1 h
    unfold cubeN
    exact List.any_eq_true.2 ⟨x, hx, cube_less g d _ hc⟩
theorem negN_neg {g : List Nat} (v : VG g) {x : Nat} (hx : x < ordN g) : negN g (negN g x) = x := by
  have h := addN_neg g v.each x
  rw [addN_comm] at h
  -- negN x + x = 0
  have h1 : addN g (addN g (negN g x) x) (negN g (negN g x)) = x := by
    rw [addN_comm g (negN g x) x, addN_assoc g v.each, addN_neg g v.each, addN_comm, addN_zero g x v.each hx]
  rw [h, addN_zero g _ v.each (negN_lt v.each _)] at h1
  exact h1
theorem neg_any {g : List Nat} (v : VG g) (p : Nat → Bool) : (List.range' 1 (ordN g - 1)).any (fun x => p (negN g x)) = (List.range' 1 (ordN g - 1)).any p := by
  have n0 : ∀ x, 1 ≤ x → x < ordN g → 1 ≤ negN g x ∧ negN g x < ordN g := fun x h1 h2 => by
    have hl := negN_lt v.each x
    refine ⟨?_, hl⟩
    rcases Nat.eq_zero_or_pos (negN g x) with h | h
    · have e := addN_neg g v.each x
      rw [h, addN_comm, addN_zero g x v.each h2] at e
      omega
    · exact h
  rw [Bool.eq_iff_iff, any_range'_iff, any_range'_iff]
  constructor
  · rintro ⟨k, h1, h2, h3⟩
    have := n0 k h1 h2
    exact ⟨negN g k, this.1, this.2, h3⟩
  · rintro ⟨k, h1, h2, h3⟩
    have := n0 k h1 h2
    exact ⟨negN g k, this.1, this.2, by rw [negN_neg v h2]; exact h3⟩
theorem l14Cube_le : ∀ n a, Le (f_s_l14Cube_n n a) (f_s_l14Cube_n (n + 1) a)
  | 0, _ => Le.no
  | n + 1, a => by
    have ih := l14Cube_le n
    simp only [f_s_l14Cube_n, f_s_l14Cube_k]
    refine Le.br Le.same (Le.bl (Le.loop fun s => ?_) (fun e => Le.same) fun e => Le.same)
    simp only [f_s_l14Cube_r0, f_s_l14Cube_k0]
    exact Le.bo Le.same fun r => Le.br (Le.bo Le.same fun r => Le.br (Le.bo (ih _) fun r => Le.same) Le.same) Le.same
theorem s_cube_fuel {g : List Nat} (v : VG g) : ∀ (n d a : Nat), d < n → d ≤ 4 → a < 2 ^ ordN g → f_s_l14Cube_n n (ints (natsI g), (a : Int), (d : Int)) = some (cubeN g d a)
  | 0, d, a, h, _, _ => by omega
  | n + 1, 0, a, h, _, _ => by
    have e : (((0 : Nat) : Int) == 0) = true := rfl
    simp only [f_s_l14Cube_n, f_s_l14Cube_k, e, br_true]
    unfold cubeN
    congr 1
    rw [decide_eq_decide]
    omega
  | n + 1, d + 1, a, h, h4, ha => by
    have h24 := v.ord
    have o1 := ordN_pos v.each
    have a24 := pow24 v ha
    have e : (((d + 1 : Nat) : Int) == 0) = false := beq_eq_false_iff_ne.2 (by omega)
    have ew : w64 (((d + 1 : Nat) : Int) - 1) = (d : Int) := by rw [show ((d + 1 : Nat) : Int) - 1 = (d : Int) by omega]; exact w64_cast (by omega)
    have key := loop_from (rd := f_s_l14Cube_r0 (f_s_l14Cube_n n) (a : Int) ((d + 1 : Nat) : Int) (ints (natsI g))) (fun k => (k : Int)) 1 (ordN g) o1 (fun x => cubeN g d (a &&& shiftN g a x)) (a := ()) (b := ()) (fun x h1 hx => by
      have hs := shiftN_lt v a x
      have s24 := pow24 v hs
      have hb : a &&& shiftN g a x < 2 ^ ordN g := Nat.lt_of_le_of_lt Nat.and_le_left ha
      simp only [f_s_l14Cube_r0, f_s_l14Cube_k0, s_l2Order_eq _ v.lim, prodW_nat g v.len v.each, bo_some, lt_dec hx, br_true, s_l3Shift_eq v ha hx, and64_nat (show a < 9223372036854775808 by omega) (show shiftN g a x < 9223372036854775808 by omega), ew, s_cube_fuel v n d (a &&& shiftN g a x) (by omega) (by omega) hb, w64_nat (show x < 9223372036854775807 by omega)]
      by_cases h0 : a &&& shiftN g a x = 0
      · have d0 : decide (((a &&& shiftN g a x : Nat) : Int) > 0) = false := decide_eq_false (by omega)
        rw [d0, h0, cube_zero]
        rfl
      · have d0 : decide (((a &&& shiftN g a x : Nat) : Int) > 0) = true := decide_eq_true (by omega)
        rw [d0]
        cases cubeN g d (a &&& shiftN g a x) <;> rfl) (by
      simp only [f_s_l14Cube_r0, f_s_l14Cube_k0, s_l2Order_eq _ v.lim, prodW_nat g v.len v.each, bo_some, lt_dec_self, br_false])
    have key' : loopL (f_s_l14Cube_r0 (f_s_l14Cube_n n) (a : Int) ((d + 1 : Nat) : Int) (ints (natsI g))) 1 = if cubeN g (d + 1) a = true then some (.two ()) else some (.one ()) := key
    simp only [f_s_l14Cube_n, f_s_l14Cube_k, e, br_false, key']
    cases cubeN g (d + 1) a <;> rfl
theorem HasCube_le : ∀ n a, Le (f_i_HasCube_n n a) (f_i_HasCube_n (n + 1) a)
  | 0, _ => Le.no
  | n + 1, a => by
    have ih := HasCube_le n
    simp only [f_i_HasCube_n, f_i_HasCube_k]
    refine Le.bo Le.same fun r => Le.br (Le.bo Le.same fun r => Le.br Le.same (Le.br (Le.br Le.same (Le.bl (Le.loop fun s => ?_) (fun e => Le.same) fun e => Le.same)) Le.same)) Le.same
    simp only [f_i_HasCube_r0, f_i_HasCube_k0]
    exact Le.bo Le.same fun r => Le.br (Le.bo Le.same fun r => Le.bo Le.same fun r => Le.bo (ih _) fun r => Le.same) Le.same
theorem i_cube_fuel {g : List Nat} (v : VG g) : ∀ (n d a : Nat), d < n → d ≤ 4 → a < 2 ^ ordN g → f_i_HasCube_n n (ints (natsI g), (a : Int), (d : Int)) = some (cubeN g d a)
  | 0, d, a, h, _, _ => by omega
  | n + 1, d, a, h, h4, ha => by
    have h24 := v.ord
    have o1 := ordN_pos v.each
    have a24 := pow24 v ha
    have hin : inB (d : Int) 0 4 = true := by simp [inB]; omega
    simp only [f_i_HasCube_n, f_i_HasCube_k, i_IsSet_eq _ _ v.lim, set_ofB v ha, bo_some, Bool.not_true, BEq.rfl, br_true, i_within_eq, hin, br_false]
    cases d with
    | zero =>
      have e : (((0 : Nat) : Int) == 0) = true := rfl
      simp only [e, show (true == false) = false from rfl, br_false]
      unfold cubeN
      congr 1
      by_cases h0 : a = 0
      · subst h0; rfl
      · rw [decide_eq_true (by omega)]
        exact bne_iff_ne.2 (by omega)
    | succ d =>
      have e : (((d + 1 : Nat) : Int) == 0) = false := beq_eq_false_iff_ne.2 (by omega)
      simp only [e, BEq.rfl, br_true]
      by_cases h0 : a = 0
      · subst h0
        rw [cube_zero]
        rfl
      · have e0 : ((a : Int) == 0) = false := beq_eq_false_iff_ne.2 (by omega)
        have ew : w64 (((d + 1 : Nat) : Int) - 1) = (d : Int) := by rw [show ((d + 1 : Nat) : Int) - 1 = (d : Int) by omega]; exact w64_cast (by omega)
        have key := loop_from (rd := f_i_HasCube_r0 (f_i_HasCube_n n) (a : Int) ((d + 1 : Nat) : Int) (ints (natsI g))) (fun k => (k : Int)) 1 (ordN g) o1 (fun x => cubeN g d (a &&& shiftN g a (negN g x))) (a := ()) (b := ()) (fun x h1 hx => by
          have hnl := negN_lt v.each x
          have hs := shiftN_lt v a (negN g x)
          have s24 := pow24 v hs
          have hb : a &&& shiftN g a (negN g x) < 2 ^ ordN g := Nat.lt_of_le_of_lt Nat.and_le_left ha
          simp only [f_i_HasCube_r0, f_i_HasCube_k0, i_OrderOf_eq _ v.lim, v.ordG, bo_some, lt_dec hx, br_true, i_negate_eq v (show x < 4611686018427387904 by omega), i_shift_eq v ha hnl, and64_nat (show a < 9223372036854775808 by omega) (show shiftN g a (negN g x) < 9223372036854775808 by omega), ew, i_cube_fuel v n d (a &&& shiftN g a (negN g x)) (by omega) (by omega) hb, w64_nat (show x < 9223372036854775807 by omega)]
          cases cubeN g d (a &&& shiftN g a (negN g x)) <;> rfl) (by
          simp only [f_i_HasCube_r0, f_i_HasCube_k0, i_OrderOf_eq _ v.lim, v.ordG, bo_some, lt_dec_self, br_false])
        rw [neg_any v (fun x => cubeN g d (a &&& shiftN g a x))] at key
        have key' : loopL (f_i_HasCube_r0 (f_i_HasCube_n n) (a : Int) ((d + 1 : Nat) : Int) (ints (natsI g))) 1 = if cubeN g (d + 1) a = true then some (.two ()) else some (.one ()) := key
        simp only [e0, br_false, key']
        cases cubeN g (d + 1) a <;> rfl
theorem HasCube_more (G : List Int) (x k : Int) (h : G.length ≤ lim) : ∃ b, f_s_HasCube (ints G) x k = some b ∧ f_i_HasCube (ints G) x k = some b ∧ (b = true → ∃ g a d, G = natsI g ∧ VG g ∧ x = ((a : Nat) : Int) ∧ a < 2 ^ ordN g ∧ k = ((d : Nat) : Int) ∧ d ≤ 4 ∧ cubeN g d a = true) := by
  cases hs : setG G x with
  | false =>
    refine ⟨false, ?_, ?_, fun h => by cases h⟩
    · simp only [f_s_HasCube, f_s_HasCube_k, s_IsSet_eq _ _ h, hs, bo_some]; rfl
    · refine limF_le HasCube_le (n := 1) ?_
      simp only [f_i_HasCube_n, f_i_HasCube_k, i_IsSet_eq _ _ h, hs, bo_some]; rfl
  | true =>
    cases hk : inB k 0 4 with
    | false =>
      refine ⟨false, ?_, ?_, fun h => by cases h⟩
      · simp only [f_s_HasCube, f_s_HasCube_k, s_IsSet_eq _ _ h, hs, bo_some, s_l1In_eq, hk]; rfl
      · refine limF_le HasCube_le (n := 1) ?_
        simp only [f_i_HasCube_n, f_i_HasCube_k, i_IsSet_eq _ _ h, hs, bo_some, i_within_eq, hk]; rfl
    | true =>
      obtain ⟨g, a, rfl, v, rfl, ha⟩ := nat_of_set hs
      have hk' : 0 ≤ k ∧ k ≤ 4 := by simpa [inB] using hk
      obtain ⟨d, rfl⟩ : ∃ d : Nat, k = d := ⟨k.toNat, by omega⟩
      have e1 := limF_le l14Cube_le (s_cube_fuel v (d + 1) d a (by omega) (by omega) ha)
      have e2 := limF_le HasCube_le (i_cube_fuel v (d + 1) d a (by omega) (by omega) ha)
      have e1' : f_s_l14Cube (ints (natsI g)) (a : Int) (d : Int) = some (cubeN g d a) := e1
      refine ⟨cubeN g d a, ?_, e2, fun hb => ⟨g, a, d, rfl, v, rfl, ha, rfl, by omega, hb⟩⟩
      simp only [f_s_HasCube, f_s_HasCube_k, s_IsSet_eq _ _ h, hs, bo_some, s_l1In_eq, hk, Bool.not_true, BEq.rfl, br_true, br_false, e1']
theorem HasCube_less (g : List Nat) (v : VG g) {a d : Nat} (ha : a < 2 ^ ordN g) (hd : d + 1 ≤ 4) (h : cubeN g (d + 1) a = true) : f_i_HasCube (ints (natsI g)) (a : Int) (d : Int) = some true := by
  have e2 := limF_le HasCube_le (i_cube_fuel v (d + 1) d a (by omega) (by omega) ha)
  rw [cube_less g d a h] at e2
  exact e2
theorem CubeOf_both (G : List Int) (b : Int) (P : List Int) (h : G.length ≤ lim) (hP : P.length ≤ 1000) : ∃ r, f_s_CubeOf (ints G) b (ints P) = some r ∧ f_i_CubeOf (ints G) b (ints P) = some r := by
  simp only [f_s_CubeOf, f_s_CubeOf_k, f_i_CubeOf, f_i_CubeOf_k, s_l2Is_eq G b h, i_has_eq G b h, bo_some, ints_length]
  cases hb : hasG G b with
  | false => exact ⟨(0, false), rfl, rfl⟩
  | true =>
    have hg : isG G = true := by
      cases hg : isG G with
      | true => rfl
      | false =>
        have h1 := hasG_spec hb
        have : ordG G = 0 := by unfold ordG; rw [hg]; rfl
        omega
    obtain ⟨g, rfl, v⟩ := nat_of_isG hg
    obtain ⟨n, rfl, hn⟩ := (v.has b).1 hb
    have h24 := v.ord
    cases hl : decide ((P.length : Int) > 5) with
    | true => exact ⟨(0, false), rfl, rfl⟩
    | false =>
      have hl5 : P.length ≤ 5 := by have := of_decide_eq_false hl; omega
      have both : ∀ (m k o : Nat), m + k = P.length → o < 2 ^ ordN g → ∃ e : En Int Unit, loopL (f_s_CubeOf_r0 (ints P) (ints (natsI g))) ((o : Int), (k : Int)) = some e ∧ loopL (f_i_CubeOf_r0 (ints (natsI g)) (ints P) (P.length : Int)) ((o : Int), (k : Int)) = some e := by
        intro m
        induction m with
        | zero =>
          intro k o hk ho
          have hk' : k = P.length := by omega
          subst hk'
          refine ⟨.one (o : Int), loopL_one ?_, loopL_one ?_⟩
          · simp only [f_s_CubeOf_r0, f_s_CubeOf_k0, ints_length, lt_dec_self, br_false]
          · simp only [f_i_CubeOf_r0, f_i_CubeOf_k0, lt_dec_self, br_false]
        | succ m ih =>
          intro k o hk ho
          have hkl : k < P.length := by omega
          cases hs : hasG (natsI g) (P.getD k 0) with
          | false =>
            refine ⟨.two (), loopL_two ?_, loopL_two ?_⟩
            · simp only [f_s_CubeOf_r0, f_s_CubeOf_k0, ints_length, lt_dec hkl, br_true, ok_nat hkl, at_nat, s_l2Is_eq _ _ v.lim, hs, bo_some, Bool.not_false]
            · simp only [f_i_CubeOf_r0, f_i_CubeOf_k0, lt_dec hkl, br_true, ok_nat hkl, at_nat, i_has_eq _ _ v.lim, hs, bo_some, Bool.not_false]
          | true =>
            obtain ⟨x, ex, hx⟩ := (v.has _).1 hs
            rw [ex] at hs
            have hsh := shiftN_lt v o x
            obtain ⟨e, e1, e2⟩ := ih (k + 1) (o ||| shiftN g o x) (by omega) (or_lt ho hsh)
            refine ⟨e, ?_, ?_⟩
            · rw [loopL_again (s' := (((o ||| shiftN g o x : Nat) : Int), ((k + 1 : Nat) : Int))) (by
                simp only [f_s_CubeOf_r0, f_s_CubeOf_k0, ints_length, lt_dec hkl, br_true, ok_nat hkl, at_nat, s_l2Is_eq _ _ v.lim, hs, bo_some, Bool.not_true, br_false, ex, s_l3Shift_eq v ho hx, or_or v ho hsh, w64_nat (show k < 9223372036854775807 by omega)])]
              exact e1
            · rw [loopL_again (s' := (((o ||| shiftN g o x : Nat) : Int), ((k + 1 : Nat) : Int))) (by
                simp only [f_i_CubeOf_r0, f_i_CubeOf_k0, lt_dec hkl, br_true, ok_nat hkl, at_nat, i_has_eq _ _ v.lim, hs, bo_some, Bool.not_true, br_false, ex, i_shift_eq v ho hx, or_or v ho hsh, w64_nat (show k < 9223372036854775807 by omega)])]
              exact e2
      obtain ⟨e, e1, e2⟩ := both P.length 0 (2 ^ n) (by omega) (two_pow_lt hn)
      have e1' : loopL (f_s_CubeOf_r0 (ints P) (ints (natsI g))) (((2 ^ n : Nat) : Int), 0) = some e := e1
      have e2' : loopL (f_i_CubeOf_r0 (ints (natsI g)) (ints P) (P.length : Int)) (((2 ^ n : Nat) : Int), 0) = some e := e2
      simp only [Bool.not_true, BEq.rfl, br_true, br_false, neg_dec, shl1_nat (show n ≤ 62 by omega), e1', e2']
      cases e <;> exact ⟨_, rfl, rfl⟩
/-! ### BoxOf -/
theorem s_BoxOf_eq (G S Z : List Int) (h : G.length ≤ lim) (hS : S.length ≤ lim) : f_s_BoxOf (ints G) (ints S) (ints Z) = some (if boxOk G S Z then (((boxN (G.map Int.toNat) S Z S.length : Nat) : Int), true) else (0, false)) := by
  simp only [f_s_BoxOf, f_s_BoxOf_k, s_fine_eq G S Z h hS, bo_some]
  cases hb : boxOk G S Z with
  | false => rfl
  | true =>
    unfold boxOk at hb
    simp only [Bool.and_eq_true, Bool.not_eq_true', decide_eq_true_eq] at hb
    obtain ⟨h1, h2, h3, h4⟩ := hb
    obtain ⟨g, rfl, v⟩ := nat_of_isG h2
    rw [List.any_eq_false] at h1
    have hgood : ∀ k, k < S.length → boxBad (natsI g) S Z k = false := fun k hk => by
      have := h1 k (List.mem_range.2 hk)
      simpa using this
    rw [toNat_natsI]
    simp only [Bool.not_true, br_false, s_box_eq v hgood h4, bo_some]
    rfl
theorem sum_one {g : List Nat} (v : VG g) {P : Nat} (hP : P < 2 ^ ordN g) : sumN g 1 P = P := by
  have h1 : elems 1 = [0] := by decide
  apply Nat.eq_of_testBit_eq
  intro z
  rw [Bool.eq_iff_iff, sumN_test, h1]
  constructor
  · rintro ⟨x, hx, y, hy, rfl⟩
    rw [List.mem_singleton.1 hx, addN_zero g y v.each (elems_lt hP hy)]
    exact (mem_elems (set_i64 v hP)).1 hy
  · intro hz
    have hm := (mem_elems (set_i64 v hP)).2 hz
    exact ⟨0, by simp, z, hm, addN_zero g z v.each (elems_lt hP hm)⟩
/-! ### FindBox -/
structure BoxF (g : List Nat) (m n s x y : Nat) : Prop where
  lt : m < 2 ^ ordN g
  pop : popN m = n
  n24 : n ≤ 24
  s1 : 1 ≤ s
  sq : s * s ≤ n
  dvd : n % s = 0
  hx : x < ordN g
  hy : y < ordN g
  bits : popN (bxP g n s x y) = n
theorem FindBox_more (G : List Int) (a : Int) (h : G.length ≤ lim) : (f_s_FindBox (ints G) a = some ([], [], false) ∧ f_i_FindBox (ints G) a = some ([], [], false)) ∨
    ∃ g m n s x y, G = natsI g ∧ VG g ∧ a = ((m : Nat) : Int) ∧ BoxF g m n s x y ∧ f_s_FindBox (ints G) a = some (ints (natsI [x, y]), ints (natsI [s, n / s]), true) ∧ f_i_FindBox (ints G) a = some (ints (natsI [x, y]), ints (natsI [s, n / s]), true) := by
  simp only [f_s_FindBox, f_s_FindBox_k, f_i_FindBox, f_i_FindBox_k, s_IsSet_eq G a h, i_IsSet_eq G a h, i_OrderOf_eq G h, bo_some]
  cases hs : setG G a with
  | false => exact .inl ⟨rfl, rfl⟩
  | true =>
    obtain ⟨g, m, rfl, v, rfl, hm⟩ := nat_of_set hs
    have z : (((m : Nat) : Int) == 0) = decide (m = 0) := eq_nat_decM m 0
    rw [z]
    by_cases h0 : m = 0
    · rw [decide_eq_true h0]; exact .inl ⟨rfl, rfl⟩
    · have hm' := set_i64 v hm
      have hn := pop24 v hm
      generalize hpn : popN m = n at hn
      obtain ⟨K, hK1, hK2⟩ := root_ex n
      have hK := sq_bound hn hK1
      have ks := loop_find (rd := f_s_FindBox_r0 (m : Int) (ints (natsI g)) (n : Int) ((ordN g : Nat) : Int)) (fun k => ((k + 1 : Nat) : Int)) K (fun k => decide (n % (k + 1) = 0) && (bxX g m n (k + 1)).isSome) (fun k => prS g m n (k + 1)) (a := ((K + 1 : Nat) : Int)) (fun k hk => by
        have q := hK1 k hk
        simp only [f_s_FindBox_r0, f_s_FindBox_k0, sq_le (show k ≤ 24 by omega), decide_eq_true q, br_true, s_ne (show 1 ≤ k + 1 by omega), br_false, rem_nat, s_bx2 v (show 1 ≤ k + 1 by omega) (by omega) hn, w64_nat (by omega : k + 1 < 9223372036854775807)]
        unfold prS
        cases decide (n % (k + 1) = 0) with
        | false => rfl
        | true => cases bxX g m n (k + 1) <;> rfl) (by
        simp only [f_s_FindBox_r0, f_s_FindBox_k0, sq_le hK, decide_eq_false (show ¬ (K + 1) * (K + 1) ≤ n by omega), br_false])
      have ki := loop_find (rd := f_i_FindBox_r0 (m : Int) (ints (natsI g)) ((ordN g : Nat) : Int) (n : Int)) (fun k => ((k + 1 : Nat) : Int)) K (fun k => decide (n % (k + 1) = 0) && (bxX g m n (k + 1)).isSome) (fun k => prS g m n (k + 1)) (a := ((K + 1 : Nat) : Int)) (fun k hk => by
        have q := hK1 k hk
        simp only [f_i_FindBox_r0, f_i_FindBox_k0, sq_le (show k ≤ 24 by omega), decide_eq_true q, br_true, s_ne (show 1 ≤ k + 1 by omega), br_false, rem_nat, i_bx2 v (show 1 ≤ k + 1 by omega) (by omega) hn, w64_nat (by omega : k + 1 < 9223372036854775807)]
        unfold prS
        cases decide (n % (k + 1) = 0) with
        | false => rfl
        | true => cases bxX g m n (k + 1) <;> rfl) (by
        simp only [f_i_FindBox_r0, f_i_FindBox_k0, sq_le hK, decide_eq_false (show ¬ (K + 1) * (K + 1) ≤ n by omega), br_false])
      rw [show ((0 + 1 : Nat) : Int) = 1 from rfl] at ks ki
      simp only [decide_eq_false h0, s_l3Bits_eq hm', i_bits_eq hm', s_l2Order_eq _ h, prodW_nat g v.len v.each, v.ordG, bo_some, hpn, ks, ki]
      cases hf : (List.range K).find? (fun k => decide (n % (k + 1) = 0) && (bxX g m n (k + 1)).isSome) with
      | none => exact .inl ⟨rfl, rfl⟩
      | some k =>
        have hk := List.mem_range.1 (List.mem_of_find?_eq_some hf)
        have hp := List.find?_some (p := fun k => decide (n % (k + 1) = 0) && (bxX g m n (k + 1)).isSome) hf
        simp only [Bool.and_eq_true, decide_eq_true_eq] at hp
        obtain ⟨hdv, hX⟩ := hp
        obtain ⟨x, ex⟩ := Option.isSome_iff_exists.1 hX
        have hx := List.mem_range.1 (List.mem_of_find?_eq_some ex)
        have hY : (bxY g m n (k + 1) x).isSome = true := List.find?_some (p := fun x => (bxY g m n (k + 1) x).isSome) ex
        obtain ⟨y, ey⟩ := Option.isSome_iff_exists.1 hY
        have hy := List.mem_range.1 (List.mem_of_find?_eq_some ey)
        have hO : bxOk g m n (k + 1) x y = true := List.find?_some (p := bxOk g m n (k + 1) x) ey
        unfold bxOk at hO
        rw [Bool.and_eq_true, decide_eq_true_eq] at hO
        have epr : prS g m n (k + 1) = (ints (natsI [k + 1, n / (k + 1)]), ints (natsI [x, y])) := by
          unfold prS
          rw [ex]
          unfold prX
          rw [Option.getD_some, ey]
          rfl
        refine .inr ⟨g, m, n, k + 1, x, y, rfl, v, rfl, ⟨hm, hpn, hn, by omega, hK1 k hk, hdv, hx, hy, hO.1⟩, ?_, ?_⟩
        · simp only [epr]; rfl
        · simp only [epr]; rfl
theorem boxF_nums {g : List Nat} {m n s x y : Nat} (b : BoxF g m n s x y) : s ≤ 24 ∧ 1 ≤ n / s ∧ n / s ≤ 24 ∧ s * (n / s) = n := by
  have h1 := b.s1
  have h2 := b.sq
  have h3 := b.n24
  have e := Nat.div_add_mod n s
  rw [b.dvd, Nat.add_zero] at e
  have hs : s ≤ s * s := Nat.le_mul_of_pos_left s h1
  have hd : n / s ≤ n := Nat.div_le_self n s
  refine ⟨by omega, ?_, by omega, e⟩
  exact (Nat.le_div_iff_mul_le h1).2 (by omega)
theorem boxF_ok {g : List Nat} {m n s x y : Nat} (v : VG g) (b : BoxF g m n s x y) : boxOk (natsI g) (natsI [x, y]) (natsI [s, n / s]) = true := by
  obtain ⟨h1, h2, h3, h4⟩ := boxF_nums b
  have hs := b.s1
  have hx : hasG (natsI g) (x : Int) = true := (v.has _).2 ⟨x, rfl, b.hx⟩
  have hy : hasG (natsI g) (y : Int) = true := (v.has _).2 ⟨y, rfl, b.hy⟩
  have i1 : inB (s : Int) 1 24 = true := by simp [inB]; omega
  have i2 : inB ((n / s : Nat) : Int) 1 24 = true := by
    unfold inB
    rw [decide_eq_true (show ((n / s : Nat) : Int) ≥ 1 by omega), decide_eq_true (show ((n / s : Nat) : Int) ≤ 24 by omega)]
    rfl
  have b0 : boxBad (natsI g) (natsI [x, y]) (natsI [s, n / s]) 0 = false := by
    show (!hasG (natsI g) (x : Int) || (decide (2 ≤ 0) || !inB (s : Int) 1 24)) = false
    rw [hx, i1]; rfl
  have b1 : boxBad (natsI g) (natsI [x, y]) (natsI [s, n / s]) 1 = false := by
    show (!hasG (natsI g) (y : Int) || (decide (2 ≤ 1) || !inB ((n / s : Nat) : Int) 1 24)) = false
    rw [hy, i2]; rfl
  unfold boxOk
  have er : List.range (natsI [x, y]).length = [0, 1] := rfl
  rw [er, List.any_cons, List.any_cons, List.any_nil, b0, b1, v.isG]
  rfl
theorem boxF_box {g : List Nat} {m n s x y : Nat} (v : VG g) (b : BoxF g m n s x y) : boxN g (natsI [x, y]) (natsI [s, n / s]) 2 = bxP g n s x y := by
  have o1 := ordN_pos v.each
  show sumN g (sumN g 1 (progN g 0 x s).2) (progN g 0 y (n / s)).2 = _
  rw [sum_one v (progN_snd v (by omega) x s)]
  rfl
/-! ### The draws -/
theorem l2Element_ok2 {x0 : List Int} {c : List Sc × Int × Int} (hc : Cur x0 c) (G : List Int) (hG : G.length ≤ lim) : ∃ r c', f_s_l2Element_io c.1 c.2.1 c.2.2 (ints G) = some (r, c'.1, c'.2.1, c'.2.2, ints G) ∧ Cur x0 c' := by
  obtain ⟨b, c1, e1, h1⟩ := l1Once_ok hc 16 (by decide)
  obtain ⟨k, c2, e2, h2, _⟩ := l1PickInt_ok h1 [-1, 24, 9223372036854775807] (by decide) (by decide)
  have hO := ordG_range G
  have hif : (if ordG G > 1 then ordG G else 1) ≤ 256 := by split <;> omega
  obtain ⟨r, c3, e3, h3, _⟩ := l1Below_ok h1 (if ordG G > 1 then ordG G else 1) hif
  have e2' : f_s_l1PickInt_io [(Sc.n .i64 (-1)), (Sc.n .i64 24), (Sc.n .i64 9223372036854775807)] c1.1 c1.2.1 c1.2.2 = _ := e2
  simp only [f_s_l2Element_io, f_s_l2Element_io_k, e1, bo_some, e2', s_OrderOf_eq G hG, e3]
  cases b with
  | true => exact ⟨_, _, rfl, h2⟩
  | false => exact ⟨_, _, rfl, h3⟩
theorem l14Draw_ok {x0 : List Int} (hx : x0.length ≤ 1048576) : ∃ G P Q, f_s_l14Draw (bytesL x0) = some (ints G, ints P, ints Q) ∧ G.length ≤ 4 ∧ P.length ≤ 8 ∧ Q.length ≤ 8 := by
  obtain ⟨c, e, h⟩ := l1New_ok hx
  obtain ⟨G, c1, e1, h1, hG⟩ := l2Any_ok h
  have hGl : G.length ≤ lim := Nat.le_trans hG (by decide)
  obtain ⟨n, c2, e2, h2, hn0, hn1, _⟩ := l1Below_ok h1 4 (by decide)
  obtain ⟨n, rfl⟩ : ∃ k : Nat, n = k := ⟨n.toNat, by omega⟩
  have hn : n < 4 := by have := hn1 (by decide); omega
  have key := loop_ex (rd := f_s_l14Draw_r0) (fun m s => ∃ (d : List Sc × Int × Int) (P Q : List Int), s = ([], ints G, d.1, d.2.1, d.2.2, ints P, ints Q, (m : Int)) ∧ Cur x0 d ∧ P.length + m ≤ 4 ∧ Q.length + m ≤ 4)
    (fun r => ∃ (d : List Sc × Int × Int) (P Q : List Int), r = ([], ints G, d.1, d.2.1, d.2.2, ints P, ints Q) ∧ Cur x0 d ∧ P.length ≤ 4 ∧ Q.length ≤ 4) (fun m s hs => by
      obtain ⟨d, P, Q, rfl, hd, hp, hq⟩ := hs
      obtain ⟨y, d1, f1, g1⟩ := l2Element_ok2 hd G hGl
      obtain ⟨k, d2, f2, g2, _⟩ := l1PickInt_ok g1 [1, 2, 2, 3, 4, 0, 25] (by decide) (by decide)
      have f2' : f_s_l1PickInt_io [(Sc.n .i64 1), (Sc.n .i64 2), (Sc.n .i64 2), (Sc.n .i64 3), (Sc.n .i64 4), (Sc.n .i64 0), (Sc.n .i64 25)] d1.1 d1.2.1 d1.2.2 = _ := f2
      have hpos : decide (((m + 1 : Nat) : Int) > 0) = true := decide_eq_true (by omega)
      have hw : w64 (((m + 1 : Nat) : Int) - 1) = (m : Int) := by rw [show ((m + 1 : Nat) : Int) - 1 = (m : Int) by omega]; exact w64_cast (by omega)
      have l1 : ∀ z : Int, decide (P.length + [Sc.n .i64 z].length ≤ lim) = true := fun z => decide_eq_true (by rw [List.length_singleton]; exact Nat.le_trans (show P.length + 1 ≤ 5 by omega) (by decide))
      have l2 : ∀ z : Int, decide (Q.length + [Sc.n .i64 z].length ≤ lim) = true := fun z => decide_eq_true (by rw [List.length_singleton]; exact Nat.le_trans (show Q.length + 1 ≤ 5 by omega) (by decide))
      simp only [f_s_l14Draw_r0, f_s_l14Draw_k0, hpos, br_true, f1, bo_some, ints_length, l1, f2', l2, hw, ints_snoc]
      exact ⟨_, rfl, d2, P ++ [y], Q ++ [_], rfl, g2, by rw [List.length_append, List.length_singleton]; omega, by rw [List.length_append, List.length_singleton]; omega⟩)
    (fun s hs => by
      obtain ⟨d, P, Q, rfl, hd, hp, hq⟩ := hs
      have hpos : decide (((0 : Nat) : Int) > 0) = false := by decide
      simp only [f_s_l14Draw_r0, f_s_l14Draw_k0, hpos, br_false]
      exact ⟨_, rfl, d, P, Q, rfl, hd, by omega, by omega⟩) n ([], ints G, c2.1, c2.2.1, c2.2.2, ints [], ints [], (n : Int)) ⟨c2, [], [], rfl, h2, by simp; omega, by simp; omega⟩
  obtain ⟨r, ek, d, P, Q, rfl, hd, hP, hQ⟩ := key
  have ek' : loopL f_s_l14Draw_r0 ([], ints G, c2.1, c2.2.1, c2.2.2, [], [], (n : Int)) = _ := ek
  obtain ⟨q, d1, f1, g1⟩ := l1Once_ok hd 14 (by decide)
  have l2 : decide (Q.length + [Sc.n .i64 2].length ≤ lim) = true := decide_eq_true (by rw [List.length_singleton]; exact Nat.le_trans (show Q.length + 1 ≤ 5 by omega) (by decide))
  simp only [f_s_l14Draw, f_s_l14Draw_k, e, bo_some, e1, e2, ek', bl1_one, f1, ints_length, l2, ints_snoc, br_true]
  cases q with
  | true => exact ⟨G, P, _, rfl, hG, by omega, by rw [List.length_append, List.length_singleton]; omega⟩
  | false => exact ⟨G, P, Q, rfl, hG, by omega, by omega⟩
theorem l3Set_ok2 {x0 : List Int} {c : List Sc × Int × Int} (hc : Cur x0 c) (G : List Int) (hG : G.length ≤ lim) : ∃ r c', f_s_l3Set_io c.1 c.2.1 c.2.2 (ints G) = some (r, c'.1, c'.2.1, c'.2.2, ints G) ∧ Cur x0 c' := by
  have hO := ordG_range G
  have hif : (if ordG G > 1 then ordG G else 1) ≤ 256 := by split <;> omega
  have hif0 : decide ((if ordG G > 1 then ordG G else 1) < 0) = false := decide_eq_false (by split <;> omega)
  obtain ⟨n, c1, e1, h1, hn0, hn1, _⟩ := l1Below_ok hc 6 (by decide)
  obtain ⟨n, rfl⟩ : ∃ k : Nat, n = k := ⟨n.toNat, by omega⟩
  have hn : n < 6 := by have := hn1 (by decide); omega
  have key := loop_ex (rd := f_s_l3Set_io_r0 (if ordG G > 1 then ordG G else 1)) (fun m s => ∃ (d : List Sc × Int × Int) (a : Int), s = (d.1, d.2.1, d.2.2, ints G, a, (m : Int)) ∧ Cur x0 d ∧ m < 6)
    (fun r => ∃ (d : List Sc × Int × Int) (a : Int), r = (d.1, d.2.1, d.2.2, ints G, a) ∧ Cur x0 d) (fun m s hs => by
      obtain ⟨d, a, rfl, hd, hm⟩ := hs
      obtain ⟨y, d1, f1, g1, hy, _⟩ := l1Below_ok hd (if ordG G > 1 then ordG G else 1) hif
      have hpos : decide (((m + 1 : Nat) : Int) > 0) = true := decide_eq_true (by omega)
      have hw : w64 (((m + 1 : Nat) : Int) - 1) = (m : Int) := by rw [show ((m + 1 : Nat) : Int) - 1 = (m : Int) by omega]; exact w64_cast (by omega)
      have hy0 : decide (y < 0) = false := decide_eq_false (by omega)
      simp only [f_s_l3Set_io_r0, f_s_l3Set_io_k0, hpos, br_true, f1, bo_some, hy0, br_false, hw]
      exact ⟨_, rfl, d1, _, rfl, g1, by omega⟩)
    (fun s hs => by
      obtain ⟨d, a, rfl, hd, hm⟩ := hs
      have hpos : decide (((0 : Nat) : Int) > 0) = false := by decide
      simp only [f_s_l3Set_io_r0, f_s_l3Set_io_k0, hpos, br_false]
      exact ⟨_, rfl, d, a, rfl, hd⟩) n (c1.1, c1.2.1, c1.2.2, ints G, 0, (n : Int)) ⟨c1, 0, rfl, h1, hn⟩
  obtain ⟨r, ek, d, a, rfl, hd⟩ := key
  obtain ⟨q, d1, f1, g1, _⟩ := l1Below_ok hd 20 (by decide)
  obtain ⟨k, d2, f2, g2, _⟩ := l1PickInt_ok g1 [-1, 16777216, 9223372036854775807] (by decide) (by decide)
  have f2' : f_s_l1PickInt_io [(Sc.n .i64 (-1)), (Sc.n .i64 16777216), (Sc.n .i64 9223372036854775807)] d1.1 d1.2.1 d1.2.2 = _ := f2
  simp only [f_s_l3Set_io, f_s_l3Set_io_k, s_OrderOf_eq G hG, bo_some, e1, ek, bl1_one, f1, f2', hif0, br_false]
  cases (q == 0) with
  | true => exact ⟨_, _, rfl, g1⟩
  | false =>
    cases (q == 1) with
    | true => exact ⟨_, _, rfl, g2⟩
    | false => exact ⟨_, _, rfl, g1⟩
theorem ShiftSet_ok (G : List Int) (a x : Int) (h : G.length ≤ lim) : ∃ r, f_s_ShiftSet (ints G) a x = some r := by
  simp only [f_s_ShiftSet, f_s_ShiftSet_k, s_IsSet_eq G a h, s_l2Is_eq G x h, bo_some]
  cases hs : setG G a with
  | false => exact ⟨-1, rfl⟩
  | true =>
    cases hx : hasG G x with
    | false => exact ⟨-1, rfl⟩
    | true =>
      obtain ⟨g, m, rfl, v, rfl, hm⟩ := nat_of_set hs
      obtain ⟨n, rfl, hn⟩ := (v.has x).1 hx
      simp only [s_l3Shift_eq v hm hn, bo_some]
      exact ⟨_, rfl⟩
theorem l14Set_ok {x0 : List Int} (hx : x0.length ≤ 1048576) : ∃ G a, f_s_l14Set (bytesL x0) = some (ints G, a) ∧ G.length ≤ 4 := by
  obtain ⟨c, e, h⟩ := l1New_ok hx
  obtain ⟨G, P, Q, e1, hG, hP, hQ⟩ := l14Draw_ok hx
  have hGl : G.length ≤ lim := Nat.le_trans hG (by decide)
  have hO := ordG_range G
  have hif : (if ordG G > 1 then ordG G else 1) ≤ 256 := by split <;> omega
  obtain ⟨q, c2, e3, h3⟩ := l1Once_ok h 3 (by decide)
  obtain ⟨r, c3, e4, h4, _⟩ := l1Below_ok h3 (if ordG G > 1 then ordG G else 1) hif
  obtain ⟨a5, c5, e5, h5⟩ := l3Set_ok2 h3 G hGl
  obtain ⟨a6, c6, e6, h6⟩ := l3Set_ok2 h G hGl
  have eb := s_BoxOf_eq G P Q hGl (Nat.le_trans hP (by decide))
  simp only [f_s_l14Set, f_s_l14Set_k, f_s_l14Set_g5, f_s_l14Set_g5_k, f_s_l14Set_g6, f_s_l14Set_g6_k, e, bo_some, e1, eb, e3, s_OrderOf_eq G hGl, e4, e5, e6]
  cases boxOk G P Q with
  | false => exact ⟨G, _, rfl, hG⟩
  | true =>
    obtain ⟨z, ez⟩ := ShiftSet_ok G ((boxN (G.map Int.toNat) P Q P.length : Nat) : Int) r hGl
    simp only [if_true, BEq.rfl, br_true, ez, bo_some]
    cases q with
    | true => exact ⟨G, _, rfl, hG⟩
    | false => exact ⟨G, _, rfl, hG⟩
theorem DrawCubeOf_ok {x0 : List Int} (hx : x0.length ≤ 1048576) : ∃ G b P, f_s_DrawCubeOf (bytesL x0) = some (ints G, b, ints P) ∧ G.length ≤ 4 ∧ P.length ≤ 8 := by
  obtain ⟨G, P, Q, e, hG, hP, hQ⟩ := l14Draw_ok hx
  obtain ⟨r, hr⟩ : ∃ r : Nat, ((bytesL x0).length : Int).tmod 5 = (r : Int) := ⟨(bytesL x0).length % 5, rfl⟩
  have hr5 : r < 5 := by
    have := tmod_range (a := ((bytesL x0).length : Int)) (n := 5) (by omega) (by decide)
    rw [hr] at this
    omega
  have i0 : inRange (r : Int) (ints [0, 1, 2, -1, 99]).length = true := by rw [inRange_nat]; exact decide_eq_true hr5
  have i1 : inRange (r : Int) [(Sc.n .i64 0), (Sc.n .i64 1), (Sc.n .i64 2), (Sc.n .i64 (-1)), (Sc.n .i64 99)].length = true := i0
  have i2 : kAt [(Sc.n .i64 0), (Sc.n .i64 1), (Sc.n .i64 2), (Sc.n .i64 (-1)), (Sc.n .i64 99)] r = true := kAt_ints [0, 1, 2, -1, 99] r
  simp only [f_s_DrawCubeOf, f_s_DrawCubeOf_k, f_s_DrawCubeOf_g2, f_s_DrawCubeOf_g2_k, e, bo_some, hr, i1, Int.toNat_natCast, i2, br_true]
  exact ⟨G, _, P, rfl, hG, hP⟩
theorem DrawHasCube_ok {x0 : List Int} (hx : x0.length ≤ 1048576) : ∃ G a k, f_s_DrawHasCube (bytesL x0) = some (ints G, a, k) ∧ G.length ≤ 4 := by
  obtain ⟨G, a, e, hG⟩ := l14Set_ok hx
  obtain ⟨r, hr⟩ : ∃ r : Nat, ((bytesL x0).length : Int).tmod 7 = (r : Int) := ⟨(bytesL x0).length % 7, rfl⟩
  have hr7 : r < 7 := by
    have := tmod_range (a := ((bytesL x0).length : Int)) (n := 7) (by omega) (by decide)
    rw [hr] at this
    omega
  have i0 : inRange (r : Int) (ints [0, 1, 2, 3, 4, 5, -1]).length = true := by rw [inRange_nat]; exact decide_eq_true hr7
  have i1 : inRange (r : Int) [(Sc.n .i64 0), (Sc.n .i64 1), (Sc.n .i64 2), (Sc.n .i64 3), (Sc.n .i64 4), (Sc.n .i64 5), (Sc.n .i64 (-1))].length = true := i0
  have i2 : kAt [(Sc.n .i64 0), (Sc.n .i64 1), (Sc.n .i64 2), (Sc.n .i64 3), (Sc.n .i64 4), (Sc.n .i64 5), (Sc.n .i64 (-1))] r = true := kAt_ints [0, 1, 2, 3, 4, 5, -1] r
  simp only [f_s_DrawHasCube, f_s_DrawHasCube_k, f_s_DrawHasCube_g2, f_s_DrawHasCube_g2_k, e, bo_some, hr, i1, Int.toNat_natCast, i2, br_true]
  exact ⟨G, a, _, rfl, hG⟩
/-! ### The law -/
theorem FnBoxes_w12 {x0 : List Int} (hx : x0.length ≤ 1048576) : f_l_FnBoxes_w12 (bytesL x0) = some true := by
  obtain ⟨G, P, Q, e1, hG, hP, hQ⟩ := l14Draw_ok hx
  obtain ⟨H, b, R, e2, hH, hR⟩ := DrawCubeOf_ok hx
  obtain ⟨I, a, k, e3, hI⟩ := DrawHasCube_ok hx
  have hGl : G.length ≤ lim := Nat.le_trans hG (by decide)
  have hHl : H.length ≤ lim := Nat.le_trans hH (by decide)
  have hIl : I.length ≤ lim := Nat.le_trans hI (by decide)
  have hPl : P.length ≤ lim := Nat.le_trans hP (by decide)
  have hQl : Q.length ≤ lim := Nat.le_trans hQ (by decide)
  have b1 := s_BoxOf_eq G P Q hGl hPl
  have b2 := i_BoxOf_eq G P Q hGl
  obtain ⟨c, c1, c2⟩ := CubeOf_both H b R hHl (by omega)
  obtain ⟨p, p1, p2⟩ := IsProperBox_both G P Q hGl hPl hQl
  obtain ⟨d, d1, d2, d3⟩ := HasCube_more I a k hIl
  simp only [f_l_FnBoxes_w12, f_l_FnBoxes_w12_k, f_s_DrawBoxOf, f_s_DrawBoxOf_k, e1, e2, e3, bo_some, b1, b2, c1, c2, d1, d2, BEq.rfl, Bool.not_true, br_true, f_l_FnBoxes_w22, f_l_FnBoxes_w22_k, p1, p2]
  cases d with
  | false => rfl
  | true =>
    obtain ⟨g, m, n, rfl, v, rfl, hm, rfl, hn4, hc⟩ := d3 rfl
    by_cases hk : n = 0
    · subst hk
      rfl
    · obtain ⟨n', rfl⟩ : ∃ n', n = n' + 1 := ⟨n - 1, by omega⟩
      have hpos : decide (((n' + 1 : Nat) : Int) > 0) = true := decide_eq_true (by omega)
      have ew : w64 (((n' + 1 : Nat) : Int) - 1) = (n' : Int) := by rw [show ((n' + 1 : Nat) : Int) - 1 = (n' : Int) by omega]; exact w64_cast (by omega)
      have hl := HasCube_less g v hm hn4 hc
      simp only [hpos, ew, hl, bo_some, Bool.not_true, BEq.rfl, br_true, br_false]
theorem FnBoxes_w8 {x0 : List Int} (hx : x0.length ≤ 1048576) {g : List Nat} {m n s x y : Nat} (v : VG g) (b : BoxF g m n s x y) :
    f_l_FnBoxes_w8 (ints (natsI g)) (bytesL x0) (m : Int) true (ints (natsI [x, y])) (ints (natsI [s, n / s])) = some true := by
  obtain ⟨h1, h2, h3, h4⟩ := boxF_nums b
  have hok := boxF_ok v b
  have hb := i_BoxOf_eq (natsI g) (natsI [x, y]) (natsI [s, n / s]) v.lim
  have e0 : boxN ((natsI g).map Int.toNat) (natsI [x, y]) (natsI [s, n / s]) (natsI [x, y]).length = bxP g n s x y := by rw [toNat_natsI]; exact boxF_box v b
  rw [hok, e0] at hb
  have hb' : f_i_BoxOf (ints (natsI g)) (ints (natsI [x, y])) (ints (natsI [s, n / s])) = some (((bxP g n s x y : Nat) : Int), true) := hb
  have hlt := bxP_lt v n s x y
  have hl64 := set_i64 v hlt
  have pl := loop_fold (rd := f_i_IsProperBox_r0 ((bxP g n s x y : Nat) : Int) true (ints (natsI [s, n / s])) ((natsI [s, n / s]).length : Int)) (natsI [s, n / s]) (fun n s => w64 (n * s)) id 1 (fun k t hk => by
    have hk2 : k < 2 := hk
    simp only [f_i_IsProperBox_r0, f_i_IsProperBox_k0, lt_dec hk, ok_nat hk, at_nat, br_true, w64_nat (by omega : k < 9223372036854775807)])
    (fun t => by simp only [f_i_IsProperBox_r0, f_i_IsProperBox_k0, lt_dec_self, br_false, id])
  have ef : (natsI [s, n / s]).foldl (fun n s => w64 (n * s)) 1 = (n : Int) := by
    show w64 (w64 (1 * (s : Int)) * ((n / s : Nat) : Int)) = (n : Int)
    have hn := b.n24
    rw [Int.one_mul, w64_cast (by omega), ← Int.natCast_mul, h4, w64_cast (by omega)]
  rw [ef] at pl
  have pl' : loopL (f_i_IsProperBox_r0 ((bxP g n s x y : Nat) : Int) true (ints (natsI [s, n / s])) ((natsI [s, n / s]).length : Int)) (1, 0) = some (.one (n : Int)) := pl
  have hp : f_i_IsProperBox (ints (natsI g)) (ints (natsI [x, y])) (ints (natsI [s, n / s])) = some true := by
    simp only [f_i_IsProperBox, f_i_IsProperBox_k, hb', bo_some, ints_length, pl', bl1_one, BEq.rfl, br_true, i_bits_eq hl64, b.bits]
  have c1 : f_s_CountSet (ints (natsI g)) ((bxP g n s x y : Nat) : Int) = some (n : Int) := by
    simp only [f_s_CountSet, f_s_CountSet_k, s_IsSet_eq _ _ v.lim, set_ofB v hlt, bo_some, Bool.not_true, br_false, s_l3Bits_eq hl64, b.bits]
  have c2 : f_s_CountSet (ints (natsI g)) (m : Int) = some (n : Int) := by
    simp only [f_s_CountSet, f_s_CountSet_k, s_IsSet_eq _ _ v.lim, set_ofB v b.lt, bo_some, Bool.not_true, br_false, s_l3Bits_eq (set_i64 v b.lt), b.pop]
  have i0 : inRange 0 (ints (natsI [s, n / s])).length = true := rfl
  have i1 : inRange 1 (ints (natsI [s, n / s])).length = true := rfl
  have k0 : kAt (ints (natsI [s, n / s])) (0 : Int).toNat = true := kAt_ints _ _
  have k1 : kAt (ints (natsI [s, n / s])) (1 : Int).toNat = true := kAt_ints _ _
  have a0 : atN (ints (natsI [s, n / s])) (0 : Int).toNat = (s : Int) := atN_ints _ _
  have a1 : atN (ints (natsI [s, n / s])) (1 : Int).toNat = ((n / s : Nat) : Int) := atN_ints _ _
  have ew : w64 ((s : Int) * ((n / s : Nat) : Int)) = (n : Int) := by
    have hn := b.n24
    rw [← Int.natCast_mul, h4, w64_cast (by omega)]
  simp only [f_l_FnBoxes_w8, f_l_FnBoxes_w8_k, br_true, hb', bo_some, Bool.not_true, BEq.rfl, hp, c1, c2, bne_self_eq_false, i0, i1, k0, k1, a0, a1, ew, br_false, FnBoxes_w12 hx]
theorem FnBoxes_plain (x0 : List Int) (w0 : x0.length ≤ maxLen) : f_l_FnBoxes (bytesL x0) = some true := by
  simp only [f_l_FnBoxes, f_l_FnBoxes_k, f_l_big, f_l_big_k, bytesL_len, bo_some]
  by_cases hb : (x0.length : Int) > 1048576
  · rw [decide_eq_true hb]
    rfl
  · rw [decide_eq_false hb]
    have hx : x0.length ≤ 1048576 := by omega
    obtain ⟨G, a, e, hG⟩ := l14Set_ok hx
    have hGl : G.length ≤ lim := Nat.le_trans hG (by decide)
    have key : f_l_FnBoxes_w3 (bytesL x0) = some true := by
      rcases FindBox_more G a hGl with ⟨f1, f2⟩ | ⟨g, m, n, s, x, y, rfl, v, rfl, b, f1, f2⟩
      · have s0 : f_l_sameInts [] [] = some true := sameInts_self [] (by decide)
        have ib : f_i_IsBox (ints G) a = some false := by simp only [f_i_IsBox, f_i_IsBox_k, f2, bo_some]
        simp only [f_l_FnBoxes_w3, f_l_FnBoxes_w3_k, f_s_DrawFindBox, f_s_DrawFindBox_k, e, bo_some, f1, f2, BEq.rfl, Bool.not_true, br_true, br_false, s0, ib, f_l_FnBoxes_w8, f_l_FnBoxes_w8_k, FnBoxes_w12 hx]
      · have s1 := sameInts_self (natsI [x, y]) (by show 2 ≤ lim; decide)
        have s2 := sameInts_self (natsI [s, n / s]) (by show 2 ≤ lim; decide)
        have ib : f_i_IsBox (ints (natsI g)) (m : Int) = some true := by simp only [f_i_IsBox, f_i_IsBox_k, f2, bo_some]
        simp only [f_l_FnBoxes_w3, f_l_FnBoxes_w3_k, f_s_DrawFindBox, f_s_DrawFindBox_k, e, bo_some, f1, f2, BEq.rfl, Bool.not_true, br_true, br_false, s1, s2, ib, FnBoxes_w8 hx v b]
    rw [key]
    rfl
end Go.Proofs.Ytphbclogflflmaa
