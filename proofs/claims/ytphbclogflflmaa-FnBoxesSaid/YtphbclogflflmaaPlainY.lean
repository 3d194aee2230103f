/-
  PlainY: progressions, boxes: IsProperBox.
-/
import Derived.Test.YtphbclogflflmaaPlainV
set_option linter.unusedVariables false
set_option linter.unusedSimpArgs false
namespace Go.Proofs.Ytphbclogflflmaa
open Go Ev

/-- The next element and the set of k elements from x on, by steps of d. -/
def progN (g : List Nat) (x d : Nat) : Nat → Nat × Nat
  | 0 => (x, 0)
  | k + 1 => (addN g (progN g x d k).1 d, (progN g x d k).2 ||| 2 ^ (progN g x d k).1)
theorem progN_fst {g : List Nat} (v : VG g) {x : Nat} (hx : x < ordN g) (d : Nat) : ∀ k, (progN g x d k).1 < ordN g
  | 0 => hx
  | k + 1 => addN_lt v.each _ _
theorem progN_snd {g : List Nat} (v : VG g) {x : Nat} (hx : x < ordN g) (d : Nat) : ∀ k, (progN g x d k).2 < 2 ^ ordN g
  | 0 => Nat.two_pow_pos _
  | k + 1 => or_lt (progN_snd v hx d k) (two_pow_lt (progN_fst v hx d k))
theorem s_prog_eq {g : List Nat} (v : VG g) {x d n : Nat} (hx : x < ordN g) (hd : d < ordN g) (hn : n ≤ 24) : f_s_l10Progression (ints (natsI g)) (x : Int) (d : Int) (n : Int) = some (((progN g x d n).2 : Nat) : Int) := by
  have h24 := v.ord
  have key := loop_count (rd := f_s_l10Progression_r0 (d : Int) (n : Int) (ints (natsI g))) (fun k => ((((progN g x d k).2 : Nat) : Int), (((progN g x d k).1 : Nat) : Int), (k : Int))) n (a := (((progN g x d n).2 : Nat) : Int)) (fun k hk => by
    have h1 := progN_fst v hx d k
    simp only [f_s_l10Progression_r0, f_s_l10Progression_k0, lt_dec hk, br_true, neg_dec, br_false, s_l2Add_eq v (by omega : (progN g x d k).1 < 4611686018427387904) (by omega : d < 4611686018427387904), bo_some, or_pow v (progN_snd v hx d k) h1, w64_nat (by omega : k < 9223372036854775807)]
    rfl) (by simp only [f_s_l10Progression_r0, f_s_l10Progression_k0, lt_dec_self, br_false]) 0 (Nat.zero_le _)
  have key : loopL (f_s_l10Progression_r0 (d : Int) (n : Int) (ints (natsI g))) (0, (x : Int), 0) = some (.one (((progN g x d n).2 : Nat) : Int)) := key
  simp only [f_s_l10Progression, f_s_l10Progression_k, key, bl1_one]
theorem i_prog_eq {g : List Nat} (v : VG g) {x d n : Nat} (hx : x < ordN g) (hd : d < ordN g) (hn : n ≤ 24) : f_i_Group_progression (ints (natsI g)) (x : Int) (d : Int) (n : Int) = some (((progN g x d n).2 : Nat) : Int) := by
  have h24 := v.ord
  have key := loop_count (rd := f_i_Group_progression_r0 (d : Int) (ints (natsI g)) (n : Int)) (fun k => ((((progN g x d k).1 : Nat) : Int), (((progN g x d k).2 : Nat) : Int), (k : Int))) n (a := (((progN g x d n).2 : Nat) : Int)) (fun k hk => by
    have h1 := progN_fst v hx d k
    simp only [f_i_Group_progression_r0, f_i_Group_progression_k0, lt_dec hk, br_true, neg_dec, br_false, i_add_eq v (by omega : (progN g x d k).1 < 4611686018427387904) (by omega : d < 4611686018427387904), bo_some, or_pow v (progN_snd v hx d k) h1, w64_nat (by omega : k < 9223372036854775807)]
    rfl) (by simp only [f_i_Group_progression_r0, f_i_Group_progression_k0, lt_dec_self, br_false]) 0 (Nat.zero_le _)
  have key : loopL (f_i_Group_progression_r0 (d : Int) (ints (natsI g)) (n : Int)) ((x : Int), 0, 0) = some (.one (((progN g x d n).2 : Nat) : Int)) := key
  simp only [f_i_Group_progression, f_i_Group_progression_k, key, bl1_one]
def boxBad (G S Z : List Int) (k : Nat) : Bool := !hasG G (S.getD k 0) || (decide (Z.length ≤ k) || !inB (Z.getD k 0) 1 24)
def boxOk (G S Z : List Int) : Bool := !(List.range S.length).any (boxBad G S Z) && (isG G && (decide (S.length = Z.length) && decide (S.length ≤ 3)))
def boxN (g : List Nat) (S Z : List Int) : Nat → Nat
  | 0 => 1
  | k + 1 => sumN g (boxN g S Z k) (progN g 0 (S.getD k 0).toNat (Z.getD k 0).toNat).2
theorem boxN_lt {g : List Nat} (v : VG g) (S Z : List Int) : ∀ k, boxN g S Z k < 2 ^ ordN g
  | 0 => by
    have := ordN_pos v.each
    show 1 < 2 ^ ordN g
    exact Nat.one_lt_two_pow (by omega)
  | k + 1 => sumN_lt v _ _
def prodZ (Z : List Int) : Int := Z.foldl (fun n s => w64 (n * s)) 1
def capZ (Z : List Int) : Int := Z.foldl (fun n s => if w64 (n * s) < 1000 then w64 (n * s) else 1000) 1
theorem box_good {g : List Nat} (v : VG g) {S Z : List Int} {k : Nat} (h : boxBad (natsI g) S Z k = false) : ∃ s z : Nat, S.getD k 0 = s ∧ s < ordN g ∧ k < Z.length ∧ Z.getD k 0 = z ∧ 1 ≤ z ∧ z ≤ 24 := by
  unfold boxBad at h
  simp only [Bool.or_eq_false_iff, Bool.not_eq_false', decide_eq_false_iff_not] at h
  obtain ⟨h1, h2, h3⟩ := h
  obtain ⟨s, hs, hlt⟩ := (v.has _).1 h1
  have hz : 1 ≤ Z.getD k 0 ∧ Z.getD k 0 ≤ 24 := by simpa [inB] using h3
  exact ⟨s, (Z.getD k 0).toNat, hs, hlt, by omega, by omega, by omega, by omega⟩
theorem s_fine_eq (G S Z : List Int) (h : G.length ≤ lim) (hS : S.length ≤ lim) : f_s_l14Fine (ints G) (ints S) (ints Z) = some (boxOk G S Z) := by
  have hl := lim_lt hS
  have key := loop_any (rd := f_s_l14Fine_r0 (ints S) (ints Z) (ints G)) (fun k => (k : Int)) S.length (boxBad G S Z) (a := ()) (b := ()) (fun k hk => by
    simp only [f_s_l14Fine_r0, f_s_l14Fine_k0, ints_length, lt_dec hk, ok_nat hk, at_nat, br_true, s_l2Is_eq _ _ h, bo_some, s_l1In_eq, w64_nat (by omega : k < 9223372036854775807)]
    unfold boxBad
    cases hasG G (S.getD k 0) with
    | false => rfl
    | true =>
      by_cases hz : Z.length ≤ k
      · have : decide ((k : Int) ≥ (Z.length : Int)) = true := decide_eq_true (by omega)
        rw [this, decide_eq_true hz]; rfl
      · have : decide ((k : Int) ≥ (Z.length : Int)) = false := decide_eq_false (by omega)
        rw [this, decide_eq_false hz, ok_nat (by omega)]
        cases inB (Z.getD k 0) 1 24 <;> rfl) (by
    simp only [f_s_l14Fine_r0, f_s_l14Fine_k0, ints_length, lt_dec_self, br_false])
  have key : loopL (f_s_l14Fine_r0 (ints S) (ints Z) (ints G)) 0 = if (List.range S.length).any (boxBad G S Z) then some (.two ()) else some (.one ()) := key
  simp only [f_s_l14Fine, f_s_l14Fine_k, key, s_IsGroup_eq _ h, bo_some, ints_length]
  unfold boxOk
  cases (List.range S.length).any (boxBad G S Z) with
  | true => rfl
  | false =>
    cases isG G with
    | false => rfl
    | true =>
      by_cases e : S.length = Z.length
      · have e1 : ((S.length : Int) == (Z.length : Int)) = true := by simp [e]
        have e2 : decide ((S.length : Int) ≤ 3) = decide (S.length ≤ 3) := by
          by_cases h3 : S.length ≤ 3
          · rw [decide_eq_true h3]; exact decide_eq_true (by omega)
          · rw [decide_eq_false h3]; exact decide_eq_false (by omega)
        rw [decide_eq_true e]
        simp only [e1, e2]; rfl
      · have e1 : ((S.length : Int) == (Z.length : Int)) = false := by
          have : ¬ ((S.length : Int) = (Z.length : Int)) := by omega
          simpa using this
        rw [decide_eq_false e]
        simp only [e1]; rfl
theorem s_box_eq {g : List Nat} (v : VG g) {S Z : List Int} (hok : ∀ k, k < S.length → boxBad (natsI g) S Z k = false) (hS : S.length ≤ 3) : f_s_l14Box (ints (natsI g)) (ints S) (ints Z) = some ((boxN g S Z S.length : Nat) : Int) := by
  have h1 := ordN_pos v.each
  have key := loop_count (rd := f_s_l14Box_r0 (ints S) (ints Z) (ints (natsI g))) (fun k => (((boxN g S Z k : Nat) : Int), (k : Int))) S.length (a := ((boxN g S Z S.length : Nat) : Int)) (fun k hk => by
    obtain ⟨s, z, e1, hs, hzl, e2, hz1, hz2⟩ := box_good v (hok k hk)
    have hp := s_prog_eq v (x := 0) (by omega) hs hz2
    rw [show ((0 : Nat) : Int) = 0 from rfl] at hp
    simp only [f_s_l14Box_r0, f_s_l14Box_k0, ints_length, lt_dec hk, ok_nat hk, ok_nat hzl, at_nat, br_true, e1, e2, hp, bo_some, s_l4Sum_eq v (boxN_lt v S Z k) (progN_snd v (by omega : 0 < ordN g) s z), w64_nat (by omega : k < 9223372036854775807), boxN, Int.toNat_natCast]
    rw [sumN_comm]) (by
    simp only [f_s_l14Box_r0, f_s_l14Box_k0, ints_length, lt_dec_self, br_false]) 0 (Nat.zero_le _)
  have key : loopL (f_s_l14Box_r0 (ints S) (ints Z) (ints (natsI g))) (1, 0) = some (.one ((boxN g S Z S.length : Nat) : Int)) := key
  simp only [f_s_l14Box, f_s_l14Box_k, key, bl1_one]
theorem i_BoxOf_eq (G S Z : List Int) (h : G.length ≤ lim) : f_i_BoxOf (ints G) (ints S) (ints Z) = some (if boxOk G S Z then (((boxN (G.map Int.toNat) S Z S.length : Nat) : Int), true) else (0, false)) := by
  simp only [f_i_BoxOf, f_i_BoxOf_k, i_IsGroup_eq _ h, bo_some, ints_length]
  unfold boxOk
  cases hg : isG G with
  | false => rw [Bool.false_and, Bool.and_false]; rfl
  | true =>
    obtain ⟨g, rfl, v⟩ := nat_of_isG hg
    rw [toNat_natsI]
    by_cases e : S.length = Z.length
    · have e1 : ((S.length : Int) != (Z.length : Int)) = false := by simp [e]
      rw [decide_eq_true e]
      by_cases h3 : S.length ≤ 3
      · have e2 : decide ((S.length : Int) > 3) = false := decide_eq_false (by omega)
        rw [decide_eq_true h3]
        have h1 := ordN_pos v.each
        have key := loop_find (rd := f_i_BoxOf_r0 (ints Z) (ints (natsI g)) (ints S) (S.length : Int)) (fun k => (((boxN g S Z k : Nat) : Int), (k : Int))) S.length (boxBad (natsI g) S Z) (fun _ => ()) (a := ((boxN g S Z S.length : Nat) : Int)) (fun k hk => by
          simp only [f_i_BoxOf_r0, f_i_BoxOf_k0, lt_dec hk, ok_nat hk, at_nat, br_true, i_has_eq _ _ h, bo_some, i_within_eq, ok_nat (show k < Z.length by omega)]
          cases hb : boxBad (natsI g) S Z k with
          | true =>
            unfold boxBad at hb
            rw [decide_eq_false (show ¬ Z.length ≤ k by omega)] at hb
            cases h1 : hasG (natsI g) (S.getD k 0) with
            | false => rfl
            | true =>
              rw [h1] at hb
              have : inB (Z.getD k 0) 1 24 = false := by simpa using hb
              rw [this]; rfl
          | false =>
            obtain ⟨s, z, e1, hs, hzl, e2, hz1, hz2⟩ := box_good v hb
            have e3 : inB (z : Int) 1 24 = true := by simp [inB]; omega
            have e4 : hasG (natsI g) (s : Int) = true := (v.has _).2 ⟨s, rfl, hs⟩
            have hp := i_prog_eq v (x := 0) (by omega) hs hz2
            rw [show ((0 : Nat) : Int) = 0 from rfl] at hp
            simp only [e1, e2, e3, e4, hp, bo_some, i_sum_eq v (boxN_lt v S Z k) (progN_snd v (by omega : 0 < ordN g) s z), w64_nat (by omega : k < 9223372036854775807), boxN, Int.toNat_natCast]
            rfl) (by
          simp only [f_i_BoxOf_r0, f_i_BoxOf_k0, lt_dec_self, br_false])
        have key : loopL (f_i_BoxOf_r0 (ints Z) (ints (natsI g)) (ints S) (S.length : Int)) (1, 0) = _ := key
        simp only [e1, e2, key]
        cases hf : (List.range S.length).find? (boxBad (natsI g) S Z) with
        | none =>
          have : (List.range S.length).any (boxBad (natsI g) S Z) = false := by
            rw [List.find?_eq_none] at hf
            rw [List.any_eq_false]
            exact hf
          rw [this]; rfl
        | some k =>
          have : (List.range S.length).any (boxBad (natsI g) S Z) = true := List.any_eq_true.2 ⟨k, List.mem_of_find?_eq_some hf, List.find?_some hf⟩
          rw [this]; rfl
      · have e2 : decide ((S.length : Int) > 3) = true := decide_eq_true (by omega)
        rw [decide_eq_false h3]
        simp only [e1, e2, Bool.and_false]; rfl
    · have e1 : ((S.length : Int) != (Z.length : Int)) = true := by
        have : ¬ ((S.length : Int) = (Z.length : Int)) := by omega
        simpa using this
      rw [decide_eq_false e]
      simp only [e1, Bool.and_false, Bool.false_and]; rfl
theorem cap_mono : ∀ (Z : List Int) (p c : Int), (∀ z ∈ Z, 1 ≤ z ∧ z ≤ 24) → 1 ≤ c → (c = p ∨ c = 1000 ∧ 1000 ≤ p) → p * 24 ^ Z.length ≤ 1000000000 →
    Z.foldl (fun n s => if w64 (n * s) < 1000 then w64 (n * s) else 1000) c = Z.foldl (fun n s => w64 (n * s)) p ∨ Z.foldl (fun n s => if w64 (n * s) < 1000 then w64 (n * s) else 1000) c = 1000 ∧ 1000 ≤ Z.foldl (fun n s => w64 (n * s)) p
  | [], p, c, _, _, h, _ => h
  | z :: Z, p, c, hz, hc, h, hb => by
    obtain ⟨z1, z2⟩ := hz z (by simp)
    have hp1 : 1 ≤ p := by omega
    have hpos : (1 : Int) ≤ 24 ^ Z.length := by have := Int.pow_pos (n := (24 : Int)) (m := Z.length) (by decide); omega
    rw [List.length_cons, Int.pow_succ] at hb
    have hpz : p * z * 24 ^ Z.length ≤ p * (24 ^ Z.length * 24) := by
      rw [Int.mul_assoc, Int.mul_comm (24 ^ Z.length) 24]
      exact Int.mul_le_mul_of_nonneg_left (Int.mul_le_mul_of_nonneg_right z2 (by omega)) (by omega)
    have hpz1 : p * z ≤ p * z * 24 ^ Z.length := by
      have h0 : 0 ≤ p * z := Int.mul_nonneg (by omega) (by omega)
      have := Int.mul_le_mul_of_nonneg_left hpos h0
      rwa [Int.mul_one] at this
    have hpp : p ≤ p * z := by
      have := Int.mul_le_mul_of_nonneg_left z1 (show 0 ≤ p by omega)
      rwa [Int.mul_one] at this
    have hcz : c ≤ c * z := by
      have := Int.mul_le_mul_of_nonneg_left z1 (show 0 ≤ c by omega)
      rwa [Int.mul_one] at this
    have ew : w64 (p * z) = p * z := w64_in (by omega) (by omega)
    rw [List.foldl_cons, List.foldl_cons, ew]
    refine cap_mono Z (p * z) _ (fun y hy => hz y (by simp [hy])) ?_ ?_ (by omega)
    · rcases h with rfl | ⟨rfl, h2⟩
      · rw [ew]; split <;> omega
      · have : w64 (1000 * z) = 1000 * z := w64_in (by omega) (by omega)
        rw [this]; split <;> omega
    · rcases h with rfl | ⟨rfl, h2⟩
      · rw [ew]; split <;> omega
      · have : w64 (1000 * z) = 1000 * z := w64_in (by omega) (by omega)
        rw [this]; split <;> omega
theorem IsProperBox_both (G S Z : List Int) (h : G.length ≤ lim) (hS : S.length ≤ lim) (hZ : Z.length ≤ lim) : ∃ r, f_s_IsProperBox (ints G) (ints S) (ints Z) = some r ∧ f_i_IsProperBox (ints G) (ints S) (ints Z) = some r := by
  have hl := lim_lt hZ
  have k1 := loop_fold (rd := f_s_IsProperBox_r0 (ints S) (ints Z) (ints G)) Z (fun n s => if w64 (n * s) < 1000 then w64 (n * s) else 1000) id 1 (fun k t hk => by
    simp only [f_s_IsProperBox_r0, f_s_IsProperBox_k0, ints_length, lt_dec hk, ok_nat hk, at_nat, br_true, w64_nat (by omega : k < 9223372036854775807)])
    (fun t => by simp only [f_s_IsProperBox_r0, f_s_IsProperBox_k0, ints_length, lt_dec_self, br_false, id])
  have k2 := fun a b => loop_fold (rd := f_i_IsProperBox_r0 a b (ints Z) (Z.length : Int)) Z (fun n s => w64 (n * s)) id 1 (fun k t hk => by
    simp only [f_i_IsProperBox_r0, f_i_IsProperBox_k0, lt_dec hk, ok_nat hk, at_nat, br_true, w64_nat (by omega : k < 9223372036854775807)])
    (fun t => by simp only [f_i_IsProperBox_r0, f_i_IsProperBox_k0, lt_dec_self, br_false, id])
  simp only [id] at k1 k2
  simp only [f_s_IsProperBox, f_s_IsProperBox_k, f_i_IsProperBox, f_i_IsProperBox_k, s_fine_eq G S Z h hS, i_BoxOf_eq G S Z h, bo_some, k1, k2, bl1_one, ints_length]
  cases hb : boxOk G S Z with
  | false => exact ⟨_, rfl, rfl⟩
  | true =>
    unfold boxOk at hb
    simp only [Bool.and_eq_true, Bool.not_eq_true', decide_eq_true_eq] at hb
    obtain ⟨h1, h2, h3, h4⟩ := hb
    obtain ⟨g, rfl, v⟩ := nat_of_isG h2
    rw [List.any_eq_false] at h1
    have hgood : ∀ k, k < S.length → boxBad (natsI g) S Z k = false := fun k hk => by
      have := h1 k (List.mem_range.2 hk)
      simpa using this
    have hlt := set_i64 v (boxN_lt v S Z S.length)
    rw [toNat_natsI]
    simp only [s_box_eq v hgood h4, bo_some, s_l3Bits_eq hlt, if_pos, i_bits_eq hlt, Bool.not_true, br_false, BEq.rfl, br_true]
    have hz : ∀ z ∈ Z, 1 ≤ z ∧ z ≤ 24 := by
      intro z hz
      obtain ⟨k, hk, rfl⟩ := List.getElem_of_mem hz
      obtain ⟨s, z, e1, hs, hzl, e2, hz1, hz2⟩ := box_good v (hgood k (by omega))
      have : Z.getD k 0 = Z[k] := by simp [List.getD, List.getElem?_eq_getElem hk]
      omega
    have hpow : (1 : Int) * 24 ^ Z.length ≤ 1000000000 := by
      have h3' : Z.length ≤ 3 := by omega
      have : Z.length = 0 ∨ Z.length = 1 ∨ Z.length = 2 ∨ Z.length = 3 := by omega
      rcases this with e | e | e | e <;> rw [e] <;> decide
    have hpop := popN_le (boxN g S Z S.length)
    have hfin : ∀ c d : Int, (c = d ∨ c = 1000 ∧ 1000 ≤ d) → ((((popN (boxN g S Z S.length) : Nat) : Int) == c) = (((popN (boxN g S Z S.length) : Nat) : Int) == d)) := by
      intro c d hcd
      rcases hcd with rfl | ⟨rfl, hd⟩
      · rfl
      · have a1 : ¬ (((popN (boxN g S Z S.length) : Nat) : Int) = 1000) := by omega
        have a2 : ¬ (((popN (boxN g S Z S.length) : Nat) : Int) = d) := by omega
        rw [beq_false_of_ne a1, beq_false_of_ne a2]
    rw [hfin _ _ (cap_mono Z 1 1 hz (by decide) (.inl rfl) hpow)]
    exact ⟨_, rfl, rfl⟩
end Go.Proofs.Ytphbclogflflmaa
