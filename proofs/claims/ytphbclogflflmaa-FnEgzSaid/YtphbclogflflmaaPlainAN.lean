/-
  PlainAN: FnEgz.
-/
import Derived.Test.YtphbclogflflmaaPlainAM
import Derived.Test.YtphbclogflflmaaPlainAC
import Derived.Test.YtphbclogflflmaaPlainAK
set_option linter.unusedVariables false
set_option linter.unusedSimpArgs false
namespace Go.Proofs.Ytphbclogflflmaa
open Go Ev

theorem natsI_inj : ∀ {a b : List Nat}, natsI a = natsI b → a = b := by
  intro a
  induction a with
  | nil => intro b e; cases b with
    | nil => rfl
    | cons y b => cases e
  | cons x a ih => intro b e; cases b with
    | nil => cases e
    | cons y b =>
      simp only [natsI, List.map_cons, List.cons.injEq] at e
      rw [Int.ofNat.inj e.1, ih e.2]
/-! ### Sorted sequences -/
theorem asc_of_at : ∀ (l : List Nat) (a : Nat), (∀ k, k < l.length → (if k = 0 then a else l.getD (k - 1) 0) ≤ l.getD k 0) → AscF a l
  | [], _, _ => trivial
  | x :: l, a, h => by
    refine ⟨by simpa using h 0 (by simp), asc_of_at l x fun k hk => ?_⟩
    have := h (k + 1) (by simpa using hk)
    rw [if_neg (by omega), Nat.add_sub_cancel] at this
    cases k with
    | zero => simpa using this
    | succ k => rw [if_neg (by omega), Nat.add_sub_cancel]; simpa using this
theorem asc_of_seq {G : List Int} {l : List Nat} (hs : isSeq G (natsI l) = true) : AscF 0 l := by
  unfold isSeq at hs
  simp only [Bool.and_eq_true] at hs
  have hb := hs.2.2.2
  unfold sortedB at hb
  rw [Bool.not_eq_true', List.any_eq_false] at hb
  refine asc_of_at l 0 fun k hk => ?_
  by_cases h0 : k = 0
  · rw [if_pos h0]; exact Nat.zero_le _
  · rw [if_neg h0]
    have := hb k (List.mem_range.2 (by rw [natsI_length]; exact hk))
    unfold downAt at this
    rw [natsI_getD, natsI_getD, decide_eq_true (show k > 0 by omega), Bool.true_and, decide_eq_true_eq] at this
    omega
theorem asc_weak : ∀ (l : List Nat) (a b : Nat), a ≤ b → AscF b l → AscF a l
  | [], _, _, _, _ => trivial
  | x :: l, a, b, h, hl => ⟨Nat.le_trans h hl.1, hl.2⟩
theorem asc_sub {s l : List Nat} (h : s.Sublist l) : ∀ a, AscF a l → AscF a s := by
  induction h with
  | slnil => intro a h; exact h
  | cons x _ ih => intro a h; exact ih a (asc_weak _ a x h.1 h.2)
  | cons_cons x _ ih => intro a h; exact ⟨h.1, ih x h.2⟩
theorem seq_sub {g l s : List Nat} (v : VS g l) (hs : isSeq (natsI g) (natsI l) = true) (h : s.Sublist l) : isSeq (natsI g) (natsI s) = true :=
  seq_of_asc v.grp (fun x hx => v.each x (h.subset hx)) (Nat.le_trans h.length_le v.len) (asc_sub h 0 (asc_of_seq hs))
theorem vs_sub {g l s : List Nat} (v : VS g l) (h : s.Sublist l) : VS g s := ⟨v.grp, fun x hx => v.each x (h.subset hx), Nat.le_trans h.length_le v.len⟩
theorem i_IsZeroSum_eq {g l : List Nat} (v : VS g l) (hs : isSeq (natsI g) (natsI l) = true) : f_i_IsZeroSum (ints (natsI g)) (ints (natsI l)) = some (decide (totN g l = 0)) := by
  simp only [f_i_IsZeroSum, f_i_IsZeroSum_k, i_IsSequence_eq _ _ v.grp.lim (show (natsI l).length ≤ lim by rw [natsI_length]; exact v.lim), hs, bo_some, BEq.rfl, br_true, i_total_eq v.grp v.each v.lim, zero_dec]
/-! ### EgzPart -/
def fineE (L : List Int) (p1 : Int) : Bool := inB p1 1 6 && (inB (L.length : Int) (w64 ((w64 (2 * p1)) - 1)) 12 && L.all fun x => inB x (-1000000) 1000000)
theorem EgzPart_more (L : List Int) (p1 : Int) (hL : L.length ≤ lim) : ∃ R b, f_s_EgzPart (ints L) p1 = some (ints R, b) ∧ f_i_EgzPart (ints L) p1 = some (ints R, b) ∧ R.length ≤ 12 ∧ b = fineE L p1 ∧ (b = true → 1 ≤ p1 ∧ (R.length : Int) = p1 ∧ (sumL R).tmod p1 = 0) := by
  simp only [f_s_EgzPart, f_s_EgzPart_k, f_i_EgzPart, f_i_EgzPart_k, s_l1In_eq, i_within_eq, bo_some, ints_length, fineE]
  rcases two_of (inB p1 1 6) with h1 | h1
  · simp only [h1]
    rcases two_of (inB (L.length : Int) (w64 ((w64 (2 * p1)) - 1)) 12) with h2 | h2
    · simp only [h2]
      have hp : 1 ≤ p1 ∧ p1 ≤ 6 := by simpa [inB] using h1
      obtain ⟨p, rfl⟩ : ∃ p : Nat, p1 = p := ⟨p1.toNat, by omega⟩
      have ew : w64 ((w64 (2 * (p : Int))) - 1) = 2 * (p : Int) - 1 := by
        have e1 : w64 (2 * (p : Int)) = 2 * (p : Int) := w64_in (by omega) (by omega)
        rw [e1]
        exact w64_in (by omega) (by omega)
      have hlow : 2 * p - 1 ≤ L.length := by
        have h3 := h2
        rw [ew] at h3
        simp only [inB, Bool.and_eq_true, decide_eq_true_eq] at h3
        omega
      have hlen : L.length ≤ 12 := by
        simp only [inB, Bool.and_eq_true, decide_eq_true_eq] at h2
        omega
      have r1 := rng_loop hlen (rd := f_s_EgzPart_r0 (ints L) (p : Int)) (fun k hk => by
        simp only [f_s_EgzPart_r0, f_s_EgzPart_k0, ints_length, lt_dec hk, ok_nat hk, at_nat, s_l1In_eq, bo_some, br_true, w64_nat (show k < 9223372036854775807 by omega)]
        rcases two_of (inB (L.getD k 0) (-1000000) 1000000) with h | h <;> simp only [h] <;> rfl) (by simp only [f_s_EgzPart_r0, f_s_EgzPart_k0, ints_length, lt_dec_self, br_false])
      have r2 := rng_loop hlen (rd := f_i_EgzPart_r0 (ints L) (p : Int) (ints L) (L.length : Int)) (fun k hk => by
        simp only [f_i_EgzPart_r0, f_i_EgzPart_k0, ints_length, lt_dec hk, ok_nat hk, at_nat, i_within_eq, bo_some, br_true, w64_nat (show k < 9223372036854775807 by omega)]
        rcases two_of (inB (L.getD k 0) (-1000000) 1000000) with h | h <;> simp only [h] <;> rfl) (by simp only [f_i_EgzPart_r0, f_i_EgzPart_k0, lt_dec_self, br_false])
      rw [r1, r2]
      have hra : (List.range L.length).any (fun k => !inB (L.getD k 0) (-1000000) 1000000) = !L.all (fun x => inB x (-1000000) 1000000) := by
        rw [range_any L (fun x => !inB x (-1000000) 1000000), List.not_all_eq_any_not]
      rw [hra]
      cases hany : L.all (fun x => inB x (-1000000) 1000000) with
      | false => exact ⟨[], false, rfl, rfl, by simp, rfl, by simp⟩
      | true =>
        obtain ⟨m, hm⟩ : ∃ m, 2 ^ L.length = m + 1 := ⟨2 ^ L.length - 1, by have := Nat.two_pow_pos L.length; omega⟩
        have h12 : 2 ^ L.length ≤ 2 ^ 12 := Nat.pow_le_pow_right (by decide) hlen
        have q1 := loop_find (rd := f_s_EgzPart_r2 (ints L) (p : Int)) (fun k => ((k + 1 : Nat) : Int)) m (fun k => goodE L p (k + 1)) (fun k => ints (subL L (k + 1) L.length)) (a := ((m + 1 : Nat) : Int)) (fun k hk => s_step hlen (by omega) (by omega)) (by
          have e1 : decide (((m + 1 : Nat) : Int) < shl64 1 (L.length : Int)) = false := by rw [shl1_nat (by omega), hm]; simp
          simp only [f_s_EgzPart_r2, f_s_EgzPart_k2, ints_length, neg_dec, e1, br_false])
        have q2 := loop_find (rd := f_i_EgzPart_r2 (ints L) (p : Int) (shl64 1 (L.length : Int))) (fun k => (k : Int)) (m + 1) (goodE L p) (fun k => ints (subL L k L.length)) (a := ((m + 1 : Nat) : Int)) (fun k hk => i_step hlen (by omega) (by omega)) (by
          have e1 : decide (((m + 1 : Nat) : Int) < shl64 1 (L.length : Int)) = false := by rw [shl1_nat (by omega), hm]; simp
          simp only [f_i_EgzPart_r2, f_i_EgzPart_k2, e1, br_false])
        have g0 : goodE L p 0 = false := by
          have : subL L 0 L.length = [] := by simp [subL]
          unfold goodE
          rw [this]
          have : ¬ (0 = p) := by omega
          simp [this]
        rw [find_shift _ _ g0] at q2
        have e1 : ((0 + 1 : Nat) : Int) = 1 := rfl
        have e2 : ((0 : Nat) : Int) = 0 := rfl
        rw [e1] at q1
        rw [e2] at q2
        cases hf : (List.range m).find? fun k => goodE L p (k + 1) with
        | none =>
          exfalso
          obtain ⟨t, ht, htl, hts⟩ := egz (by omega : 1 ≤ p) (by omega) L hlow
          obtain ⟨c, hc, hce⟩ := sub_codeI L t ht
          have hin : ∀ x ∈ t, -(1000000 : Int) ≤ x ∧ x ≤ 1000000 := fun x hx => by
            have := List.all_eq_true.1 hany x (ht.subset hx)
            simp only [inB, Bool.and_eq_true, decide_eq_true_eq] at this
            omega
          have hsum : sumL t = t.sum := by
            have := sumL_in t 0 1000000 rfl hin (by omega) (by omega) (by omega)
            rw [Int.zero_add] at this
            exact this
          have hg : goodE L p c = true := by
            unfold goodE
            rw [hce, decide_eq_true htl, hsum, Int.tmod_eq_zero_of_dvd (Int.dvd_of_emod_eq_zero hts)]
            rfl
          have hc0 : c ≠ 0 := by
            intro e
            rw [e, g0] at hg
            cases hg
          obtain ⟨k, rfl⟩ : ∃ k, c = k + 1 := ⟨c - 1, by omega⟩
          exact List.find?_eq_none.1 hf k (List.mem_range.2 (by omega)) hg
        | some k =>
          have hg := List.find?_some (p := fun k => goodE L p (k + 1)) hf
          simp only [goodE, Bool.and_eq_true, decide_eq_true_eq, beq_iff_eq] at hg
          rw [hf] at q1 q2
          refine ⟨subL L (k + 1) L.length, true, ?_, ?_, Nat.le_trans (subL_length _ _ _) hlen, rfl, fun _ => ⟨by omega, by omega, hg.2⟩⟩
          · rw [q1]; rfl
          · simp only [neg_dec]
            rw [q2]; rfl
    · simp only [h2]
      exact ⟨[], false, rfl, rfl, by simp, rfl, by simp⟩
  · simp only [h1]
    exact ⟨[], false, rfl, rfl, by simp, rfl, by simp⟩
theorem l_total_eq (A : List Int) (h : A.length ≤ lim) : f_l_total (ints A) = some (sumL A) := by
  have hl := lim_lt h
  have key := loop_fold (rd := f_l_total_r0 (ints A)) A (fun s x => w64 (s + x)) id 0 (fun k t hk => by
    simp only [f_l_total_r0, f_l_total_k0, ints_length, lt_dec hk, ok_nat hk, at_nat, br_true, w64_nat (show k < 9223372036854775807 by omega)])
    (fun t => by simp only [f_l_total_r0, f_l_total_k0, ints_length, lt_dec_self, br_false, id])
  simp only [f_l_total, f_l_total_k, key, bl1_one, id]
  rfl
/-! ### ZeroOfLength -/
theorem ZeroOfLength_more (G L : List Int) (k2 : Int) (h : G.length ≤ lim) (hL : L.length ≤ lim) : ∃ R b, f_s_ZeroOfLength (ints G) (ints L) k2 = some (ints R, b) ∧ f_i_ZeroOfLength (ints G) (ints L) k2 = some (ints R, b) ∧ R.length ≤ 12 ∧
    (b = true → ∃ g l k c, G = natsI g ∧ L = natsI l ∧ k2 = ((k : Nat) : Int) ∧ VS g l ∧ isSeq G L = true ∧ c < 2 ^ l.length ∧ goodZ g l k c = true ∧ R = natsI (subN l c l.length)) := by
  simp only [f_s_ZeroOfLength, f_s_ZeroOfLength_k, f_i_ZeroOfLength, f_i_ZeroOfLength_k, s_IsSequence_eq G L h hL, i_IsSequence_eq G L h hL, s_l1In_eq, i_within_eq, bo_some, ints_length]
  cases hs : isSeq G L with
  | false => exact ⟨[], false, rfl, rfl, by simp, by simp⟩
  | true =>
    cases hk : inB k2 1 (L.length : Int) with
    | false => exact ⟨[], false, rfl, rfl, by simp, by simp⟩
    | true =>
      obtain ⟨g, l, rfl, rfl, v⟩ := nat_of_isSeq hs
      rw [natsI_length] at hk
      have hk' : 1 ≤ k2 ∧ k2 ≤ (l.length : Int) := by simpa [inB] using hk
      obtain ⟨k, rfl⟩ : ∃ k : Nat, k2 = k := ⟨k2.toNat, by omega⟩
      have hlen := v.len
      obtain ⟨m, hm⟩ : ∃ m, 2 ^ l.length = m + 1 := ⟨2 ^ l.length - 1, by have := Nat.two_pow_pos l.length; omega⟩
      have e9 : decide (((m + 1 : Nat) : Int) < shl64 1 (l.length : Int)) = false := by rw [shl1_nat (by omega), hm]; simp
      have q1 := loop_find (rd := f_s_ZeroOfLength_r0 (ints (natsI l)) (k : Int) (ints (natsI g))) (fun c => ((c + 1 : Nat) : Int)) m (fun c => goodZ g l k (c + 1)) (fun c => ints (natsI (subN l (c + 1) l.length))) (a := ()) (fun c hc => s_zol_step v k (by omega)) (by
        simp only [f_s_ZeroOfLength_r0, f_s_ZeroOfLength_k0, ints_length, natsI_length, neg_dec, e9, br_false])
      have q2 := loop_find (rd := f_i_ZeroOfLength_r0 (ints (natsI l)) (k : Int) (ints (natsI g)) (shl64 1 (l.length : Int))) (fun c => (c : Int)) (m + 1) (goodZ g l k) (fun c => ints (natsI (subN l c l.length))) (a := ()) (fun c hc => i_zol_step v k (by omega)) (by
        simp only [f_i_ZeroOfLength_r0, f_i_ZeroOfLength_k0, e9, br_false])
      have g0 : goodZ g l k 0 = false := by
        have : ¬ (popN 0 = k) := by rw [show popN 0 = 0 from pcn_zero 63]; omega
        unfold goodZ
        rw [decide_eq_false this]
        rfl
      rw [find_shift _ _ g0] at q2
      have e1 : ((0 + 1 : Nat) : Int) = 1 := rfl
      have e2 : ((0 : Nat) : Int) = 0 := rfl
      rw [e1] at q1
      rw [e2] at q2
      simp only [natsI_length, neg_dec]
      cases hf : (List.range m).find? fun c => goodZ g l k (c + 1) with
      | none =>
        rw [hf] at q1 q2
        refine ⟨[], false, ?_, ?_, by simp, by simp⟩
        · rw [q1]; rfl
        · rw [q2]; rfl
      | some c =>
        have hg := List.find?_some (p := fun c => goodZ g l k (c + 1)) hf
        have hc := List.mem_range.1 (List.mem_of_find?_eq_some hf)
        rw [hf] at q1 q2
        refine ⟨natsI (subN l (c + 1) l.length), true, ?_, ?_, by rw [natsI_length]; exact Nat.le_trans (subN_length _ _ _) hlen, fun _ => ⟨g, l, k, c + 1, rfl, rfl, rfl, v, trivial, by omega, hg, rfl⟩⟩
        · rw [q1]; rfl
        · rw [q2]; rfl
theorem good_facts {g l : List Nat} {k c : Nat} (v : VS g l) (hs : isSeq (natsI g) (natsI l) = true) (hc : c < 2 ^ l.length) (hg : goodZ g l k c = true) :
    (subN l c l.length).length = k ∧ f_i_IsZeroSum (ints (natsI g)) (ints (natsI (subN l c l.length))) = some true := by
  simp only [goodZ, Bool.and_eq_true, decide_eq_true_eq] at hg
  have h1 := subL_pop (natsI l) hc (by have := v.len; omega)
  rw [subN_natsI, natsI_length, hg.1] at h1
  have hsub := subN_sub l c
  rw [i_IsZeroSum_eq (vs_sub v hsub) (seq_sub v hs hsub), decide_eq_true hg.2]
  exact ⟨h1, rfl⟩
/-! ### EgzExample -/
def chkG (g : List Nat) : Bool := Nat.blt 5 (ordN g) || ((List.range (2 ^ (egzN g).length)).all (fun c => !goodZ g (egzN g) (expN g) c) && (Nat.ble 2 g.length || Nat.beq ((egzN g).length + 1) (2 * ordN g - 1)))
set_option maxRecDepth 100000 in
theorem chkG_all : (allG.all chkG) = true := by decide +kernel
theorem egzN_len (g : List Nat) : (egzN g).length ≤ 13 := by
  unfold egzN
  rcases fold_lb_mem (egT g 13 [] 0) [] with h | h
  · rw [h]; exact Nat.zero_le _
  · have := egT_len g 13 [] 0 _ h
    simpa using this
theorem EgzExample_more (G : List Int) (h : G.length ≤ lim) : (f_s_EgzExample (ints G) = some ([], false) ∧ f_i_EgzExample (ints G) = some ([], false)) ∨
    ∃ g, G = natsI g ∧ VG g ∧ ordN g ≤ 5 ∧ f_s_EgzExample (ints G) = some (ints (natsI (egzN g)), true) ∧ f_i_EgzExample (ints G) = some (ints (natsI (egzN g)), true) := by
  simp only [f_s_EgzExample, f_s_EgzExample_k, f_i_EgzExample, f_i_EgzExample_k, s_IsGroup_eq G h, i_IsGroup_eq G h, s_l2Order_eq G h, i_OrderOf_eq G h, bo_some]
  cases hg : isG G with
  | false => exact .inl ⟨rfl, rfl⟩
  | true =>
    obtain ⟨g, rfl, v⟩ := nat_of_isG hg
    rw [v.ordS, v.ordG]
    by_cases h9 : ((ordN g : Nat) : Int) > 5
    · rw [decide_eq_true h9]
      exact .inl ⟨rfl, rfl⟩
    · rw [decide_eq_false h9]
      have h5 : ordN g ≤ 5 := by omega
      have ev : EV g [] := ⟨by simp, trivial, by simp⟩
      have hh : hasE g [] = false := by
        unfold hasE
        rw [lenN_big g [] _ (expN_pos v)]
        rfl
      have e1 := limF_le l18_le (s_l18_fuel v h5 12 [] ev hh (by simp))
      have e2 := limF_le egz_le (i_egz_fuel v h5 13 [] [] ev (by simp))
      have et : egT g 13 [] 0 = [] :: (List.range' 0 (ordN g - 0)).flatMap fun x => egT g 12 ([] ++ [x]) x := if_neg (by rw [hh]; simp)
      have e1' : f_s_l18Longest (ints (natsI g)) [] ((expN g : Nat) : Int) 0 = some (ints (natsI (egzN g))) := by
        unfold egzN
        rw [et, List.foldl_cons]
        exact e1
      have e2' : f_i_EgzExample_1 [] (ints (natsI g)) ((expN g : Nat) : Int) [] (ints (natsI g)) = some (((expN g : Nat) : Int), ints (natsI (egzN g)), ints (natsI g)) := e2
      refine .inr ⟨g, rfl, v, h5, ?_, ?_⟩
      · simp only [s_exp_eq v, e1', bo_some]; rfl
      · simp only [i_exp_eq v, e2', bo_some]; rfl
/-! ### WeightedZero -/
theorem preW_at : ∀ (n c i : Nat), i < n → (preW n c).getD i 0 = sgnW (c / 3 ^ (n - 1 - i) % 3)
  | 0, _, _, h => by omega
  | n + 1, c, i, h => by
    rw [preW]
    by_cases hi : i = n
    · subst hi
      rw [List.getD_eq_getElem?_getD, List.getElem?_append_right (by rw [preW_len]; exact Nat.le_refl _), preW_len, Nat.sub_self]
      simp
    · rw [List.getD_eq_getElem?_getD, List.getElem?_append_left (by rw [preW_len]; omega), ← List.getD_eq_getElem?_getD, preW_at n (c / 3) i (by omega), Nat.div_div_eq_div_mul]
      congr 3
      rw [show n + 1 - 1 - i = (n - 1 - i) + 1 by omega, Nat.pow_succ, Nat.mul_comm]
theorem sgn_cases (x : Nat) : sgnW x = 0 ∨ sgnW x = 1 ∨ sgnW x = -1 := by
  unfold sgnW
  split
  · exact .inl rfl
  · split
    · exact .inr (.inl rfl)
    · exact .inr (.inr rfl)
theorem s_MultipleOf_sgn {g : List Nat} (v : VG g) {a : Nat} (ha : a < ordN g) {w : Int} (hw : w = 0 ∨ w = 1 ∨ w = -1) : f_s_MultipleOf (ints (natsI g)) (a : Int) w = some ((mulN g a w : Nat) : Int) := by
  have o24 := v.ord
  have o1 := ordN_pos v.each
  have hh : hasG (natsI g) (a : Int) = true := (v.has _).2 ⟨a, rfl, ha⟩
  have hb : inB w (-100) 100 = true := by rcases hw with rfl | rfl | rfl <;> rfl
  have stop : ∀ (x : Int) (z : Int) (i : Int), loopL (f_s_MultipleOf_r0 x i (ints (natsI g))) (z, i) = some (.one z) := fun x z i => loopL_one (by
    have : decide (i < i) = false := decide_eq_false (by omega)
    simp only [f_s_MultipleOf_r0, f_s_MultipleOf_k0, this, br_false])
  have one : ∀ (x : Nat), x < ordN g → loopL (f_s_MultipleOf_r0 (x : Int) 1 (ints (natsI g))) (0, 0) = some (.one ((addN g 0 x : Nat) : Int)) := fun x hx => by
    have e := s_l2Add_eq v (x := 0) (y := x) (by omega) (by omega)
    have e' : f_s_l2Add (ints (natsI g)) 0 (x : Int) = some ((addN g 0 x : Nat) : Int) := e
    rw [loopL_again (s' := (((addN g 0 x : Nat) : Int), 1)) (by
      have d : decide ((0 : Int) < 1) = true := by decide
      have w1 : w64 (0 + 1) = 1 := by decide
      simp only [f_s_MultipleOf_r0, f_s_MultipleOf_k0, d, br_true, e', bo_some, w1])]
    exact stop _ _ 1
  simp only [f_s_MultipleOf, f_s_MultipleOf_k, s_l2Is_eq _ _ v.lim, hh, bo_some, Bool.not_true, BEq.rfl, br_true, s_l1In_eq, hb, br_false]
  rcases hw with rfl | rfl | rfl
  · have d : decide ((0 : Int) < 0) = false := by decide
    have := stop (a : Int) 0 0
    simp only [d, br_false, this, bl1_one]
    rfl
  · have d : decide ((1 : Int) < 0) = false := by decide
    simp only [d, br_false, one a ha, bl1_one]
    rfl
  · have d : decide ((-1 : Int) < 0) = true := by decide
    have w1 : w64 (0 - (-1)) = 1 := by decide
    simp only [d, br_true, s_l2Negate_eq v (show a < 4611686018427387904 by omega), bo_some, w1, one (negN g a) (negN_lt v.each a), bl1_one]
    rfl
theorem s_AddElements_eq {g : List Nat} (v : VG g) {a b : Nat} (ha : a < ordN g) (hb : b < ordN g) : f_s_AddElements (ints (natsI g)) (a : Int) (b : Int) = some ((addN g a b : Nat) : Int) := by
  have o24 := v.ord
  have h1 : hasG (natsI g) (a : Int) = true := (v.has _).2 ⟨a, rfl, ha⟩
  have h2 : hasG (natsI g) (b : Int) = true := (v.has _).2 ⟨b, rfl, hb⟩
  simp only [f_s_AddElements, f_s_AddElements_k, s_l2Is_eq _ _ v.lim, h1, h2, bo_some, Bool.not_true, BEq.rfl, br_true, br_false, s_l2Add_eq v (show a < 4611686018427387904 by omega) (show b < 4611686018427387904 by omega)]
theorem WeightedZero_more (G L : List Int) (h : G.length ≤ lim) (hL : L.length ≤ lim) : (f_s_WeightedZero (ints G) (ints L) = some ([], false) ∧ f_i_WeightedZero (ints G) (ints L) = some ([], false)) ∨
    ∃ g l c, G = natsI g ∧ L = natsI l ∧ VS g l ∧ totW g l l.length c = 0 ∧ f_s_WeightedZero (ints G) (ints L) = some (ints (preW l.length c), true) ∧ f_i_WeightedZero (ints G) (ints L) = some (ints (preW l.length c), true) := by
  cases hs : isSeq G L with
  | false =>
    refine .inl ⟨?_, ?_⟩
    · simp only [f_s_WeightedZero, f_s_WeightedZero_k, s_IsSequence_eq G L h hL, hs, bo_some]; rfl
    · simp only [f_i_WeightedZero, f_i_WeightedZero_k, i_IsSequence_eq G L h hL, hs, bo_some]; rfl
  | true =>
    by_cases h7 : L.length ≤ 7
    · obtain ⟨g, l, rfl, rfl, v⟩ := nat_of_isSeq hs
      rw [natsI_length] at h7
      rw [s_wz_eq v hs h7, i_wz_eq v hs h7]
      cases hf : (List.range (3 ^ l.length)).find? (gzW g l) with
      | none => exact .inl ⟨rfl, rfl⟩
      | some c =>
        have hg := List.find?_some hf
        simp only [gzW, Bool.and_eq_true, decide_eq_true_eq] at hg
        exact .inr ⟨g, l, c, rfl, rfl, v, hg.2, rfl, rfl⟩
    · have d7 : decide ((L.length : Int) > 7) = true := decide_eq_true (by omega)
      refine .inl ⟨?_, ?_⟩
      · simp only [f_s_WeightedZero, f_s_WeightedZero_k, s_IsSequence_eq G L h hL, hs, bo_some, ints_length, d7]; rfl
      · simp only [f_i_WeightedZero, f_i_WeightedZero_k, i_IsSequence_eq G L h hL, hs, bo_some, ints_length, d7]; rfl
end Go.Proofs.Ytphbclogflflmaa
