/-
  PlainX: LongestZeroFree, DavenportConstant.
-/
import Derived.Test.YtphbclogflflmaaPlainW
set_option linter.unusedVariables false
set_option linter.unusedSimpArgs false
namespace Go.Proofs.Ytphbclogflflmaa
open Go Ev

theorem fold_congr {α β : Type} {f f' : β → α → β} : ∀ {l : List α} {t : β}, (∀ t x, x ∈ l → f t x = f' t x) → l.foldl f t = l.foldl f' t
  | [], _, _ => rfl
  | x :: l, t, h => by
    rw [List.foldl_cons, List.foldl_cons, h t x (by simp)]
    exact fold_congr fun t y hy => h t y (by simp [hy])
/-- The first of the longest. -/
def lbF (t l : List Nat) : List Nat := if t.length < l.length then l else t
theorem lbF_assoc (a b c : List Nat) : lbF (lbF a b) c = lbF a (lbF b c) := by
  unfold lbF
  by_cases h1 : a.length < b.length <;> by_cases h2 : b.length < c.length <;> by_cases h3 : a.length < c.length <;> simp [h1, h2, h3] <;> omega
theorem lbF_fold : ∀ (L : List (List Nat)) (t c : List Nat), L.foldl lbF (lbF t c) = lbF t (L.foldl lbF c)
  | [], t, c => rfl
  | d :: L, t, c => by rw [List.foldl_cons, List.foldl_cons, lbF_assoc, lbF_fold L t (lbF c d)]
theorem lb_dec (t l : List Nat) : decide (((ints (natsI l)).length : Int) > ((ints (natsI t)).length : Int)) = decide (t.length < l.length) := by
  simp only [ints_length, natsI_length]
  by_cases h : t.length < l.length
  · rw [decide_eq_true h]; exact decide_eq_true (by omega)
  · rw [decide_eq_false h]; exact decide_eq_false (by omega)
theorem zfT_bound {g : List Nat} (v : VG g) : ∀ (n : Nat) (l : List Nat) (s a : Nat), s < 2 ^ ordN g → l.length ≤ s → ∀ m ∈ zfT g n l s a, m.length ≤ 2 ^ ordN g
  | 0, _, _, _, _, _, m, h => by cases h
  | n + 1, l, s, a, hs, hl, m, h => by
    rcases List.mem_cons.1 h with rfl | h
    · omega
    · obtain ⟨x, hx, hm⟩ := List.mem_flatMap.1 h
      obtain ⟨_, h2, h3⟩ := mem_kidsN hx
      have := nextN_grows v hs h2 h3
      exact zfT_bound v n _ _ _ (nextN_lt v hs h2) (by rw [List.length_append, List.length_singleton]; omega) m hm
theorem fold_lb_mem : ∀ (L : List (List Nat)) (t : List Nat), L.foldl lbF t = t ∨ L.foldl lbF t ∈ L
  | [], t => .inl rfl
  | m :: L, t => by
    rw [List.foldl_cons]
    rcases fold_lb_mem L (lbF t m) with h | h
    · unfold lbF at h ⊢
      by_cases e : t.length < m.length
      · rw [if_pos e] at h ⊢; exact .inr (by rw [h]; simp)
      · rw [if_neg e] at h ⊢; exact .inl h
    · exact .inr (by simp [h])
theorem l17Longest_le : ∀ n a, Le (f_s_l17Longest_n n a) (f_s_l17Longest_n (n + 1) a)
  | 0, _ => Le.no
  | n + 1, a => by
    have ih := l17Longest_le n
    simp only [f_s_l17Longest_n, f_s_l17Longest_k]
    refine Le.bl1 (Le.loop fun s => ?_) fun e => Le.same
    simp only [f_s_l17Longest_r0, f_s_l17Longest_k0]
    exact Le.bo Le.same fun r => Le.br (Le.bo Le.same fun r => Le.br Le.same (Le.br Le.same (Le.br (Le.br (Le.bo (ih _) fun r => Le.same) Le.same) Le.same))) Le.same
theorem s_l17Longest_fuel {g : List Nat} (v : VG g) : ∀ (n : Nat) (l : List Nat) (s a : Nat), s < 2 ^ ordN g → 2 ^ ordN g ≤ n + s → a ≤ ordN g → l.length ≤ s →
    f_s_l17Longest_n n (ints (natsI g), ints (natsI l), (s : Int), (a : Int)) = some (ints (natsI ((zfT g n l s a).foldl lbF l)))
  | 0, l, s, a, hs, hn, ha, hl => by omega
  | n + 1, l, s, a, hs, hn, ha, hl => by
    have h24 := v.ord
    have hs24 := pow24 v hs
    have key := (loop_rng (rd := f_s_l17Longest_r0 (f_s_l17Longest_n n) (ints (natsI l)) (s : Int) (ints (natsI g))) (fun (t : List Nat) x => (ints (natsI t), x)) a (ordN g) ha
        (fun t x => if (nextN g s x).testBit 0 then t else lbF t ((zfT g n (l ++ [x]) (nextN g s x) x).foldl lbF (l ++ [x]))) (fun t => (ints (natsI t), (ordN g : Int))) (fun _ => True) l trivial
        (fun x t hax hx _ => by
          have hxx : decide ((x : Int) < 0) = false := neg_dec x
          have hb := nextN_lt v hs hx
          have hin := bit_test0 (set_i64 v hb)
          simp only [f_s_l17Longest_r0, f_s_l17Longest_k0, s_l2Order_eq _ v.lim, v.ordS, bo_some, lt_dec hx, br_true, s_l3Shift_eq v hs hx, hxx, br_false, next_or v hs hx, hin, w64_nat (by omega : x < 9223372036854775807)]
          cases hbit : (nextN g s x).testBit 0 with
          | true => rfl
          | false =>
            have hgr := nextN_grows v hs hx hbit
            have c1 : decide ((([] : List Sc)).length + (ints (natsI l)).length ≤ lim) = true := by
              simp only [ints_length, natsI_length, List.length_nil, Nat.zero_add]
              exact decide_eq_true (Nat.le_trans (show l.length ≤ 16777216 by omega) (by decide))
            have c2 : decide ((ints (natsI l)).length + [Sc.n .i64 (x : Int)].length ≤ lim) = true := by
              simp only [ints_length, natsI_length, List.length_singleton]
              exact decide_eq_true (Nat.le_trans (show l.length + 1 ≤ 16777217 by omega) (by decide))
            have ih := s_l17Longest_fuel v n (l ++ [x]) (nextN g s x) x hb (by omega) (by omega) (by rw [List.length_append, List.length_singleton]; omega)
            simp only [br_false, c1, br_true, List.nil_append, c2, ints_cast_snoc, ih, bo_some, lb_dec]
            unfold lbF
            by_cases e : t.length < ((zfT g n (l ++ [x]) (nextN g s x) x).foldl lbF (l ++ [x])).length
            · have e' := e
              unfold lbF at e'
              rw [decide_eq_true e', if_pos e']; rfl
            · have e' := e
              unfold lbF at e'
              rw [decide_eq_false e', if_neg e']; rfl)
        (fun _ _ _ _ _ => trivial)
        (fun t _ => by simp only [f_s_l17Longest_r0, f_s_l17Longest_k0, s_l2Order_eq _ v.lim, v.ordS, bo_some, lt_dec_self, br_false])).1
    simp only [f_s_l17Longest_n, f_s_l17Longest_k, key, bl1_one]
    rw [fold_kids, fold_zfT]
    congr 3
    have e0 : lbF l l = l := by unfold lbF; simp
    rw [e0]
    refine fold_congr fun t x hx => ?_
    obtain ⟨_, h2, h3⟩ := mem_kidsN hx
    have hgr := nextN_grows v hs h2 h3
    have hlt := nextN_lt v hs h2
    cases n with
    | zero => omega
    | succ n =>
      rw [zfT, List.foldl_cons, List.foldl_cons]
      have e1 : lbF (l ++ [x]) (l ++ [x]) = l ++ [x] := by unfold lbF; simp
      rw [e1, lbF_fold]
theorem i_zfLongest_le : ∀ n a, Le (f_i_zeroFree_LongestZeroFree_1_n n a) (f_i_zeroFree_LongestZeroFree_1_n (n + 1) a)
  | 0, _ => Le.no
  | n + 1, a => by
    have ih := i_zfLongest_le n
    simp only [f_i_zeroFree_LongestZeroFree_1_n, f_i_zeroFree_LongestZeroFree_1_k]
    have hl : ∀ (l : List Sc) (s : Int) (g : List Sc) st, Le (loopL (f_i_zeroFree_LongestZeroFree_1_r0 (f_i_zeroFree_LongestZeroFree_1_n n) l s g) st) (loopL (f_i_zeroFree_LongestZeroFree_1_r0 (f_i_zeroFree_LongestZeroFree_1_n (n + 1)) l s g) st) := fun l s g st => by
      refine Le.loop fun s => ?_
      simp only [f_i_zeroFree_LongestZeroFree_1_r0, f_i_zeroFree_LongestZeroFree_1_k0]
      exact Le.bo Le.same fun r => Le.br (Le.bo Le.same fun r => Le.br Le.same (Le.bo Le.same fun r => Le.br (Le.bo Le.same fun r => Le.br (Le.bo (ih _) fun r => Le.same) Le.same) Le.same)) Le.same
    exact Le.bo Le.same fun r => Le.br (Le.br (Le.bl1 (hl _ _ _ _) fun e => Le.same) Le.same) (Le.bl1 (hl _ _ _ _) fun e => Le.same)
theorem i_zfLongest_fuel {g : List Nat} (v : VG g) : ∀ (n : Nat) (l : List Nat) (s : Nat) (t : List Nat), s < 2 ^ ordN g → 2 ^ ordN g ≤ n + s → lastN l ≤ ordN g → l.length ≤ s →
    f_i_zeroFree_LongestZeroFree_1_n n (ints (natsI g), ints (natsI l), (s : Int), ints (natsI t)) = some (ints (natsI ((zfT g n l s (lastN l)).foldl lbF t)))
  | 0, l, s, t, hs, hn, ha, hl => by omega
  | n + 1, l, s, t, hs, hn, ha, hl => by
    have h24 := v.ord
    have hs24 := pow24 v hs
    have key := fun t0 : List Nat => (loop_rng (rd := f_i_zeroFree_LongestZeroFree_1_r0 (f_i_zeroFree_LongestZeroFree_1_n n) (ints (natsI l)) (s : Int) (ints (natsI g))) (fun (t : List Nat) x => (ints (natsI t), x)) (lastN l) (ordN g) ha
        (fun t x => if (nextN g s x).testBit 0 then t else (zfT g n (l ++ [x]) (nextN g s x) x).foldl lbF t) (fun t => ints (natsI t)) (fun _ => True) t0 trivial
        (fun x t hax hx _ => by
          have hxx : decide ((x : Int) < 0) = false := neg_dec x
          have hb := nextN_lt v hs hx
          have hin := i_in_eq (a := nextN g s x) (k := 0) (set_i64 v hb)
          rw [show ((0 : Nat) : Int) = 0 from rfl] at hin
          simp only [f_i_zeroFree_LongestZeroFree_1_r0, f_i_zeroFree_LongestZeroFree_1_k0, i_OrderOf_eq _ v.lim, v.ordG, bo_some, lt_dec hx, br_true, i_shift_eq v hs hx, hxx, br_false, next_or v hs hx, hin, w64_nat (by omega : x < 9223372036854775807)]
          cases hbit : (nextN g s x).testBit 0 with
          | true => rfl
          | false =>
            have hgr := nextN_grows v hs hx hbit
            have c1 : decide ((([] : List Sc)).length + (ints (natsI l)).length ≤ lim) = true := by
              simp only [ints_length, natsI_length, List.length_nil, Nat.zero_add]
              exact decide_eq_true (Nat.le_trans (show l.length ≤ 16777216 by omega) (by decide))
            have c2 : decide ((ints (natsI l)).length + [Sc.n .i64 (x : Int)].length ≤ lim) = true := by
              simp only [ints_length, natsI_length, List.length_singleton]
              exact decide_eq_true (Nat.le_trans (show l.length + 1 ≤ 16777217 by omega) (by decide))
            have ih := i_zfLongest_fuel v n (l ++ [x]) (nextN g s x) t hb (by omega) (by rw [lastN_snoc]; omega) (by rw [List.length_append, List.length_singleton]; omega)
            rw [lastN_snoc] at ih
            simp only [Bool.not_false, br_true, f_i_copyInts, f_i_copyInts_k, c1, List.nil_append, bo_some, c2, ints_cast_snoc, ih]
            rfl)
        (fun _ _ _ _ _ => trivial)
        (fun t _ => by simp only [f_i_zeroFree_LongestZeroFree_1_r0, f_i_zeroFree_LongestZeroFree_1_k0, i_OrderOf_eq _ v.lim, v.ordG, bo_some, lt_dec_self, br_false])).1
    have hv : f_i_LongestZeroFree_1 (ints (natsI l)) (s : Int) (ints (natsI t)) = some (ints (natsI (lbF t l))) := by
      simp only [f_i_LongestZeroFree_1, f_i_LongestZeroFree_1_k, lb_dec]
      unfold lbF
      by_cases e : t.length < l.length
      · rw [decide_eq_true e, if_pos e]; rfl
      · rw [decide_eq_false e, if_neg e]; rfl
    simp only [f_i_zeroFree_LongestZeroFree_1_n, f_i_zeroFree_LongestZeroFree_1_k, hv, bo_some, ints_length, natsI_length]
    rw [fold_zfT, ← fold_kids]
    have key := key (lbF t l)
    by_cases h0 : l.length = 0
    · have e1 : lastN l = 1 := if_pos h0
      have e2 : decide ((l.length : Int) > 0) = false := by rw [h0]; rfl
      rw [e1] at key ⊢
      rw [show ((1 : Nat) : Int) = 1 from rfl] at key
      simp only [e2, br_false, key, bl1_one]
    · have e1 : lastN l = l.getD (l.length - 1) 0 := if_neg h0
      have e2 : decide ((l.length : Int) > 0) = true := decide_eq_true (by omega)
      have e3 : w64 ((l.length : Int) - 1) = ((l.length - 1 : Nat) : Int) := by rw [show (l.length : Int) - 1 = ((l.length - 1 : Nat) : Int) by omega]; exact w64_cast (by omega)
      rw [e1] at key ⊢
      simp only [e2, e3, br_true, ok_natsI (show l.length - 1 < l.length by omega), at_natsI, key, bl1_one]
/-- The first of the longest sequences without parts of sum 0. -/
def longN (g : List Nat) : List Nat := (zfT g (2 ^ ordN g) [] 0 1).foldl lbF []
theorem longN_len {g : List Nat} (v : VG g) : (longN g).length ≤ 2 ^ ordN g := by
  unfold longN
  rcases fold_lb_mem (zfT g (2 ^ ordN g) [] 0 1) [] with h | h
  · rw [h]; exact Nat.zero_le _
  · exact zfT_bound v _ _ _ _ (Nat.two_pow_pos _) (Nat.le_refl _) _ h
theorem LongestZeroFree_both (G : List Int) (h : G.length ≤ lim) : ∃ R b, f_s_LongestZeroFree (ints G) = some (ints R, b) ∧ f_i_LongestZeroFree (ints G) = some (ints R, b) ∧ R.length ≤ 16777216 := by
  simp only [f_s_LongestZeroFree, f_s_LongestZeroFree_k, f_i_LongestZeroFree, f_i_LongestZeroFree_k, s_IsGroup_eq G h, i_IsGroup_eq G h, s_l2Order_eq G h, i_OrderOf_eq G h, bo_some]
  cases hg : isG G with
  | false => exact ⟨[], _, rfl, rfl, by simp⟩
  | true =>
    obtain ⟨g, rfl, v⟩ := nat_of_isG hg
    rw [v.ordS, v.ordG]
    by_cases h9 : ((ordN g : Nat) : Int) > 9
    · rw [decide_eq_true h9]
      exact ⟨[], _, rfl, rfl, by simp⟩
    · rw [decide_eq_false h9]
      have h1 := ordN_pos v.each
      have e1 := limF_le l17Longest_le (s_l17Longest_fuel v (2 ^ ordN g) [] 0 1 (Nat.two_pow_pos _) (by omega) h1 (Nat.le_refl _))
      have e2 := limF_le i_zfLongest_le (i_zfLongest_fuel v (2 ^ ordN g) [] 0 [] (Nat.two_pow_pos _) (by omega) h1 (Nat.le_refl _))
      have e1' : f_s_l17Longest (ints (natsI g)) [] 0 1 = some (ints (natsI (longN g))) := e1
      have e2' : f_i_zeroFree_LongestZeroFree_1 (ints (natsI g)) [] 0 [] = some (ints (natsI (longN g))) := e2
      refine ⟨natsI (longN g), true, ?_, ?_, ?_⟩
      · simp only [e1', bo_some]; rfl
      · simp only [e2', bo_some]; rfl
      · rw [natsI_length]
        exact Nat.le_trans (longN_len v) (Nat.pow_le_pow_right (by decide) v.ord)
end Go.Proofs.Ytphbclogflflmaa
