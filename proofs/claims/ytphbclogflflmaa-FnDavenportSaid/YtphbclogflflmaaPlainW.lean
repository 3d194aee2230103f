/-
  PlainW: the search for sequences without parts of sum 0: CountZeroFree, LongestZeroFree, DavenportConstant.
-/
import Derived.Test.YtphbclogflflmaaPlainV
import Derived.Test.YtphbclogflflmaaPlainM
set_option linter.unusedVariables false
set_option linter.unusedSimpArgs false
namespace Go.Proofs.Ytphbclogflflmaa
open Go Ev

/-- A loop from a to o that folds; P holds at its head. -/
theorem loop_rng {S T A B : Type} {rd : S → Option (Ro S A B)} (mk : T → Int → S) (a o : Nat) (ha : a ≤ o) (f : T → Nat → T) (gg : T → A) (P : T → Prop) (t0 : T) (h0 : P t0)
    (h : ∀ (x : Nat) t, a ≤ x → x < o → P t → rd (mk t (x : Int)) = some (.again (mk (f t x) ((x + 1 : Nat) : Int))))
    (hP : ∀ (x : Nat) t, a ≤ x → x < o → P t → P (f t x))
    (he : ∀ t, P t → rd (mk t (o : Int)) = some (.one (gg t))) : loopL rd (mk t0 (a : Int)) = some (.one (gg ((List.range' a (o - a)).foldl f t0))) ∧ P ((List.range' a (o - a)).foldl f t0) := by
  obtain ⟨d, rfl⟩ : ∃ d, o = a + d := ⟨o - a, by omega⟩
  rw [Nat.add_sub_cancel_left]
  clear ha
  induction d generalizing a t0 with
  | zero => exact ⟨loopL_one (he t0 h0), h0⟩
  | succ d ih =>
    have e : a + 1 + d = a + (d + 1) := by omega
    rw [List.range'_succ, List.foldl_cons, loopL_again (h a t0 (Nat.le_refl _) (by omega) h0)]
    exact ih (a + 1) (f t0 a) (hP a t0 (Nat.le_refl _) (by omega) h0) (fun x t h1 h2 => h x t (by omega) (by omega)) (fun x t h1 h2 => hP x t (by omega) (by omega)) (by rw [e]; exact he)
theorem fold_kids {T : Type} (g : List Nat) (s a : Nat) (F : T → Nat → T) (t : T) :
    (List.range' a (ordN g - a)).foldl (fun t x => if (nextN g s x).testBit 0 then t else F t x) t = (kidsN g s a).foldl F t := by
  unfold kidsN
  rw [List.foldl_filter]
  congr 1
  funext t x
  cases (nextN g s x).testBit 0 <;> rfl
theorem fold_zfT {T : Type} (g : List Nat) (n : Nat) (l : List Nat) (s a : Nat) (F : T → List Nat → T) (t : T) :
    (zfT g (n + 1) l s a).foldl F t = (kidsN g s a).foldl (fun t x => (zfT g n (l ++ [x]) (nextN g s x) x).foldl F t) (F t l) := by
  rw [zfT, List.foldl_cons, List.foldl_flatMap]
theorem mem_kidsN {g : List Nat} {s a x : Nat} (h : x ∈ kidsN g s a) : a ≤ x ∧ x < ordN g ∧ (nextN g s x).testBit 0 = false := by
  unfold kidsN at h
  rw [List.mem_filter, List.mem_range'_1] at h
  refine ⟨h.1.1, by omega, ?_⟩
  simpa using h.2
theorem zfT_len (g : List Nat) : ∀ (n : Nat) (l : List Nat) (s a : Nat), ∀ m ∈ zfT g n l s a, l.length ≤ m.length
  | 0, _, _, _, m, h => by cases h
  | n + 1, l, s, a, m, h => by
    rcases List.mem_cons.1 h with rfl | h
    · exact Nat.le_refl _
    · obtain ⟨x, _, hm⟩ := List.mem_flatMap.1 h
      have := zfT_len g n _ _ _ m hm
      rw [List.length_append] at this
      omega
theorem VG.ordS {g : List Nat} (v : VG g) : prodW (natsI g) = (ordN g : Nat) := prodW_nat g v.len v.each
theorem next_or {g : List Nat} (v : VG g) {s x : Nat} (hs : s < 2 ^ ordN g) (hx : x < ordN g) : or64 (or64 (s : Int) ((shiftN g s x : Nat) : Int)) (shl64 1 (x : Int)) = ((nextN g s x : Nat) : Int) := by
  rw [or_or v hs (shiftN_lt v s x), or_pow v (or_lt hs (shiftN_lt v s x)) hx]
  rfl
theorem w64_w64 (a b : Int) : w64 (w64 a + b) = w64 (a + b) := by
  simp only [w64, IntKind.wrap_i64]
  omega
theorem w64_w64'' (t a b : Int) : w64 (t + w64 a + b) = w64 (t + a + b) := by
  simp only [w64, IntKind.wrap_i64]
  omega
theorem w64_w64' (a b : Int) : w64 (a + w64 b) = w64 (a + b) := by rw [Int.add_comm, w64_w64, Int.add_comm]
theorem sum_zero {α : Type} : ∀ (l : List α), (l.map fun _ => 0).sum = 0
  | [] => rfl
  | x :: l => by rw [List.map_cons, List.sum_cons, sum_zero l]
theorem fold_w64 (F : Nat → Nat) : ∀ (l : List Nat) (t : Int), w64 (l.foldl (fun t x => w64 (t + w64 ((F x : Nat) : Int))) t) = w64 (t + (((l.map F).sum : Nat) : Int))
  | [], t => by simp
  | x :: l, t => by
    rw [List.foldl_cons, fold_w64 F l, w64_w64, w64_w64'' t, List.map_cons, List.sum_cons]
    congr 1
    omega
theorem w64_idem (a : Int) : w64 (w64 a) = w64 a := by
  have := w64_w64 a 0
  simpa using this
theorem fold_w64_in (F : Nat → Nat) : ∀ (l : List Nat) (t : Int), w64 t = t → w64 (l.foldl (fun t x => w64 (t + w64 ((F x : Nat) : Int))) t) = l.foldl (fun t x => w64 (t + w64 ((F x : Nat) : Int))) t
  | [], t, h => h
  | x :: l, t, h => by
    rw [List.foldl_cons]
    exact fold_w64_in F l _ (w64_idem _)
theorem sum_w64 (F : Nat → Nat) (l : List Nat) : l.foldl (fun t x => w64 (t + w64 ((F x : Nat) : Int))) 0 = w64 (((l.map F).sum : Nat) : Int) := by
  rw [← fold_w64_in F l 0 (by decide), fold_w64, Int.zero_add]
theorem l17Count_le : ∀ n a, Le (f_s_l17Count_n n a) (f_s_l17Count_n (n + 1) a)
  | 0, _ => Le.no
  | n + 1, a => by
    have ih := l17Count_le n
    simp only [f_s_l17Count_n, f_s_l17Count_k]
    refine Le.br Le.same (Le.bl1 (Le.loop fun s => ?_) fun e => Le.same)
    simp only [f_s_l17Count_r0, f_s_l17Count_k0]
    refine Le.bo Le.same fun r => Le.br (Le.bo Le.same fun r => Le.br Le.same (Le.br (Le.bo (ih _) fun r => Le.same) Le.same)) Le.same
theorem cnt_kids (g : List Nat) (n : Nat) (l : List Nat) (s a left : Nat) (hl : left ≠ 0) :
    (zfT g (n + 1) l s a).countP (fun m => decide (m.length = l.length + left)) = ((kidsN g s a).map fun x => (zfT g n (l ++ [x]) (nextN g s x) x).countP fun m => decide (m.length = (l ++ [x]).length + (left - 1))).sum := by
  rw [zfT, List.countP_cons_of_neg (by simp; omega), List.countP_flatMap]
  congr 1
  refine List.map_congr_left fun x _ => ?_
  simp only [Function.comp, List.length_append, List.length_singleton, show l.length + 1 + (left - 1) = l.length + left by omega]
theorem s_l17Count_fuel {g : List Nat} (v : VG g) : ∀ (n : Nat) (l : List Nat) (left s a : Nat), s < 2 ^ ordN g → 2 ^ ordN g ≤ n + s → a ≤ ordN g → left ≤ 8 →
    f_s_l17Count_n n (ints (natsI g), (left : Int), (s : Int), (a : Int)) = some (w64 (((zfT g n l s a).countP fun m => decide (m.length = l.length + left) : Nat) : Int))
  | 0, l, left, s, a, hs, hn, ha, hl => by omega
  | n + 1, l, left, s, a, hs, hn, ha, hl => by
    have h24 := v.ord
    simp only [f_s_l17Count_n, f_s_l17Count_k]
    by_cases h0 : left = 0
    · subst h0
      have : (zfT g (n + 1) l s a).countP (fun m => decide (m.length = l.length + 0)) = 1 := by
        rw [zfT, List.countP_cons_of_pos (by simp), List.countP_flatMap]
        have : ∀ x ∈ kidsN g s a, (zfT g n (l ++ [x]) (nextN g s x) x).countP (fun m => decide (m.length = l.length + 0)) = 0 := by
          intro x _
          rw [List.countP_eq_zero]
          intro m hm
          have := zfT_len g n _ _ _ m hm
          rw [List.length_append, List.length_singleton] at this
          simp
          omega
        rw [show ((kidsN g s a).map ((List.countP fun m => decide (m.length = l.length + 0)) ∘ fun x => zfT g n (l ++ [x]) (nextN g s x) x)) = (kidsN g s a).map (fun _ => 0) from List.map_congr_left (fun x hx => this x hx), sum_zero]
      rw [this]
      simp [br_eq]
      rfl
    · have e0 : ((left : Int) == 0) = false := by simp; omega
      rw [e0, br_false]
      have key := loop_rng (rd := f_s_l17Count_r0 (f_s_l17Count_n n) (left : Int) (s : Int) (ints (natsI g))) (fun (t : Int) x => (t, x)) a (ordN g) ha
        (fun t x => if (nextN g s x).testBit 0 then t else w64 (t + w64 (((zfT g n (l ++ [x]) (nextN g s x) x).countP fun m => decide (m.length = (l ++ [x]).length + (left - 1)) : Nat) : Int))) id (fun _ => True) 0 trivial
        (fun x t hax hx _ => by
          have hxx : decide ((x : Int) < 0) = false := neg_dec x
          have hb := nextN_lt v hs hx
          simp only [f_s_l17Count_r0, f_s_l17Count_k0, s_l2Order_eq _ v.lim, v.ordS, bo_some, lt_dec hx, br_true, s_l3Shift_eq v hs hx, hxx, br_false, next_or v hs hx, and_one_zero (set_i64 v hb), w64_nat (by omega : x < 9223372036854775807)]
          cases hbit : (nextN g s x).testBit 0 with
          | true => rfl
          | false =>
            have hgr := nextN_grows v hs hx hbit
            have e1 : w64 ((left : Int) - 1) = ((left - 1 : Nat) : Int) := by rw [show (left : Int) - 1 = ((left - 1 : Nat) : Int) by omega]; exact w64_cast (by omega)
            rw [e1, s_l17Count_fuel v n (l ++ [x]) (left - 1) (nextN g s x) x hb (by omega) (by omega) (by omega)]
            rfl)
        (fun _ _ _ _ _ => trivial)
        (fun t _ => by simp only [f_s_l17Count_r0, f_s_l17Count_k0, s_l2Order_eq _ v.lim, v.ordS, bo_some, lt_dec_self, br_false]; rfl)
      have key := key.1
      rw [fold_kids] at key
      simp only [id] at key
      rw [key, bl1_one, cnt_kids g n l s a left h0, sum_w64]
theorem i_zfCount_le : ∀ n a, Le (f_i_zeroFree_CountZeroFree_1_n n a) (f_i_zeroFree_CountZeroFree_1_n (n + 1) a)
  | 0, _ => Le.no
  | n + 1, a => by
    have ih := i_zfCount_le n
    simp only [f_i_zeroFree_CountZeroFree_1_n, f_i_zeroFree_CountZeroFree_1_k]
    have hl : ∀ (l : List Sc) (s p : Int) (g : List Sc) st, Le (loopL (f_i_zeroFree_CountZeroFree_1_r0 (f_i_zeroFree_CountZeroFree_1_n n) l s p g) st) (loopL (f_i_zeroFree_CountZeroFree_1_r0 (f_i_zeroFree_CountZeroFree_1_n (n + 1)) l s p g) st) := fun l s p g st => by
      refine Le.loop fun s => ?_
      simp only [f_i_zeroFree_CountZeroFree_1_r0, f_i_zeroFree_CountZeroFree_1_k0]
      exact Le.bo Le.same fun r => Le.br (Le.bo Le.same fun r => Le.br Le.same (Le.bo Le.same fun r => Le.br (Le.bo Le.same fun r => Le.br (Le.bo (ih _) fun r => Le.same) Le.same) Le.same)) Le.same
    exact Le.bo Le.same fun r => Le.br (Le.br (Le.bl1 (hl _ _ _ _ _) fun e => Le.same) Le.same) (Le.bl1 (hl _ _ _ _ _) fun e => Le.same)
/-- The next terms begin at the last one. -/
def lastN (l : List Nat) : Nat := if l.length = 0 then 1 else l.getD (l.length - 1) 0
theorem lastN_snoc (l : List Nat) (x : Nat) : lastN (l ++ [x]) = x := by
  unfold lastN
  rw [List.length_append, List.length_singleton, if_neg (by omega), Nat.add_sub_cancel]
  simp [List.getD]
def cntF (p : Int) (t : Int) (l : List Nat) : Int := if (l.length : Int) = p then w64 (t + 1) else t
theorem i_zfCount_fuel {g : List Nat} (v : VG g) (p : Int) : ∀ (n : Nat) (l : List Nat) (s : Nat) (t : Int), s < 2 ^ ordN g → 2 ^ ordN g ≤ n + s → lastN l ≤ ordN g → l.length ≤ s →
    f_i_zeroFree_CountZeroFree_1_n n (ints (natsI g), ints (natsI l), (s : Int), p, t) = some ((zfT g n l s (lastN l)).foldl (cntF p) t)
  | 0, l, s, t, hs, hn, ha, hl => by omega
  | n + 1, l, s, t, hs, hn, ha, hl => by
    have h24 := v.ord
    have hs24 := pow24 v hs
    have key := fun t0 : Int => (loop_rng (rd := f_i_zeroFree_CountZeroFree_1_r0 (f_i_zeroFree_CountZeroFree_1_n n) (ints (natsI l)) (s : Int) p (ints (natsI g))) (fun (t : Int) x => (t, x)) (lastN l) (ordN g) ha
        (fun t x => if (nextN g s x).testBit 0 then t else (zfT g n (l ++ [x]) (nextN g s x) x).foldl (cntF p) t) id (fun _ => True) t0 trivial
        (fun x t hax hx _ => by
          have hxx : decide ((x : Int) < 0) = false := neg_dec x
          have hb := nextN_lt v hs hx
          have hin := i_in_eq (a := nextN g s x) (k := 0) (set_i64 v hb)
          rw [show ((0 : Nat) : Int) = 0 from rfl] at hin
          simp only [f_i_zeroFree_CountZeroFree_1_r0, f_i_zeroFree_CountZeroFree_1_k0, i_OrderOf_eq _ v.lim, v.ordG, bo_some, lt_dec hx, br_true, i_shift_eq v hs hx, hxx, br_false, next_or v hs hx, hin, w64_nat (by omega : x < 9223372036854775807)]
          cases hbit : (nextN g s x).testBit 0 with
          | true => rfl
          | false =>
            have hgr := nextN_grows v hs hx hbit
            have c1 : decide ((([] : List Sc)).length + (ints (natsI l)).length ≤ lim) = true := by
              simp only [ints_length, natsI_length, List.length_nil, Nat.zero_add]
              exact decide_eq_true (Nat.le_trans (show l.length ≤ 16777216 by omega) (by decide))
            have c2 : decide ((ints (natsI l)).length + [Sc.n .i64 (x : Int)].length ≤ lim) = true := by
              simp only [ints_length, natsI_length, List.length_singleton]
              exact decide_eq_true (Nat.le_trans (show l.length + 1 ≤ 16777217 by omega) (by decide))
            have ih := i_zfCount_fuel v p n (l ++ [x]) (nextN g s x) t hb (by omega) (by rw [lastN_snoc]; omega) (by rw [List.length_append, List.length_singleton]; omega)
            rw [lastN_snoc] at ih
            simp only [Bool.not_false, br_true, f_i_copyInts, f_i_copyInts_k, c1, List.nil_append, bo_some, c2, ints_cast_snoc, ih]
            rfl)
        (fun _ _ _ _ _ => trivial)
        (fun t _ => by simp only [f_i_zeroFree_CountZeroFree_1_r0, f_i_zeroFree_CountZeroFree_1_k0, i_OrderOf_eq _ v.lim, v.ordG, bo_some, lt_dec_self, br_false]; rfl)).1
    have hv : f_i_CountZeroFree_1 (ints (natsI l)) (s : Int) p t = some (cntF p t l) := by
      simp only [f_i_CountZeroFree_1, f_i_CountZeroFree_1_k, ints_length, natsI_length, cntF]
      by_cases e : (l.length : Int) = p
      · simp [e, br_eq]
      · simp [e, br_eq]
    simp only [f_i_zeroFree_CountZeroFree_1_n, f_i_zeroFree_CountZeroFree_1_k, hv, bo_some, ints_length, natsI_length]
    rw [fold_zfT, ← fold_kids]
    have key := key (cntF p t l)
    simp only [id] at key
    by_cases h0 : l.length = 0
    · have e1 : lastN l = 1 := if_pos h0
      have e2 : decide ((l.length : Int) > 0) = false := by rw [h0]; rfl
      rw [e1] at key ⊢
      rw [show ((1 : Nat) : Int) = 1 from rfl] at key
      simp only [e2, br_false, key, bl1_one]
    · have e1 : lastN l = l.getD (l.length - 1) 0 := if_neg h0
      have e2 : decide ((l.length : Int) > 0) = true := decide_eq_true (by omega)
      have e3 : w64 ((l.length : Int) - 1) = ((l.length - 1 : Nat) : Int) := by rw [show (l.length : Int) - 1 = ((l.length - 1 : Nat) : Int) by omega]; exact w64_cast (by omega)
      rw [e1] at key ⊢
      simp only [e2, e3, br_true, ok_natsI (show l.length - 1 < l.length by omega), at_natsI, key, bl1_one]
theorem cntF_count (p : Nat) : ∀ (L : List (List Nat)) (t : Int), w64 t = t → L.foldl (cntF (p : Int)) t = w64 (t + ((L.countP fun m => decide (m.length = p) : Nat) : Int))
  | [], t, h => by simp [h]
  | m :: L, t, h => by
    rw [List.foldl_cons]
    by_cases e : m.length = p
    · have e1 : cntF (p : Int) t m = w64 (t + 1) := if_pos (by rw [e])
      rw [e1, cntF_count p L _ (w64_idem _), w64_w64, List.countP_cons_of_pos (by simpa using e)]
      congr 1
      omega
    · have e1 : cntF (p : Int) t m = t := if_neg (by omega)
      rw [e1, cntF_count p L t h, List.countP_cons_of_neg (by simpa using e)]
theorem CountZeroFree_both (G : List Int) (n : Int) (h : G.length ≤ lim) : ∃ r, f_s_CountZeroFree (ints G) n = some r ∧ f_i_CountZeroFree (ints G) n = some r := by
  simp only [f_s_CountZeroFree, f_s_CountZeroFree_k, f_i_CountZeroFree, f_i_CountZeroFree_k, s_IsGroup_eq G h, i_IsGroup_eq G h, s_l2Order_eq G h, i_OrderOf_eq G h, s_l1In_eq, i_within_eq, bo_some]
  cases hg : isG G with
  | false => exact ⟨_, rfl, rfl⟩
  | true =>
    obtain ⟨g, rfl, v⟩ := nat_of_isG hg
    rw [v.ordS, v.ordG]
    by_cases h9 : ((ordN g : Nat) : Int) > 9
    · rw [decide_eq_true h9]
      exact ⟨_, rfl, rfl⟩
    · rw [decide_eq_false h9]
      cases hb : inB n 0 8 with
      | false => exact ⟨_, rfl, rfl⟩
      | true =>
        have hn : 0 ≤ n ∧ n ≤ 8 := by simpa [inB] using hb
        obtain ⟨p, rfl⟩ : ∃ p : Nat, n = p := ⟨n.toNat, by omega⟩
        have h1 := ordN_pos v.each
        have e1 := limF_le l17Count_le (s_l17Count_fuel v (2 ^ ordN g) [] p 0 1 (Nat.two_pow_pos _) (by omega) h1 (by omega))
        have e2 := limF_le i_zfCount_le (i_zfCount_fuel v (p : Int) (2 ^ ordN g) [] 0 0 (Nat.two_pow_pos _) (by omega) h1 (Nat.le_refl _))
        rw [cntF_count p _ 0 (by decide), Int.zero_add] at e2
        have e1' : f_s_l17Count (ints (natsI g)) (p : Int) 0 1 = _ := e1
        have e2' : f_i_zeroFree_CountZeroFree_1 (ints (natsI g)) [] 0 (p : Int) 0 = _ := e2
        simp only [e1', e2', bo_some, List.length_nil, Nat.zero_add]
        exact ⟨_, rfl, rfl⟩
end Go.Proofs.Ytphbclogflflmaa
