/-
  The plain side, joined.
-/
import Derived.Test.YtonjcafobhpfdaaShal
import Derived.Test.YtonjcafobhpfdaaVOpen
set_option linter.unusedVariables false
set_option linter.unusedSimpArgs false
namespace Go.Proofs.Ytonjcafobhpfdaa
open Go Ev
section
variable {S A B : Type} {rd : S → Option (Ro S A B)}
theorem loop_count (st : Nat → S) (n : Nat) {a : A} (h : ∀ k, k < n → rd (st k) = some (.again (st (k + 1)))) (he : rd (st n) = some (.one a)) (k : Nat) (hk : k ≤ n) : loopL rd (st k) = some (.one a) := by
  obtain ⟨d, rfl⟩ : ∃ d, n = k + d := ⟨n - k, by omega⟩
  clear hk
  induction d generalizing k with
  | zero => exact loopL_one he
  | succ d ih =>
    rw [loopL_again (h k (by omega))]
    have e : k + 1 + d = k + (d + 1) := by omega
    exact ih (k + 1) (by rw [e]; exact h) (by rw [e]; exact he)
theorem loop_find (st : Nat → S) (n : Nat) (p : Nat → Bool) (two : Nat → B) {a : A} (h : ∀ k, k < n → rd (st k) = if p k then some (.two (two k)) else some (.again (st (k + 1)))) (he : rd (st n) = some (.one a)) :
    loopL rd (st 0) = match (List.range n).find? p with
      | some k => some (.two (two k))
      | none => some (.one a) := by
  have key : ∀ d k, k + d = n → loopL rd (st k) = match (List.range' k d).find? p with
      | some k => some (.two (two k))
      | none => some (.one a) := by
    intro d
    induction d with
    | zero => intro k hk; rw [show k = n by omega]; exact loopL_one he
    | succ d ih =>
      intro k hk
      rw [List.range'_succ, List.find?_cons]
      have := h k (by omega)
      cases hp : p k with
      | true => rw [hp] at this; exact loopL_two this
      | false =>
        rw [hp] at this
        rw [loopL_again this]
        exact ih (k + 1) (by omega)
  rw [List.range_eq_range']
  exact key n 0 (by omega)
end
theorem w64_nat {k : Nat} (h : k < 9223372036854775807) : w64 ((k : Int) + 1) = ((k + 1 : Nat) : Int) := by
  rw [w64_in] <;> omega
theorem lim_lt {n : Nat} (h : n ≤ lim) : n < 9223372036854775807 := by unfold lim at h; omega
section
variable {T A B : Type}
theorem loop_fold {rd : T × Int → Option (Ro (T × Int) A B)} (L : List Int) (f : T → Int → T) (g : T → A) (t0 : T)
    (h : ∀ (k : Nat) t, k < L.length → rd (t, (k : Int)) = some (.again (f t (L.getD k 0), ((k + 1 : Nat) : Int))))
    (he : ∀ t, rd (t, (L.length : Int)) = some (.one (g t))) : loopL rd (t0, 0) = some (.one (g (L.foldl f t0))) := by
  have key := loop_count (rd := rd) (fun k => ((L.take k).foldl f t0, (k : Int))) L.length (a := g (L.foldl f t0)) (fun k hk => by
    show rd ((L.take k).foldl f t0, (k : Int)) = _
    rw [h k _ hk]
    have : (L.take (k + 1)).foldl f t0 = f ((L.take k).foldl f t0) (L.getD k 0) := by
      rw [List.take_succ_eq_append_getElem hk, List.foldl_append]
      simp [List.getD, List.getElem?_eq_getElem hk]
    rw [this]) (by show rd ((L.take L.length).foldl f t0, (L.length : Int)) = _; rw [he, List.take_length]) 0 (Nat.zero_le _)
  simpa using key
end
theorem br_eq {α : Type} (t : Bool) (x y : α) : br t x y = if t = true then x else y := by cases t <;> rfl
theorem lt_dec {k n : Nat} (h : k < n) : decide ((k : Int) < (n : Int)) = true := by simpa using h
theorem lt_dec_self (n : Nat) : decide ((n : Int) < (n : Int)) = false := by simp
theorem ok_nat {L : List Int} {k : Nat} (h : k < L.length) : okAt (ints L) (k : Int) = true := by rw [okAt_ints, inRange_nat]; simpa using h
theorem at_nat (L : List Int) (k : Nat) : atI (ints L) (k : Int) = L.getD k 0 := by rw [atI_ints]; simp
section
variable {T A B : Type}
theorem loop_foldx {rd : T × Int → Option (Ro (T × Int) A B)} (L : List Int) (f : T → Int → T) (p : Nat → Int → Bool) (g : T → A) (b : B) (t0 : T)
    (h : ∀ (k : Nat) t, k < L.length → rd (t, (k : Int)) = if p k (L.getD k 0) then some (.two b) else some (.again (f t (L.getD k 0), ((k + 1 : Nat) : Int))))
    (he : ∀ t, rd (t, (L.length : Int)) = some (.one (g t))) :
    loopL rd (t0, 0) = if (List.range L.length).any (fun k => p k (L.getD k 0)) then some (.two b) else some (.one (g (L.foldl f t0))) := by
  have key := loop_find (rd := rd) (fun k => ((L.take k).foldl f t0, (k : Int))) L.length (fun k => p k (L.getD k 0)) (fun _ => b) (a := g (L.foldl f t0)) (fun k hk => by
    show rd ((L.take k).foldl f t0, (k : Int)) = _
    rw [h k _ hk]
    have : (L.take (k + 1)).foldl f t0 = f ((L.take k).foldl f t0) (L.getD k 0) := by
      rw [List.take_succ_eq_append_getElem hk, List.foldl_append]
      simp [List.getD, List.getElem?_eq_getElem hk]
    rw [this]) (by show rd ((L.take L.length).foldl f t0, (L.length : Int)) = _; rw [he, List.take_length])
  simp only [List.take_zero, List.foldl_nil] at key
  have e0 : (((0 : Nat) : Int)) = 0 := rfl
  rw [e0] at key
  rw [key]
  cases hf : (List.range L.length).find? (fun k => p k (L.getD k 0)) with
  | none =>
    rw [List.find?_eq_none] at hf
    have : (List.range L.length).any (fun k => p k (L.getD k 0)) = false := by
      rw [List.any_eq_false]
      exact hf
    rw [this]
    rfl
  | some k =>
    have h1 := List.mem_of_find?_eq_some hf
    have h2 := List.find?_some hf
    have : (List.range L.length).any (fun k => p k (L.getD k 0)) = true := List.any_eq_true.2 ⟨k, h1, h2⟩
    rw [this]
    rfl
end
theorem range_any (L : List Int) (p : Int → Bool) : (List.range L.length).any (fun k => p (L.getD k 0)) = L.any p := by
  rw [Bool.eq_iff_iff, List.any_eq_true, List.any_eq_true]
  constructor
  · rintro ⟨k, hk, hp⟩
    have hk' : k < L.length := List.mem_range.1 hk
    refine ⟨L[k], List.getElem_mem hk', ?_⟩
    simpa [List.getD, List.getElem?_eq_getElem hk'] using hp
  · rintro ⟨x, hx, hp⟩
    obtain ⟨k, hk, rfl⟩ := List.getElem_of_mem hx
    exact ⟨k, List.mem_range.2 hk, by simpa [List.getD, List.getElem?_eq_getElem hk] using hp⟩
def inB (x lo hi : Int) : Bool := decide (x ≥ lo) && decide (x ≤ hi)
theorem s_l1In_eq (x lo hi : Int) : f_s_l1In x lo hi = some (inB x lo hi) := by
  simp only [f_s_l1In, f_s_l1In_k, inB]
  cases decide (x ≥ lo) <;> rfl
theorem i_within_eq (x lo hi : Int) : f_i_within x lo hi = some (inB x lo hi) := by
  simp only [f_i_within, f_i_within_k, inB]
  cases decide (x ≥ lo) <;> rfl
def prodW (G : List Int) : Int := G.foldl (fun n o => w64 (n * o)) 1
def isG (G : List Int) : Bool := decide (G.length ≤ 3) && (G.all (fun o => inB o 2 24) && decide (prodW G ≤ 24))
theorem s_IsGroup_eq (G : List Int) (h : G.length ≤ lim) : f_s_IsGroup (ints G) = some (isG G) := by
  have hl := lim_lt h
  have key := loop_foldx (rd := f_s_IsGroup_r0 (ints G)) G (fun n o => w64 (n * o)) (fun k o => !inB o 2 24 || decide (k > 2)) id () 1 (fun k t hk => by
    simp only [f_s_IsGroup_r0, f_s_IsGroup_k0, ints_length, lt_dec hk, ok_nat hk, at_nat, br_true, w64_nat (by omega : k < 9223372036854775807), s_l1In_eq, bo_some]
    generalize inB (G.getD k 0) 2 24 = t1
    by_cases e : k > 2 <;> cases t1 <;> simp [br_eq, e] <;> omega)
    (fun t => by simp only [f_s_IsGroup_r0, f_s_IsGroup_k0, ints_length, lt_dec_self, br_false, id])
  simp only [f_s_IsGroup, f_s_IsGroup_k, key]
  have e : (List.range G.length).any (fun k => !inB (G.getD k 0) 2 24 || decide (k > 2)) = (G.any (fun o => !inB o 2 24) || decide (G.length > 3)) := by
    rw [← range_any G (fun o => !inB o 2 24), Bool.eq_iff_iff, Bool.or_eq_true, List.any_eq_true, List.any_eq_true, decide_eq_true_eq]
    constructor
    · rintro ⟨k, hk, hp⟩
      rw [Bool.or_eq_true, decide_eq_true_eq] at hp
      rcases hp with hp | hp
      · exact .inl ⟨k, hk, hp⟩
      · have := List.mem_range.1 hk
        exact .inr (by omega)
    · rintro (⟨k, hk, hp⟩ | hp)
      · exact ⟨k, hk, by rw [hp]; rfl⟩
      · exact ⟨3, List.mem_range.2 (by omega), by simp⟩
  rw [e]
  have e2 : G.all (fun o => inB o 2 24) = !G.any (fun o => !inB o 2 24) := by rw [List.all_eq_not_any_not]
  unfold isG
  rw [e2]
  unfold prodW
  by_cases h3 : G.length ≤ 3
  · have : ¬ G.length > 3 := by omega
    cases G.any (fun o => !inB o 2 24) <;> simp [h3, this, bl_one, bl_two]
  · have : G.length > 3 := by omega
    cases G.any (fun o => !inB o 2 24) <;> simp [h3, this, bl_one, bl_two]
theorem i_IsGroup_eq (G : List Int) (h : G.length ≤ lim) : f_i_IsGroup (ints G) = some (isG G) := by
  have hl := lim_lt h
  have key := loop_foldx (rd := f_i_IsGroup_r0 (ints G) (G.length : Int)) G (fun n o => w64 (n * o)) (fun _ o => !inB o 2 24) id () 1 (fun k t hk => by
    simp only [f_i_IsGroup_r0, f_i_IsGroup_k0, ints_length, lt_dec hk, ok_nat hk, at_nat, br_true, w64_nat (by omega : k < 9223372036854775807), i_within_eq, bo_some]
    cases inB (G.getD k 0) 2 24 <;> rfl)
    (fun t => by simp only [f_i_IsGroup_r0, f_i_IsGroup_k0, ints_length, lt_dec_self, br_false, id])
  simp only [f_i_IsGroup, f_i_IsGroup_k, ints_length, key]
  rw [range_any G (fun o => !inB o 2 24)]
  have e2 : G.all (fun o => inB o 2 24) = !G.any (fun o => !inB o 2 24) := by rw [List.all_eq_not_any_not]
  unfold isG
  rw [e2]
  unfold prodW
  by_cases h3 : G.length ≤ 3
  · have h4 : decide ((G.length : Int) > 3) = false := by simp; omega
    rw [h4]
    cases G.any (fun o => !inB o 2 24) <;> simp [h3, bl_one, bl_two, br_false]
  · have h4 : decide ((G.length : Int) > 3) = true := by simp; omega
    rw [h4]
    simp [h3, br_true]
theorem s_l2Order_eq (G : List Int) (h : G.length ≤ lim) : f_s_l2Order (ints G) = some (prodW G) := by
  have hl := lim_lt h
  have key := loop_fold (rd := f_s_l2Order_r0 (ints G)) G (fun n o => w64 (n * o)) id 1 (fun k t hk => by
    simp only [f_s_l2Order_r0, f_s_l2Order_k0, ints_length, lt_dec hk, ok_nat hk, at_nat, br_true, w64_nat (by omega : k < 9223372036854775807)])
    (fun t => by simp only [f_s_l2Order_r0, f_s_l2Order_k0, ints_length, lt_dec_self, br_false, id])
  simp only [f_s_l2Order, f_s_l2Order_k, key, bl1_one, id, prodW]
def ordG (G : List Int) : Int := if isG G then prodW G else 0
theorem s_OrderOf_eq (G : List Int) (h : G.length ≤ lim) : f_s_OrderOf (ints G) = some (ordG G) := by
  simp only [f_s_OrderOf, f_s_OrderOf_k, s_IsGroup_eq G h, bo_some, s_l2Order_eq G h, ordG]
  cases isG G <;> rfl
theorem i_OrderOf_eq (G : List Int) (h : G.length ≤ lim) : f_i_OrderOf (ints G) = some (ordG G) := by
  have hl := lim_lt h
  have key := loop_fold (rd := f_i_OrderOf_r0 (ints G) (G.length : Int)) G (fun n o => w64 (n * o)) id 1 (fun k t hk => by
    simp only [f_i_OrderOf_r0, f_i_OrderOf_k0, ints_length, lt_dec hk, ok_nat hk, at_nat, br_true, w64_nat (by omega : k < 9223372036854775807)])
    (fun t => by simp only [f_i_OrderOf_r0, f_i_OrderOf_k0, ints_length, lt_dec_self, br_false, id])
  simp only [f_i_OrderOf, f_i_OrderOf_k, i_IsGroup_eq G h, bo_some, ordG, ints_length, key, bl1_one]
  cases isG G <;> rfl
theorem isG_spec {G : List Int} (h : isG G = true) : G.length ≤ 3 ∧ (∀ o ∈ G, 2 ≤ o ∧ o ≤ 24) ∧ prodW G ≤ 24 := by
  unfold isG at h
  simp only [Bool.and_eq_true, decide_eq_true_eq, List.all_eq_true, inB] at h
  exact ⟨h.1, fun o ho => h.2.1 o ho, h.2.2⟩
theorem prodW_pos {G : List Int} (h : isG G = true) : 1 ≤ prodW G := by
  obtain ⟨h1, h2, _⟩ := isG_spec h
  have w : ∀ x : Int, 1 ≤ x → x ≤ 20000 → w64 x = x := fun x a b => w64_in (by omega) (by omega)
  match G, h1, h2 with
  | [], _, _ => decide
  | [a], _, h2 =>
    have ha := h2 a (by simp)
    simp only [prodW, List.foldl, Int.one_mul]
    rw [w a (by omega) (by omega)]
    omega
  | [a, b], _, h2 =>
    have ha := h2 a (by simp)
    have hb := h2 b (by simp)
    simp only [prodW, List.foldl, Int.one_mul]
    have hab : 1 ≤ a * b := Int.le_trans (by decide : (1 : Int) ≤ 2 * 2) (Int.mul_le_mul ha.1 hb.1 (by decide) (by omega))
    have hab2 : a * b ≤ 24 * 24 := Int.mul_le_mul ha.2 hb.2 (by omega) (by decide)
    rw [w a (by omega) (by omega), w (a * b) hab (by omega)]
    exact hab
  | [a, b, c], _, h2 =>
    have ha := h2 a (by simp)
    have hb := h2 b (by simp)
    have hc := h2 c (by simp)
    simp only [prodW, List.foldl, Int.one_mul]
    have hab : 1 ≤ a * b := Int.le_trans (by decide : (1 : Int) ≤ 2 * 2) (Int.mul_le_mul ha.1 hb.1 (by decide) (by omega))
    have hab2 : a * b ≤ 24 * 24 := Int.mul_le_mul ha.2 hb.2 (by omega) (by decide)
    have habc : 1 ≤ a * b * c := Int.le_trans (by decide : (1 : Int) ≤ 1 * 2) (Int.mul_le_mul hab hc.1 (by decide) (by omega))
    have habc2 : a * b * c ≤ 24 * 24 * 24 := Int.mul_le_mul hab2 hc.2 (by omega) (by decide)
    rw [w a (by omega) (by omega), w (a * b) hab (by omega), w _ habc (by omega)]
    exact habc
  | _ :: _ :: _ :: _ :: _, h1, _ => simp at h1
theorem ordG_range (G : List Int) : 0 ≤ ordG G ∧ ordG G ≤ 24 := by
  unfold ordG
  cases h : isG G with
  | false => simp
  | true =>
    have h1 := prodW_pos h
    have h2 := (isG_spec h).2.2
    simp only [if_true]
    omega
def hasG (G : List Int) (x : Int) : Bool := decide (x ≥ 0) && decide (x < ordG G)
theorem s_l2Is_eq (G : List Int) (x : Int) (h : G.length ≤ lim) : f_s_l2Is (ints G) x = some (hasG G x) := by
  simp only [f_s_l2Is, f_s_l2Is_k, s_OrderOf_eq G h, bo_some, hasG]
  cases decide (x ≥ 0) <;> rfl
theorem i_has_eq (G : List Int) (x : Int) (h : G.length ≤ lim) : f_i_Group_has (ints G) x = some (hasG G x) := by
  simp only [f_i_Group_has, f_i_Group_has_k, i_OrderOf_eq G h, bo_some, i_within_eq, hasG, inB]
  have h1 := ordG_range G
  rw [w64_in (by omega) (by omega)]
  have : decide (x ≤ ordG G - 1) = decide (x < ordG G) := by
    rw [decide_eq_decide]
    omega
  rw [this]
theorem hasG_spec {G : List Int} {x : Int} (h : hasG G x = true) : 0 ≤ x ∧ x < 24 ∧ x < ordG G := by
  unfold hasG at h
  simp only [Bool.and_eq_true, decide_eq_true_eq] at h
  have := ordG_range G
  omega
section
variable {S A B : Type} {rd : S → Option (Ro S A B)}
theorem loop_any (st : Nat → S) (n : Nat) (p : Nat → Bool) {a : A} {b : B} (h : ∀ k, k < n → rd (st k) = if p k then some (.two b) else some (.again (st (k + 1)))) (he : rd (st n) = some (.one a)) :
    loopL rd (st 0) = if (List.range n).any p then some (.two b) else some (.one a) := by
  rw [loop_find st n p (fun _ => b) h he]
  cases hf : (List.range n).find? p with
  | none =>
    rw [List.find?_eq_none] at hf
    have : (List.range n).any p = false := List.any_eq_false.2 hf
    rw [this]
    rfl
  | some k =>
    have : (List.range n).any p = true := List.any_eq_true.2 ⟨k, List.mem_of_find?_eq_some hf, List.find?_some hf⟩
    rw [this]
    rfl
end
theorem w64_cast {n : Nat} (h : n < 9223372036854775808) : w64 (n : Int) = n := w64_in (by omega) (by omega)
theorem ofInt_cast {n : Nat} (h : n < 9223372036854775808) : (BitVec.ofInt 64 (n : Int)).toNat = n := by
  simp [BitVec.toNat_ofInt]
  omega
theorem wrap_cast {n : Nat} (h : n < 9223372036854775808) : IntKind.i64.wrap (n : Int) = n := w64_cast h
theorem and64_nat {a b : Nat} (ha : a < 9223372036854775808) (hb : b < 9223372036854775808) : and64 (a : Int) (b : Int) = ((a &&& b : Nat) : Int) := by
  have : (BitVec.ofInt 64 (a : Int) &&& BitVec.ofInt 64 (b : Int)).toNat = a &&& b := by rw [BitVec.toNat_and, ofInt_cast ha, ofInt_cast hb]
  show IntKind.i64.wrap ((BitVec.ofInt 64 (a : Int) &&& BitVec.ofInt 64 (b : Int)).toNat : Int) = _
  rw [this, wrap_cast (Nat.lt_of_le_of_lt Nat.and_le_left ha)]
theorem or64_nat {a b : Nat} (ha : a < 9223372036854775808) (hb : b < 9223372036854775808) : or64 (a : Int) (b : Int) = ((a ||| b : Nat) : Int) := by
  have : (BitVec.ofInt 64 (a : Int) ||| BitVec.ofInt 64 (b : Int)).toNat = a ||| b := by rw [BitVec.toNat_or, ofInt_cast ha, ofInt_cast hb]
  show IntKind.i64.wrap ((BitVec.ofInt 64 (a : Int) ||| BitVec.ofInt 64 (b : Int)).toNat : Int) = _
  rw [this, wrap_cast (Nat.or_lt_two_pow (n := 63) ha hb)]
theorem shl64_nat {a k : Nat} (hk : k ≤ 63) (h : a * 2 ^ k < 9223372036854775808) : shl64 (a : Int) (k : Int) = ((a * 2 ^ k : Nat) : Int) := by
  unfold shl64
  have e : min (k : Int).toNat IntKind.i64.bits = k := by
    rw [Int.toNat_natCast]
    exact Nat.min_eq_left (by show k ≤ 64; omega)
  rw [e, show ((a : Int) * 2 ^ k) = ((a * 2 ^ k : Nat) : Int) by push_cast; rfl]
  exact w64_cast h
theorem shl1_nat {k : Nat} (h : k ≤ 62) : shl64 1 (k : Int) = ((2 ^ k : Nat) : Int) := by
  have h2 : 2 ^ k ≤ 2 ^ 62 := Nat.pow_le_pow_right (by decide) h
  have := shl64_nat (a := 1) (k := k) (by omega) (by omega)
  simpa using this
theorem shr64_nat {a k : Nat} (ha : a < 9223372036854775808) : shr64 (a : Int) (k : Int) = ((a >>> k : Nat) : Int) := by
  unfold shr64
  rw [Int.toNat_natCast]
  have h2 : (2 : Int) ^ (min k IntKind.i64.bits) = ((2 ^ (min k 64) : Nat) : Int) := by push_cast; rfl
  rw [h2, Int.fdiv_eq_ediv_of_nonneg _ (Int.natCast_nonneg _), ← Int.natCast_ediv, Nat.shiftRight_eq_div_pow]
  congr 1
  by_cases hk : k ≤ 64
  · rw [Nat.min_eq_left hk]
  · rw [Nat.min_eq_right (by omega), Nat.div_eq_of_lt (by have : (9223372036854775808 : Nat) ≤ 2 ^ 64 := by decide
                                                          omega), Nat.div_eq_of_lt]
    have : (2 : Nat) ^ 64 ≤ 2 ^ k := Nat.pow_le_pow_right (by decide) (by omega)
    have h3 : (9223372036854775808 : Nat) ≤ 2 ^ 64 := by decide
    omega
theorem bit_test {a k : Nat} (ha : a < 9223372036854775808) : (and64 (shr64 (a : Int) (k : Int)) 1 == 1) = a.testBit k := by
  rw [shr64_nat ha, show (1 : Int) = ((1 : Nat) : Int) from rfl, and64_nat (Nat.lt_of_le_of_lt (Nat.shiftRight_le a k) ha) (by decide)]
  rw [Bool.eq_iff_iff]
  simp only [Nat.testBit, bne_iff_ne, beq_iff_eq]
  rw [Nat.and_comm 1]
  have : (a >>> k) &&& 1 = (a >>> k) % 2 := Nat.and_one_is_mod _
  rw [this]
  omega
theorem bit_test0 {a : Nat} (ha : a < 9223372036854775808) : (and64 (a : Int) 1 == 1) = a.testBit 0 := by
  have := bit_test (a := a) (k := 0) ha
  rw [shr64_nat ha] at this
  simpa using this
def elems (a : Nat) : List Nat := (List.range 63).filter fun x => a.testBit x
theorem mem_elems {a x : Nat} (ha : a < 9223372036854775808) : x ∈ elems a ↔ a.testBit x = true := by
  unfold elems
  simp only [List.mem_filter, List.mem_range, and_iff_right_iff_imp]
  intro h
  rcases Nat.lt_or_ge x 63 with hx | hx
  · exact hx
  · have : a < 2 ^ x := Nat.lt_of_lt_of_le ha (by have : (2:Nat) ^ 63 ≤ 2 ^ x := Nat.pow_le_pow_right (by decide) hx
                                                  exact this)
    rw [Nat.testBit_lt_two_pow this] at h
    cases h
def orAll (f : Nat → Nat) (l : List Nat) : Nat := l.foldl (fun o y => o ||| f y) 0
theorem orFold_test (f : Nat → Nat) (l : List Nat) (o z : Nat) : (l.foldl (fun o y => o ||| f y) o).testBit z = (o.testBit z || l.any fun y => (f y).testBit z) := by
  induction l generalizing o with
  | nil => simp
  | cons y l ih => simp only [List.foldl_cons, ih, Nat.testBit_or, List.any_cons, Bool.or_assoc]
theorem orAll_test (f : Nat → Nat) (l : List Nat) (z : Nat) : (orAll f l).testBit z = l.any fun y => (f y).testBit z := by
  unfold orAll
  rw [orFold_test]
  simp
theorem pow_test {k z : Nat} : (2 ^ k).testBit z = decide (k = z) := Nat.testBit_two_pow
theorem orFold_lt {f : Nat → Nat} {n : Nat} : ∀ {l : List Nat} {o : Nat}, o < 2 ^ n → (∀ y ∈ l, f y < 2 ^ n) → l.foldl (fun o y => o ||| f y) o < 2 ^ n
  | [], _, ho, _ => ho
  | y :: l, o, ho, h => orFold_lt (l := l) (Nat.or_lt_two_pow ho (h y (by simp))) fun z hz => h z (by simp [hz])
def natsI (L : List Nat) : List Int := L.map fun (n : Nat) => (n : Int)
theorem natsI_length (L : List Nat) : (natsI L).length = L.length := by simp [natsI]
theorem natsI_getD (L : List Nat) (k : Nat) : (natsI L).getD k 0 = ((L.getD k 0 : Nat) : Int) := by
  unfold natsI
  simp only [List.getD, List.getElem?_map]
  cases L[k]? <;> rfl
def ordN : List Nat → Nat
  | [] => 1
  | n :: r => n * ordN r
structure VG (G : List Nat) : Prop where
  len : G.length ≤ 3
  each : ∀ n ∈ G, 2 ≤ n ∧ n ≤ 24
  ord : ordN G ≤ 24
theorem prodW_nat (G : List Nat) (hlen : G.length ≤ 3) (he : ∀ n ∈ G, 2 ≤ n ∧ n ≤ 24) : prodW (natsI G) = (ordN G : Nat) := by
  have w : ∀ x : Nat, x ≤ 20000 → w64 (x : Int) = x := fun x a => w64_cast (by omega)
  match G, hlen, he with
  | [], _, _ => rfl
  | [a], _, h2 =>
    have ha := h2 a (by simp)
    simp only [prodW, natsI, List.map, List.foldl, Int.one_mul, ordN, Nat.mul_one]
    exact w a (by omega)
  | [a, b], _, h2 =>
    have ha := h2 a (by simp)
    have hb := h2 b (by simp)
    simp only [prodW, natsI, List.map, List.foldl, Int.one_mul, ordN, Nat.mul_one]
    have hab2 : a * b ≤ 24 * 24 := Nat.mul_le_mul ha.2 hb.2
    rw [w a (by omega), ← Int.natCast_mul, w (a * b) (by omega)]
  | [a, b, c], _, h2 =>
    have ha := h2 a (by simp)
    have hb := h2 b (by simp)
    have hc := h2 c (by simp)
    simp only [prodW, natsI, List.map, List.foldl, Int.one_mul, ordN, Nat.mul_one]
    have hab2 : a * b ≤ 24 * 24 := Nat.mul_le_mul ha.2 hb.2
    have habc2 : a * b * c ≤ 24 * 24 * 24 := Nat.mul_le_mul hab2 hc.2
    rw [w a (by omega), ← Int.natCast_mul, w (a * b) (by omega), ← Int.natCast_mul, w _ (by omega), Nat.mul_assoc]
  | _ :: _ :: _ :: _ :: _, h1, _ => simp at h1
theorem nat_of_isG {G : List Int} (h : isG G = true) : ∃ g, G = natsI g ∧ VG g := by
  obtain ⟨h1, h2, h3⟩ := isG_spec h
  have e : G = natsI (G.map Int.toNat) := by
    unfold natsI
    rw [List.map_map]
    conv => lhs; rw [← List.map_id G]
    refine List.map_congr_left fun x hx => ?_
    have := h2 x hx
    show x = ((x.toNat : Nat) : Int)
    omega
  have he : ∀ n ∈ G.map Int.toNat, 2 ≤ n ∧ n ≤ 24 := by
    intro n hn
    obtain ⟨x, hx, rfl⟩ := List.mem_map.1 hn
    have := h2 x hx
    omega
  have hl : (G.map Int.toNat).length ≤ 3 := by simpa using h1
  refine ⟨G.map Int.toNat, e, hl, he, ?_⟩
  have := prodW_nat _ hl he
  rw [← e] at this
  omega
theorem VG.isG {g : List Nat} (h : VG g) : isG (natsI g) = true := by
  unfold Go.Proofs.Ytonjcafobhpfdaa.isG
  have := prodW_nat g h.len h.each
  have h3 := h.ord
  simp only [natsI_length, Bool.and_eq_true, decide_eq_true_eq, List.all_eq_true, this]
  refine ⟨h.len, fun x hx => ?_, by omega⟩
  unfold natsI at hx
  obtain ⟨n, hn, rfl⟩ := List.mem_map.1 hx
  have := h.each n hn
  simp only [inB, Bool.and_eq_true, decide_eq_true_eq]
  omega
theorem VG.ordG {g : List Nat} (h : VG g) : ordG (natsI g) = (ordN g : Nat) := by
  unfold Go.Proofs.Ytonjcafobhpfdaa.ordG
  rw [h.isG, if_pos rfl, prodW_nat g h.len h.each]
theorem VG.lim {g : List Nat} (h : VG g) : (natsI g).length ≤ lim := by
  rw [natsI_length]
  exact Nat.le_trans h.len (by decide)
theorem ordN_pos {g : List Nat} (h : ∀ n ∈ g, 2 ≤ n ∧ n ≤ 24) : 1 ≤ ordN g := by
  induction g with
  | nil => exact Nat.le_refl _
  | cons n r ih =>
    have := ih fun m hm => h m (by simp [hm])
    have hn := h n (by simp)
    show 1 ≤ n * ordN r
    exact Nat.mul_pos (by omega) this
theorem VG.has {g : List Nat} (h : VG g) (x : Int) : hasG (natsI g) x = true ↔ ∃ n : Nat, x = n ∧ n < ordN g := by
  unfold hasG
  rw [h.ordG]
  simp only [Bool.and_eq_true, decide_eq_true_eq]
  constructor
  · rintro ⟨h1, h2⟩
    exact ⟨x.toNat, by omega, by omega⟩
  · rintro ⟨n, rfl, h2⟩
    omega
def addN : List Nat → Nat → Nat → Nat
  | [], _, _ => 0
  | n :: r, x, y => (x % n + y % n) % n + n * addN r (x / n) (y / n)
theorem addN_comm (g : List Nat) (x y : Nat) : addN g x y = addN g y x := by
  induction g generalizing x y with
  | nil => rfl
  | cons n r ih => simp only [addN, ih (x / n) (y / n), Nat.add_comm (x % n) (y % n)]
theorem addN_lt {g : List Nat} (h : ∀ n ∈ g, 2 ≤ n ∧ n ≤ 24) (x y : Nat) : addN g x y < ordN g := by
  induction g generalizing x y with
  | nil => exact Nat.lt_succ_self 0
  | cons n r ih =>
    have hn := h n (by simp)
    have hr := ih (fun m hm => h m (by simp [hm])) (x / n) (y / n)
    have h1 : (x % n + y % n) % n < n := Nat.mod_lt _ (by omega)
    show (x % n + y % n) % n + n * addN r (x / n) (y / n) < n * ordN r
    have h2 : n * (addN r (x / n) (y / n) + 1) ≤ n * ordN r := Nat.mul_le_mul_left n hr
    rw [Nat.mul_add] at h2
    omega
theorem tmod_nat (x n : Nat) : (x : Int).tmod (n : Int) = ((x % n : Nat) : Int) := rfl
theorem tdiv_nat (x n : Nat) : (x : Int).tdiv (n : Int) = ((x / n : Nat) : Int) := rfl
theorem add_round {n x y z u : Nat} (hn : 2 ≤ n ∧ n ≤ 24) (hx : x < 4611686018427387904) (hy : y < 4611686018427387904) (hz : z < u) (hu : u * n ≤ 1000000) :
    w64 ((x : Int).tdiv (n : Int)) = ((x / n : Nat) : Int) ∧ w64 ((y : Int).tdiv (n : Int)) = ((y / n : Nat) : Int) ∧ w64 ((u : Int) * (n : Int)) = ((u * n : Nat) : Int) ∧
    w64 ((z : Int) + w64 ((w64 ((x : Int).tmod (n : Int) + (y : Int).tmod (n : Int))).tmod (n : Int) * (u : Int))) = ((z + (x % n + y % n) % n * u : Nat) : Int) ∧ z + (x % n + y % n) % n * u < u * n := by
  have h1 : x % n < n := Nat.mod_lt _ (by omega)
  have h2 : y % n < n := Nat.mod_lt _ (by omega)
  have h3 : (x % n + y % n) % n < n := Nat.mod_lt _ (by omega)
  have h4 : ((x % n + y % n) % n + 1) * u ≤ n * u := Nat.mul_le_mul_right u h3
  have h5 : n * u = u * n := Nat.mul_comm n u
  have h6 : ((x % n + y % n) % n + 1) * u = (x % n + y % n) % n * u + u := by rw [Nat.add_mul, Nat.one_mul]
  refine ⟨?_, ?_, ?_, ?_, ?_⟩
  · rw [tdiv_nat, w64_cast (Nat.lt_of_le_of_lt (Nat.div_le_self x n) (by omega))]
  · rw [tdiv_nat, w64_cast (Nat.lt_of_le_of_lt (Nat.div_le_self y n) (by omega))]
  · rw [← Int.natCast_mul, w64_cast (by omega)]
  · rw [tmod_nat, tmod_nat, ← Int.natCast_add, w64_cast (by omega), tmod_nat, ← Int.natCast_mul, w64_cast (by omega), ← Int.natCast_add, w64_cast (by omega)]
  · omega
theorem drop_cons {G : List Nat} {k n : Nat} {r : List Nat} (h : G.drop k = n :: r) : k < G.length ∧ G.getD k 0 = n ∧ G.drop (k + 1) = r := drop_facts h 0
theorem drop_nil {G : List Nat} {k : Nat} (h : G.drop k = []) (hk : k ≤ G.length) : k = G.length := by
  have := List.drop_eq_nil_iff.1 h
  omega
theorem s_l2Add_eq {g : List Nat} (hg : VG g) {x y : Nat} (hx : x < 4611686018427387904) (hy : y < 4611686018427387904) : f_s_l2Add (ints (natsI g)) (x : Int) (y : Int) = some ((addN g x y : Nat) : Int) := by
  have key : ∀ (r : List Nat) (k x y z u : Nat), g.drop k = r → k ≤ g.length → x < 4611686018427387904 → y < 4611686018427387904 → z < u → u * ordN r ≤ 1000000 →
      loopL (f_s_l2Add_r0 (ints (natsI g))) ((x : Int), (y : Int), (z : Int), (u : Int), (k : Int)) = some (.one (((z + u * addN r x y : Nat)) : Int)) := by
    intro r
    induction r with
    | nil =>
      intro k x y z u hd hk hx hy hz hu
      have := drop_nil hd hk
      subst this
      refine loopL_one ?_
      simp only [f_s_l2Add_r0, f_s_l2Add_k0, ints_length, natsI_length, lt_dec_self, br_false, addN, Nat.mul_zero, Nat.add_zero]
    | cons n r ih =>
      intro k x y z u hd hk hx hy hz hu
      obtain ⟨hkl, hn, hd'⟩ := drop_cons hd
      have hne := hg.each n (by rw [← hn]; simp [List.getD, List.getElem?_eq_getElem hkl])
      have hor : 1 ≤ ordN r := ordN_pos fun m hm => hg.each m (by rw [← hd'] at hm; exact List.mem_of_mem_drop hm)
      have hu' : u * n * ordN r ≤ 1000000 := by rw [Nat.mul_assoc]; exact hu
      have hu2 : u * n ≤ 1000000 := Nat.le_trans (Nat.le_mul_of_pos_right _ hor) hu'
      obtain ⟨a1, a2, a3, a4, a5⟩ := add_round hne hx hy hz hu2
      have hkl' : k < (natsI g).length := by rw [natsI_length]; exact hkl
      have hat : atI (ints (natsI g)) (k : Int) = (n : Int) := by rw [at_nat, natsI_getD, hn]
      have hn0 : ((n : Int) == 0) = false := by
        have : ¬ ((n : Int) = 0) := by omega
        simpa using this
      rw [loopL_again (s' := (((x / n : Nat) : Int), ((y / n : Nat) : Int), ((z + (x % n + y % n) % n * u : Nat) : Int), ((u * n : Nat) : Int), ((k + 1 : Nat) : Int))) (by
        have hg3 := hg.len
        simp only [f_s_l2Add_r0, f_s_l2Add_k0, ints_length, natsI_length, lt_dec hkl, ok_nat hkl', hat, hn0, br_true, br_false, a1, a2, a3, a4, w64_nat (by omega : k < 9223372036854775807)])]
      rw [ih (k + 1) (x / n) (y / n) _ (u * n) hd' hkl (Nat.lt_of_le_of_lt (Nat.div_le_self x n) hx) (Nat.lt_of_le_of_lt (Nat.div_le_self y n) hy) a5 hu']
      congr 3
      simp only [addN, Nat.mul_add, Nat.mul_assoc, Nat.mul_comm u ((x % n + y % n) % n), Nat.add_assoc]
  have := key g 0 x y 0 1 rfl (Nat.zero_le _) hx hy (by decide) (by have := hg.ord; omega)
  simp only [f_s_l2Add, f_s_l2Add_k]
  have e0 : ((0 : Nat) : Int) = 0 := rfl
  have e1 : ((1 : Nat) : Int) = 1 := rfl
  rw [e0, e1] at this
  rw [this, bl1_one]
  simp
theorem i_add_eq {g : List Nat} (hg : VG g) {x y : Nat} (hx : x < 4611686018427387904) (hy : y < 4611686018427387904) : f_i_Group_add (ints (natsI g)) (x : Int) (y : Int) = some ((addN g x y : Nat) : Int) := by
  have key : ∀ (r : List Nat) (k x y z u : Nat), g.drop k = r → k ≤ g.length → x < 4611686018427387904 → y < 4611686018427387904 → z < u → u * ordN r ≤ 1000000 →
      loopL (f_i_Group_add_r0 (ints (natsI g)) (g.length : Int)) ((x : Int), (y : Int), (z : Int), (u : Int), (k : Int)) = some (.one (((z + u * addN r x y : Nat)) : Int)) := by
    intro r
    induction r with
    | nil =>
      intro k x y z u hd hk hx hy hz hu
      have := drop_nil hd hk
      subst this
      refine loopL_one ?_
      simp only [f_i_Group_add_r0, f_i_Group_add_k0, lt_dec_self, br_false, addN, Nat.mul_zero, Nat.add_zero]
    | cons n r ih =>
      intro k x y z u hd hk hx hy hz hu
      obtain ⟨hkl, hn, hd'⟩ := drop_cons hd
      have hne := hg.each n (by rw [← hn]; simp [List.getD, List.getElem?_eq_getElem hkl])
      have hor : 1 ≤ ordN r := ordN_pos fun m hm => hg.each m (by rw [← hd'] at hm; exact List.mem_of_mem_drop hm)
      have hu' : u * n * ordN r ≤ 1000000 := by rw [Nat.mul_assoc]; exact hu
      have hu2 : u * n ≤ 1000000 := Nat.le_trans (Nat.le_mul_of_pos_right _ hor) hu'
      obtain ⟨a1, a2, a3, a4, a5⟩ := add_round hne hx hy hz hu2
      have hkl' : k < (natsI g).length := by rw [natsI_length]; exact hkl
      have hat : atI (ints (natsI g)) (k : Int) = (n : Int) := by rw [at_nat, natsI_getD, hn]
      have hn0 : ((n : Int) == 0) = false := by
        have : ¬ ((n : Int) = 0) := by omega
        simpa using this
      rw [loopL_again (s' := (((x / n : Nat) : Int), ((y / n : Nat) : Int), ((z + (x % n + y % n) % n * u : Nat) : Int), ((u * n : Nat) : Int), ((k + 1 : Nat) : Int))) (by
        have hg3 := hg.len
        simp only [f_i_Group_add_r0, f_i_Group_add_k0, lt_dec hkl, ok_nat hkl', hat, hn0, br_true, br_false, a1, a2, a3, a4, w64_nat (by omega : k < 9223372036854775807)])]
      rw [ih (k + 1) (x / n) (y / n) _ (u * n) hd' hkl (Nat.lt_of_le_of_lt (Nat.div_le_self x n) hx) (Nat.lt_of_le_of_lt (Nat.div_le_self y n) hy) a5 hu']
      congr 3
      simp only [addN, Nat.mul_add, Nat.mul_assoc, Nat.mul_comm u ((x % n + y % n) % n), Nat.add_assoc]
  have := key g 0 x y 0 1 rfl (Nat.zero_le _) hx hy (by decide) (by have := hg.ord; omega)
  simp only [f_i_Group_add, f_i_Group_add_k, ints_length, natsI_length]
  have e0 : ((0 : Nat) : Int) = 0 := rfl
  have e1 : ((1 : Nat) : Int) = 1 := rfl
  rw [e0, e1] at this
  rw [this, bl1_one]
  simp
theorem loop_foldN {S T A B : Type} {rd : S → Option (Ro S A B)} (l : List Nat) (mk : T → Int → S) (f : T → Nat → T) (gg : T → A) (P : T → Prop) (t0 : T) (h0 : P t0)
    (h : ∀ (k : Nat) t, k < l.length → P t → rd (mk t (k : Int)) = some (.again (mk (f t (l.getD k 0)) ((k + 1 : Nat) : Int))))
    (hP : ∀ (k : Nat) t, k < l.length → P t → P (f t (l.getD k 0)))
    (he : ∀ t, P t → rd (mk t (l.length : Int)) = some (.one (gg t))) : loopL rd (mk t0 0) = some (.one (gg (l.foldl f t0))) ∧ P (l.foldl f t0) := by
  have step : ∀ k, k < l.length → (l.take (k + 1)).foldl f t0 = f ((l.take k).foldl f t0) (l.getD k 0) := by
    intro k hk
    rw [List.take_succ_eq_append_getElem hk, List.foldl_append]
    simp [List.getD, List.getElem?_eq_getElem hk]
  have inv : ∀ k, k ≤ l.length → P ((l.take k).foldl f t0) := by
    intro k
    induction k with
    | zero => intro _; exact h0
    | succ k ih => intro hk; rw [step k hk]; exact hP k _ hk (ih (by omega))
  have key := loop_count (rd := rd) (fun k => mk ((l.take k).foldl f t0) (k : Int)) l.length (a := gg (l.foldl f t0)) (fun k hk => by
    show rd (mk ((l.take k).foldl f t0) (k : Int)) = _
    rw [h k _ hk (inv k (by omega)), step k hk]) (by
      have := inv l.length (Nat.le_refl _)
      show rd (mk ((l.take l.length).foldl f t0) (l.length : Int)) = _
      rw [he _ this, List.take_length]) 0 (Nat.zero_le _)
  refine ⟨by simpa using key, ?_⟩
  have := inv l.length (Nat.le_refl _)
  rwa [List.take_length] at this
structure VS (g l : List Nat) : Prop where
  grp : VG g
  each : ∀ x ∈ l, x < ordN g
  len : l.length ≤ 12
theorem VS.at {g l : List Nat} (v : VS g l) {k : Nat} (hk : k < l.length) : l.getD k 0 < ordN g := v.each _ (by simp [List.getD, List.getElem?_eq_getElem hk])
theorem ok_natsI {l : List Nat} {k : Nat} (h : k < l.length) : okAt (ints (natsI l)) (k : Int) = true := ok_nat (by rw [natsI_length]; exact h)
theorem at_natsI (l : List Nat) (k : Nat) : atI (ints (natsI l)) (k : Int) = ((l.getD k 0 : Nat) : Int) := by rw [at_nat, natsI_getD]
theorem VS.lim {g l : List Nat} (v : VS g l) : l.length ≤ Ev.lim := Nat.le_trans v.len (by decide)
def elemsFrom (a k : Nat) : List Nat := (List.range' k (63 - k)).filter fun x => a.testBit x
theorem elemsFrom_zero (a : Nat) : elemsFrom a 0 = elems a := by
  unfold elemsFrom elems
  rw [List.range_eq_range']
theorem elemsFrom_step (a k : Nat) (hk : k < 63) : elemsFrom a k = if a.testBit k then k :: elemsFrom a (k + 1) else elemsFrom a (k + 1) := by
  unfold elemsFrom
  rw [show 63 - k = (63 - (k + 1)) + 1 by omega, List.range'_succ, List.filter_cons]
theorem shr_zero_bits {a k x : Nat} (h : a >>> k = 0) (hx : k ≤ x) : a.testBit x = false := by
  have : a.testBit x = (a >>> k).testBit (x - k) := by
    rw [Nat.testBit_shiftRight]
    congr 1
    omega
  rw [this, h]
  simp
theorem elemsFrom_nil {a k : Nat} (h : a >>> k = 0) : elemsFrom a k = [] := by
  unfold elemsFrom
  rw [List.filter_eq_nil_iff]
  intro x hx
  have := List.mem_range'_1.1 hx
  rw [shr_zero_bits h this.1]
  decide
theorem shr_pos_lt {a k : Nat} (ha : a < 9223372036854775808) (h : a >>> k ≠ 0) : k < 63 := by
  rcases Nat.lt_or_ge k 63 with hk | hk
  · exact hk
  · exfalso
    apply h
    rw [Nat.shiftRight_eq_div_pow]
    apply Nat.div_eq_of_lt
    have : (2 : Nat) ^ 63 ≤ 2 ^ k := Nat.pow_le_pow_right (by decide) hk
    have h2 : (2 : Nat) ^ 63 = 9223372036854775808 := by decide
    omega
theorem elems_len (a : Nat) : (elems a).length ≤ 63 := by
  unfold elems
  exact Nat.le_trans (List.length_filter_le _ _) (by simp)
theorem ints_cast_snoc (l : List Nat) (k : Nat) : ints (natsI l) ++ [Sc.n .i64 (k : Int)] = ints (natsI (l ++ [k])) := by
  simp [ints, natsI]
theorem ne_zero_dec {n : Nat} : ((n : Int) != 0) = decide (n ≠ 0) := by
  by_cases h : n = 0
  · subst h; rfl
  · have : ¬ ((n : Int) = 0) := by omega
    simp [h, this]
theorem neg_dec (n : Nat) : decide ((n : Int) < 0) = false := by simp
theorem i_members_eq {a : Nat} (ha : a < 9223372036854775808) : f_i_members (a : Int) = some (ints (natsI (elems a))) := by
  have key : ∀ d k (out : List Nat), d + k = 63 → out.length ≤ k → loopL (f_i_members_r0 (a : Int)) (ints (natsI out), (k : Int)) = some (.one (ints (natsI (out ++ elemsFrom a k)))) := by
    intro d
    induction d with
    | zero =>
      intro k out hk hlen
      have h0 : a >>> k = 0 := by
        by_cases h : a >>> k = 0
        · exact h
        · have := shr_pos_lt ha h; omega
      refine loopL_one ?_
      simp only [f_i_members_r0, f_i_members_k0, neg_dec, br_false, shr64_nat ha, h0, ne_zero_dec, elemsFrom_nil h0, List.append_nil]
      rfl
    | succ d ih =>
      intro k out hk hlen
      by_cases h0 : a >>> k = 0
      · refine loopL_one ?_
        simp only [f_i_members_r0, f_i_members_k0, neg_dec, br_false, shr64_nat ha, h0, ne_zero_dec, elemsFrom_nil h0, List.append_nil]
        rfl
      · have e1 : decide (a >>> k ≠ 0) = true := by simpa using h0
        have hlim : decide ((ints (natsI out)).length + [Sc.n .i64 (k : Int)].length ≤ lim) = true := by
          simp only [ints_length, natsI_length, List.length_singleton, decide_eq_true_eq]
          exact Nat.le_trans (by omega : out.length + 1 ≤ 64) (by decide)
        rw [elemsFrom_step a k (by omega)]
        cases ht : a.testBit k with
        | true =>
          rw [loopL_again (s' := (ints (natsI (out ++ [k])), ((k + 1 : Nat) : Int))) (by
            simp only [f_i_members_r0, f_i_members_k0, neg_dec, br_false, bit_test ha, ht, br_true, hlim, ints_cast_snoc, w64_nat (by omega : k < 9223372036854775807)]
            simp only [shr64_nat ha, ne_zero_dec, e1, br_true])]
          rw [ih (k + 1) (out ++ [k]) (by omega) (by simp; omega)]
          simp
        | false =>
          rw [loopL_again (s' := (ints (natsI out), ((k + 1 : Nat) : Int))) (by
            simp only [f_i_members_r0, f_i_members_k0, neg_dec, br_false, bit_test ha, ht, w64_nat (by omega : k < 9223372036854775807)]
            simp only [shr64_nat ha, ne_zero_dec, e1, br_true])]
          rw [ih (k + 1) out (by omega) (by omega)]
          simp
  have := key 63 0 [] rfl (Nat.le_refl _)
  simp only [f_i_members, f_i_members_k]
  have e0 : (ints (natsI []), ((0 : Nat) : Int)) = (([] : List Sc), (0 : Int)) := rfl
  rw [e0] at this
  rw [this, bl1_one, elemsFrom_zero]
  rfl
theorem s_l3List_eq {a : Nat} (ha : a < 9223372036854775808) : f_s_l3List (a : Int) = some (ints (natsI (elems a))) := by
  have key : ∀ d k (out : List Nat), d + k = 63 → out.length ≤ k → loopL f_s_l3List_r0 (ints (natsI out), (k : Int), ((a >>> k : Nat) : Int)) = some (.one (ints (natsI (out ++ elemsFrom a k)))) := by
    intro d
    induction d with
    | zero =>
      intro k out hk hlen
      have h0 : a >>> k = 0 := by
        by_cases h : a >>> k = 0
        · exact h
        · have := shr_pos_lt ha h; omega
      refine loopL_one ?_
      simp only [f_s_l3List_r0, f_s_l3List_k0, h0, elemsFrom_nil h0, List.append_nil]
      rfl
    | succ d ih =>
      intro k out hk hlen
      by_cases h0 : a >>> k = 0
      · refine loopL_one ?_
        simp only [f_s_l3List_r0, f_s_l3List_k0, h0, elemsFrom_nil h0, List.append_nil]
        rfl
      · have e1 : decide (((a >>> k : Nat) : Int) > 0) = true := by
          rw [decide_eq_true_eq]
          have : 0 < a >>> k := Nat.pos_of_ne_zero h0
          omega
        have hs : a >>> k < 9223372036854775808 := Nat.lt_of_le_of_lt (Nat.shiftRight_le a k) ha
        have e2 : shr64 ((a >>> k : Nat) : Int) 1 = ((a >>> (k + 1) : Nat) : Int) := by
          have := shr64_nat (a := a >>> k) (k := 1) hs
          rw [show ((1 : Nat) : Int) = 1 from rfl] at this
          rw [this, ← Nat.shiftRight_add]
        have e3 : (a >>> k).testBit 0 = a.testBit k := by rw [Nat.testBit_shiftRight, Nat.add_zero]
        have hlim : decide ((ints (natsI out)).length + [Sc.n .i64 (k : Int)].length ≤ lim) = true := by
          simp only [ints_length, natsI_length, List.length_singleton, decide_eq_true_eq]
          exact Nat.le_trans (by omega : out.length + 1 ≤ 64) (by decide)
        rw [elemsFrom_step a k (by omega)]
        cases ht : a.testBit k with
        | true =>
          rw [loopL_again (s' := (ints (natsI (out ++ [k])), ((k + 1 : Nat) : Int), ((a >>> (k + 1) : Nat) : Int))) (by
            simp only [f_s_l3List_r0, f_s_l3List_k0, e1, br_true, bit_test0 hs, e3, ht, hlim, ints_cast_snoc, w64_nat (by omega : k < 9223372036854775807), e2])]
          rw [ih (k + 1) (out ++ [k]) (by omega) (by simp; omega)]
          simp
        | false =>
          rw [loopL_again (s' := (ints (natsI out), ((k + 1 : Nat) : Int), ((a >>> (k + 1) : Nat) : Int))) (by
            simp only [f_s_l3List_r0, f_s_l3List_k0, e1, br_true, br_false, bit_test0 hs, e3, ht, w64_nat (by omega : k < 9223372036854775807), e2])]
          rw [ih (k + 1) out (by omega) (by omega)]
          simp
  have := key 63 0 [] rfl (Nat.le_refl _)
  simp only [f_s_l3List, f_s_l3List_k]
  have e0 : (ints (natsI []), ((0 : Nat) : Int), ((a >>> 0 : Nat) : Int)) = (([] : List Sc), (0 : Int), (a : Int)) := by simp [ints, natsI]
  rw [e0] at this
  rw [this, bl1_one, elemsFrom_zero]
  rfl
def shiftN (g : List Nat) (a x : Nat) : Nat := orAll (fun y => 2 ^ addN g x y) (elems a)
theorem two_pow_lt {k n : Nat} (h : k < n) : 2 ^ k < 2 ^ n := Nat.pow_lt_pow_right (by decide) h
theorem shiftN_lt {g : List Nat} (v : VG g) (a x : Nat) : shiftN g a x < 2 ^ ordN g :=
  orFold_lt (Nat.two_pow_pos _) fun y _ => two_pow_lt (addN_lt v.each x y)
theorem pow24 {g : List Nat} (v : VG g) {a : Nat} (h : a < 2 ^ ordN g) : a < 16777216 :=
  Nat.lt_of_lt_of_le h (Nat.pow_le_pow_right (by decide) v.ord)
theorem elems_lt {a n x : Nat} (h : a < 2 ^ n) (hx : x ∈ elems a) : x < n := by
  unfold elems at hx
  have h2 := (List.mem_filter.1 hx).2
  rcases Nat.lt_or_ge x n with hl | hl
  · exact hl
  · have : a < 2 ^ x := Nat.lt_of_lt_of_le h (Nat.pow_le_pow_right (by decide) hl)
    rw [Nat.testBit_lt_two_pow this] at h2
    cases h2
theorem or_pow {g : List Nat} (v : VG g) {o k : Nat} (ho : o < 2 ^ ordN g) (hk : k < ordN g) : or64 (o : Int) (shl64 1 (k : Int)) = ((o ||| 2 ^ k : Nat) : Int) := by
  have h24 := v.ord
  rw [shl1_nat (by omega), or64_nat (Nat.lt_trans (pow24 v ho) (by decide)) (Nat.lt_trans (pow24 v (two_pow_lt hk)) (by decide))]
theorem or_lt {g : List Nat} {o p : Nat} (ho : o < 2 ^ ordN g) (hp : p < 2 ^ ordN g) : o ||| p < 2 ^ ordN g := Nat.or_lt_two_pow ho hp
theorem i_shift_eq {g : List Nat} (v : VG g) {a x : Nat} (ha : a < 2 ^ ordN g) (hx : x < ordN g) : f_i_Group_shift (ints (natsI g)) (a : Int) (x : Int) = some ((shiftN g a x : Nat) : Int) := by
  have h24 := v.ord
  have ha' : a < 9223372036854775808 := Nat.lt_trans (pow24 v ha) (by decide)
  have key : ∀ (d k out : Nat), d + k = 63 → out < 2 ^ ordN g → loopL (f_i_Group_shift_r0 (a : Int) (x : Int) (ints (natsI g))) ((out : Int), (k : Int)) = some (.one (((elemsFrom a k).foldl (fun o y => o ||| 2 ^ addN g x y) out : Nat) : Int)) := by
    intro d
    induction d with
    | zero =>
      intro k out hk hlen
      have h0 : a >>> k = 0 := by
        by_cases h : a >>> k = 0
        · exact h
        · have := shr_pos_lt ha' h; omega
      refine loopL_one ?_
      simp only [f_i_Group_shift_r0, f_i_Group_shift_k0, neg_dec, br_false, shr64_nat ha', h0, ne_zero_dec, elemsFrom_nil h0]
      rfl
    | succ d ih =>
      intro k out hk hout
      by_cases h0 : a >>> k = 0
      · refine loopL_one ?_
        simp only [f_i_Group_shift_r0, f_i_Group_shift_k0, neg_dec, br_false, shr64_nat ha', h0, ne_zero_dec, elemsFrom_nil h0]
        rfl
      · have e1 : decide (a >>> k ≠ 0) = true := by simpa using h0
        rw [elemsFrom_step a k (by omega)]
        have hadd := addN_lt v.each x k
        cases ht : a.testBit k with
        | true =>
          rw [loopL_again (s' := (((out ||| 2 ^ addN g x k : Nat) : Int), ((k + 1 : Nat) : Int))) (by
            simp only [f_i_Group_shift_r0, f_i_Group_shift_k0, neg_dec, br_false, bit_test ha', ht, br_true, i_add_eq v (by omega : x < 4611686018427387904) (by omega : k < 4611686018427387904), bo_some, or_pow v hout hadd, w64_nat (by omega : k < 9223372036854775807)]
            simp only [shr64_nat ha', ne_zero_dec, e1, br_true])]
          rw [ih (k + 1) _ (by omega) (or_lt hout (two_pow_lt hadd))]
          rfl
        | false =>
          rw [loopL_again (s' := ((out : Int), ((k + 1 : Nat) : Int))) (by
            simp only [f_i_Group_shift_r0, f_i_Group_shift_k0, neg_dec, br_false, bit_test ha', ht, w64_nat (by omega : k < 9223372036854775807)]
            simp only [shr64_nat ha', ne_zero_dec, e1, br_true])]
          rw [ih (k + 1) out (by omega) hout]
          rfl
  have := key 63 0 0 rfl (Nat.two_pow_pos _)
  simp only [f_i_Group_shift, f_i_Group_shift_k]
  rw [show ((0 : Nat) : Int) = 0 from rfl] at this
  rw [this, bl1_one, elemsFrom_zero]
  rfl
theorem in_nat {k n : Nat} (h : k < n) : inRange (k : Int) n = true := by rw [inRange_nat]; simpa using h
theorem atN_natsI (l : List Nat) (k : Nat) : atN (ints (natsI l)) k = ((l.getD k 0 : Nat) : Int) := by rw [atN_ints, natsI_getD]
theorem elems_lim (a : Nat) : (elems a).length ≤ 9223372036854775806 := Nat.le_trans (elems_len a) (by decide)
theorem elems_at {a n k : Nat} (h : a < 2 ^ n) (hk : k < (elems a).length) : (elems a).getD k 0 < n := elems_lt h (by simp [List.getD, List.getElem?_eq_getElem hk])
theorem s_l3Shift_eq {g : List Nat} (v : VG g) {a x : Nat} (ha : a < 2 ^ ordN g) (hx : x < ordN g) : f_s_l3Shift (ints (natsI g)) (a : Int) (x : Int) = some ((shiftN g a x : Nat) : Int) := by
  have h24 := v.ord
  have ha' : a < 9223372036854775808 := Nat.lt_trans (pow24 v ha) (by decide)
  have hlim := elems_lim a
  have key := loop_foldN (rd := f_s_l3Shift_r0 (x : Int) (ints (natsI g))) (elems a) (fun (t : Nat) i => ((t : Int), ints (natsI (elems a)), i)) (fun o y => o ||| 2 ^ addN g x y) (fun t => (t : Int)) (fun t => t < 2 ^ ordN g) 0 (Nat.two_pow_pos _) (fun k t hk ht => by
    have hy := elems_at ha hk
    have hadd := addN_lt v.each x ((elems a).getD k 0)
    simp only [f_s_l3Shift_r0, f_s_l3Shift_k0, ints_length, natsI_length, lt_dec hk, in_nat hk, Int.toNat_natCast, kAt_ints, atN_natsI, br_true, s_l2Add_eq v (by omega : (elems a).getD k 0 < 4611686018427387904) (by omega : x < 4611686018427387904), bo_some, neg_dec, br_false, addN_comm g ((elems a).getD k 0) x, or_pow v ht hadd, w64_nat (by omega : k < 9223372036854775807)])
    (fun k t hk ht => or_lt ht (two_pow_lt (addN_lt v.each _ _)))
    (fun t ht => by simp only [f_s_l3Shift_r0, f_s_l3Shift_k0, ints_length, natsI_length, lt_dec_self, br_false])
  simp only [f_s_l3Shift, f_s_l3Shift_k, s_l3List_eq ha', bo_some]
  have := key.1
  rw [show ((0 : Nat) : Int) = 0 from rfl] at this
  rw [this, bl1_one]
  rfl
def sumN (g : List Nat) (a b : Nat) : Nat := orAll (fun x => shiftN g b x) (elems a)
theorem shiftN_test (g : List Nat) (a x z : Nat) : (shiftN g a x).testBit z = (elems a).any fun y => decide (addN g x y = z) := by
  unfold shiftN
  rw [orAll_test]
  simp only [pow_test]
theorem sumN_test (g : List Nat) (a b z : Nat) : (sumN g a b).testBit z = true ↔ ∃ x ∈ elems a, ∃ y ∈ elems b, addN g x y = z := by
  unfold sumN
  rw [orAll_test, List.any_eq_true]
  simp only [shiftN_test, List.any_eq_true, decide_eq_true_eq]
theorem sumN_lt {g : List Nat} (v : VG g) (a b : Nat) : sumN g a b < 2 ^ ordN g := orFold_lt (Nat.two_pow_pos _) fun y _ => shiftN_lt v b y
theorem or_or {g : List Nat} (v : VG g) {o p : Nat} (ho : o < 2 ^ ordN g) (hp : p < 2 ^ ordN g) : or64 (o : Int) (p : Int) = ((o ||| p : Nat) : Int) :=
  or64_nat (Nat.lt_trans (pow24 v ho) (by decide)) (Nat.lt_trans (pow24 v hp) (by decide))
theorem s_l4Sum_eq {g : List Nat} (v : VG g) {a b : Nat} (ha : a < 2 ^ ordN g) (hb : b < 2 ^ ordN g) : f_s_l4Sum (ints (natsI g)) (a : Int) (b : Int) = some ((sumN g b a : Nat) : Int) := by
  have hb' : b < 9223372036854775808 := Nat.lt_trans (pow24 v hb) (by decide)
  have hlim := elems_lim b
  have key := loop_foldN (rd := f_s_l4Sum_r0 (a : Int) (ints (natsI g))) (elems b) (fun (t : Nat) i => ((t : Int), ints (natsI (elems b)), i)) (fun o y => o ||| shiftN g a y) (fun t => (t : Int)) (fun t => t < 2 ^ ordN g) 0 (Nat.two_pow_pos _) (fun k t hk ht => by
    have hy := elems_at hb hk
    simp only [f_s_l4Sum_r0, f_s_l4Sum_k0, ints_length, natsI_length, lt_dec hk, in_nat hk, Int.toNat_natCast, kAt_ints, atN_natsI, br_true, s_l3Shift_eq v ha hy, bo_some, or_or v ht (shiftN_lt v a _), w64_nat (by omega : k < 9223372036854775807)])
    (fun k t hk ht => or_lt ht (shiftN_lt v a _))
    (fun t ht => by simp only [f_s_l4Sum_r0, f_s_l4Sum_k0, ints_length, natsI_length, lt_dec_self, br_false])
  simp only [f_s_l4Sum, f_s_l4Sum_k, s_l3List_eq hb', bo_some]
  have := key.1
  rw [show ((0 : Nat) : Int) = 0 from rfl] at this
  rw [this, bl1_one]
  rfl
theorem i_sum_eq {g : List Nat} (v : VG g) {a b : Nat} (ha : a < 2 ^ ordN g) (hb : b < 2 ^ ordN g) : f_i_Group_sum (ints (natsI g)) (a : Int) (b : Int) = some ((sumN g a b : Nat) : Int) := by
  have ha' : a < 9223372036854775808 := Nat.lt_trans (pow24 v ha) (by decide)
  have hlim := elems_lim a
  have key := loop_foldN (rd := f_i_Group_sum_r0 (b : Int) (ints (natsI g)) ((elems a).length : Int)) (elems a) (fun (t : Nat) i => ((t : Int), ints (natsI (elems a)), i)) (fun o y => o ||| shiftN g b y) (fun t => (t : Int)) (fun t => t < 2 ^ ordN g) 0 (Nat.two_pow_pos _) (fun k t hk ht => by
    have hy := elems_at ha hk
    simp only [f_i_Group_sum_r0, f_i_Group_sum_k0, ints_length, natsI_length, lt_dec hk, in_nat hk, Int.toNat_natCast, kAt_ints, atN_natsI, br_true, i_shift_eq v hb hy, bo_some, or_or v ht (shiftN_lt v b _), w64_nat (by omega : k < 9223372036854775807)])
    (fun k t hk ht => or_lt ht (shiftN_lt v b _))
    (fun t ht => by simp only [f_i_Group_sum_r0, f_i_Group_sum_k0, lt_dec_self, br_false])
  simp only [f_i_Group_sum, f_i_Group_sum_k, i_members_eq ha', bo_some, ints_length, natsI_length]
  have := key.1
  rw [show ((0 : Nat) : Int) = 0 from rfl] at this
  rw [this, bl1_one]
  rfl
def setG (G : List Int) (a : Int) : Bool := isG G && (decide (a ≥ 0) && decide (a < shl64 1 (ordG G)))
theorem shl_ord {g : List Nat} (v : VG g) : shl64 1 (ordN g : Int) = ((2 ^ ordN g : Nat) : Int) := shl1_nat (by have := v.ord; omega)
theorem full_ord {g : List Nat} (v : VG g) : w64 (shl64 1 (ordN g : Int) - 1) = ((2 ^ ordN g - 1 : Nat) : Int) := by
  rw [shl_ord v]
  have h1 : 1 ≤ 2 ^ ordN g := Nat.one_le_two_pow
  have h2 : 2 ^ ordN g ≤ 2 ^ 24 := Nat.pow_le_pow_right (by decide) v.ord
  rw [w64_in (by omega) (by omega)]
  omega
theorem nat_of_set {G : List Int} {a : Int} (h : setG G a = true) : ∃ g n, G = natsI g ∧ VG g ∧ a = ((n : Nat) : Int) ∧ n < 2 ^ ordN g := by
  unfold setG at h
  simp only [Bool.and_eq_true, decide_eq_true_eq] at h
  obtain ⟨h1, h2, h3⟩ := h
  obtain ⟨g, rfl, v⟩ := nat_of_isG h1
  rw [v.ordG, shl_ord v] at h3
  exact ⟨g, a.toNat, rfl, v, by omega, by omega⟩
theorem s_IsSet_eq (G : List Int) (a : Int) (h : G.length ≤ lim) : f_s_IsSet (ints G) a = some (setG G a) := by
  simp only [f_s_IsSet, f_s_IsSet_k, s_IsGroup_eq G h, bo_some, s_l2Order_eq G h, s_l1In_eq, setG]
  cases hg : isG G with
  | false => rfl
  | true =>
    obtain ⟨g, rfl, v⟩ := nat_of_isG hg
    rw [prodW_nat g v.len v.each, v.ordG, full_ord v, shl_ord v]
    have h1 : 1 ≤ 2 ^ ordN g := Nat.one_le_two_pow
    have e : decide (a ≤ ((2 ^ ordN g - 1 : Nat) : Int)) = decide (a < ((2 ^ ordN g : Nat) : Int)) := by rw [decide_eq_decide]; omega
    simp only [neg_dec, inB, e, Bool.true_and]
    rfl
theorem i_IsSet_eq (G : List Int) (a : Int) (h : G.length ≤ lim) : f_i_IsSet (ints G) a = some (setG G a) := by
  simp only [f_i_IsSet, f_i_IsSet_k, i_IsGroup_eq G h, bo_some, i_OrderOf_eq G h, setG]
  cases hg : isG G with
  | false => rfl
  | true =>
    obtain ⟨g, rfl, v⟩ := nat_of_isG hg
    rw [v.ordG, shl_ord v]
    simp only [neg_dec, Bool.true_and]
    cases decide (a ≥ 0) <;> rfl
def pcn : Nat → Nat → Nat
  | 0, _ => 0
  | n + 1, a => a % 2 + pcn n (a / 2)
theorem filter_len (n a : Nat) : ((List.range n).filter fun x => a.testBit x).length = pcn n a := by
  induction n generalizing a with
  | zero => rfl
  | succ n ih =>
    rw [List.range_succ_eq_map, List.filter_cons, List.filter_map, pcn, ← ih (a / 2)]
    have e : ((fun x => a.testBit x) ∘ Nat.succ) = fun x => (a / 2).testBit x := by
      funext x
      simp only [Function.comp_apply, Nat.succ_eq_add_one, Nat.testBit_div_two]
    rw [e, Nat.testBit_zero]
    rcases Nat.mod_two_eq_zero_or_one a with h | h
    · simp [h]
    · simp [h]; omega
def popN (a : Nat) : Nat := pcn 63 a
theorem elems_pop (a : Nat) : (elems a).length = popN a := filter_len 63 a
theorem pcn_le (n a : Nat) : pcn n a ≤ n := by
  induction n generalizing a with
  | zero => exact Nat.le_refl _
  | succ n ih => have := ih (a / 2); show a % 2 + pcn n (a / 2) ≤ n + 1; omega
theorem pcn_zero (n : Nat) : pcn n 0 = 0 := by
  induction n with
  | zero => rfl
  | succ n ih => simpa [pcn] using ih
theorem s_l3Bits_eq {a : Nat} (ha : a < 9223372036854775808) : f_s_l3Bits (a : Int) = some ((popN a : Nat) : Int) := by
  have key : ∀ (d a n : Nat), a < 2 ^ d → a < 9223372036854775808 → n + d ≤ 63 → loopL f_s_l3Bits_r0 ((n : Int), (a : Int)) = some (.one ((n + pcn d a : Nat) : Int)) := by
    intro d
    induction d with
    | zero =>
      intro a n ha _ hn
      have h0 : a = 0 := by simpa using ha
      subst h0
      exact loopL_one rfl
    | succ d ih =>
      intro a n ha ha' hn
      rw [Nat.pow_succ] at ha
      by_cases h0 : a = 0
      · subst h0
        rw [pcn_zero]
        exact loopL_one rfl
      · have e1 : decide ((a : Int) > 0) = true := by simp; omega
        have e2 : and64 (a : Int) 1 = ((a % 2 : Nat) : Int) := by
          rw [show (1 : Int) = ((1 : Nat) : Int) from rfl, and64_nat ha' (by decide), Nat.and_one_is_mod]
        have e3 : shr64 (a : Int) 1 = ((a / 2 : Nat) : Int) := by
          rw [show (1 : Int) = ((1 : Nat) : Int) from rfl, shr64_nat ha', Nat.shiftRight_eq_div_pow, Nat.pow_one]
        have e4 : w64 ((n : Int) + ((a % 2 : Nat) : Int)) = ((n + a % 2 : Nat) : Int) := by rw [← Int.natCast_add]; exact w64_cast (by omega)
        rw [loopL_again (s' := (((n + a % 2 : Nat) : Int), ((a / 2 : Nat) : Int))) (by
          simp only [f_s_l3Bits_r0, f_s_l3Bits_k0, e1, br_true, e2, e3, e4])]
        by_cases hd : d = 0
        · subst hd
          have : a = 1 := by omega
          subst this
          exact loopL_one rfl
        · by_cases hq : n + a % 2 + d ≤ 63
          · rw [ih (a / 2) (n + a % 2) (by omega) (by omega) hq]
            show some (En.one (((n + a % 2 + pcn d (a / 2) : Nat)) : Int)) = some (En.one (((n + (a % 2 + pcn d (a / 2)) : Nat)) : Int))
            rw [Nat.add_assoc]
          · omega
  have := key 63 a 0 ha ha (by omega)
  simp only [f_s_l3Bits, f_s_l3Bits_k]
  rw [show ((0 : Nat) : Int) = 0 from rfl] at this
  rw [this, bl1_one, Nat.zero_add]
  rfl
theorem popN_le (a : Nat) : popN a ≤ 63 := pcn_le 63 a
theorem set_i64 {g : List Nat} (v : VG g) {a : Nat} (h : a < 2 ^ ordN g) : a < 9223372036854775808 := Nat.lt_trans (pow24 v h) (by decide)
theorem toNat_natsI (g : List Nat) : (natsI g).map Int.toNat = g := by
  unfold natsI
  rw [List.map_map]
  conv => rhs; rw [← List.map_id g]
  exact List.map_congr_left fun x _ => by simp
section
variable {R A B S D : Type}
def Le (a b : Option R) : Prop := ∀ r, a = some r → b = some r
theorem Le.same {a : Option R} : Le a a := fun _ h => h
theorem Le.no {b : Option R} : Le none b := fun _ h => by cases h
theorem Le.br {t : Bool} {a b a' b' : Option R} (h : Le a a') (h' : Le b b') : Le (Ev.br t a b) (Ev.br t a' b') := by cases t <;> assumption
theorem Le.bo {o o' : Option A} {d : A} {k k' : A → Option R} (h : Le o o') (hk : ∀ a, Le (k a) (k' a)) : Le (Ev.bo o d k) (Ev.bo o' d k') := by
  cases o with
  | none => exact Le.no
  | some x => rw [h x rfl]; exact hk x
theorem Le.bl1 {o o' : Option (En A B)} {d : A} {k k' : A → Option R} (h : Le o o') (hk : ∀ a, Le (k a) (k' a)) : Le (Ev.bl1 o d k) (Ev.bl1 o' d k') := by
  cases o with
  | none => exact Le.no
  | some x =>
    rw [h x rfl]
    cases x with
    | one a => exact hk a
    | two b => exact Le.no
theorem loopN_le {rd rd' : S → Option (Ro S A B)} (h : ∀ s, Le (rd s) (rd' s)) : ∀ n s, Le (loopN rd n s) (loopN rd' n s)
  | 0, _ => Le.no
  | n + 1, s => by
    unfold loopN
    cases hs : rd s with
    | none => exact Le.no
    | some x =>
      rw [h s x hs]
      cases x with
      | again s' => exact loopN_le h n s'
      | one a => exact Le.same
      | two b => exact Le.same
theorem Le.loop {rd rd' : S → Option (Ro S A B)} {s : S} (h : ∀ s, Le (rd s) (rd' s)) : Le (loopL rd s) (loopL rd' s) := fun r hr => by
  obtain ⟨n, hn⟩ := loopL_some hr
  exact loopL_of (loopN_le h n s r hn)
theorem le_fuel {F : Nat → D → Option R} (h : ∀ n a, Le (F n a) (F (n + 1) a)) {n m : Nat} (hm : n ≤ m) (a : D) : Le (F n a) (F m a) := by
  obtain ⟨d, rfl⟩ : ∃ d, m = n + d := ⟨m - n, by omega⟩
  clear hm
  induction d with
  | zero => exact Le.same
  | succ d ih => exact fun r hr => h _ a r (ih r hr)
theorem limF_le {F : Nat → D → Option R} (h : ∀ n a, Le (F n a) (F (n + 1) a)) {n : Nat} {a : D} {r : R} (hr : F n a = some r) : limF F a = some r :=
  limF_of hr fun m r' hm => by
    have h1 := le_fuel h (Nat.le_max_left n m) a r hr
    have h2 := le_fuel h (Nat.le_max_right n m) a r' hm
    rw [h1] at h2
    exact (Option.some.inj h2).symm
end
def negN : List Nat → Nat → Nat
  | [], _ => 0
  | n :: r, x => (n - x % n) % n + n * negN r (x / n)
theorem negN_lt {g : List Nat} (h : ∀ n ∈ g, 2 ≤ n ∧ n ≤ 24) (x : Nat) : negN g x < ordN g := by
  induction g generalizing x with
  | nil => exact Nat.lt_succ_self 0
  | cons n r ih =>
    have hn := h n (by simp)
    have hr := ih (fun m hm => h m (by simp [hm])) (x / n)
    have h1 : (n - x % n) % n < n := Nat.mod_lt _ (by omega)
    show (n - x % n) % n + n * negN r (x / n) < n * ordN r
    have h2 : n * (negN r (x / n) + 1) ≤ n * ordN r := Nat.mul_le_mul_left n hr
    rw [Nat.mul_add] at h2
    omega
theorem neg_round {n x z u : Nat} (hn : 2 ≤ n ∧ n ≤ 24) (hx : x < 4611686018427387904) (hz : z < u) (hu : u * n ≤ 1000000) :
    w64 ((x : Int).tdiv (n : Int)) = ((x / n : Nat) : Int) ∧ w64 ((u : Int) * (n : Int)) = ((u * n : Nat) : Int) ∧
    w64 ((z : Int) + w64 ((w64 ((n : Int) - (x : Int).tmod (n : Int))).tmod (n : Int) * (u : Int))) = ((z + (n - x % n) % n * u : Nat) : Int) ∧ z + (n - x % n) % n * u < u * n := by
  have h1 : x % n < n := Nat.mod_lt _ (by omega)
  have h3 : (n - x % n) % n < n := Nat.mod_lt _ (by omega)
  have h4 : ((n - x % n) % n + 1) * u ≤ n * u := Nat.mul_le_mul_right u h3
  have h5 : n * u = u * n := Nat.mul_comm n u
  have h6 : ((n - x % n) % n + 1) * u = (n - x % n) % n * u + u := by rw [Nat.add_mul, Nat.one_mul]
  have h7 : (n : Int) - ((x % n : Nat) : Int) = ((n - x % n : Nat) : Int) := by omega
  refine ⟨?_, ?_, ?_, ?_⟩
  · rw [tdiv_nat, w64_cast (Nat.lt_of_le_of_lt (Nat.div_le_self x n) (by omega))]
  · rw [← Int.natCast_mul, w64_cast (by omega)]
  · rw [tmod_nat, h7, w64_cast (by omega), tmod_nat, ← Int.natCast_mul, w64_cast (by omega), ← Int.natCast_add, w64_cast (by omega)]
  · omega
theorem i_negate_eq {g : List Nat} (hg : VG g) {x : Nat} (hx : x < 4611686018427387904) : f_i_Group_negate (ints (natsI g)) (x : Int) = some ((negN g x : Nat) : Int) := by
  have key : ∀ (r : List Nat) (k x z u : Nat), g.drop k = r → k ≤ g.length → x < 4611686018427387904 → z < u → u * ordN r ≤ 1000000 →
      loopL (f_i_Group_negate_r0 (ints (natsI g)) (g.length : Int)) ((x : Int), (z : Int), (u : Int), (k : Int)) = some (.one (((z + u * negN r x : Nat)) : Int)) := by
    intro r
    induction r with
    | nil =>
      intro k x z u hd hk hx hz hu
      have := drop_nil hd hk
      subst this
      refine loopL_one ?_
      simp only [f_i_Group_negate_r0, f_i_Group_negate_k0, ints_length, natsI_length, lt_dec_self, br_false, negN, Nat.mul_zero, Nat.add_zero]
    | cons n r ih =>
      intro k x z u hd hk hx hz hu
      obtain ⟨hkl, hn, hd'⟩ := drop_cons hd
      have hne := hg.each n (by rw [← hn]; simp [List.getD, List.getElem?_eq_getElem hkl])
      have hor : 1 ≤ ordN r := ordN_pos fun m hm => hg.each m (by rw [← hd'] at hm; exact List.mem_of_mem_drop hm)
      have hu' : u * n * ordN r ≤ 1000000 := by rw [Nat.mul_assoc]; exact hu
      have hu2 : u * n ≤ 1000000 := Nat.le_trans (Nat.le_mul_of_pos_right _ hor) hu'
      obtain ⟨a1, a3, a4, a5⟩ := neg_round hne hx hz hu2
      have hkl' : k < (natsI g).length := by rw [natsI_length]; exact hkl
      have hat : atI (ints (natsI g)) (k : Int) = (n : Int) := by rw [at_nat, natsI_getD, hn]
      have hn0 : ((n : Int) == 0) = false := beq_eq_false_iff_ne.2 (by omega)
      rw [loopL_again (s' := (((x / n : Nat) : Int), ((z + (n - x % n) % n * u : Nat) : Int), ((u * n : Nat) : Int), ((k + 1 : Nat) : Int))) (by
        have hg3 := hg.len
        simp only [f_i_Group_negate_r0, f_i_Group_negate_k0, ints_length, natsI_length, lt_dec hkl, ok_nat hkl', hat, hn0, br_true, br_false, a1, a3, a4, w64_nat (by omega : k < 9223372036854775807)])]
      rw [ih (k + 1) (x / n) _ (u * n) hd' hkl (Nat.lt_of_le_of_lt (Nat.div_le_self x n) hx) a5 hu']
      congr 3
      simp only [negN, Nat.mul_add, Nat.mul_assoc, Nat.mul_comm u ((n - x % n) % n), Nat.add_assoc]
  have := key g 0 x 0 1 rfl (Nat.zero_le _) hx (by decide) (by have := hg.ord; omega)
  simp only [f_i_Group_negate, f_i_Group_negate_k, ints_length, natsI_length]
  have e0 : ((0 : Nat) : Int) = 0 := rfl
  have e1 : ((1 : Nat) : Int) = 1 := rfl
  rw [e0, e1] at this
  rw [this, bl1_one]
  simp
def iterN (g : List Nat) (x : Nat) : Nat → Nat
  | 0 => 0
  | k + 1 => addN g (iterN g x k) x
theorem iterN_lt {g : List Nat} (v : VG g) (x k : Nat) : iterN g x k < ordN g := by
  cases k with
  | zero => exact ordN_pos v.each
  | succ k => exact addN_lt v.each _ _
theorem addN_zero : ∀ (g : List Nat) (y : Nat), (∀ n ∈ g, 2 ≤ n ∧ n ≤ 24) → y < ordN g → addN g 0 y = y
  | [], y, _, h => by
    have : y < 1 := h
    simp only [addN]
    omega
  | n :: r, y, hg, h => by
    have hn := hg n (by simp)
    have h : y < n * ordN r := h
    have h1 : y / n < ordN r := Nat.div_lt_of_lt_mul h
    simp only [addN, Nat.zero_mod, Nat.zero_add, Nat.zero_div, Nat.mod_mod]
    rw [addN_zero r (y / n) (fun m hm => hg m (by simp [hm])) h1]
    exact Nat.mod_add_div y n
theorem addN_cons (n : Nat) (r : List Nat) (x y : Nat) : addN (n :: r) x y = (x % n + y % n) % n + n * addN r (x / n) (y / n) := rfl
theorem addN_mod {n : Nat} (r : List Nat) (x y : Nat) (hn : 2 ≤ n) : addN (n :: r) x y % n = (x % n + y % n) % n := by
  rw [addN_cons, Nat.add_mul_mod_self_left, Nat.mod_mod]
theorem addN_div {n : Nat} (r : List Nat) (x y : Nat) (hn : 2 ≤ n) : addN (n :: r) x y / n = addN r (x / n) (y / n) := by
  rw [addN_cons, Nat.add_mul_div_left _ _ (by omega), Nat.div_eq_of_lt (Nat.mod_lt _ (by omega)), Nat.zero_add]
theorem addN_assoc : ∀ (g : List Nat), (∀ n ∈ g, 2 ≤ n ∧ n ≤ 24) → ∀ x y z, addN g (addN g x y) z = addN g x (addN g y z)
  | [], _, _, _, _ => rfl
  | n :: r, h, x, y, z => by
    have hn := (h n (by simp)).1
    rw [addN_cons n r (addN (n :: r) x y) z, addN_cons n r x (addN (n :: r) y z), addN_mod r x y hn, addN_mod r y z hn, addN_div r x y hn, addN_div r y z hn,
      addN_assoc r (fun m hm => h m (by simp [hm]))]
    congr 1
    simp only [Nat.mod_add_mod, Nat.add_mod_mod, Nat.add_assoc]
theorem iterN_cons {n : Nat} (r : List Nat) (x : Nat) (hn : 2 ≤ n) : ∀ k, iterN (n :: r) x k = (k * x) % n + n * iterN r (x / n) k
  | 0 => by simp [iterN]
  | k + 1 => by
    show addN (n :: r) (iterN (n :: r) x k) x = _
    rw [iterN_cons r x hn k, addN_cons, Nat.add_mul_mod_self_left, Nat.add_mul_div_left _ _ (by omega), Nat.div_eq_of_lt (Nat.mod_lt _ (by omega)), Nat.zero_add]
    congr 1
    rw [Nat.mod_mod, ← Nat.add_mod, Nat.add_mul, Nat.one_mul]
theorem iterN_zero : ∀ (g : List Nat), (∀ n ∈ g, 2 ≤ n ∧ n ≤ 24) → ∀ m, (∀ n ∈ g, n ∣ m) → ∀ x, iterN g x m = 0
  | [], _, m, _, x => by
    cases m with
    | zero => rfl
    | succ m => rfl
  | n :: r, h, m, hm, x => by
    rw [iterN_cons r x (h n (by simp)).1, iterN_zero r (fun k hk => h k (by simp [hk])) m (fun k hk => hm k (by simp [hk])) (x / n)]
    obtain ⟨c, rfl⟩ := hm n (by simp)
    rw [Nat.mul_assoc, Nat.mul_mod_right, Nat.mul_zero]
theorem dvd_ordN : ∀ (g : List Nat) (n : Nat), n ∈ g → n ∣ ordN g
  | m :: r, n, h => by
    rcases List.mem_cons.1 h with rfl | h
    · exact ⟨ordN r, rfl⟩
    · exact Nat.dvd_trans (dvd_ordN r n h) ⟨m, Nat.mul_comm m (ordN r)⟩
theorem iterN_ord {g : List Nat} (v : VG g) (x : Nat) : iterN g x (ordN g) = 0 := iterN_zero g v.each (ordN g) (dvd_ordN g) x
theorem addN_neg : ∀ (g : List Nat), (∀ n ∈ g, 2 ≤ n ∧ n ≤ 24) → ∀ x, addN g x (negN g x) = 0
  | [], _, _ => rfl
  | n :: r, h, x => by
    have hn := (h n (by simp)).1
    have e : negN (n :: r) x = (n - x % n) % n + n * negN r (x / n) := rfl
    rw [addN_cons, e, Nat.add_mul_mod_self_left, Nat.add_mul_div_left _ _ (by omega), Nat.div_eq_of_lt (Nat.mod_lt _ (by omega)), Nat.zero_add,
      addN_neg r (fun m hm => h m (by simp [hm])), Nat.mul_zero, Nat.add_zero, Nat.mod_mod, Nat.add_mod_mod]
    have : x % n < n := Nat.mod_lt _ (by omega)
    rw [show x % n + (n - x % n) = n by omega, Nat.mod_self]
theorem eq_nat_decM (a b : Nat) : ((a : Int) == (b : Int)) = decide (a = b) := by
  by_cases h : a = b
  · simp [h]
  · have : ¬ ((a : Int) = (b : Int)) := by omega
    simp [h, this]
def rowN (N : Nat) (f : Nat → Nat) : List Nat := (List.range N).map f
theorem rowN_length (N : Nat) (f : Nat → Nat) : (rowN N f).length = N := by simp [rowN]
theorem rowN_get {N : Nat} {f : Nat → Nat} {k : Nat} (h : k < N) : (rowN N f).getD k 0 = f k := by
  unfold rowN
  simp [List.getD, h]
theorem rowN_set {N : Nat} {f : Nat → Nat} {k y : Nat} (h : k < N) : (rowN N f).set k y = rowN N (fun j => if j = k then y else f j) := by
  unfold rowN
  apply List.ext_getElem?
  intro i
  rw [List.getElem?_set]
  simp only [List.length_map, List.length_range, List.getElem?_map, List.getElem?_range']
  by_cases hi : i < N
  · by_cases hk : k = i
    · subst hk; simp [h]
    · simp [hk, hi, Ne.symm hk]
  · by_cases hk : k = i
    · subst hk; omega
    · simp [hk, hi]
theorem rowN_congr {N : Nat} {f f' : Nat → Nat} (h : ∀ k, k < N → f k = f' k) : rowN N f = rowN N f' := by
  unfold rowN
  exact List.map_congr_left fun k hk => h k (List.mem_range.1 hk)
theorem ints_natsI_set (l : List Nat) (k y : Nat) : (ints (natsI l)).set k (Sc.n .i64 (y : Int)) = ints (natsI (l.set k y)) := by
  rw [ints_set]
  unfold natsI
  rw [List.map_set]
theorem take_snoc (l : List Nat) {k : Nat} (h : k < l.length) : l.take (k + 1) = l.take k ++ [l.getD k 0] := by
  rw [List.take_succ_eq_append_getElem h]
  simp [List.getD, List.getElem?_eq_getElem h]
theorem gcd_next (x y : Nat) : Nat.gcd x y = Nat.gcd y (x % y) := by rw [Nat.gcd_comm x y, Nat.gcd_rec y x, Nat.gcd_comm]
theorem i_gcd_loop : ∀ (y x : Nat), loopL f_i_gcd_r0 ((x : Int), (y : Int)) = some (.one ((Nat.gcd x y : Nat) : Int)) := by
  intro y
  induction y using Nat.strongRecOn with
  | _ y ih =>
    intro x
    by_cases h : y = 0
    · subst h
      exact loopL_one (by simp only [f_i_gcd_r0, f_i_gcd_k0, ne_zero_dec, Nat.gcd_zero_right]; rfl)
    · have e0 : ((y : Int) == 0) = false := by
        have : ¬ ((y : Int) = 0) := by omega
        simpa using this
      have e1 : decide (y ≠ 0) = true := by simpa using h
      rw [loopL_again (s' := ((y : Int), ((x % y : Nat) : Int))) (by simp only [f_i_gcd_r0, f_i_gcd_k0, ne_zero_dec, e0, e1, br_true, br_false, tmod_nat]), ih (x % y) (Nat.mod_lt _ (by omega)) y, ← gcd_next]
theorem i_gcd_eq (x y : Nat) : f_i_gcd (x : Int) (y : Int) = some ((Nat.gcd x y : Nat) : Int) := by
  simp only [f_i_gcd, f_i_gcd_k, i_gcd_loop, bl1_one]
def upTo24 : List Nat := List.range' 2 23
def allG : List (List Nat) := [] :: (upTo24.map (fun a => [a]) ++ (upTo24.flatMap fun a => (upTo24.filter fun b => Nat.ble (a * b) 24).map fun b => [a, b]) ++
  (upTo24.flatMap fun a => (upTo24.filter fun b => Nat.ble (a * b) 24).flatMap fun b => (upTo24.filter fun c => Nat.ble (a * (b * c)) 24).map fun c => [a, b, c]))
theorem mem_upTo {n : Nat} (h : 2 ≤ n ∧ n ≤ 24) : n ∈ upTo24 := List.mem_range'_1.2 (by omega)
theorem VG.mem {g : List Nat} (v : VG g) : g ∈ allG := by
  obtain ⟨h1, h2, h3⟩ := v
  match g, h1, h2, h3 with
  | [], _, _, _ => exact List.mem_cons_self
  | [a], _, h2, _ =>
    refine List.mem_cons_of_mem _ (List.mem_append_left _ (List.mem_append_left _ ?_))
    exact List.mem_map.2 ⟨a, mem_upTo (h2 a (by simp)), rfl⟩
  | [a, b], _, h2, h3 =>
    simp only [ordN, Nat.mul_one] at h3
    refine List.mem_cons_of_mem _ (List.mem_append_left _ (List.mem_append_right _ ?_))
    exact List.mem_flatMap.2 ⟨a, mem_upTo (h2 a (by simp)), List.mem_map.2 ⟨b, List.mem_filter.2 ⟨mem_upTo (h2 b (by simp)), Nat.ble_eq_true_of_le h3⟩, rfl⟩⟩
  | [a, b, c], _, h2, h3 =>
    simp only [ordN, Nat.mul_one] at h3
    have hc := h2 c (by simp)
    have hab : a * b ≤ 24 := by
      have : a * b * 1 ≤ a * b * c := Nat.mul_le_mul_left _ (by omega)
      rw [Nat.mul_assoc a b c] at this
      omega
    refine List.mem_cons_of_mem _ (List.mem_append_right _ ?_)
    exact List.mem_flatMap.2 ⟨a, mem_upTo (h2 a (by simp)), List.mem_flatMap.2 ⟨b, List.mem_filter.2 ⟨mem_upTo (h2 b (by simp)), Nat.ble_eq_true_of_le hab⟩, List.mem_map.2 ⟨c, List.mem_filter.2 ⟨mem_upTo hc, Nat.ble_eq_true_of_le h3⟩, rfl⟩⟩⟩
  | _ :: _ :: _ :: _ :: _, h1, _, _ => simp at h1
def expF (e o : Nat) : Nat := e / Nat.gcd e o * o
theorem expF_lcm (e o : Nat) : expF e o = Nat.lcm e o := by
  unfold expF Nat.lcm
  rw [Nat.mul_comm e o, Nat.mul_div_assoc _ (Nat.gcd_dvd_left e o), Nat.mul_comm]
def expN (g : List Nat) : Nat := g.foldl expF 1
theorem expF_dvd {g : List Nat} {e o : Nat} (he : e ∣ ordN g) (ho : o ∈ g) : expF e o ∣ ordN g := by
  rw [expF_lcm]
  exact Nat.lcm_dvd he (dvd_ordN g o ho)
theorem dvd_le24 {g : List Nat} (v : VG g) {e : Nat} (he : e ∣ ordN g) : 1 ≤ e ∧ e ≤ 24 := by
  have h1 := ordN_pos v.each
  have h2 := Nat.le_of_dvd (by omega) he
  have h3 := v.ord
  have : e ≠ 0 := fun h => by
    rw [h, Nat.zero_dvd] at he
    omega
  omega
theorem mem_at {g : List Nat} {k : Nat} (hk : k < g.length) : g.getD k 0 ∈ g := by simp [List.getD, List.getElem?_eq_getElem hk]
theorem i_exp_eq {g : List Nat} (v : VG g) : f_i_ExponentOf (ints (natsI g)) = some ((expN g : Nat) : Int) := by
  have h3 := v.len
  have key := (loop_foldN (rd := f_i_ExponentOf_r0 (ints (natsI g)) (g.length : Int)) g (fun (t : Nat) i => ((t : Int), i)) expF (fun t => (t : Int)) (fun t => t ∣ ordN g) 1 (Nat.one_dvd _) (fun k t hk ht => by
    have ho := v.each _ (mem_at hk)
    obtain ⟨t1, t2⟩ := dvd_le24 v ht
    have hd := dvd_le24 v (expF_dvd ht (mem_at hk))
    have hg1 : 1 ≤ Nat.gcd t (g.getD k 0) := Nat.gcd_pos_of_pos_left _ (by omega)
    have gz : (((Nat.gcd t (g.getD k 0) : Nat) : Int) == 0) = false := by
      rw [show (0 : Int) = ((0 : Nat) : Int) from rfl, eq_nat_decM]
      exact decide_eq_false (by omega)
    have e1 : w64 ((t : Int).tdiv ((Nat.gcd t (g.getD k 0) : Nat) : Int)) = ((t / Nat.gcd t (g.getD k 0) : Nat) : Int) := by
      rw [tdiv_nat]
      exact w64_cast (Nat.lt_of_le_of_lt (Nat.div_le_self _ _) (by omega))
    have e2 : w64 (((t / Nat.gcd t (g.getD k 0) : Nat) : Int) * ((g.getD k 0 : Nat) : Int)) = ((expF t (g.getD k 0) : Nat) : Int) := by
      have : ((t / Nat.gcd t (g.getD k 0) : Nat) : Int) * ((g.getD k 0 : Nat) : Int) = ((expF t (g.getD k 0) : Nat) : Int) := by unfold expF; rw [Int.natCast_mul]
      rw [this]
      exact w64_cast (by omega)
    simp only [f_i_ExponentOf_r0, f_i_ExponentOf_k0, lt_dec hk, ok_natsI hk, at_natsI, br_true, i_gcd_eq, bo_some, gz, br_false, e1, e2, w64_nat (by omega : k < 9223372036854775807)])
    (fun k t hk ht => expF_dvd ht (mem_at hk))
    (fun t ht => by simp only [f_i_ExponentOf_r0, f_i_ExponentOf_k0, lt_dec_self, br_false])).1
  have key : loopL (f_i_ExponentOf_r0 (ints (natsI g)) (g.length : Int)) (1, 0) = some (.one ((expN g : Nat) : Int)) := key
  simp only [f_i_ExponentOf, f_i_ExponentOf_k, i_IsGroup_eq _ v.lim, v.isG, bo_some, Bool.not_true, br_false, ints_length, natsI_length, key, bl1_one]
theorem s_exp_inner {g : List Nat} (v : VG g) {k e : Nat} (hk : k < g.length) (he : e ∣ ordN g) : loopL (f_s_ExponentOf_r2 (ints (natsI g)) (e : Int) (k : Int)) (e : Int) = some (.one ((expF e (g.getD k 0) : Nat) : Int)) := by
  have ho := v.each _ (mem_at hk)
  obtain ⟨e1, e2⟩ := dvd_le24 v he
  have hg1 : 1 ≤ Nat.gcd e (g.getD k 0) := Nat.gcd_pos_of_pos_left _ (by omega)
  generalize ho' : g.getD k 0 = o at *
  have oz : ((o : Int) == 0) = false := by
    rw [show (0 : Int) = ((0 : Nat) : Int) from rfl, eq_nat_decM]
    exact decide_eq_false (by omega)
  -- the number of steps
  have hJ : expF e o = e * (o / Nat.gcd e o) := by
    rw [expF_lcm]
    unfold Nat.lcm
    rw [Nat.mul_div_assoc _ (Nat.gcd_dvd_right e o)]
  have hJ1 : 1 ≤ o / Nat.gcd e o := Nat.div_pos (Nat.le_of_dvd (by omega) (Nat.gcd_dvd_right e o)) hg1
  have hJ2 : o / Nat.gcd e o ≤ 24 := Nat.le_trans (Nat.div_le_self _ _) ho.2
  generalize o / Nat.gcd e o = J at *
  have hmul : ∀ j, j ≤ J → e * j ≤ 24 * 24 := fun j hj => Nat.mul_le_mul e2 (by omega)
  have hat : atI (ints (natsI g)) (k : Int) = (o : Int) := by rw [at_natsI, ho']
  have hno : ∀ j, j < J → 1 ≤ j → e * j % o ≠ 0 := fun j hj h1 h0 => by
    have hdv : Nat.lcm e o ∣ e * j := Nat.lcm_dvd (Nat.dvd_mul_right e j) (Nat.dvd_of_mod_eq_zero h0)
    have hle := Nat.le_of_dvd (Nat.mul_pos e1 h1) hdv
    rw [← expF_lcm, hJ] at hle
    have := Nat.mul_lt_mul_of_pos_left (k := e) hj e1
    omega
  have hyes : e * J % o = 0 := by
    have : o ∣ expF e o := by rw [expF_lcm]; exact Nat.dvd_lcm_right e o
    rw [hJ] at this
    exact Nat.mod_eq_zero_of_dvd this
  have key := loop_count (rd := f_s_ExponentOf_r2 (ints (natsI g)) (e : Int) (k : Int)) (fun j => ((e * (j + 1) : Nat) : Int)) (J - 1) (a := ((expF e o : Nat) : Int)) (fun j hj => by
    have hb := hmul (j + 1) (by omega)
    have hb2 := hmul (j + 2) (by omega)
    have hm : ((((e * (j + 1) : Nat) : Int).tmod (o : Int)) != 0) = true := by
      rw [tmod_nat, show (0 : Int) = ((0 : Nat) : Int) from rfl]
      have := hno (j + 1) (by omega) (by omega)
      have : ¬ (((e * (j + 1) % o : Nat) : Int) = ((0 : Nat) : Int)) := by omega
      simpa using this
    have ha : w64 (((e * (j + 1) : Nat) : Int) + (e : Int)) = ((e * (j + 1 + 1) : Nat) : Int) := by
      have : ((e * (j + 1) : Nat) : Int) + (e : Int) = ((e * (j + 1 + 1) : Nat) : Int) := by rw [Nat.mul_add e (j + 1) 1, Nat.mul_one]; omega
      rw [this]
      exact w64_cast (by omega)
    simp only [f_s_ExponentOf_r2, f_s_ExponentOf_k2, ok_natsI hk, hat, br_true, oz, br_false, hm, ha]) (by
    have hm : ((((e * (J - 1 + 1) : Nat) : Int).tmod (o : Int)) != 0) = false := by
      rw [tmod_nat, show J - 1 + 1 = J by omega, hyes]
      rfl
    simp only [f_s_ExponentOf_r2, f_s_ExponentOf_k2, ok_natsI hk, hat, br_true, oz, br_false, hm]
    rw [show J - 1 + 1 = J by omega, hJ]) 0 (Nat.zero_le _)
  have e0 : ((e * (0 + 1) : Nat) : Int) = (e : Int) := by rw [Nat.zero_add, Nat.mul_one]
  simp only [e0] at key
  exact key
theorem s_exp_eq {g : List Nat} (v : VG g) : f_s_ExponentOf (ints (natsI g)) = some ((expN g : Nat) : Int) := by
  have h3 := v.len
  have key := (loop_foldN (rd := f_s_ExponentOf_r0 (ints (natsI g))) g (fun (t : Nat) i => ((t : Int), i)) expF (fun t => ((t : Int), (g.length : Int))) (fun t => t ∣ ordN g) 1 (Nat.one_dvd _) (fun k t hk ht => by
    simp only [f_s_ExponentOf_r0, f_s_ExponentOf_k0, ints_length, natsI_length, lt_dec hk, br_true, s_exp_inner v hk ht, bl1_one, w64_nat (by omega : k < 9223372036854775807)])
    (fun k t hk ht => expF_dvd ht (mem_at hk))
    (fun t ht => by simp only [f_s_ExponentOf_r0, f_s_ExponentOf_k0, ints_length, natsI_length, lt_dec_self, br_false])).1
  have key : loopL (f_s_ExponentOf_r0 (ints (natsI g))) (1, 0) = some (.one (((expN g : Nat) : Int), (g.length : Int))) := key
  simp only [f_s_ExponentOf, f_s_ExponentOf_k, s_IsGroup_eq _ v.lim, v.isG, bo_some, Bool.not_true, br_false, key, bl1_one]
theorem expN_dvd {g : List Nat} (v : VG g) : expN g ∣ ordN g := by
  have key : ∀ (l : List Nat) (e : Nat), (∀ o ∈ l, o ∈ g) → e ∣ ordN g → l.foldl expF e ∣ ordN g := by
    intro l
    induction l with
    | nil => intro e _ he; exact he
    | cons o l ih => intro e hl he; exact ih _ (fun x hx => hl x (by simp [hx])) (expF_dvd he (hl o (by simp)))
  exact key g 1 (fun o h => h) (Nat.one_dvd _)
theorem sumM_add {α : Type} (F G : α → Nat) : ∀ l : List α, (l.map fun x => F x + G x).sum = (l.map F).sum + (l.map G).sum
  | [] => rfl
  | x :: l => by rw [List.map_cons, List.sum_cons, sumM_add F G l, List.map_cons, List.map_cons, List.sum_cons, List.sum_cons]; omega
theorem sumM_zero {α : Type} : ∀ l : List α, (l.map fun _ => 0).sum = 0
  | [] => rfl
  | x :: l => by rw [List.map_cons, List.sum_cons, sumM_zero l]
theorem sumM_mul {α : Type} (F : α → Nat) (c : Nat) : ∀ l : List α, (l.map fun x => F x * c).sum = (l.map F).sum * c
  | [] => by simp
  | x :: l => by rw [List.map_cons, List.sum_cons, sumM_mul F c l, List.map_cons, List.sum_cons, Nat.add_mul]
theorem sumM_swap {α β : Type} (F : α → β → Nat) : ∀ (l : List α) (m : List β), (l.map fun x => (m.map fun y => F x y).sum).sum = (m.map fun y => (l.map fun x => F x y).sum).sum
  | [], m => by simp [sumM_zero]
  | x :: l, m => by
    rw [List.map_cons, List.sum_cons, sumM_swap F l m]
    have : (m.map fun y => ((x :: l).map fun x => F x y).sum) = m.map fun y => F x y + (l.map fun x => F x y).sum := by
      apply List.map_congr_left
      intro y _
      rw [List.map_cons, List.sum_cons]
    rw [this, sumM_add]
theorem sumM_congr {α : Type} {F G : α → Nat} {l : List α} (h : ∀ x ∈ l, F x = G x) : (l.map F).sum = (l.map G).sum := by rw [List.map_congr_left h]
theorem sumM_le {α : Type} {F : α → Nat} {M : Nat} : ∀ {l : List α}, (∀ x ∈ l, F x ≤ M) → (l.map F).sum ≤ l.length * M
  | [], _ => by simp
  | x :: l, h => by
    have h1 := h x (by simp)
    have h2 := sumM_le (l := l) fun y hy => h y (by simp [hy])
    rw [List.map_cons, List.sum_cons, List.length_cons, Nat.add_mul]
    omega
theorem countP_sum {α : Type} (p : α → Bool) : ∀ l : List α, l.countP p = (l.map fun y => if p y then 1 else 0).sum
  | [] => rfl
  | x :: l => by
    rw [List.map_cons, List.sum_cons, ← countP_sum p l, List.countP_cons]
    omega
theorem sum_delta (F : Nat → Nat) (z : Nat) : ∀ n, ((List.range n).map fun s => (if z = s then 1 else 0) * F s).sum = if z < n then F z else 0
  | 0 => rfl
  | n + 1 => by
    rw [List.range_succ, List.map_append, List.sum_append, sum_delta F z n]
    simp only [List.map_cons, List.map_nil, List.sum_cons, List.sum_nil, Nat.add_zero]
    by_cases h : z = n
    · subst h; simp
    · rw [if_neg h]
      by_cases h2 : z < n
      · rw [if_pos h2, if_pos (by omega)]; omega
      · rw [if_neg h2, if_neg (by omega)]; omega
theorem range_one (q : Nat → Bool) (w : Nat) : ∀ n, (List.range n).countP (fun x => decide (x = w) && q x) = if decide (w < n) && q w then 1 else 0
  | 0 => by simp
  | n + 1 => by
    rw [List.range_succ, List.countP_append, range_one q w n, List.countP_singleton]
    by_cases h : n = w
    · subst h
      cases hq : q n <;> simp
    · have h1 : decide (n = w) = false := decide_eq_false h
      rw [h1]
      by_cases h2 : w < n
      · have h3 : w < n + 1 := by omega
        simp [h2, h3]
      · have h3 : ¬ w < n + 1 := by omega
        simp [h2, h3]
def cnt1 (g : List Nat) (x : Nat) (B : List Nat) (z : Nat) : Nat := B.countP fun y => decide (addN g x y = z)
def cnt2 (g A B : List Nat) (z : Nat) : Nat := (A.map fun x => cnt1 g x B z).sum
theorem table_pairs {g : List Nat} (v : VG g) (A B : List Nat) (F : Nat → Nat) : ((List.range (ordN g)).map fun s => cnt2 g A B s * F s).sum = (A.map fun x => (B.map fun y => F (addN g x y)).sum).sum := by
  have e1 : ((List.range (ordN g)).map fun s => cnt2 g A B s * F s).sum = ((List.range (ordN g)).map fun s => (A.map fun x => cnt1 g x B s * F s).sum).sum := by
    refine sumM_congr fun s _ => ?_
    unfold cnt2
    rw [sumM_mul]
  rw [e1, sumM_swap]
  refine sumM_congr fun x _ => ?_
  have e2 : ((List.range (ordN g)).map fun s => cnt1 g x B s * F s).sum = ((List.range (ordN g)).map fun s => (B.map fun y => (if addN g x y = s then 1 else 0) * F s).sum).sum := by
    refine sumM_congr fun s _ => ?_
    unfold cnt1
    rw [countP_sum, ← sumM_mul]
    refine sumM_congr fun y _ => ?_
    simp only [decide_eq_true_eq]
  rw [e2, sumM_swap]
  refine sumM_congr fun y _ => ?_
  rw [sum_delta F, if_pos (addN_lt v.each x y)]
theorem addN_back {g : List Nat} (v : VG g) {z w : Nat} (hw : w < ordN g) : addN g (addN g z w) (negN g z) = w := by
  rw [addN_comm g z w, addN_assoc g v.each, addN_neg g v.each, addN_comm, addN_zero g w v.each hw]
theorem addN_forth {g : List Nat} (v : VG g) {z s : Nat} (hs : s < ordN g) : addN g z (addN g s (negN g z)) = s := by
  rw [addN_comm, addN_assoc g v.each, addN_comm g (negN g z), addN_neg g v.each, addN_comm, addN_zero g s v.each hs]
theorem cnt1_test {g : List Nat} (v : VG g) {a z s : Nat} (ha : a < 2 ^ ordN g) (hs : s < ordN g) : cnt1 g z (elems a) s = if a.testBit (addN g s (negN g z)) then 1 else 0 := by
  have hw := addN_lt v.each s (negN g z)
  have h24 := v.ord
  have e : cnt1 g z (elems a) s = (elems a).countP fun w => decide (w = addN g s (negN g z)) := by
    unfold cnt1
    apply List.countP_congr
    intro w hwm
    have hwl := elems_lt ha hwm
    simp only [decide_eq_true_eq]
    constructor
    · intro h; rw [← h, addN_back v hwl]
    · intro h; rw [h, addN_forth v hs]
  rw [e]
  unfold elems
  rw [List.countP_filter, range_one (fun x => a.testBit x) _ 63, decide_eq_true (show addN g s (negN g z) < 63 by omega), Bool.true_and]
theorem rep_row (N : Nat) : ints (natsI (rowN N fun _ => 0)) = List.replicate N (Sc.n .i64 0) := by
  unfold ints natsI rowN
  rw [List.map_map, List.map_map, List.eq_replicate_iff]
  refine ⟨by simp, fun b hb => ?_⟩
  obtain ⟨k, _, rfl⟩ := List.mem_map.1 hb
  rfl
theorem sum_range_succ (F : Nat → Nat) (k : Nat) : ((List.range (k + 1)).map F).sum = ((List.range k).map F).sum + F k := by
  rw [List.range_succ, List.map_append, List.sum_append]
  simp
theorem andNot_nat {a b : Nat} (ha : a < 4611686018427387904) (hb : b < 4611686018427387904) : ∃ n : Nat, andNot64 (a : Int) (b : Int) = (n : Int) ∧ n ≤ a ∧ ∀ i, n.testBit i = (a.testBit i && !b.testBit i) := by
  refine ⟨(BitVec.ofInt 64 (a : Int) &&& ~~~ BitVec.ofInt 64 (b : Int)).toNat, ?_, ?_, fun i => ?_⟩
  · show IntKind.i64.wrap ((BitVec.ofInt 64 (a : Int) &&& ~~~ BitVec.ofInt 64 (b : Int)).toNat : Int) = _
    refine wrap_cast ?_
    rw [BitVec.toNat_and, ofInt_cast (by omega)]
    exact Nat.lt_of_le_of_lt Nat.and_le_left (by omega)
  · rw [BitVec.toNat_and, ofInt_cast (by omega)]
    exact Nat.and_le_left
  · rw [BitVec.testBit_toNat, BitVec.getLsbD_and, BitVec.getLsbD_not, ← BitVec.testBit_toNat, ← BitVec.testBit_toNat, ofInt_cast (by omega), ofInt_cast (by omega)]
    by_cases hi : i < 64
    · simp [hi]
    · have : a.testBit i = false := Nat.testBit_lt_two_pow (Nat.lt_of_lt_of_le ha (Nat.le_trans (show 4611686018427387904 ≤ 2 ^ 64 by decide) (Nat.pow_le_pow_right (by decide) (by omega))))
      rw [this]
      simp
def sbN (a b : Nat) : Prop := ∀ z, a.testBit z = true → b.testBit z = true
theorem sbN_eq {a b : Nat} (h1 : sbN a b) (h2 : sbN b a) : a = b := by
  apply Nat.eq_of_testBit_eq
  intro z
  rw [Bool.eq_iff_iff]
  exact ⟨h1 z, h2 z⟩
theorem sbN_and {a b : Nat} : sbN a b ↔ a &&& b = a := by
  constructor
  · intro h
    apply Nat.eq_of_testBit_eq
    intro z
    rw [Nat.testBit_and]
    cases ha : a.testBit z with
    | false => rfl
    | true => rw [h z ha]; rfl
  · intro h z hz
    rw [← h, Nat.testBit_and] at hz
    exact (Bool.and_eq_true _ _ ▸ hz).2
theorem bit_lt {a n z : Nat} (h : a < 2 ^ n) (hz : a.testBit z = true) : z < n := by
  rcases Nat.lt_or_ge z n with h1 | h1
  · exact h1
  · rw [Nat.testBit_lt_two_pow (Nat.lt_of_lt_of_le h (Nat.pow_le_pow_right (by decide) h1))] at hz
    cases hz
theorem sum_bit {g : List Nat} (v : VG g) {a b : Nat} (ha : a < 2 ^ ordN g) (hb : b < 2 ^ ordN g) (z : Nat) : (sumN g a b).testBit z = true ↔ ∃ x y, a.testBit x = true ∧ b.testBit y = true ∧ addN g x y = z := by
  rw [sumN_test]
  constructor
  · rintro ⟨x, hx, y, hy, h⟩
    exact ⟨x, y, (mem_elems (set_i64 v ha)).1 hx, (mem_elems (set_i64 v hb)).1 hy, h⟩
  · rintro ⟨x, y, hx, hy, h⟩
    exact ⟨x, (mem_elems (set_i64 v ha)).2 hx, y, (mem_elems (set_i64 v hb)).2 hy, h⟩
structure Subg (g : List Nat) (h : Nat) : Prop where
  lt : h < 2 ^ ordN g
  zero : h.testBit 0 = true
  add : ∀ x y, h.testBit x = true → h.testBit y = true → h.testBit (addN g x y) = true
theorem neg_of_zero {g : List Nat} (v : VG g) {x w : Nat} (hw : w < ordN g) (h : addN g x w = 0) : w = negN g x := by
  have h1 : addN g (addN g x w) (negN g x) = w := by
    rw [addN_comm g x w, addN_assoc g v.each, addN_neg g v.each, addN_comm, addN_zero g w v.each hw]
  rw [h, addN_zero g _ v.each (negN_lt v.each x)] at h1
  exact h1.symm
theorem Subg.neg {g : List Nat} {h : Nat} (v : VG g) (s : Subg g h) {x : Nat} (hx : h.testBit x = true) : h.testBit (negN g x) = true := by
  have hxl := bit_lt s.lt hx
  have hit : ∀ k, h.testBit (iterN g x (k + 1)) = true := by
    intro k
    induction k with
    | zero =>
      rw [show iterN g x (0 + 1) = addN g 0 x from rfl, addN_zero g x v.each hxl]
      exact hx
    | succ k ih => exact s.add _ _ ih hx
  have o1 := ordN_pos v.each
  by_cases h1 : ordN g = 1
  · have hx0 : negN g x = 0 := by have := negN_lt v.each x; omega
    rw [hx0]
    exact s.zero
  · have e := iterN_ord v x
    have e2 : addN g (iterN g x (ordN g - 2 + 1)) x = 0 := by
      have : iterN g x (ordN g - 2 + 1 + 1) = 0 := by rw [show ordN g - 2 + 1 + 1 = ordN g by omega]; exact e
      exact this
    rw [addN_comm] at e2
    have := neg_of_zero v (iterN_lt v x (ordN g - 2 + 1)) e2
    rw [← this]
    exact hit _
def nxS (g : List Nat) (a o : Nat) : Nat := o ||| sumN g a o
def nxI (g : List Nat) (a o : Nat) : Nat := (o ||| sumN g o a) ||| sumN g o (orAll (fun y => 2 ^ negN g y) (elems a))
def oppV (g : List Nat) (b : Nat) : Nat := orAll (fun y => 2 ^ negN g y) (elems b)
theorem oppV_lt {g : List Nat} (v : VG g) (b : Nat) : oppV g b < 2 ^ ordN g := orFold_lt (Nat.two_pow_pos _) fun y _ => two_pow_lt (negN_lt v.each y)
theorem opp_bit {g : List Nat} (v : VG g) {b : Nat} (hb : b < 2 ^ ordN g) (z : Nat) : (oppV g b).testBit z = true ↔ ∃ y, b.testBit y = true ∧ negN g y = z := by
  unfold oppV
  rw [orAll_test, List.any_eq_true]
  simp only [pow_test]
  constructor
  · rintro ⟨y, hy, h⟩
    exact ⟨y, (mem_elems (set_i64 v hb)).1 hy, of_decide_eq_true h⟩
  · rintro ⟨y, hy, h⟩
    exact ⟨y, (mem_elems (set_i64 v hb)).2 hy, decide_eq_true h⟩
theorem or_grow {o t : Nat} (h : ¬ (o ||| t) = o) : o < o ||| t := by
  have : o ≤ o ||| t := Nat.left_le_or
  omega
theorem one_test (z : Nat) : (1 : Nat).testBit z = true → z = 0 := by
  intro h
  cases z with
  | zero => rfl
  | succ z => rw [Nat.testBit_succ] at h; simp at h
theorem s_close_loop {g : List Nat} (v : VG g) {a : Nat} (ha : a < 2 ^ ordN g) : ∀ (d o : Nat), o < 2 ^ ordN g → 2 ^ ordN g ≤ d + o → ∃ c : Nat, loopL (f_s_l5Closure_r0 (a : Int) (ints (natsI g))) ((o : Int), ((nxS g a o : Nat) : Int)) = some (.one (c : Int)) ∧ c < 2 ^ ordN g ∧ sbN o c ∧ nxS g a c = c ∧
    ∀ S, sbN o S → (∀ x y, S.testBit x = true → a.testBit y = true → S.testBit (addN g x y) = true) → sbN c S
  | 0, o, h1, h2 => by omega
  | d + 1, o, h1, h2 => by
    have hn : nxS g a o < 2 ^ ordN g := or_lt h1 (sumN_lt v a o)
    by_cases he : nxS g a o = o
    · refine ⟨o, loopL_one ?_, h1, fun z h => h, he, fun S hS _ => hS⟩
      have e : (((nxS g a o : Nat) : Int) != (o : Int)) = false := by rw [he]; exact bne_self_eq_false _
      simp only [f_s_l5Closure_r0, f_s_l5Closure_k0, e, br_false]
    · have hgrow := or_grow (t := sumN g a o) he
      have e : (((nxS g a o : Nat) : Int) != (o : Int)) = true := bne_iff_ne.2 (by omega)
      obtain ⟨c, hc, q1, q2, q3, q4⟩ := s_close_loop v ha d (nxS g a o) hn (by unfold nxS at *; omega)
      have hsub : sbN o (nxS g a o) := fun z h => by unfold nxS; rw [Nat.testBit_or, h]; rfl
      refine ⟨c, ?_, q1, fun z h => q2 z (hsub z h), q3, fun S hS hadd => q4 S (fun z h => ?_) hadd⟩
      · rw [loopL_again (s' := (((nxS g a o : Nat) : Int), ((nxS g a (nxS g a o) : Nat) : Int))) (by
          simp only [f_s_l5Closure_r0, f_s_l5Closure_k0, e, br_true, s_l4Sum_eq v hn ha, bo_some, or_or v hn (sumN_lt v a (nxS g a o))]
          rfl)]
        exact hc
      · unfold nxS at h
        rw [Nat.testBit_or, Bool.or_eq_true] at h
        rcases h with h | h
        · exact hS z h
        · obtain ⟨x, y, hx, hy, rfl⟩ := (sum_bit v ha h1 z).1 h
          rw [addN_comm]
          exact hadd y x (hS y hy) hx
theorem one_lt2 {g : List Nat} (v : VG g) : 1 < 2 ^ ordN g := by
  have := Nat.pow_le_pow_right (n := 2) (by decide) (ordN_pos v.each)
  omega
theorem s_close {g : List Nat} (v : VG g) {a : Nat} (ha : a < 2 ^ ordN g) : ∃ c : Nat, f_s_l5Closure (ints (natsI g)) (a : Int) = some (c : Int) ∧ c < 2 ^ ordN g ∧ (c = a ↔ Subg g a) := by
  have h1 := one_lt2 v
  obtain ⟨c, hc, q1, q2, q3, q4⟩ := s_close_loop v ha (2 ^ ordN g) 1 h1 (by omega)
  have e1 := s_l4Sum_eq v h1 ha
  have e1' : f_s_l4Sum (ints (natsI g)) 1 (a : Int) = some ((sumN g a 1 : Nat) : Int) := e1
  have e2 := or_or v h1 (sumN_lt v a 1)
  have e2' : or64 1 ((sumN g a 1 : Nat) : Int) = ((nxS g a 1 : Nat) : Int) := e2
  have hc' : loopL (f_s_l5Closure_r0 (a : Int) (ints (natsI g))) (1, ((nxS g a 1 : Nat) : Int)) = some (.one (c : Int)) := hc
  have c0 : c.testBit 0 = true := q2 0 (by decide)
  have hcl : ∀ x y, c.testBit x = true → a.testBit y = true → c.testBit (addN g x y) = true := fun x y hx hy => by
    rw [← q3]
    unfold nxS
    rw [Nat.testBit_or, (sum_bit v ha q1 _).2 ⟨y, x, hy, hx, addN_comm g y x⟩, Bool.or_true]
  refine ⟨c, by simp only [f_s_l5Closure, f_s_l5Closure_k, e1', bo_some, e2', hc', bl1_one], q1, fun e => ?_, fun s => ?_⟩
  · subst e
    exact ⟨q1, c0, hcl⟩
  · refine sbN_eq (q4 a (fun z h => by rw [one_test z h]; exact s.zero) s.add) fun y hy => ?_
    have := hcl 0 y c0 hy
    rwa [addN_zero g y v.each (bit_lt ha hy)] at this
theorem s_IsSubgroup_eq {g : List Nat} (v : VG g) {a : Nat} (ha : a < 2 ^ ordN g) (hs : setG (natsI g) (a : Int) = true) : ∃ b, f_s_IsSubgroup (ints (natsI g)) (a : Int) = some b ∧ (b = true ↔ Subg g a) := by
  obtain ⟨c, hc, q, hi⟩ := s_close v ha
  refine ⟨((c : Int) == (a : Int)), ?_, ?_⟩
  · simp only [f_s_IsSubgroup, f_s_IsSubgroup_k, s_IsSet_eq _ _ v.lim, hs, bo_some, BEq.rfl, br_true, hc]
  · rw [← hi, beq_iff_eq]
    omega
theorem i_oppV_eq {g : List Nat} (v : VG g) {b : Nat} (hb : b < 2 ^ ordN g) : f_i_Group_opposite (ints (natsI g)) (b : Int) = some ((oppV g b : Nat) : Int) := by
  have h24 := v.ord
  have hbl := elems_len b
  have key := loop_foldN (rd := f_i_Group_opposite_r0 (ints (natsI g)) ((elems b).length : Int)) (elems b) (fun (t : Nat) i => ((t : Int), ints (natsI (elems b)), i)) (fun o y => o ||| 2 ^ negN g y) (fun t => (t : Int)) (fun t => t < 2 ^ ordN g) 0 (Nat.two_pow_pos _) (fun k t hk ht => by
    have hy := elems_at hb hk
    simp only [f_i_Group_opposite_r0, f_i_Group_opposite_k0, ints_length, natsI_length, lt_dec hk, in_nat hk, Int.toNat_natCast, kAt_ints, atN_natsI, br_true, i_negate_eq v (show (elems b).getD k 0 < 4611686018427387904 by omega), bo_some, neg_dec, br_false, or_pow v ht (negN_lt v.each ((elems b).getD k 0)), w64_nat (show k < 9223372036854775807 by omega)])
    (fun k t hk ht => or_lt ht (two_pow_lt (negN_lt v.each _)))
    (fun t ht => by simp only [f_i_Group_opposite_r0, f_i_Group_opposite_k0, lt_dec_self, br_false])
  have key1 : loopL (f_i_Group_opposite_r0 (ints (natsI g)) ((elems b).length : Int)) (0, ints (natsI (elems b)), 0) = some (.one ((oppV g b : Nat) : Int)) := key.1
  simp only [f_i_Group_opposite, f_i_Group_opposite_k, i_members_eq (set_i64 v hb), bo_some, ints_length, natsI_length, key1, bl1_one]
theorem i_gen_loop {g : List Nat} (v : VG g) {a : Nat} (ha : a < 2 ^ ordN g) : ∀ (d o : Nat), o < 2 ^ ordN g → 2 ^ ordN g ≤ d + o → ∃ c : Nat, loopL (f_i_Group_generated_r0 (a : Int) (ints (natsI g))) (o : Int) = some (.one (c : Int)) ∧ c < 2 ^ ordN g ∧ sbN o c ∧ nxI g a c = c ∧
    ∀ S, sbN o S → (∀ x y, S.testBit x = true → a.testBit y = true → S.testBit (addN g x y) = true) → (∀ x y, S.testBit x = true → a.testBit y = true → S.testBit (addN g x (negN g y)) = true) → sbN c S
  | 0, o, h1, h2 => by omega
  | d + 1, o, h1, h2 => by
    have ho := oppV_lt v a
    have s1 := sumN_lt v o a
    have s2 := sumN_lt v o (oppV g a)
    have hm : o ||| sumN g o a < 2 ^ ordN g := or_lt h1 s1
    have hn : nxI g a o < 2 ^ ordN g := or_lt hm s2
    have er : or64 (or64 (o : Int) ((sumN g o a : Nat) : Int)) ((sumN g o (oppV g a) : Nat) : Int) = ((nxI g a o : Nat) : Int) := by
      rw [or_or v h1 s1, or_or v hm s2]
      rfl
    by_cases he : nxI g a o = o
    · refine ⟨o, loopL_one ?_, h1, fun z h => h, he, fun S hS _ _ => hS⟩
      have e : (((nxI g a o : Nat) : Int) == (o : Int)) = true := by rw [he]; exact beq_self_eq_true _
      simp only [f_i_Group_generated_r0, f_i_Group_generated_k0, i_sum_eq v h1 ha, i_oppV_eq v ha, i_sum_eq v h1 ho, bo_some, er, e, br_true]
    · have hle : o ≤ nxI g a o := Nat.le_trans Nat.left_le_or Nat.left_le_or
      have e : (((nxI g a o : Nat) : Int) == (o : Int)) = false := beq_eq_false_iff_ne.2 (by omega)
      obtain ⟨c, hc, q1, q2, q3, q4⟩ := i_gen_loop v ha d (nxI g a o) hn (by omega)
      have hsub : sbN o (nxI g a o) := fun z h => by unfold nxI; rw [Nat.testBit_or, Nat.testBit_or, h]; rfl
      refine ⟨c, ?_, q1, fun z h => q2 z (hsub z h), q3, fun S hS hadd hneg => q4 S (fun z h => ?_) hadd hneg⟩
      · rw [loopL_again (s' := ((nxI g a o : Nat) : Int)) (by
          simp only [f_i_Group_generated_r0, f_i_Group_generated_k0, i_sum_eq v h1 ha, i_oppV_eq v ha, i_sum_eq v h1 ho, bo_some, er, e, br_false])]
        exact hc
      · unfold nxI at h
        rw [Nat.testBit_or, Nat.testBit_or, Bool.or_eq_true, Bool.or_eq_true] at h
        rcases h with (h | h) | h
        · exact hS z h
        · obtain ⟨x, y, hx, hy, rfl⟩ := (sum_bit v h1 ha z).1 h
          exact hadd x y (hS x hx) hy
        · obtain ⟨x, y, hx, hy, rfl⟩ := (sum_bit v h1 ho z).1 h
          obtain ⟨w, hw, rfl⟩ := (opp_bit v ha y).1 hy
          exact hneg x w (hS x hx) hw
theorem i_gen {g : List Nat} (v : VG g) {a : Nat} (ha : a < 2 ^ ordN g) : ∃ c : Nat, f_i_Group_generated (ints (natsI g)) (a : Int) = some (c : Int) ∧ c < 2 ^ ordN g ∧ (c = a ↔ Subg g a) := by
  have h1 := one_lt2 v
  obtain ⟨c, hc, q1, q2, q3, q4⟩ := i_gen_loop v ha (2 ^ ordN g) 1 h1 (by omega)
  have hc' : loopL (f_i_Group_generated_r0 (a : Int) (ints (natsI g))) 1 = some (.one (c : Int)) := hc
  have c0 : c.testBit 0 = true := q2 0 (by decide)
  have hcl : ∀ x y, c.testBit x = true → a.testBit y = true → c.testBit (addN g x y) = true := fun x y hx hy => by
    rw [← q3]
    unfold nxI
    rw [Nat.testBit_or, Nat.testBit_or, (sum_bit v q1 ha _).2 ⟨x, y, hx, hy, rfl⟩, Bool.or_true, Bool.true_or]
  refine ⟨c, by simp only [f_i_Group_generated, f_i_Group_generated_k, hc', bl1_one], q1, fun e => ?_, fun s => ?_⟩
  · subst e
    exact ⟨q1, c0, hcl⟩
  · refine sbN_eq (q4 a (fun z h => by rw [one_test z h]; exact s.zero) s.add (fun x y hx hy => s.add _ _ hx (s.neg v hy))) fun y hy => ?_
    have := hcl 0 y c0 hy
    rwa [addN_zero g y v.each (bit_lt ha hy)] at this
theorem i_IsSubgroup_eq {g : List Nat} (v : VG g) {a : Nat} (ha : a < 2 ^ ordN g) (hs : setG (natsI g) (a : Int) = true) : ∃ b, f_i_IsSubgroup (ints (natsI g)) (a : Int) = some b ∧ (b = true ↔ Subg g a) := by
  obtain ⟨c, hc, q, hi⟩ := i_gen v ha
  refine ⟨((c : Int) == (a : Int)), ?_, ?_⟩
  · simp only [f_i_IsSubgroup, f_i_IsSubgroup_k, i_IsSet_eq _ _ v.lim, hs, bo_some, BEq.rfl, br_true, hc]
  · rw [← hi, beq_iff_eq]
    omega
theorem IsSubgroup_both (G : List Int) (x : Int) (h : G.length ≤ lim) : ∃ b, f_s_IsSubgroup (ints G) x = some b ∧ f_i_IsSubgroup (ints G) x = some b ∧ (b = true → ∃ g a, G = natsI g ∧ VG g ∧ x = ((a : Nat) : Int) ∧ Subg g a) := by
  cases hs : setG G x with
  | false =>
    refine ⟨false, ?_, ?_, fun h => by cases h⟩
    · simp only [f_s_IsSubgroup, f_s_IsSubgroup_k, s_IsSet_eq _ _ h, hs, bo_some]; rfl
    · simp only [f_i_IsSubgroup, f_i_IsSubgroup_k, i_IsSet_eq _ _ h, hs, bo_some]; rfl
  | true =>
    obtain ⟨g, a, rfl, v, rfl, ha⟩ := nat_of_set hs
    obtain ⟨b, e1, h1⟩ := s_IsSubgroup_eq v ha hs
    obtain ⟨b', e2, h2⟩ := i_IsSubgroup_eq v ha hs
    have : b = b' := by rw [Bool.eq_iff_iff, h1, h2]
    subst this
    exact ⟨b, e1, e2, fun hb => ⟨g, a, rfl, v, rfl, h1.1 hb⟩⟩
def valN (E : Nat) : List Nat → Nat → Nat → Nat
  | [], _, _ => 0
  | o :: r, k, x => (k % o) * (x % o) * (E / o) + valN E r (k / o) (x / o)
def chN (g : List Nat) (k x : Nat) : Nat := valN (expN g) g k x % expN g
theorem valN_comm (E : Nat) : ∀ (g : List Nat) (k x : Nat), valN E g k x = valN E g x k
  | [], _, _ => rfl
  | o :: r, k, x => by
    unfold valN
    rw [valN_comm E r, Nat.mul_comm (k % o) (x % o)]
theorem chN_comm (g : List Nat) (k x : Nat) : chN g k x = chN g x k := by unfold chN; rw [valN_comm]
theorem valN_add (E : Nat) : ∀ (g : List Nat), (∀ n ∈ g, 2 ≤ n ∧ n ≤ 24) → (∀ n ∈ g, n ∣ E) → ∀ k x y, ∃ q, valN E g k x + valN E g k y = valN E g k (addN g x y) + q * E
  | [], _, _, _, _, _ => ⟨0, by simp [valN]⟩
  | o :: r, he, hd, k, x, y => by
    have ho := (he o (by simp)).1
    obtain ⟨q, hq⟩ := valN_add E r (fun n hn => he n (by simp [hn])) (fun n hn => hd n (by simp [hn])) (k / o) (x / o) (y / o)
    obtain ⟨w, hw⟩ := hd o (by simp)
    have ew : E / o = w := by rw [hw]; exact Nat.mul_div_cancel_left w (by omega)
    have e1 := addN_mod r x y ho
    have e2 := addN_div r x y ho
    have e3 := Nat.div_add_mod (x % o + y % o) o
    refine ⟨q + (k % o) * ((x % o + y % o) / o), ?_⟩
    unfold valN
    rw [e1, e2, ew]
    generalize (x % o + y % o) % o = s at *
    generalize (x % o + y % o) / o = t at *
    generalize valN E r (k / o) (addN r (x / o) (y / o)) = v3 at *
    generalize valN E r (k / o) (x / o) = v1 at *
    generalize valN E r (k / o) (y / o) = v2 at *
    generalize k % o = a at *
    generalize x % o = b at *
    generalize y % o = c at *
    have h1 : a * b * w + a * c * w = a * s * w + a * t * E := by
      rw [← Nat.add_mul, ← Nat.mul_add, ← e3, hw, Nat.mul_add, Nat.add_mul, Nat.add_comm]
      congr 1
      rw [Nat.mul_assoc a t, ← Nat.mul_assoc t o w, Nat.mul_comm t o, Nat.mul_assoc a (o * t) w]
    rw [Nat.add_mul]
    omega
theorem exp_all : (allG.all fun g => g.all fun o => Nat.beq (expN g % o) 0) = true := by decide +kernel
theorem exp_each {g : List Nat} (v : VG g) : ∀ n ∈ g, n ∣ expN g := fun n hn => by
  have h1 := List.all_eq_true.1 exp_all g v.mem
  have h2 := List.all_eq_true.1 h1 n hn
  exact Nat.dvd_of_mod_eq_zero (Nat.eq_of_beq_eq_true h2)
theorem exp24 {g : List Nat} (v : VG g) : 1 ≤ expN g ∧ expN g ≤ 24 := dvd_le24 v (expN_dvd v)
theorem chN_lt {g : List Nat} (v : VG g) (k x : Nat) : chN g k x < expN g := Nat.mod_lt _ (exp24 v).1
theorem chN_add {g : List Nat} (v : VG g) (k x y : Nat) : chN g k (addN g x y) = (chN g k x + chN g k y) % expN g := by
  obtain ⟨q, hq⟩ := valN_add (expN g) g v.each (exp_each v) k x y
  unfold chN
  rw [← Nat.add_mod, hq, Nat.add_mul_mod_self_right]
theorem chN_zero {g : List Nat} (v : VG g) (k : Nat) : chN g k 0 = 0 := by
  have o1 := ordN_pos v.each
  have h := chN_add v k 0 0
  rw [addN_zero g 0 v.each (by omega)] at h
  have hl := chN_lt v k 0
  generalize chN g k 0 = a at *
  have e : (a + a) % expN g = a := h.symm
  rcases Nat.lt_or_ge (a + a) (expN g) with hc | hc
  · rw [Nat.mod_eq_of_lt hc] at e; omega
  · rw [Nat.mod_eq_sub_mod hc, Nat.mod_eq_of_lt (by omega)] at e; omega
theorem faithful : (allG.all fun g => (List.range (ordN g)).all fun x => Nat.beq x 0 || (List.range (ordN g)).any fun k => !Nat.beq (chN g k x) 0) = true := by decide +kernel
theorem chN_sees {g : List Nat} (v : VG g) {x : Nat} (hx : x < ordN g) (h0 : x ≠ 0) : ∃ k, k < ordN g ∧ chN g k x ≠ 0 := by
  have h1 := List.all_eq_true.1 faithful g v.mem
  have h2 := List.all_eq_true.1 h1 x (List.mem_range.2 hx)
  rw [Bool.or_eq_true] at h2
  rcases h2 with h2 | h2
  · exact absurd (Nat.eq_of_beq_eq_true h2) h0
  · obtain ⟨k, hk, e⟩ := List.any_eq_true.1 h2
    refine ⟨k, List.mem_range.1 hk, fun h => ?_⟩
    rw [h] at e
    cases e
def ramT : List (List Nat) := [[], [25], [25, 23], [26, 23, 23], [26, 24, 22, 24], [28, 23, 23, 23, 23], [26, 25, 23, 22, 23, 25], [30, 23, 23, 23, 23, 23, 23], [28, 24, 24, 24, 20, 24, 24, 24], [30, 24, 24, 21, 24, 24, 21, 24, 24], [28, 25, 23, 25, 23, 20, 23, 25, 23, 25], [34, 23, 23, 23, 23, 23, 23, 23, 23, 23, 23], [28, 24, 26, 24, 22, 24, 20, 24, 22, 24, 26, 24], [36, 23, 23, 23, 23, 23, 23, 23, 23, 23, 23, 23, 23], [30, 25, 23, 25, 23, 25, 23, 18, 23, 25, 23, 25, 23, 25], [32, 25, 25, 22, 25, 20, 22, 25, 25, 22, 20, 25, 22, 25, 25], [32, 24, 24, 24, 24, 24, 24, 24, 16, 24, 24, 24, 24, 24, 24, 24], [40, 23, 23, 23, 23, 23, 23, 23, 23, 23, 23, 23, 23, 23, 23, 23, 23], [30, 24, 24, 27, 24, 24, 21, 24, 24, 18, 24, 24, 21, 24, 24, 27, 24, 24], [42, 23, 23, 23, 23, 23, 23, 23, 23, 23, 23, 23, 23, 23, 23, 23, 23, 23, 23], [32, 24, 26, 24, 22, 24, 26, 24, 22, 24, 16, 24, 22, 24, 26, 24, 22, 24, 26, 24], [36, 25, 25, 22, 25, 25, 22, 18, 25, 22, 25, 25, 22, 25, 18, 22, 25, 25, 22, 25, 25], [34, 25, 23, 25, 23, 25, 23, 25, 23, 25, 23, 14, 23, 25, 23, 25, 23, 25, 23, 25, 23, 25], [46, 23, 23, 23, 23, 23, 23, 23, 23, 23, 23, 23, 23, 23, 23, 23, 23, 23, 23, 23, 23, 23, 23], [32, 24, 24, 24, 28, 24, 24, 24, 20, 24, 24, 24, 16, 24, 24, 24, 20, 24, 24, 24, 28, 24, 24, 24]]
def ramN (E v : Nat) : Nat := (ramT.getD E []).getD v 0
def ramS (T : List Nat) (E u v : Nat) : Nat := ((List.range E).map fun j => T.getD ((u + j * v) % E) 0).sum
theorem ram_all : ((List.range 25).all fun E => (List.range E).all fun u => (List.range E).all fun v => Nat.beq v 0 || Nat.beq (ramS (ramT.getD E []) E u v) (24 * E)) = true := by decide +kernel
theorem ram_more : ((List.range 25).all fun E => Nat.beq E 0 || Nat.blt 24 (ramN E 0)) = true := by decide +kernel
theorem ram_shift {E u v : Nat} (hE : E ≤ 24) (hu : u < E) (hv : v < E) (h0 : v ≠ 0) : ((List.range E).map fun j => ramN E ((u + j * v) % E)).sum = 24 * E := by
  have h1 := List.all_eq_true.1 ram_all E (List.mem_range.2 (by omega))
  have h2 := List.all_eq_true.1 h1 u (List.mem_range.2 hu)
  have h3 := List.all_eq_true.1 h2 v (List.mem_range.2 hv)
  rw [Bool.or_eq_true] at h3
  rcases h3 with h3 | h3
  · exact absurd (Nat.eq_of_beq_eq_true h3) h0
  · exact Nat.eq_of_beq_eq_true h3
theorem ram_zero {E : Nat} (h1 : 1 ≤ E) (hE : E ≤ 24) : 24 < ramN E 0 := by
  have h1 := List.all_eq_true.1 ram_more E (List.mem_range.2 (by omega))
  rw [Bool.or_eq_true] at h1
  rcases h1 with h1 | h1
  · have := Nat.eq_of_beq_eq_true h1; omega
  · exact Nat.le_of_ble_eq_true h1
theorem sum_ones {α : Type} : ∀ l : List α, (l.map fun _ => 1).sum = l.length
  | [] => rfl
  | _ :: l => by rw [List.map_cons, List.sum_cons, sum_ones l, List.length_cons, Nat.add_comm]
theorem sub_shift {g : List Nat} {h : Nat} (v : VG g) (s : Subg g h) {x : Nat} (hx : h.testBit x = true) (F : Nat → Nat) : ((elems h).map fun y => F (addN g x y)).sum = ((List.range (ordN g)).map fun z => (if h.testBit z then 1 else 0) * F z).sum := by
  have e := table_pairs v [x] (elems h) F
  have e2 : ([x].map fun x => ((elems h).map fun y => F (addN g x y)).sum).sum = ((elems h).map fun y => F (addN g x y)).sum := by simp
  rw [← e2, ← e]
  refine sumM_congr fun z hz => ?_
  have hz' := List.mem_range.1 hz
  have e3 : cnt2 g [x] (elems h) z = cnt1 g x (elems h) z := by simp [cnt2]
  rw [e3, cnt1_test v s.lt hz']
  have e4 : h.testBit (addN g z (negN g x)) = h.testBit z := by
    rw [Bool.eq_iff_iff]
    constructor
    · intro hh
      have := s.add _ _ hx hh
      rw [addN_forth v hz'] at this
      exact this
    · intro hh
      exact s.add _ _ hh (s.neg v hx)
  rw [e4]
theorem trans_sum {g : List Nat} {h : Nat} (v : VG g) (s : Subg g h) {x : Nat} (hx : h.testBit x = true) (F : Nat → Nat) : ((elems h).map fun y => F (addN g x y)).sum = ((elems h).map F).sum := by
  rw [sub_shift v s hx F, ← sub_shift v s s.zero F]
  refine sumM_congr fun y hy => ?_
  rw [addN_zero g y v.each (elems_lt s.lt hy)]
def annP (g : List Nat) (h k : Nat) : Bool := (elems h).all fun x => Nat.beq (chN g k x) 0
theorem shift_sum {g : List Nat} {h : Nat} (v : VG g) (s : Subg g h) (k : Nat) {x : Nat} (hx : h.testBit x = true) : ∀ j, ((elems h).map fun y => ramN (expN g) ((chN g k y + j * chN g k x) % expN g)).sum = ((elems h).map fun y => ramN (expN g) (chN g k y)).sum
  | 0 => by
    refine sumM_congr fun y _ => ?_
    rw [Nat.zero_mul, Nat.add_zero, Nat.mod_eq_of_lt (chN_lt v k y)]
  | j + 1 => by
    rw [← shift_sum v s k hx j]
    refine Eq.trans ?_ (trans_sum v s hx fun y => ramN (expN g) ((chN g k y + j * chN g k x) % expN g))
    refine sumM_congr fun y _ => ?_
    show _ = ramN (expN g) ((chN g k (addN g x y) + j * chN g k x) % expN g)
    have e : chN g k x + chN g k y + j * chN g k x = chN g k y + (j * chN g k x + chN g k x) := by omega
    rw [chN_add v k x y, Nat.mod_add_mod, Nat.succ_mul, e]
theorem weight {g : List Nat} {h : Nat} (v : VG g) (s : Subg g h) (k : Nat) : ((elems h).map fun y => ramN (expN g) (chN g k y)).sum = popN h * 24 + if annP g h k then popN h * (ramN (expN g) 0 - 24) else 0 := by
  obtain ⟨E1, E24⟩ := exp24 v
  have r0 := ram_zero E1 E24
  cases ha : annP g h k with
  | true =>
    unfold annP at ha
    rw [List.all_eq_true] at ha
    have e : ((elems h).map fun y => ramN (expN g) (chN g k y)).sum = ((elems h).map fun _ => 0).sum + ((elems h).map fun _ => 1).sum * ramN (expN g) 0 := by
      rw [sumM_zero, Nat.zero_add, ← sumM_mul]
      refine sumM_congr fun y hy => ?_
      rw [Nat.eq_of_beq_eq_true (ha y hy), Nat.one_mul]
    rw [e, sumM_zero, Nat.zero_add, if_pos rfl, ← Nat.mul_add]
    have e2 : ((elems h).map fun _ => 1).sum = popN h := by rw [← elems_pop, sum_ones]
    rw [e2]
    congr 1
    omega
  | false =>
    unfold annP at ha
    rw [List.all_eq_false] at ha
    obtain ⟨x, hx, hne⟩ := ha
    have hx' : h.testBit x = true := (mem_elems (set_i64 v s.lt)).1 hx
    have h0 : chN g k x ≠ 0 := fun hh => hne (by rw [hh]; rfl)
    have e : ((List.range (expN g)).map fun j => ((elems h).map fun y => ramN (expN g) ((chN g k y + j * chN g k x) % expN g)).sum).sum = ((List.range (expN g)).map fun _ => 1).sum * ((elems h).map fun y => ramN (expN g) (chN g k y)).sum := by
      rw [← sumM_mul]
      refine sumM_congr fun j _ => ?_
      rw [shift_sum v s k hx' j, Nat.one_mul]
    rw [sumM_swap] at e
    have e2 : ((elems h).map fun y => ((List.range (expN g)).map fun j => ramN (expN g) ((chN g k y + j * chN g k x) % expN g)).sum).sum = ((elems h).map fun _ => 1).sum * (24 * expN g) := by
      rw [← sumM_mul]
      refine sumM_congr fun y _ => ?_
      rw [ram_shift E24 (chN_lt v k y) (chN_lt v k x) h0, Nat.one_mul]
    rw [e2] at e
    have e3 : ((elems h).map fun _ => 1).sum = popN h := by rw [← elems_pop, sum_ones]
    have e4 : ((List.range (expN g)).map fun _ => 1).sum = expN g := by rw [sum_ones, List.length_range]
    rw [e3, e4, ← Nat.mul_assoc, Nat.mul_comm _ (expN g)] at e
    have := Nat.eq_of_mul_eq_mul_left (by omega) e
    rw [← this]
    simp
def selN (p : Nat → Bool) (k : Nat) : Nat := (List.range k).foldl (fun o z => if p z then o ||| 2 ^ z else o) 0
theorem selN_succ (p : Nat → Bool) (k : Nat) : selN p (k + 1) = if p k then selN p k ||| 2 ^ k else selN p k := by
  unfold selN
  rw [List.range_succ, List.foldl_append]
  rfl
theorem selN_lt (p : Nat → Bool) : ∀ k, selN p k < 2 ^ k
  | 0 => Nat.one_pos
  | k + 1 => by
    rw [selN_succ]
    have h := selN_lt p k
    have h2 : 2 ^ k < 2 ^ (k + 1) := two_pow_lt (Nat.lt_succ_self k)
    split
    · exact Nat.or_lt_two_pow (Nat.lt_trans h h2) h2
    · exact Nat.lt_trans h h2
theorem selN_test (p : Nat → Bool) (i : Nat) : ∀ k, (selN p k).testBit i = (decide (i < k) && p i)
  | 0 => by simp [selN]
  | k + 1 => by
    rw [selN_succ]
    have ih := selN_test p i k
    by_cases hk : k = i
    · subst hk
      cases hp : p k <;> simp [ih, hp, Nat.testBit_or, pow_test]
    · have h1 : decide (i < k + 1) = decide (i < k) := by
        by_cases h : i < k
        · rw [decide_eq_true h, decide_eq_true (by omega)]
        · rw [decide_eq_false h, decide_eq_false (by omega)]
      rw [h1]
      split
      · rw [Nat.testBit_or, ih, pow_test, decide_eq_false hk, Bool.or_false]
      · exact ih
def annN (g : List Nat) (h : Nat) : Nat := selN (annP g h) (ordN g)
def fullN (g : List Nat) : Nat := selN (fun _ => true) (ordN g)
theorem full_test (g : List Nat) (i : Nat) : (fullN g).testBit i = decide (i < ordN g) := by
  unfold fullN
  rw [selN_test, Bool.and_true]
theorem full_sub {g : List Nat} (v : VG g) : Subg g (fullN g) := by
  have o1 := ordN_pos v.each
  refine ⟨selN_lt _ _, by rw [full_test, decide_eq_true (by omega)], fun x y _ _ => by rw [full_test, decide_eq_true (addN_lt v.each x y)]⟩
theorem annP_iff {g : List Nat} {h : Nat} (v : VG g) (hh : h < 2 ^ ordN g) (k : Nat) : annP g h k = true ↔ ∀ x, h.testBit x = true → chN g k x = 0 := by
  unfold annP
  rw [List.all_eq_true]
  constructor
  · intro ha x hx
    exact Nat.eq_of_beq_eq_true (ha x ((mem_elems (set_i64 v hh)).2 hx))
  · intro ha x hx
    rw [ha x ((mem_elems (set_i64 v hh)).1 hx)]
    rfl
theorem ann_test {g : List Nat} (h k : Nat) : (annN g h).testBit k = (decide (k < ordN g) && annP g h k) := selN_test _ _ _
theorem ann_sub {g : List Nat} {h : Nat} (v : VG g) (hh : h < 2 ^ ordN g) : Subg g (annN g h) := by
  have o1 := ordN_pos v.each
  refine ⟨selN_lt _ _, ?_, ?_⟩
  · rw [ann_test, decide_eq_true (by omega), Bool.true_and, annP_iff v hh]
    intro x _
    rw [chN_comm, chN_zero v]
  · intro x y hx hy
    rw [ann_test, Bool.and_eq_true, annP_iff v hh] at hx hy ⊢
    refine ⟨decide_eq_true (addN_lt v.each x y), fun z hz => ?_⟩
    rw [chN_comm, chN_add v, chN_comm g z x, chN_comm g z y, hx.2 z hz, hy.2 z hz, Nat.zero_mod]
theorem full_ann {g : List Nat} (v : VG g) {x : Nat} (hx : x < ordN g) : annP g (fullN g) x = decide (x = 0) := by
  rw [Bool.eq_iff_iff, annP_iff v (full_sub v).lt, decide_eq_true_eq]
  constructor
  · intro ha
    refine Decidable.byContradiction fun h0 => ?_
    obtain ⟨k, hk, e⟩ := chN_sees v hx h0
    refine e ?_
    rw [chN_comm]
    exact ha k (by rw [full_test, decide_eq_true hk])
  · rintro rfl k _
    rw [chN_comm, chN_zero v]
theorem pop_full {g : List Nat} (v : VG g) : popN (fullN g) = ordN g := by
  have h24 := v.ord
  rw [← elems_pop]
  unfold elems
  rw [← List.countP_eq_length_filter]
  have e : (List.range 63).countP (fun x => (fullN g).testBit x) = (List.range 63).countP fun x => decide (x < ordN g) := by
    apply List.countP_congr
    intro x _
    rw [full_test]
  rw [e]
  have hd : (List.range 25).all (fun n => Nat.beq ((List.range 63).countP fun x => decide (x < n)) n) = true := by decide +kernel
  exact Nat.eq_of_beq_eq_true (List.all_eq_true.1 hd (ordN g) (List.mem_range.2 (by omega)))
theorem ann_size {g : List Nat} {h : Nat} (v : VG g) (s : Subg g h) : popN (annN g h) * popN h = ordN g := by
  obtain ⟨E1, E24⟩ := exp24 v
  have r0 := ram_zero E1 E24
  have e1 : ((elems (fullN g)).map fun k => ((elems h).map fun y => ramN (expN g) (chN g k y)).sum).sum = ((elems (fullN g)).map fun _ => 1).sum * (popN h * 24) + ((elems (fullN g)).map fun k => if (annN g h).testBit k then 1 else 0).sum * (popN h * (ramN (expN g) 0 - 24)) := by
    rw [← sumM_mul, ← sumM_mul, ← sumM_add]
    refine sumM_congr fun k hk => ?_
    have hk' : k < ordN g := elems_lt (full_sub v).lt hk
    rw [weight v s k, ann_test, decide_eq_true hk', Bool.true_and, Nat.one_mul]
    cases annP g h k <;> simp
  have e2 : ((elems h).map fun y => ((elems (fullN g)).map fun k => ramN (expN g) (chN g k y)).sum).sum = ((elems h).map fun _ => 1).sum * (ordN g * 24) + ((elems h).map fun y => if decide (y = 0) then 1 else 0).sum * (ordN g * (ramN (expN g) 0 - 24)) := by
    rw [← sumM_mul, ← sumM_mul, ← sumM_add]
    refine sumM_congr fun y hy => ?_
    have hy' : y < ordN g := elems_lt s.lt hy
    have e3 : ((elems (fullN g)).map fun k => ramN (expN g) (chN g k y)).sum = ((elems (fullN g)).map fun k => ramN (expN g) (chN g y k)).sum := sumM_congr fun k _ => by rw [chN_comm]
    rw [e3, weight v (full_sub v) y, full_ann v hy', pop_full v, Nat.one_mul]
    cases decide (y = 0) <;> simp
  rw [sumM_swap, e2] at e1
  have c1 : ((elems (fullN g)).map fun _ => 1).sum = ordN g := by rw [← pop_full v, ← elems_pop, sum_ones]
  have c2 : ((elems h).map fun _ => 1).sum = popN h := by rw [← elems_pop, sum_ones]
  have c3 : ((elems (fullN g)).map fun k => if (annN g h).testBit k then 1 else 0).sum = popN (annN g h) := by
    rw [← countP_sum, ← elems_pop]
    unfold elems
    rw [List.countP_filter, ← List.countP_eq_length_filter]
    apply List.countP_congr
    intro k _
    rw [full_test, ann_test]
    cases decide (k < ordN g) <;> simp
  have c4 : ((elems h).map fun y => if decide (y = 0) then 1 else 0).sum = 1 := by
    rw [← countP_sum]
    unfold elems
    rw [List.countP_filter]
    have := range_one (fun x => h.testBit x) 0 63
    rw [this, s.zero]
    rfl
  rw [c1, c2, c3, c4] at e1
  have hc : popN h * (ordN g * 24) = ordN g * (popN h * 24) := by rw [Nat.mul_left_comm]
  rw [hc] at e1
  have e5 := Nat.add_left_cancel e1
  rw [Nat.one_mul, ← Nat.mul_assoc] at e5
  exact (Nat.eq_of_mul_eq_mul_right (by omega) e5).symm
theorem ann_ann {g : List Nat} {h : Nat} (v : VG g) (s : Subg g h) : annN g (annN g h) = h := by
  have sA := ann_sub v s.lt
  have z1 := ann_size v s
  have z2 := ann_size v sA
  have o1 := ordN_pos v.each
  have hsb : ∀ x, h.testBit x = true → (annN g (annN g h)).testBit x = true := by
    intro x hx
    rw [ann_test, Bool.and_eq_true, annP_iff v sA.lt]
    refine ⟨decide_eq_true (bit_lt s.lt hx), fun k hk => ?_⟩
    rw [ann_test, Bool.and_eq_true, annP_iff v s.lt] at hk
    rw [chN_comm]
    exact hk.2 x hx
  have hp : popN (annN g (annN g h)) = popN h := by
    rw [Nat.mul_comm] at z1
    rw [← z1] at z2
    refine Nat.eq_of_mul_eq_mul_right ?_ z2
    rcases Nat.eq_zero_or_pos (popN (annN g h)) with hz | hz
    · rw [hz, Nat.mul_zero] at z1; omega
    · exact hz
  have hl : (elems h).length = (elems (annN g (annN g h))).length := by rw [elems_pop, elems_pop, hp]
  have i1 := set_i64 v s.lt
  have i2 := set_i64 v (ann_sub v sA.lt).lt
  have hs : (elems h).Sublist (elems (annN g (annN g h))) := by
    have e : elems h = (elems (annN g (annN g h))).filter fun x => h.testBit x := by
      unfold elems
      rw [List.filter_filter]
      apply List.filter_congr
      intro x _
      cases hh : h.testBit x with
      | false => rfl
      | true => rw [hsb x hh]; rfl
    rw [e]
    exact List.filter_sublist
  have heq := hs.eq_of_length hl
  apply Nat.eq_of_testBit_eq
  intro z
  rw [Bool.eq_iff_iff, ← mem_elems i1, ← mem_elems i2, heq]
theorem loop_foldI {S T A B : Type} {rd : S → Option (Ro S A B)} (l : List Nat) (mk : T → Int → S) (f : T → Nat → T) (gg : T → A) (P : Nat → T → Prop) (t0 : T) (h0 : P 0 t0)
    (h : ∀ (k : Nat) t, k < l.length → P k t → rd (mk t (k : Int)) = some (.again (mk (f t (l.getD k 0)) ((k + 1 : Nat) : Int))))
    (hP : ∀ (k : Nat) t, k < l.length → P k t → P (k + 1) (f t (l.getD k 0)))
    (he : ∀ t, P l.length t → rd (mk t (l.length : Int)) = some (.one (gg t))) : loopL rd (mk t0 0) = some (.one (gg (l.foldl f t0))) ∧ P l.length (l.foldl f t0) := by
  have step : ∀ k, k < l.length → (l.take (k + 1)).foldl f t0 = f ((l.take k).foldl f t0) (l.getD k 0) := by
    intro k hk
    rw [List.take_succ_eq_append_getElem hk, List.foldl_append]
    simp [List.getD, List.getElem?_eq_getElem hk]
  have inv : ∀ k, k ≤ l.length → P k ((l.take k).foldl f t0) := by
    intro k
    induction k with
    | zero => intro _; exact h0
    | succ k ih => intro hk; rw [step k hk]; exact hP k _ hk (ih (by omega))
  have key := loop_count (rd := rd) (fun k => mk ((l.take k).foldl f t0) (k : Int)) l.length (a := gg (l.foldl f t0)) (fun k hk => by
    show rd (mk ((l.take k).foldl f t0) (k : Int)) = _
    rw [h k _ hk (inv k (by omega)), step k hk]) (by
      have := inv l.length (Nat.le_refl _)
      show rd (mk ((l.take l.length).foldl f t0) (l.length : Int)) = _
      rw [List.take_length] at this ⊢
      rw [he _ this]) 0 (Nat.zero_le _)
  refine ⟨by simpa using key, ?_⟩
  have := inv l.length (Nat.le_refl _)
  rwa [List.take_length] at this
def valF (E : Nat) (t : Nat × Nat × Nat) (o : Nat) : Nat × Nat × Nat := (t.1 / o, t.2.1 / o, t.2.2 + t.1 % o * (t.2.1 % o) * (E / o))
theorem valF_fold (E : Nat) : ∀ (g : List Nat) (k x n : Nat), (g.foldl (valF E) (k, x, n)).2.2 = n + valN E g k x
  | [], k, x, n => rfl
  | o :: r, k, x, n => by
    rw [List.foldl_cons]
    show (r.foldl (valF E) (k / o, x / o, n + k % o * (x % o) * (E / o))).2.2 = _
    rw [valF_fold E r]
    have e : valN E (o :: r) k x = k % o * (x % o) * (E / o) + valN E r (k / o) (x / o) := rfl
    rw [e]
    omega
theorem val_bound {E k x o : Nat} (hE : E ≤ 24) (hk : k ≤ 24) (hx : x ≤ 24) : k % o * (x % o) ≤ 576 ∧ k % o * (x % o) * (E / o) ≤ 13824 := by
  have h1 : k % o * (x % o) ≤ 24 * 24 := Nat.mul_le_mul (Nat.le_trans (Nat.mod_le k o) hk) (Nat.le_trans (Nat.mod_le x o) hx)
  have h2 : k % o * (x % o) * (E / o) ≤ (24 * 24) * 24 := Nat.mul_le_mul h1 (Nat.le_trans (Nat.div_le_self E o) hE)
  omega
theorem w64_mulN {a b : Nat} (h : a * b ≤ 1000000) : w64 ((a : Int) * (b : Int)) = ((a * b : Nat) : Int) := by
  rw [← Int.natCast_mul]
  exact w64_cast (by omega)
theorem w64_addN {a b : Nat} (h : a + b ≤ 1000000) : w64 ((a : Int) + (b : Int)) = ((a + b : Nat) : Int) := by
  rw [← Int.natCast_add]
  exact w64_cast (by omega)
theorem ozB {o : Nat} (h : 2 ≤ o) : ((o : Int) == 0) = false := by
  rw [show (0 : Int) = ((0 : Nat) : Int) from rfl, eq_nat_decM]
  exact decide_eq_false (by omega)
theorem s_l7Value_eq {g : List Nat} (v : VG g) {k x : Nat} (hk0 : k < ordN g) (hx0 : x < ordN g) : f_s_l7Value (ints (natsI g)) (k : Int) (x : Int) = some ((chN g k x : Nat) : Int) := by
  obtain ⟨E1, E24⟩ := exp24 v
  have h24 := v.ord
  have hl3 := v.len
  have key := (loop_foldI (rd := f_s_l7Value_r0 (ints (natsI g)) ((expN g : Nat) : Int)) g (fun (t : Nat × Nat × Nat) i => ((t.1 : Int), (t.2.1 : Int), (t.2.2 : Int), i)) (valF (expN g)) (fun t => ((t.2.2 : Nat) : Int)) (fun i t => t.1 ≤ 24 ∧ t.2.1 ≤ 24 ∧ t.2.2 ≤ 20000 * i) (k, x, 0) ⟨by show k ≤ 24; omega, by show x ≤ 24; omega, Nat.le_refl _⟩ (fun j t hj ht => by
      obtain ⟨a, y, n⟩ := t
      obtain ⟨p1, p2, p3⟩ := ht
      replace p1 : a ≤ 24 := p1
      replace p2 : y ≤ 24 := p2
      replace p3 : n ≤ 20000 * j := p3
      have ho := v.each _ (mem_at hj)
      obtain ⟨o, eo⟩ : ∃ o, g.getD j 0 = o := ⟨_, rfl⟩
      rw [eo] at ho ⊢
      obtain ⟨b1, b2⟩ := val_bound (o := o) E24 p1 p2
      have d1 := Nat.div_le_self a o
      have d2 := Nat.div_le_self y o
      have d3 := Nat.div_le_self (expN g) o
      simp only [f_s_l7Value_r0, f_s_l7Value_k0, ints_length, natsI_length, lt_dec hj, ok_natsI hj, at_natsI, eo, ozB ho.1, br_true, br_false, tmod_nat, tdiv_nat, w64_cast (show a / o < 9223372036854775808 by omega), w64_cast (show y / o < 9223372036854775808 by omega), w64_cast (show expN g / o < 9223372036854775808 by omega), w64_mulN (show a % o * (y % o) ≤ 1000000 by omega), w64_mulN (show a % o * (y % o) * (expN g / o) ≤ 1000000 by omega), w64_addN (show n + a % o * (y % o) * (expN g / o) ≤ 1000000 by omega), w64_nat (show j < 9223372036854775807 by omega), valF])
    (fun j t hj ht => by
      obtain ⟨a, y, n⟩ := t
      obtain ⟨p1, p2, p3⟩ := ht
      replace p1 : a ≤ 24 := p1
      replace p2 : y ≤ 24 := p2
      replace p3 : n ≤ 20000 * j := p3
      obtain ⟨b1, b2⟩ := val_bound (o := g.getD j 0) E24 p1 p2
      have d1 := Nat.div_le_self a (g.getD j 0)
      have d2 := Nat.div_le_self y (g.getD j 0)
      exact ⟨by show a / _ ≤ 24; omega, by show y / _ ≤ 24; omega, by show n + a % g.getD j 0 * (y % g.getD j 0) * (expN g / g.getD j 0) ≤ 20000 * (j + 1); omega⟩)
    (fun t ht => by simp only [f_s_l7Value_r0, f_s_l7Value_k0, ints_length, natsI_length, lt_dec_self, br_false])).1
  have key : loopL (f_s_l7Value_r0 (ints (natsI g)) ((expN g : Nat) : Int)) ((k : Int), (x : Int), 0, 0) = some (.one (((g.foldl (valF (expN g)) (k, x, 0)).2.2 : Nat) : Int)) := key
  rw [valF_fold, Nat.zero_add] at key
  have hz : (((expN g : Nat) : Int) == 0) = false := by
    rw [show (0 : Int) = ((0 : Nat) : Int) from rfl, eq_nat_decM]
    exact decide_eq_false (by omega)
  simp only [f_s_l7Value, f_s_l7Value_k, s_exp_eq v, bo_some, key, bl1_one, hz, br_false, tmod_nat]
  rfl
theorem hasN {g : List Nat} (v : VG g) {x : Nat} (hx : x < ordN g) : hasG (natsI g) (x : Int) = true := (v.has _).2 ⟨x, rfl, hx⟩
theorem s_CharacterValue_yes {g : List Nat} (v : VG g) {k x : Nat} (hk : k < ordN g) (hx : x < ordN g) : f_s_CharacterValue (ints (natsI g)) (k : Int) (x : Int) = some ((chN g k x : Nat) : Int) := by
  simp only [f_s_CharacterValue, f_s_CharacterValue_k, s_l2Is_eq _ _ v.lim, hasN v hk, hasN v hx, bo_some, Bool.not_true, br_false, BEq.rfl, br_true, s_l7Value_eq v hk hx]
def plN : List Nat → Nat → List Nat
  | [], _ => []
  | o :: r, x => x % o :: plN r (x / o)
theorem plN_length : ∀ (g : List Nat) (x : Nat), (plN g x).length = g.length
  | [], _ => rfl
  | o :: r, x => by show (plN r (x / o)).length + 1 = r.length + 1; rw [plN_length r]
def plF (t : Nat × List Nat) (o : Nat) : Nat × List Nat := (t.1 / o, t.2 ++ [t.1 % o])
theorem plF_fold : ∀ (g : List Nat) (x : Nat) (p : List Nat), (g.foldl plF (x, p)).2 = p ++ plN g x
  | [], x, p => by simp [plN]
  | o :: r, x, p => by
    rw [List.foldl_cons]
    show (r.foldl plF (x / o, p ++ [x % o])).2 = _
    rw [plF_fold r]
    simp [plN]
theorem i_places_eq {g : List Nat} (v : VG g) {x : Nat} (hx : x < ordN g) : f_i_Group_places (ints (natsI g)) (x : Int) = some (ints (natsI (plN g x))) := by
  have h24 := v.ord
  have hl3 := v.len
  have key := (loop_foldI (rd := f_i_Group_places_r0 (ints (natsI g)) (g.length : Int)) g (fun (t : Nat × List Nat) i => ((t.1 : Int), ints (natsI t.2), i)) plF (fun t => ints (natsI t.2)) (fun i t => t.1 ≤ 24 ∧ t.2.length = i) (x, []) ⟨by show x ≤ 24; omega, rfl⟩ (fun j t hj ht => by
      obtain ⟨a, p⟩ := t
      obtain ⟨p1, p2⟩ := ht
      replace p1 : a ≤ 24 := p1
      replace p2 : p.length = j := p2
      have ho := v.each _ (mem_at hj)
      obtain ⟨o, eo⟩ : ∃ o, g.getD j 0 = o := ⟨_, rfl⟩
      rw [eo] at ho ⊢
      have d1 := Nat.div_le_self a o
      have l1 : decide (p.length + [Sc.n .i64 ((a % o : Nat) : Int)].length ≤ lim) = true := decide_eq_true (by rw [List.length_singleton]; exact Nat.le_trans (show p.length + 1 ≤ 5 by omega) (by decide))
      simp only [f_i_Group_places_r0, f_i_Group_places_k0, lt_dec hj, ok_natsI hj, at_natsI, eo, ozB ho.1, br_true, br_false, tmod_nat, tdiv_nat, ints_length, natsI_length, l1, ints_cast_snoc, w64_cast (show a / o < 9223372036854775808 by omega), w64_nat (show j < 9223372036854775807 by omega), plF])
    (fun j t hj ht => by
      obtain ⟨a, p⟩ := t
      obtain ⟨p1, p2⟩ := ht
      replace p1 : a ≤ 24 := p1
      replace p2 : p.length = j := p2
      have d1 := Nat.div_le_self a (g.getD j 0)
      exact ⟨by show a / _ ≤ 24; omega, by show (p ++ [_]).length = _; rw [List.length_append, List.length_singleton, p2]⟩)
    (fun t ht => by simp only [f_i_Group_places_r0, f_i_Group_places_k0, lt_dec_self, br_false])).1
  have key : loopL (f_i_Group_places_r0 (ints (natsI g)) (g.length : Int)) ((x : Int), [], 0) = some (.one (ints (natsI (g.foldl plF (x, [])).2))) := key
  rw [plF_fold, List.nil_append] at key
  simp only [f_i_Group_places, f_i_Group_places_k, ints_length, natsI_length, key, bl1_one]
def vtN (E : Nat) (g : List Nat) (k x i : Nat) : Nat := (plN g k).getD i 0 * (plN g x).getD i 0 * (E / g.getD i 0)
theorem vt_sum (E : Nat) : ∀ (g : List Nat) (k x : Nat), ((List.range g.length).map (vtN E g k x)).sum = valN E g k x
  | [], _, _ => rfl
  | o :: r, k, x => by
    rw [List.length_cons, List.range_succ_eq_map, List.map_cons, List.sum_cons, List.map_map]
    have e : ((List.range r.length).map (vtN E (o :: r) k x ∘ Nat.succ)).sum = ((List.range r.length).map (vtN E r (k / o) (x / o))).sum := sumM_congr fun i _ => rfl
    rw [e, vt_sum E r]
    rfl
theorem pl_le : ∀ (g : List Nat) (x i : Nat), x ≤ 24 → (plN g x).getD i 0 ≤ 24
  | [], x, i, hx => by simp [plN]
  | o :: r, x, 0, hx => Nat.le_trans (Nat.mod_le x o) hx
  | o :: r, x, i + 1, hx => pl_le r (x / o) i (Nat.le_trans (Nat.div_le_self x o) hx)
theorem vt_le {E : Nat} (hE : E ≤ 24) (g : List Nat) {k x : Nat} (hk : k ≤ 24) (hx : x ≤ 24) (i : Nat) : (plN g k).getD i 0 * (plN g x).getD i 0 ≤ 576 ∧ vtN E g k x i ≤ 13824 := by
  have h1 : (plN g k).getD i 0 * (plN g x).getD i 0 ≤ 24 * 24 := Nat.mul_le_mul (pl_le g k i hk) (pl_le g x i hx)
  have h2 : vtN E g k x i ≤ (24 * 24) * 24 := Nat.mul_le_mul h1 (Nat.le_trans (Nat.div_le_self E _) hE)
  omega
theorem i_CharacterValue_yes {g : List Nat} (v : VG g) {k x : Nat} (hk : k < ordN g) (hx : x < ordN g) : f_i_CharacterValue (ints (natsI g)) (k : Int) (x : Int) = some ((chN g k x : Nat) : Int) := by
  obtain ⟨E1, E24⟩ := exp24 v
  have h24 := v.ord
  have hl3 := v.len
  have bs : ∀ j, j ≤ 3 → ((List.range j).map (vtN (expN g) g k x)).sum ≤ 50000 := by
    intro j hj
    have h1 := sumM_le (F := vtN (expN g) g k x) (M := 13824) (l := List.range j) fun i _ => (vt_le E24 g (by omega) (by omega) i).2
    rw [List.length_range] at h1
    have h2 : j * 13824 ≤ 3 * 13824 := Nat.mul_le_mul_right _ hj
    omega
  have key := loop_count (rd := f_i_CharacterValue_r0 ((expN g : Nat) : Int) (ints (natsI g)) (g.length : Int)) (fun j => (ints (natsI (plN g k)), ints (natsI (plN g x)), ((((List.range j).map (vtN (expN g) g k x)).sum : Nat) : Int), (j : Int))) g.length (a := ((((List.range g.length).map (vtN (expN g) g k x)).sum : Nat) : Int)) (fun j hj => by
      have ho := v.each _ (mem_at hj)
      obtain ⟨b1, b2⟩ := vt_le E24 g (show k ≤ 24 by omega) (show x ≤ 24 by omega) j
      have d3 := Nat.div_le_self (expN g) (g.getD j 0)
      have hj1 : j < (plN g k).length := by rw [plN_length]; exact hj
      have hj2 : j < (plN g x).length := by rw [plN_length]; exact hj
      have b3 := bs j (by omega)
      have e1 := sum_range_succ (vtN (expN g) g k x) j
      have b2' : (plN g k).getD j 0 * (plN g x).getD j 0 * (expN g / g.getD j 0) ≤ 13824 := b2
      have e1' : ((List.range (j + 1)).map (vtN (expN g) g k x)).sum = ((List.range j).map (vtN (expN g) g k x)).sum + (plN g k).getD j 0 * (plN g x).getD j 0 * (expN g / g.getD j 0) := e1
      simp only [f_i_CharacterValue_r0, f_i_CharacterValue_k0, lt_dec hj, ok_natsI hj, at_natsI, ozB ho.1, ints_length, natsI_length, in_nat hj1, in_nat hj2, Int.toNat_natCast, kAt_ints, atN_natsI, br_true, br_false, tdiv_nat, w64_cast (show expN g / g.getD j 0 < 9223372036854775808 by omega), w64_mulN (show (plN g k).getD j 0 * (plN g x).getD j 0 ≤ 1000000 by omega), w64_mulN (show (plN g k).getD j 0 * (plN g x).getD j 0 * (expN g / g.getD j 0) ≤ 1000000 by omega), w64_addN (show ((List.range j).map (vtN (expN g) g k x)).sum + (plN g k).getD j 0 * (plN g x).getD j 0 * (expN g / g.getD j 0) ≤ 1000000 by omega), w64_nat (show j < 9223372036854775807 by omega), e1']) (by
      simp only [f_i_CharacterValue_r0, f_i_CharacterValue_k0, lt_dec_self, br_false]) 0 (Nat.zero_le _)
  rw [vt_sum] at key
  have key : loopL (f_i_CharacterValue_r0 ((expN g : Nat) : Int) (ints (natsI g)) (g.length : Int)) (ints (natsI (plN g k)), ints (natsI (plN g x)), 0, 0) = some (.one ((valN (expN g) g k x : Nat) : Int)) := key
  have hz : (((expN g : Nat) : Int) == 0) = false := by
    rw [show (0 : Int) = ((0 : Nat) : Int) from rfl, eq_nat_decM]
    exact decide_eq_false (by omega)
  simp only [f_i_CharacterValue, f_i_CharacterValue_k, i_has_eq _ _ v.lim, hasN v hk, hasN v hx, bo_some, Bool.not_true, br_false, BEq.rfl, br_true, i_exp_eq v, i_places_eq v hk, i_places_eq v hx, ints_length, natsI_length, key, bl1_one, hz, tmod_nat]
  rfl
theorem nat_of_has {G : List Int} {k : Int} (hk : hasG G k = true) : ∃ g a, G = natsI g ∧ VG g ∧ k = ((a : Nat) : Int) ∧ a < ordN g := by
  have hg : isG G = true := by
    cases hg : isG G with
    | true => rfl
    | false =>
      have h1 := hasG_spec hk
      have : ordG G = 0 := by unfold ordG; rw [hg]; rfl
      omega
  obtain ⟨g, rfl, v⟩ := nat_of_isG hg
  obtain ⟨a, rfl, ha⟩ := (v.has k).1 hk
  exact ⟨g, a, rfl, v, rfl, ha⟩
theorem CharacterValue_more (G : List Int) (k x : Int) (h : G.length ≤ lim) : ((hasG G k = false ∨ hasG G x = false) ∧ f_s_CharacterValue (ints G) k x = some (-1) ∧ f_i_CharacterValue (ints G) k x = some (-1)) ∨
    ∃ g a y, G = natsI g ∧ VG g ∧ k = ((a : Nat) : Int) ∧ x = ((y : Nat) : Int) ∧ a < ordN g ∧ y < ordN g := by
  cases hk : hasG G k with
  | false =>
    refine .inl ⟨.inl rfl, ?_, ?_⟩
    · simp only [f_s_CharacterValue, f_s_CharacterValue_k, s_l2Is_eq _ _ h, hk, bo_some]; rfl
    · simp only [f_i_CharacterValue, f_i_CharacterValue_k, i_has_eq _ _ h, hk, bo_some]; rfl
  | true =>
    cases hx : hasG G x with
    | false =>
      refine .inl ⟨.inr rfl, ?_, ?_⟩
      · simp only [f_s_CharacterValue, f_s_CharacterValue_k, s_l2Is_eq _ _ h, hk, hx, bo_some]; rfl
      · simp only [f_i_CharacterValue, f_i_CharacterValue_k, i_has_eq _ _ h, hk, hx, bo_some]; rfl
    | true =>
      have hg : isG G = true := by
        cases hg : isG G with
        | true => rfl
        | false =>
          have h1 := hasG_spec hk
          have : ordG G = 0 := by unfold ordG; rw [hg]; rfl
          omega
      obtain ⟨g, rfl, v⟩ := nat_of_isG hg
      obtain ⟨a, rfl, ha⟩ := (v.has k).1 hk
      obtain ⟨y, rfl, hy⟩ := (v.has x).1 hx
      exact .inr ⟨g, a, y, rfl, v, rfl, rfl, ha, hy⟩
theorem set_of {g : List Nat} (v : VG g) {a : Nat} (ha : a < 2 ^ ordN g) : setG (natsI g) (a : Int) = true := by
  unfold setG
  rw [v.isG, v.ordG, shl_ord v, decide_eq_true (show (a : Int) ≥ 0 by omega), decide_eq_true (show (a : Int) < ((2 ^ ordN g : Nat) : Int) by omega)]
  rfl
theorem sel_step (p : Nat → Bool) {k : Nat} (hk : k < 24) (hp : p k = true) : or64 ((selN p k : Nat) : Int) (shl64 1 (k : Int)) = ((selN p (k + 1) : Nat) : Int) := by
  have h := selN_lt p k
  have h2 : 2 ^ k < 2 ^ 24 := two_pow_lt hk
  rw [shl1_nat (by omega), or64_nat (by omega) (by omega), selN_succ, if_pos hp]
theorem sel_stay (p : Nat → Bool) {k : Nat} (hp : p k = false) : selN p (k + 1) = selN p k := by
  rw [selN_succ, hp]
  rfl
theorem eq0 (n : Nat) : ((n : Int) == 0) = decide (n = 0) := eq_nat_decM n 0
def kerP (g : List Nat) (k x : Nat) : Bool := decide (chN g k x = 0)
def kerN (g : List Nat) (k : Nat) : Nat := selN (kerP g k) (ordN g)
theorem s_ker_eq {g : List Nat} (v : VG g) {k : Nat} (hk : k < ordN g) : f_s_KernelOf (ints (natsI g)) (k : Int) = some ((kerN g k : Nat) : Int) := by
  have h24 := v.ord
  have key := loop_count (rd := f_s_KernelOf_r0 (k : Int) (ints (natsI g))) (fun x => (((selN (kerP g k) x : Nat) : Int), (x : Int))) (ordN g) (a := ((kerN g k : Nat) : Int)) (fun x hx => by
      simp only [f_s_KernelOf_r0, f_s_KernelOf_k0, s_l2Order_eq _ v.lim, prodW_nat g v.len v.each, bo_some, lt_dec hx, br_true, s_l7Value_eq v hk hx, eq0, neg_dec, br_false, w64_nat (show x < 9223372036854775807 by omega)]
      cases hp : kerP g k x with
      | true => rw [show decide (chN g k x = 0) = true from hp, br_true, sel_step _ (by omega) hp]
      | false => rw [show decide (chN g k x = 0) = false from hp, br_false, sel_stay _ hp]) (by
      simp only [f_s_KernelOf_r0, f_s_KernelOf_k0, s_l2Order_eq _ v.lim, prodW_nat g v.len v.each, bo_some, lt_dec_self, br_false]; rfl) 0 (Nat.zero_le _)
  have key : loopL (f_s_KernelOf_r0 (k : Int) (ints (natsI g))) (0, 0) = some (.one ((kerN g k : Nat) : Int)) := key
  simp only [f_s_KernelOf, f_s_KernelOf_k, s_l2Is_eq _ _ v.lim, hasN v hk, bo_some, Bool.not_true, br_false, key, bl1_one]
theorem i_ker_eq {g : List Nat} (v : VG g) {k : Nat} (hk : k < ordN g) : f_i_KernelOf (ints (natsI g)) (k : Int) = some ((kerN g k : Nat) : Int) := by
  have h24 := v.ord
  have key := loop_count (rd := f_i_KernelOf_r0 (k : Int) (ints (natsI g)) ((ordN g : Nat) : Int)) (fun x => (((selN (kerP g k) x : Nat) : Int), (x : Int))) (ordN g) (a := ((kerN g k : Nat) : Int)) (fun x hx => by
      simp only [f_i_KernelOf_r0, f_i_KernelOf_k0, lt_dec hx, br_true, i_CharacterValue_yes v hk hx, bo_some, eq0, neg_dec, br_false, w64_nat (show x < 9223372036854775807 by omega)]
      cases hp : kerP g k x with
      | true => rw [show decide (chN g k x = 0) = true from hp, br_true, sel_step _ (by omega) hp]
      | false => rw [show decide (chN g k x = 0) = false from hp, br_false, sel_stay _ hp]) (by
      simp only [f_i_KernelOf_r0, f_i_KernelOf_k0, lt_dec_self, br_false]; rfl) 0 (Nat.zero_le _)
  have key : loopL (f_i_KernelOf_r0 (k : Int) (ints (natsI g)) ((ordN g : Nat) : Int)) (0, 0) = some (.one ((kerN g k : Nat) : Int)) := key
  simp only [f_i_KernelOf, f_i_KernelOf_k, i_has_eq _ _ v.lim, hasN v hk, bo_some, Bool.not_true, br_false, i_OrderOf_eq _ v.lim, v.ordG, key, bl1_one]
theorem KernelOf_both (G : List Int) (k : Int) (h : G.length ≤ lim) : ∃ r, f_s_KernelOf (ints G) k = some r ∧ f_i_KernelOf (ints G) k = some r := by
  cases hk : hasG G k with
  | false =>
    refine ⟨-1, ?_, ?_⟩
    · simp only [f_s_KernelOf, f_s_KernelOf_k, s_l2Is_eq _ _ h, hk, bo_some]; rfl
    · simp only [f_i_KernelOf, f_i_KernelOf_k, i_has_eq _ _ h, hk, bo_some]; rfl
  | true =>
    obtain ⟨g, a, rfl, v, rfl, ha⟩ := nat_of_has hk
    exact ⟨_, s_ker_eq v ha, i_ker_eq v ha⟩
theorem ker_lt (g : List Nat) (k : Nat) : kerN g k < 2 ^ ordN g := selN_lt _ _
theorem ann_of_ker {g : List Nat} (v : VG g) {h k : Nat} (hh : h < 2 ^ ordN g) : annP g h k = true ↔ ∀ x, h.testBit x = true → (kerN g k).testBit x = true := by
  rw [annP_iff v hh]
  constructor
  · intro ha x hx
    unfold kerN
    rw [selN_test, decide_eq_true (bit_lt hh hx), Bool.true_and]
    exact decide_eq_true (ha x hx)
  · intro ha x hx
    have := ha x hx
    unfold kerN at this
    rw [selN_test, Bool.and_eq_true] at this
    exact of_decide_eq_true this.2
theorem ann_and {g : List Nat} (v : VG g) {h k : Nat} (hh : h < 2 ^ ordN g) : decide (kerN g k &&& h = h) = annP g h k := by
  rw [Bool.eq_iff_iff, decide_eq_true_eq, ann_of_ker v hh, Nat.and_comm]
  exact (sbN_and (a := h) (b := kerN g k)).symm
theorem ann_not {g : List Nat} (v : VG g) {h k : Nat} (hh : h < 2 ^ ordN g) : (andNot64 (h : Int) ((kerN g k : Nat) : Int) == 0) = annP g h k := by
  have h24 := v.ord
  have p24 : 2 ^ ordN g ≤ 2 ^ 24 := Nat.pow_le_pow_right (by omega) h24
  have hk := ker_lt g k
  obtain ⟨n, e, _, hb⟩ := andNot_nat (a := h) (b := kerN g k) (by omega) (by omega)
  rw [e, eq0, Bool.eq_iff_iff, decide_eq_true_eq, ann_of_ker v hh]
  constructor
  · rintro rfl x hx
    have := hb x
    rw [Nat.zero_testBit, hx, Bool.true_and] at this
    cases hc : (kerN g k).testBit x with
    | true => rfl
    | false => rw [hc] at this; cases this
  · intro ha
    apply Nat.eq_of_testBit_eq
    intro x
    rw [hb, Nat.zero_testBit]
    cases hx : h.testBit x with
    | false => rfl
    | true => rw [ha x hx]; rfl
theorem s_ann_eq {g : List Nat} (v : VG g) {h : Nat} (hh : h < 2 ^ ordN g) : f_s_AnnihilatorOf (ints (natsI g)) (h : Int) = some ((annN g h : Nat) : Int) := by
  have h24 := v.ord
  have hs := set_of v hh
  have key := loop_count (rd := f_s_AnnihilatorOf_r0 (h : Int) (ints (natsI g))) (fun x => (((selN (annP g h) x : Nat) : Int), (x : Int))) (ordN g) (a := ((annN g h : Nat) : Int)) (fun x hx => by
      have hand : (and64 ((kerN g x : Nat) : Int) (h : Int) == (h : Int)) = annP g h x := by
        rw [and64_nat (set_i64 v (ker_lt g x)) (set_i64 v hh), eq_nat_decM, ann_and v hh]
      simp only [f_s_AnnihilatorOf_r0, f_s_AnnihilatorOf_k0, s_l2Order_eq _ v.lim, prodW_nat g v.len v.each, bo_some, lt_dec hx, br_true, s_ker_eq v hx, hand, neg_dec, br_false, w64_nat (show x < 9223372036854775807 by omega)]
      cases hp : annP g h x with
      | true => rw [br_true, sel_step _ (by omega) hp]
      | false => rw [br_false, sel_stay _ hp]) (by
      simp only [f_s_AnnihilatorOf_r0, f_s_AnnihilatorOf_k0, s_l2Order_eq _ v.lim, prodW_nat g v.len v.each, bo_some, lt_dec_self, br_false]; rfl) 0 (Nat.zero_le _)
  have key : loopL (f_s_AnnihilatorOf_r0 (h : Int) (ints (natsI g))) (0, 0) = some (.one ((annN g h : Nat) : Int)) := key
  simp only [f_s_AnnihilatorOf, f_s_AnnihilatorOf_k, s_IsSet_eq _ _ v.lim, hs, bo_some, Bool.not_true, br_false, key, bl1_one]
theorem i_ann_eq {g : List Nat} (v : VG g) {h : Nat} (hh : h < 2 ^ ordN g) : f_i_AnnihilatorOf (ints (natsI g)) (h : Int) = some ((annN g h : Nat) : Int) := by
  have h24 := v.ord
  have hs := set_of v hh
  have key := loop_count (rd := f_i_AnnihilatorOf_r0 (h : Int) (ints (natsI g)) ((ordN g : Nat) : Int)) (fun x => (((selN (annP g h) x : Nat) : Int), (x : Int))) (ordN g) (a := ((annN g h : Nat) : Int)) (fun x hx => by
      simp only [f_i_AnnihilatorOf_r0, f_i_AnnihilatorOf_k0, bo_some, lt_dec hx, br_true, i_ker_eq v hx, ann_not v hh, neg_dec, br_false, w64_nat (show x < 9223372036854775807 by omega)]
      cases hp : annP g h x with
      | true => rw [br_true, sel_step _ (by omega) hp]
      | false => rw [br_false, sel_stay _ hp]) (by
      simp only [f_i_AnnihilatorOf_r0, f_i_AnnihilatorOf_k0, lt_dec_self, br_false]; rfl) 0 (Nat.zero_le _)
  have key : loopL (f_i_AnnihilatorOf_r0 (h : Int) (ints (natsI g)) ((ordN g : Nat) : Int)) (0, 0) = some (.one ((annN g h : Nat) : Int)) := key
  simp only [f_i_AnnihilatorOf, f_i_AnnihilatorOf_k, i_IsSet_eq _ _ v.lim, hs, bo_some, Bool.not_true, br_false, i_OrderOf_eq _ v.lim, v.ordG, key, bl1_one]
theorem AnnihilatorOf_more (G : List Int) (x : Int) (h : G.length ≤ lim) : (setG G x = false ∧ f_s_AnnihilatorOf (ints G) x = some (-1) ∧ f_i_AnnihilatorOf (ints G) x = some (-1)) ∨
    ∃ g a, G = natsI g ∧ VG g ∧ x = ((a : Nat) : Int) ∧ a < 2 ^ ordN g := by
  cases hs : setG G x with
  | false =>
    refine .inl ⟨rfl, ?_, ?_⟩
    · simp only [f_s_AnnihilatorOf, f_s_AnnihilatorOf_k, s_IsSet_eq _ _ h, hs, bo_some]; rfl
    · simp only [f_i_AnnihilatorOf, f_i_AnnihilatorOf_k, i_IsSet_eq _ _ h, hs, bo_some]; rfl
  | true => exact .inr (nat_of_set hs)
def incV (c : Nat → Nat) (f : Nat → Nat) (x : Nat) : Nat → Nat := fun z => if z = c x then f z + 1 else f z
theorem incV_eq (c : Nat → Nat) (z : Nat) : ∀ (L : List Nat) (f : Nat → Nat), L.foldl (incV c) f z = f z + L.countP fun x => decide (c x = z)
  | [], f => rfl
  | x :: L, f => by
    rw [List.foldl_cons, incV_eq c z L, List.countP_cons]
    unfold incV
    by_cases e : c x = z
    · rw [if_pos e.symm, if_pos (decide_eq_true e)]; omega
    · rw [if_neg (fun h => e h.symm), if_neg (by simpa using e)]; omega
theorem incV_row {N : Nat} {c f : Nat → Nat} {x : Nat} (h : c x < N) : (rowN N f).set (c x) (f (c x) + 1) = rowN N (incV c f x) := by
  rw [rowN_set h]
  apply rowN_congr
  intro k _
  unfold incV
  by_cases e : k = c x
  · rw [if_pos e, if_pos e, e]
  · rw [if_neg e, if_neg e]
theorem incV_take (c : Nat → Nat) (f : Nat → Nat) (B : List Nat) {k : Nat} (hk : k < B.length) : (B.take (k + 1)).foldl (incV c) f = incV c ((B.take k).foldl (incV c) f) (B.getD k 0) := by
  rw [take_snoc B hk, List.foldl_append]
  rfl
def coeN (g : List Nat) (a k : Nat) : Nat → Nat := (elems a).foldl (incV (chN g k)) fun _ => 0
theorem coe_eq (g : List Nat) (a k z : Nat) : coeN g a k z = (elems a).countP fun x => decide (chN g k x = z) := by
  unfold coeN
  rw [incV_eq, Nat.zero_add]
theorem coe_small (g : List Nat) (a k j z : Nat) : ((elems a).take j).foldl (incV (chN g k)) (fun _ => 0) z ≤ 63 := by
  rw [incV_eq, Nat.zero_add]
  have h1 : ((elems a).take j).countP (fun x => decide (chN g k x = z)) ≤ ((elems a).take j).length := List.countP_le_length
  rw [List.length_take] at h1
  have h2 := elems_len a
  omega
theorem s_coe_eq {g : List Nat} (v : VG g) {a k : Nat} (ha : a < 2 ^ ordN g) (hk : k < ordN g) : f_s_CoefficientCounts (ints (natsI g)) (a : Int) (k : Int) = some (ints (natsI (rowN (expN g) (coeN g a k)))) := by
  obtain ⟨E1, E24⟩ := exp24 v
  have hl := elems_len a
  have key := loop_count (rd := f_s_CoefficientCounts_r0 (k : Int) (ints (natsI g))) (fun j => (ints (natsI (rowN (expN g) (((elems a).take j).foldl (incV (chN g k)) fun _ => 0))), ints (natsI (elems a)), (j : Int))) (elems a).length
    (a := ints (natsI (rowN (expN g) (((elems a).take (elems a).length).foldl (incV (chN g k)) fun _ => 0)))) (fun j hj => by
      have hy := elems_at ha hj
      have hz := chN_lt v k ((elems a).getD j 0)
      have hs := coe_small g a k j (chN g k ((elems a).getD j 0))
      simp only [f_s_CoefficientCounts_r0, f_s_CoefficientCounts_k0, ints_length, natsI_length, lt_dec hj, in_nat hj, Int.toNat_natCast, kAt_ints, atN_natsI, br_true, s_l7Value_eq v hk hy, bo_some, rowN_length, in_nat hz, rowN_get hz,
        w64_nat (show ((elems a).take j).foldl (incV (chN g k)) (fun _ => 0) (chN g k ((elems a).getD j 0)) < 9223372036854775807 by omega), ints_natsI_set, incV_row hz, ← incV_take _ _ (elems a) hj, w64_nat (show j < 9223372036854775807 by omega)]) (by
      simp only [f_s_CoefficientCounts_r0, f_s_CoefficientCounts_k0, ints_length, natsI_length, lt_dec_self, br_false]) 0 (Nat.zero_le _)
  rw [List.take_length] at key
  have key : loopL (f_s_CoefficientCounts_r0 (k : Int) (ints (natsI g))) (ints (natsI (rowN (expN g) fun _ => 0)), ints (natsI (elems a)), 0) = some (.one (ints (natsI (rowN (expN g) (coeN g a k))))) := key
  rw [rep_row] at key
  have hE : (decide ((0 : Int) ≤ ((expN g : Nat) : Int)) && (decide (((expN g : Nat) : Int) ≤ ((expN g : Nat) : Int)) && decide (((expN g : Nat) : Int) ≤ (lim : Int)))) = true := by
    have : expN g ≤ lim := Nat.le_trans E24 (by decide)
    rw [decide_eq_true (by omega), decide_eq_true (by omega), decide_eq_true (by omega)]; rfl
  simp only [f_s_CoefficientCounts, f_s_CoefficientCounts_k, s_IsSet_eq _ _ v.lim, set_of v ha, s_l2Is_eq _ _ v.lim, hasN v hk, bo_some, Bool.not_true, BEq.rfl, br_true, br_false, s_exp_eq v, hE, s_l3List_eq (set_i64 v ha), Int.toNat_natCast, key, bl1_one]
theorem i_coe_eq {g : List Nat} (v : VG g) {a k : Nat} (ha : a < 2 ^ ordN g) (hk : k < ordN g) : f_i_CoefficientCounts (ints (natsI g)) (a : Int) (k : Int) = some (ints (natsI (rowN (expN g) (coeN g a k)))) := by
  obtain ⟨E1, E24⟩ := exp24 v
  have hl := elems_len a
  have key := loop_count (rd := f_i_CoefficientCounts_r0 (k : Int) (ints (natsI g)) ((elems a).length : Int)) (fun j => (ints (natsI (rowN (expN g) (((elems a).take j).foldl (incV (chN g k)) fun _ => 0))), ints (natsI (elems a)), (j : Int))) (elems a).length
    (a := ints (natsI (rowN (expN g) (((elems a).take (elems a).length).foldl (incV (chN g k)) fun _ => 0)))) (fun j hj => by
      have hy := elems_at ha hj
      have hz := chN_lt v k ((elems a).getD j 0)
      have hs := coe_small g a k j (chN g k ((elems a).getD j 0))
      simp only [f_i_CoefficientCounts_r0, f_i_CoefficientCounts_k0, ints_length, natsI_length, lt_dec hj, in_nat hj, Int.toNat_natCast, kAt_ints, atN_natsI, br_true, i_CharacterValue_yes v hk hy, bo_some, rowN_length, in_nat hz, rowN_get hz,
        w64_nat (show ((elems a).take j).foldl (incV (chN g k)) (fun _ => 0) (chN g k ((elems a).getD j 0)) < 9223372036854775807 by omega), ints_natsI_set, incV_row hz, ← incV_take _ _ (elems a) hj, w64_nat (show j < 9223372036854775807 by omega)]) (by
      simp only [f_i_CoefficientCounts_r0, f_i_CoefficientCounts_k0, lt_dec_self, br_false]) 0 (Nat.zero_le _)
  rw [List.take_length] at key
  have key : loopL (f_i_CoefficientCounts_r0 (k : Int) (ints (natsI g)) ((elems a).length : Int)) (ints (natsI (rowN (expN g) fun _ => 0)), ints (natsI (elems a)), 0) = some (.one (ints (natsI (rowN (expN g) (coeN g a k))))) := key
  rw [rep_row] at key
  have hE : (decide ((0 : Int) ≤ ((expN g : Nat) : Int)) && (decide (((expN g : Nat) : Int) ≤ ((expN g : Nat) : Int)) && decide (((expN g : Nat) : Int) ≤ (lim : Int)))) = true := by
    have : expN g ≤ lim := Nat.le_trans E24 (by decide)
    rw [decide_eq_true (by omega), decide_eq_true (by omega), decide_eq_true (by omega)]; rfl
  simp only [f_i_CoefficientCounts, f_i_CoefficientCounts_k, i_IsSet_eq _ _ v.lim, set_of v ha, i_has_eq _ _ v.lim, hasN v hk, bo_some, Bool.not_true, BEq.rfl, br_true, br_false, i_exp_eq v, hE, i_members_eq (set_i64 v ha), Int.toNat_natCast, ints_length, natsI_length, key, bl1_one]
theorem coe_sum {g : List Nat} (v : VG g) (a k : Nat) : (rowN (expN g) (coeN g a k)).sum = popN a := by
  have e1 : (rowN (expN g) (coeN g a k)).sum = ((List.range (expN g)).map fun z => ((elems a).map fun x => if chN g k x = z then 1 else 0).sum).sum := by
    unfold rowN
    refine sumM_congr fun z _ => ?_
    rw [coe_eq, countP_sum]
    refine sumM_congr fun x _ => ?_
    simp only [decide_eq_true_eq]
  rw [e1, sumM_swap]
  have e2 : ((elems a).map fun x => ((List.range (expN g)).map fun z => if chN g k x = z then 1 else 0).sum).sum = ((elems a).map fun _ => 1).sum := by
    refine sumM_congr fun x _ => ?_
    have h := sum_delta (fun _ => 1) (chN g k x) (expN g)
    rw [if_pos (chN_lt v k x)] at h
    refine Eq.trans ?_ h
    exact sumM_congr fun z _ => (Nat.mul_one _).symm
  rw [e2, sum_ones, elems_pop]
theorem CoefficientCounts_more (G : List Int) (x k : Int) (h : G.length ≤ lim) : ((setG G x = false ∨ hasG G k = false) ∧ f_s_CoefficientCounts (ints G) x k = some [] ∧ f_i_CoefficientCounts (ints G) x k = some []) ∨
    ∃ g a d, G = natsI g ∧ VG g ∧ x = ((a : Nat) : Int) ∧ a < 2 ^ ordN g ∧ k = ((d : Nat) : Int) ∧ d < ordN g := by
  cases hs : setG G x with
  | false =>
    refine .inl ⟨.inl rfl, ?_, ?_⟩
    · simp only [f_s_CoefficientCounts, f_s_CoefficientCounts_k, s_IsSet_eq _ _ h, hs, bo_some]; rfl
    · simp only [f_i_CoefficientCounts, f_i_CoefficientCounts_k, i_IsSet_eq _ _ h, hs, bo_some]; rfl
  | true =>
    cases hk : hasG G k with
    | false =>
      refine .inl ⟨.inr rfl, ?_, ?_⟩
      · simp only [f_s_CoefficientCounts, f_s_CoefficientCounts_k, s_IsSet_eq _ _ h, hs, s_l2Is_eq _ _ h, hk, bo_some]; rfl
      · simp only [f_i_CoefficientCounts, f_i_CoefficientCounts_k, i_IsSet_eq _ _ h, hs, i_has_eq _ _ h, hk, bo_some]; rfl
    | true =>
      obtain ⟨g, a, rfl, v, rfl, ha⟩ := nat_of_set hs
      obtain ⟨d, rfl, hd⟩ := (v.has k).1 hk
      exact .inr ⟨g, a, d, rfl, v, rfl, ha, rfl, hd⟩
theorem okZ_bytes {x0 : List Int} {i : Int} (h0 : 0 ≤ i) (h : i < (x0.length : Int)) : okZ (.n .u8 0) (bytesL x0) i = true := by
  obtain ⟨k, rfl⟩ : ∃ k : Nat, i = k := ⟨i.toNat, by omega⟩
  have hk : k < x0.length := by omega
  have h1 : (bytesL x0).getD k (.n .u8 0) = .n .u8 (x0[k]) := by simp [bytesL, List.getD, hk]
  unfold okZ inRange
  rw [Int.toNat_natCast, h1]
  simp [bytesL, hk, sameKind]
theorem bytesL_len (x0 : List Int) : (bytesL x0).length = x0.length := by simp [bytesL]
theorem and255 (a : Int) : 0 ≤ and64 a 255 ∧ and64 a 255 ≤ 255 := by
  have e : (BitVec.ofInt 64 (255 : Int)).toNat = 255 := by decide
  have : (BitVec.ofInt 64 a &&& BitVec.ofInt 64 255).toNat = (BitVec.ofInt 64 a).toNat &&& 255 := by rw [BitVec.toNat_and, e]
  have e2 : and64 a 255 = w64 (((BitVec.ofInt 64 a).toNat &&& 255 : Nat) : Int) := by
    show IntKind.i64.wrap ((BitVec.ofInt 64 a &&& BitVec.ofInt 64 255).toNat : Int) = _
    rw [this]; rfl
  have hle : (BitVec.ofInt 64 a).toNat &&& 255 ≤ 255 := Nat.and_le_right
  rw [e2, w64_in (by omega) (by omega)]
  omega
structure Cur (x0 : List Int) (c : List Sc × Int × Int) : Prop where
  row : c.1 = bytesL x0
  low : 0 ≤ c.2.1
  len : x0.length ≤ 1048576
theorem l1New_ok {x0 : List Int} (hx : x0.length ≤ 1048576) : ∃ c, f_s_l1New (bytesL x0) = some c ∧ Cur x0 c := by
  let h0 : Int := w64 (10101 + ((bytesL x0).length : Int))
  let hk : Nat → Int := fun k => Nat.rec h0 (fun k h => and64 (w64 ((w64 ((w64 (h * 131)) + (w64 (sAt (bytesL x0) .u8 (k : Int))))) + 7)) 1073741823) k
  have key := loop_count (rd := f_s_l1New_r0 (bytesL x0)) (fun k => (hk k, (k : Int))) (min x0.length 4000) (a := hk (min x0.length 4000)) (fun k hk' => by
    have h1 : k < x0.length := by omega
    have h2 : decide ((k : Int) < ((bytesL x0).length : Int)) = true := by rw [bytesL_len]; exact lt_dec h1
    have h3 : decide ((k : Int) < 4000) = true := decide_eq_true (by omega)
    have h4 := okZ_bytes (x0 := x0) (i := (k : Int)) (by omega) (by omega)
    simp only [f_s_l1New_r0, f_s_l1New_k0, h2, h3, h4, br_true, BEq.rfl, w64_nat (show k < 9223372036854775807 by omega)]
    rfl) (by
    simp only [f_s_l1New_r0, f_s_l1New_k0]
    by_cases h : x0.length ≤ 4000
    · have h2 : decide (((min x0.length 4000 : Nat) : Int) < ((bytesL x0).length : Int)) = false := by rw [bytesL_len]; exact decide_eq_false (by omega)
      simp only [h2, br_false, show (false == true) = false from rfl]
    · have h2 : decide (((min x0.length 4000 : Nat) : Int) < ((bytesL x0).length : Int)) = true := by rw [bytesL_len]; exact decide_eq_true (by omega)
      have h3 : decide (((min x0.length 4000 : Nat) : Int) < 4000) = false := decide_eq_false (by omega)
      simp only [h2, h3, br_false, br_true, BEq.rfl]) 0 (Nat.zero_le _)
  refine ⟨(bytesL x0, 0, hk (min x0.length 4000)), ?_, rfl, by simp, hx⟩
  have key' : loopL (f_s_l1New_r0 (bytesL x0)) (w64 (10101 + ((bytesL x0).length : Int)), 0) = some (.one (hk (min x0.length 4000))) := key
  simp only [f_s_l1New, f_s_l1New_k, key', bl1_one]
theorem l1Byte_ok {x0 : List Int} {c : List Sc × Int × Int} (hc : Cur x0 c) : ∃ r c', f_s_l1Byte_io c.1 c.2.1 c.2.2 = some (r, c') ∧ Cur x0 c' ∧ 0 ≤ r ∧ r ≤ 255 := by
  obtain ⟨b, i, h⟩ := c
  obtain ⟨e, hl, hx⟩ := hc
  dsimp only at e hl ⊢
  subst e
  simp only [f_s_l1Byte_io, f_s_l1Byte_io_k]
  by_cases hi : i < (x0.length : Int)
  · have h2 : decide (i < ((bytesL x0).length : Int)) = true := by rw [bytesL_len]; exact decide_eq_true hi
    simp only [h2, okZ_bytes hl hi, br_true]
    refine ⟨_, _, rfl, ⟨rfl, ?_, hx⟩, and255 _⟩
    show 0 ≤ w64 (i + 1)
    rw [w64_in (by omega) (by omega)]
    omega
  · have h2 : decide (i < ((bytesL x0).length : Int)) = false := by rw [bytesL_len]; exact decide_eq_false hi
    simp only [h2, br_false]
    exact ⟨_, _, rfl, ⟨rfl, hl, hx⟩, and255 _⟩
theorem tmod_range {a n : Int} (ha : 0 ≤ a) (hn : 0 < n) : 0 ≤ a.tmod n ∧ a.tmod n < n := ⟨Int.tmod_nonneg n ha, Int.tmod_lt_of_pos a hn⟩
theorem l1Below_ok {x0 : List Int} {c : List Sc × Int × Int} (hc : Cur x0 c) (n : Int) (hn : n ≤ 256) : ∃ r c', f_s_l1Below_io n c.1 c.2.1 c.2.2 = some (r, c') ∧ Cur x0 c' ∧ 0 ≤ r ∧ (0 < n → r < n) ∧ (n ≤ 0 → r = 0) := by
  simp only [f_s_l1Below_io, f_s_l1Below_io_k]
  by_cases h0 : n ≤ 0
  · rw [decide_eq_true h0]
    exact ⟨0, c, rfl, hc, by omega, fun h => h, fun _ => rfl⟩
  · obtain ⟨r, c', e, h', hr⟩ := l1Byte_ok hc
    have hz : (n == 0) = false := beq_eq_false_iff_ne.2 (by omega)
    simp only [decide_eq_false h0, decide_eq_true hn, br_true, br_false, e, bo_some, hz]
    have := tmod_range hr.1 (show 0 < n by omega)
    exact ⟨_, _, rfl, h', this.1, fun _ => this.2, fun h => absurd h h0⟩
theorem l1Once_ok {x0 : List Int} {c : List Sc × Int × Int} (hc : Cur x0 c) (n : Int) (hn : n ≤ 256) : ∃ r c', f_s_l1Once_io n c.1 c.2.1 c.2.2 = some (r, c') ∧ Cur x0 c' := by
  obtain ⟨r, c', e, h', _⟩ := l1Below_ok hc n hn
  simp only [f_s_l1Once_io, f_s_l1Once_io_k, e, bo_some]
  exact ⟨_, _, rfl, h'⟩
theorem l1PickInt_ok {x0 : List Int} {c : List Sc × Int × Int} (hc : Cur x0 c) (L : List Int) (h1 : 0 < L.length) (h2 : L.length ≤ 256) : ∃ k c', f_s_l1PickInt_io (ints L) c.1 c.2.1 c.2.2 = some (L.getD k 0, c') ∧ Cur x0 c' ∧ k < L.length := by
  obtain ⟨r, c', e, h', h0, hr, _⟩ := l1Below_ok hc (L.length : Int) (by omega)
  obtain ⟨k, rfl⟩ : ∃ k : Nat, r = k := ⟨r.toNat, by omega⟩
  have hk : k < L.length := by have := hr (by omega); omega
  simp only [f_s_l1PickInt_io, f_s_l1PickInt_io_k, ints_length, e, bo_some, ok_nat hk, br_true, at_nat]
  exact ⟨k, _, rfl, h', hk⟩
def drawT : List (List Int) := [[], [2], [3], [4], [5], [6], [7], [8], [9], [10], [11], [12], [2, 2], [2, 4], [3, 3], [2, 6], [2, 2, 2], [13], [16], [4, 4], [2, 2, 3], [2, 3], [24]]
theorem drawT_lit : ([[], [(Sc.n .i64 2)], [(Sc.n .i64 3)], [(Sc.n .i64 4)], [(Sc.n .i64 5)], [(Sc.n .i64 6)], [(Sc.n .i64 7)], [(Sc.n .i64 8)], [(Sc.n .i64 9)], [(Sc.n .i64 10)], [(Sc.n .i64 11)], [(Sc.n .i64 12)], [(Sc.n .i64 2), (Sc.n .i64 2)], [(Sc.n .i64 2), (Sc.n .i64 4)], [(Sc.n .i64 3), (Sc.n .i64 3)], [(Sc.n .i64 2), (Sc.n .i64 6)], [(Sc.n .i64 2), (Sc.n .i64 2), (Sc.n .i64 2)], [(Sc.n .i64 13)], [(Sc.n .i64 16)], [(Sc.n .i64 4), (Sc.n .i64 4)], [(Sc.n .i64 2), (Sc.n .i64 2), (Sc.n .i64 3)], [(Sc.n .i64 2), (Sc.n .i64 3)], [(Sc.n .i64 24)]] : List (List Sc)) = drawT.map ints := rfl
theorem drawT_at {k : Nat} (h : k < 23) : (drawT.map ints).getD k [] = ints (drawT.getD k []) ∧ (drawT.getD k []).length ≤ 3 := by
  have : ∀ k : Fin 23, (drawT.getD k.1 []).length ≤ 3 := by decide
  refine ⟨?_, this ⟨k, h⟩⟩
  simp only [List.getD, List.getElem?_map]
  cases drawT[k]? <;> rfl
theorem l2Draw_ok {x0 : List Int} {c : List Sc × Int × Int} (hc : Cur x0 c) (most : Int) : ∃ G c', f_s_l2Draw_io most c.1 c.2.1 c.2.2 = some (ints G, c') ∧ Cur x0 c' ∧ (G ∈ drawT ∧ (prodW G ≤ most ∨ G = [5]) ∧ G.length ≤ 3) := by
  simp only [f_s_l2Draw_io, f_s_l2Draw_io_k, drawT_lit]
  obtain ⟨r, c', e, h', h0, hr, _⟩ := l1Below_ok hc ((drawT.map ints).length : Int) (by decide)
  have hlen : (drawT.map ints).length = 23 := rfl
  obtain ⟨k, rfl⟩ : ∃ k : Nat, r = k := ⟨r.toNat, by omega⟩
  have hk : k < 23 := by have := hr (by rw [hlen]; decide); rw [hlen] at this; omega
  have hin : inRange (k : Int) (drawT.map ints).length = true := by rw [hlen, inRange_nat]; simpa using hk
  obtain ⟨eG, hG⟩ := drawT_at hk
  obtain ⟨G, hGe⟩ : ∃ G, drawT.getD k [] = G := ⟨_, rfl⟩
  rw [hGe] at eG hG
  have hmem : G ∈ drawT := by
    rw [← hGe]
    have : k < drawT.length := hk
    rw [List.getD_eq_getElem?_getD, List.getElem?_eq_getElem this]
    exact List.getElem_mem this
  have hlim : G.length ≤ lim := Nat.le_trans hG (by decide)
  simp only [e, bo_some, hin, br_true, Int.toNat_natCast, eG]
  have key := loop_count (rd := f_s_l2Draw_io_r0 most (ints G)) (fun i => (c'.1, c'.2.1, c'.2.2, [], (G.take i).foldl (fun n o => w64 (n * o)) 1, (i : Int))) G.length (a := (c'.1, c'.2.1, c'.2.2, [], prodW G)) (fun i hi => by
    have e2 : (G.take (i + 1)).foldl (fun n o => w64 (n * o)) 1 = w64 ((G.take i).foldl (fun n o => w64 (n * o)) 1 * G.getD i 0) := by
      rw [List.take_succ_eq_append_getElem hi, List.foldl_append]
      simp [List.getD, List.getElem?_eq_getElem hi]
    simp only [f_s_l2Draw_io_r0, f_s_l2Draw_io_k0, ints_length, lt_dec hi, ok_nat hi, at_nat, br_true, w64_nat (show i < 9223372036854775807 by omega), e2]) (by
    simp only [f_s_l2Draw_io_r0, f_s_l2Draw_io_k0, ints_length, lt_dec_self, br_false, List.take_length, prodW]) 0 (Nat.zero_le _)
  have key' : loopL (f_s_l2Draw_io_r0 most (ints G)) (c'.1, c'.2.1, c'.2.2, [], 1, 0) = some (.one (c'.1, c'.2.1, c'.2.2, [], prodW G)) := key
  simp only [key', bl1_one]
  by_cases hm : prodW G > most
  · rw [decide_eq_true hm]
    exact ⟨[5], _, rfl, ⟨h'.row, h'.low, h'.len⟩, by decide, .inr rfl, by decide⟩
  · have hl : decide (([] : List Sc).length + (ints G).length ≤ lim) = true := decide_eq_true (by rw [ints_length]; simpa using hlim)
    simp only [decide_eq_false hm, br_false, hl, br_true, List.nil_append]
    exact ⟨G, _, rfl, ⟨h'.row, h'.low, h'.len⟩, hmem, .inl (by omega), hG⟩
theorem l2Any_ok {x0 : List Int} {c : List Sc × Int × Int} (hc : Cur x0 c) : ∃ G c', f_s_l2Any_io c.1 c.2.1 c.2.2 = some (ints G, c') ∧ Cur x0 c' ∧ G.length ≤ 4 := by
  obtain ⟨G, c1, e1, h1, _, _, hG⟩ := l2Draw_ok hc 24
  obtain ⟨r, c2, e2, h2, _⟩ := l1Below_ok h1 16 (by decide)
  have e3 := l1PickInt_ok h2 [0, 1, -1, 25, 9223372036854775807] (by decide) (by decide)
  obtain ⟨k, c3, e3, h3, _⟩ := e3
  have e3' : f_s_l1PickInt_io [(Sc.n .i64 0), (Sc.n .i64 1), (Sc.n .i64 (-1)), (Sc.n .i64 25), (Sc.n .i64 9223372036854775807)] c2.1 c2.2.1 c2.2.2 = _ := e3
  simp only [f_s_l2Any_io, f_s_l2Any_io_k, e1, bo_some, e2, e3']
  cases (r == 0) with
  | true => exact ⟨[_], _, rfl, ⟨h3.row, h3.low, h3.len⟩, by rw [List.length_singleton]; decide⟩
  | false =>
    cases (r == 1) with
    | true => exact ⟨[2, 2, 2, 2], _, rfl, ⟨h2.row, h2.low, h2.len⟩, by decide⟩
    | false =>
      cases (r == 2) with
      | true => exact ⟨[5, 5], _, rfl, ⟨h2.row, h2.low, h2.len⟩, by decide⟩
      | false => exact ⟨G, _, rfl, ⟨h2.row, h2.low, h2.len⟩, by omega⟩
theorem loop_ex {S A B : Type} {rd : S → Option (Ro S A B)} (P : Nat → S → Prop) (Q : A → Prop) (step : ∀ n s, P (n + 1) s → ∃ s', rd s = some (.again s') ∧ P n s')
    (last : ∀ s, P 0 s → ∃ a, rd s = some (.one a) ∧ Q a) : ∀ n s, P n s → ∃ a, loopL rd s = some (.one a) ∧ Q a
  | 0, s, h => by
    obtain ⟨a, e, q⟩ := last s h
    exact ⟨a, loopL_one e, q⟩
  | n + 1, s, h => by
    obtain ⟨s', e, h'⟩ := step n s h
    obtain ⟨a, e2, q⟩ := loop_ex P Q step last n s' h'
    exact ⟨a, by rw [loopL_again e, e2], q⟩
theorem sameInts_self (L : List Int) (h : L.length ≤ lim) : f_l_sameInts (ints L) (ints L) = some true := by
  have hl := lim_lt h
  have key := loop_count (rd := f_l_sameInts_r0 (ints L) (ints L)) (fun k => (k : Int)) L.length (a := ()) (fun k hk => by
    simp only [f_l_sameInts_r0, f_l_sameInts_k0, ints_length, lt_dec hk, ok_nat hk, br_true, bne_self_eq_false, br_false, w64_nat (by omega : k < 9223372036854775807)])
    (by simp only [f_l_sameInts_r0, f_l_sameInts_k0, ints_length, lt_dec_self, br_false]) 0 (Nat.zero_le _)
  simp only [f_l_sameInts, f_l_sameInts_k, bne_self_eq_false, br_false]
  rw [show ((0 : Int)) = ((0 : Nat) : Int) from rfl, key]
  rfl
def rowI (N : Nat) (f : Nat → Int) : List Int := (List.range N).map f
theorem rowI_length (N : Nat) (f : Nat → Int) : (rowI N f).length = N := by simp [rowI]
theorem rowI_get {N : Nat} {f : Nat → Int} {k : Nat} (h : k < N) : (rowI N f).getD k 0 = f k := by simp [rowI, List.getD, h]
theorem rowI_set {N : Nat} {f : Nat → Int} {k : Nat} {y : Int} (h : k < N) : (rowI N f).set k y = rowI N (fun j => if j = k then y else f j) := by
  apply List.ext_getElem?
  intro i
  unfold rowI
  by_cases hi : i < N
  · by_cases e : k = i
    · subst e
      rw [List.getElem?_set_self (by simpa using hi)]
      simp [hi]
    · rw [List.getElem?_set_ne e]
      have e' : ¬ i = k := fun h => e h.symm
      simp [hi, e']
  · by_cases e : k = i
    · omega
    · rw [List.getElem?_set_ne e]
      simp [hi]
theorem foldl_range_succ {β : Type} (f : β → Nat → β) (t : β) (k : Nat) : (List.range (k + 1)).foldl f t = f ((List.range k).foldl f t) k := by
  rw [List.range_succ, List.foldl_append]
  rfl
theorem rep_rowI (N : Nat) : ints (rowI N fun _ => 0) = List.replicate N (Sc.n .i64 0) := by
  unfold ints rowI
  rw [List.map_map, List.eq_replicate_iff]
  refine ⟨by simp, fun b hb => ?_⟩
  obtain ⟨k, _, rfl⟩ := List.mem_map.1 hb
  rfl
theorem w64_per (x n : Int) : w64 (x + 18446744073709551616 * n) = w64 x := by
  simp only [w64, IntKind.wrap_i64]
  omega
theorem w64_ex (a : Int) : ∃ m, w64 a = a + 18446744073709551616 * m := by
  refine ⟨-((a + 9223372036854775808) / 18446744073709551616), ?_⟩
  simp only [w64, IntKind.wrap_i64]
  omega
def inC (P : List Int) : Bool := P.all fun x => inB x (-1000) 1000
theorem inC_any (P : List Int) : (List.range P.length).any (fun k => !inB (P.getD k 0) (-1000) 1000) = !inC P := by
  unfold inC
  rw [range_any P (fun x => !inB x (-1000) 1000), List.not_all_eq_any_not]
theorem s_l7Counts_eq (P : List Int) (hP : P.length ≤ lim) : f_s_l7Counts (ints P) = some (inC P && inB (P.length : Int) 1 24) := by
  have hl := lim_lt hP
  have key := loop_any (rd := f_s_l7Counts_r0 (ints P)) (fun k => (k : Int)) P.length (fun k => !inB (P.getD k 0) (-1000) 1000) (a := ()) (b := ()) (fun k hk => by
    simp only [f_s_l7Counts_r0, f_s_l7Counts_k0, ints_length, lt_dec hk, ok_nat hk, at_nat, br_true, s_l1In_eq, bo_some, w64_nat (show k < 9223372036854775807 by omega)]
    cases inB (P.getD k 0) (-1000) 1000 <;> rfl) (by
    simp only [f_s_l7Counts_r0, f_s_l7Counts_k0, ints_length, lt_dec_self, br_false])
  rw [inC_any] at key
  have key' : loopL (f_s_l7Counts_r0 (ints P)) 0 = if (!inC P) = true then some (.two ()) else some (.one ()) := key
  simp only [f_s_l7Counts, f_s_l7Counts_k, key', s_l1In_eq, bo_some, ints_length]
  cases inC P <;> rfl
theorem i_areCounts_eq (P Q : List Int) (hP : P.length ≤ 1000) (hQ : Q.length ≤ 1000) : f_i_areCounts (ints P) (ints Q) = some (inC P && inC Q && (((P.length : Int) == (Q.length : Int)) && inB (P.length : Int) 1 24)) := by
  have hPl : P.length ≤ lim := Nat.le_trans hP (by decide)
  have c1 : decide (([] : List Sc).length + P.length ≤ lim) = true := decide_eq_true (by simpa using hPl)
  have c2 : decide (P.length + Q.length ≤ lim) = true := decide_eq_true (Nat.le_trans (show P.length + Q.length ≤ 2000 by omega) (by decide))
  have hlen : (P ++ Q).length = P.length + Q.length := List.length_append
  have key := loop_any (rd := f_i_areCounts_r0 (ints P) (ints Q) ((P ++ Q).length : Int)) (fun k => (ints (P ++ Q), (k : Int))) (P ++ Q).length (fun k => !inB ((P ++ Q).getD k 0) (-1000) 1000) (a := ()) (b := ()) (fun k hk => by
    simp only [f_i_areCounts_r0, f_i_areCounts_k0, lt_dec hk, br_true, ints_length, in_nat hk, Int.toNat_natCast, kAt_ints, atN_ints, i_within_eq, bo_some, w64_nat (show k < 9223372036854775807 by omega)]
    cases inB ((P ++ Q).getD k 0) (-1000) 1000 <;> rfl) (by
    simp only [f_i_areCounts_r0, f_i_areCounts_k0, lt_dec_self, br_false])
  rw [inC_any] at key
  have hin : inC (P ++ Q) = (inC P && inC Q) := by unfold inC; rw [List.all_append]
  rw [hin] at key
  have key' : loopL (f_i_areCounts_r0 (ints P) (ints Q) ((P ++ Q).length : Int)) (ints (P ++ Q), 0) = if (!(inC P && inC Q)) = true then some (.two ()) else some (.one ()) := key
  simp only [f_i_areCounts, f_i_areCounts_k, f_i_copyInts, f_i_copyInts_k, ints_length, c1, br_true, List.nil_append, bo_some, c2, ints_append, key', i_within_eq]
  cases (inC P && inC Q) with
  | false => rfl
  | true => cases ((P.length : Int) == (Q.length : Int)) <;> rfl
def okC (P Q : List Int) : Bool := inC P && inC Q && (((P.length : Int) == (Q.length : Int)) && inB (P.length : Int) 1 24)
theorem okC_len {P Q : List Int} (h : okC P Q = true) : inC P = true ∧ inC Q = true ∧ P.length = Q.length ∧ inB (P.length : Int) 1 24 = true ∧ 1 ≤ P.length ∧ P.length ≤ 24 := by
  unfold okC at h
  simp only [Bool.and_eq_true] at h
  obtain ⟨⟨h1, h2⟩, h3, h4⟩ := h
  have h3' := eq_of_beq h3
  have h4' := h4
  unfold inB at h4'
  rw [Bool.and_eq_true, decide_eq_true_eq, decide_eq_true_eq] at h4'
  exact ⟨h1, h2, by omega, h4, by omega, by omega⟩
theorem okC_s (P Q : List Int) : (inC P && inB (P.length : Int) 1 24) = true → (inC Q && inB (Q.length : Int) 1 24) = true → ((P.length : Int) == (Q.length : Int)) = true → okC P Q = true := by
  intro h1 h2 h3
  rw [Bool.and_eq_true] at h1 h2
  unfold okC
  rw [h1.1, h2.1, h3, h1.2]
  rfl
def adN (P Q : List Int) (k : Nat) : Int := w64 (P.getD k 0 + Q.getD k 0)
theorem rowI_snoc (f : Nat → Int) (k : Nat) : ints (rowI k f) ++ [Sc.n .i64 (f k)] = ints (rowI (k + 1) f) := by
  unfold rowI ints
  rw [List.range_succ, List.map_append, List.map_append]
  rfl
theorem AddCounts_both (P Q : List Int) (hP : P.length ≤ 1000) (hQ : Q.length ≤ 1000) : ∃ R, f_s_AddCounts (ints P) (ints Q) = some (ints R) ∧ f_i_AddCounts (ints P) (ints Q) = some (ints R) ∧ R.length ≤ 24 := by
  have hPl : P.length ≤ lim := Nat.le_trans hP (by decide)
  have hQl : Q.length ≤ lim := Nat.le_trans hQ (by decide)
  cases hok : okC P Q with
  | true =>
    obtain ⟨i1, i2, hl, hb, h1, h24⟩ := okC_len hok
    have hb2 : inB (Q.length : Int) 1 24 = true := by rw [← hl]; exact hb
    have hb3 : ((P.length : Int) == (Q.length : Int)) = true := by rw [hl]; exact BEq.rfl
    have ll : ∀ k, k ≤ P.length → ∀ z : Int, decide ((rowI k (adN P Q)).length + [Sc.n .i64 z].length ≤ lim) = true := fun k hk z => decide_eq_true (by rw [rowI_length, List.length_singleton]; exact Nat.le_trans (show k + 1 ≤ 25 by omega) (by decide))
    refine ⟨rowI P.length (adN P Q), ?_, ?_, by rw [rowI_length]; exact h24⟩
    · have key := loop_count (rd := f_s_AddCounts_r0 (ints P) (ints Q)) (fun k => (ints (rowI k (adN P Q)), (k : Int))) P.length (a := ints (rowI P.length (adN P Q))) (fun k hk => by
        have e := rowI_snoc (adN P Q) k
        unfold adN at e
        simp only [f_s_AddCounts_r0, f_s_AddCounts_k0, ints_length, lt_dec hk, s_l7Counts_eq P hPl, s_l7Counts_eq Q hQl, i1, i2, hb, hb2, hb3, Bool.and_true, bo_some, BEq.rfl, br_true, ok_nat hk, ok_nat (show k < Q.length by omega), at_nat, ll k (by omega), w64_nat (show k < 9223372036854775807 by omega)]
        unfold adN
        rw [e]) (by
        simp only [f_s_AddCounts_r0, f_s_AddCounts_k0, ints_length, lt_dec_self]
        rfl) 0 (Nat.zero_le _)
      have key' : loopL (f_s_AddCounts_r0 (ints P) (ints Q)) ([], 0) = some (.one (ints (rowI P.length (adN P Q)))) := key
      simp only [f_s_AddCounts, f_s_AddCounts_k, key', bl1_one]
    · have key := loop_count (rd := f_i_AddCounts_r0 (ints P) (ints Q) (P.length : Int)) (fun k => (ints (rowI k (adN P Q)), (k : Int))) P.length (a := ints (rowI P.length (adN P Q))) (fun k hk => by
        have e := rowI_snoc (adN P Q) k
        unfold adN at e
        simp only [f_i_AddCounts_r0, f_i_AddCounts_k0, ints_length, lt_dec hk, br_true, ok_nat hk, ok_nat (show k < Q.length by omega), at_nat, ll k (by omega), w64_nat (show k < 9223372036854775807 by omega)]
        unfold adN
        rw [e]) (by
        simp only [f_i_AddCounts_r0, f_i_AddCounts_k0, lt_dec_self, br_false]) 0 (Nat.zero_le _)
      have key' : loopL (f_i_AddCounts_r0 (ints P) (ints Q) (P.length : Int)) ([], 0) = some (.one (ints (rowI P.length (adN P Q)))) := key
      have ok' : f_i_areCounts (ints P) (ints Q) = some true := by rw [i_areCounts_eq P Q hP hQ]; exact congrArg some hok
      simp only [f_i_AddCounts, f_i_AddCounts_k, ok', bo_some, Bool.not_true, br_false, ints_length, key', bl1_one]
  | false =>
    refine ⟨[], ?_, ?_, by simp⟩
    · have key : loopL (f_s_AddCounts_r0 (ints P) (ints Q)) ([], 0) = some (.one []) := by
        refine loopL_one ?_
        simp only [f_s_AddCounts_r0, f_s_AddCounts_k0, s_l7Counts_eq P hPl, s_l7Counts_eq Q hQl, bo_some, ints_length]
        cases h1 : decide ((0 : Int) < (P.length : Int)) with
        | false => rfl
        | true =>
          cases h2 : (inC P && inB (P.length : Int) 1 24) with
          | false => rfl
          | true =>
            cases h3 : (inC Q && inB (Q.length : Int) 1 24) with
            | false => rfl
            | true =>
              cases h4 : ((P.length : Int) == (Q.length : Int)) with
              | false => rfl
              | true => rw [okC_s P Q h2 h3 h4] at hok; cases hok
      simp only [f_s_AddCounts, f_s_AddCounts_k, key, bl1_one]
      rfl
    · have ok' : f_i_areCounts (ints P) (ints Q) = some false := by rw [i_areCounts_eq P Q hP hQ]; exact congrArg some hok
      simp only [f_i_AddCounts, f_i_AddCounts_k, ok', bo_some]
      rfl
def mcF (n i : Nat) (c : Nat → Int) (f : Nat → Int) (k : Nat) : Nat → Int := fun z => if z = (i + k) % n then w64 (f z + w64 (c k)) else f z
theorem mc_row {n i k : Nat} {c f : Nat → Int} (h : (i + k) % n < n) : (rowI n f).set ((i + k) % n) (w64 (f ((i + k) % n) + w64 (c k))) = rowI n (mcF n i c f k) := by
  rw [rowI_set h]
  unfold rowI
  apply List.map_congr_left
  intro j _
  unfold mcF
  by_cases e : j = (i + k) % n
  · rw [if_pos e, if_pos e, e]
  · rw [if_neg e, if_neg e]
def mcI (n : Nat) (P Q : List Int) (f : Nat → Int) (i : Nat) : Nat → Int := (List.range n).foldl (mcF n i fun k => P.getD i 0 * Q.getD k 0) f
theorem mc_idx {n i k : Nat} (hi : i < n) (hk : k < n) (hn : n ≤ 24) : (w64 ((i : Int) + (k : Int))).tmod (n : Int) = (((i + k) % n : Nat) : Int) := by
  rw [w64_addN (show i + k ≤ 1000000 by omega)]
  rfl
theorem s_mc_inner {P Q : List Int} {n : Nat} (hn : n ≤ 24) (hP : P.length = n) (hQ : Q.length = n) {i : Nat} (hi : i < n) (f : Nat → Int) :
    loopL (f_s_MultiplyCounts_r2 (ints P) (ints Q) (i : Int)) (ints (rowI n f), 0) = some (.one (ints (rowI n (mcI n P Q f i)))) := by
  have hz0 : ((n : Int) == 0) = false := by rw [eq0]; exact decide_eq_false (by omega)
  have key := loop_count (rd := f_s_MultiplyCounts_r2 (ints P) (ints Q) (i : Int)) (fun k => (ints (rowI n ((List.range k).foldl (mcF n i fun k => P.getD i 0 * Q.getD k 0) f)), (k : Int))) n (a := ints (rowI n (mcI n P Q f i))) (fun k hk => by
    have hz : (i + k) % n < n := Nat.mod_lt _ (by omega)
    simp only [f_s_MultiplyCounts_r2, f_s_MultiplyCounts_k2, ints_length, hP, hQ, lt_dec hk, br_true, hz0, br_false, mc_idx hi hk hn, rowI_length, in_nat hz, Int.toNat_natCast, kAt_ints, ok_nat (show i < P.length by omega), ok_nat (show k < Q.length by omega), at_nat, atN_ints, rowI_get hz, ints_set, w64_nat (show k < 9223372036854775807 by omega), foldl_range_succ]
    rw [mc_row (c := fun k => P.getD i 0 * Q.getD k 0) hz]) (by
    simp only [f_s_MultiplyCounts_r2, f_s_MultiplyCounts_k2, ints_length, hQ, lt_dec_self, br_false]
    rfl) 0 (Nat.zero_le _)
  exact key
theorem i_mc_inner {P Q : List Int} {n : Nat} (hn : n ≤ 24) (hP : P.length = n) (hQ : Q.length = n) {i : Nat} (hi : i < n) (f : Nat → Int) (t18 : List Sc) (t19 t20 : Int) :
    loopL (f_i_MultiplyCounts_r2 (ints P) (ints Q) (i : Int) (P.getD i 0) t18 t19 t20 (ints Q) (n : Int)) (ints (rowI n f), 0) = some (.one (ints (rowI n (mcI n P Q f i)))) := by
  have hz0 : ((n : Int) == 0) = false := by rw [eq0]; exact decide_eq_false (by omega)
  have key := loop_count (rd := f_i_MultiplyCounts_r2 (ints P) (ints Q) (i : Int) (P.getD i 0) t18 t19 t20 (ints Q) (n : Int)) (fun k => (ints (rowI n ((List.range k).foldl (mcF n i fun k => P.getD i 0 * Q.getD k 0) f)), (k : Int))) n (a := ints (rowI n (mcI n P Q f i))) (fun k hk => by
    have hz : (i + k) % n < n := Nat.mod_lt _ (by omega)
    simp only [f_i_MultiplyCounts_r2, f_i_MultiplyCounts_k2, ints_length, hP, hQ, lt_dec hk, br_true, hz0, br_false, mc_idx hi hk hn, rowI_length, in_nat hz, Int.toNat_natCast, kAt_ints, ok_nat (show k < Q.length by omega), at_nat, atN_ints, rowI_get hz, ints_set, w64_nat (show k < 9223372036854775807 by omega), foldl_range_succ]
    rw [mc_row (c := fun k => P.getD i 0 * Q.getD k 0) hz]) (by
    simp only [f_i_MultiplyCounts_r2, f_i_MultiplyCounts_k2, lt_dec_self, br_false]
    rfl) 0 (Nat.zero_le _)
  exact key
def mcN (n : Nat) (P Q : List Int) : Nat → Int := (List.range n).foldl (mcI n P Q) fun _ => 0
theorem s_mc_loop {P Q : List Int} {n : Nat} (hn : n ≤ 24) (hP : P.length = n) (hQ : Q.length = n) :
    loopL (f_s_MultiplyCounts_r0 (ints P) (ints Q)) (List.replicate n (Sc.n .i64 0), 0) = some (.one (ints (rowI n (mcN n P Q)), (n : Int))) := by
  have key := loop_count (rd := f_s_MultiplyCounts_r0 (ints P) (ints Q)) (fun k => (ints (rowI n ((List.range k).foldl (mcI n P Q) fun _ => 0)), (k : Int))) n (a := (ints (rowI n (mcN n P Q)), (n : Int))) (fun k hk => by
    simp only [f_s_MultiplyCounts_r0, f_s_MultiplyCounts_k0, ints_length, hP, lt_dec hk, br_true, s_mc_inner hn hP hQ hk, bl1_one, w64_nat (show k < 9223372036854775807 by omega), foldl_range_succ]) (by
    simp only [f_s_MultiplyCounts_r0, f_s_MultiplyCounts_k0, ints_length, hP, lt_dec_self, br_false]
    rfl) 0 (Nat.zero_le _)
  rw [← rep_rowI]
  exact key
theorem i_mc_loop {P Q : List Int} {n : Nat} (hn : n ≤ 24) (hP : P.length = n) (hQ : Q.length = n) :
    loopL (f_i_MultiplyCounts_r0 (ints P) (ints Q) (ints P) (n : Int)) (List.replicate n (Sc.n .i64 0), 0) = some (.one (ints (rowI n (mcN n P Q)), (n : Int))) := by
  have key := loop_count (rd := f_i_MultiplyCounts_r0 (ints P) (ints Q) (ints P) (n : Int)) (fun k => (ints (rowI n ((List.range k).foldl (mcI n P Q) fun _ => 0)), (k : Int))) n (a := (ints (rowI n (mcN n P Q)), (n : Int))) (fun k hk => by
    simp only [f_i_MultiplyCounts_r0, f_i_MultiplyCounts_k0, ints_length, hQ, lt_dec hk, br_true, ok_nat (show k < P.length by omega), at_nat, i_mc_inner hn hP hQ hk, bl1_one, w64_nat (show k < 9223372036854775807 by omega), foldl_range_succ]) (by
    simp only [f_i_MultiplyCounts_r0, f_i_MultiplyCounts_k0, lt_dec_self, br_false]
    rfl) 0 (Nat.zero_le _)
  rw [← rep_rowI]
  exact key
theorem MultiplyCounts_both (P Q : List Int) (hP : P.length ≤ 1000) (hQ : Q.length ≤ 1000) : ∃ R, f_s_MultiplyCounts (ints P) (ints Q) = some (ints R) ∧ f_i_MultiplyCounts (ints P) (ints Q) = some (ints R) ∧ R.length ≤ 24 := by
  have hPl : P.length ≤ lim := Nat.le_trans hP (by decide)
  have hQl : Q.length ≤ lim := Nat.le_trans hQ (by decide)
  cases hok : okC P Q with
  | true =>
    obtain ⟨i1, i2, hl, hb, h1, h24⟩ := okC_len hok
    have hb2 : inB (Q.length : Int) 1 24 = true := by rw [← hl]; exact hb
    have hb3 : ((P.length : Int) != (Q.length : Int)) = false := by rw [hl]; exact bne_self_eq_false _
    have e5 : (decide (0 ≤ (P.length : Int)) && (decide ((P.length : Int) ≤ (P.length : Int)) && decide ((P.length : Int) ≤ (lim : Int)))) = true := by
      rw [decide_eq_true (by omega), decide_eq_true (by omega), decide_eq_true (by omega)]; rfl
    refine ⟨rowI P.length (mcN P.length P Q), ?_, ?_, by rw [rowI_length]; exact h24⟩
    · simp only [f_s_MultiplyCounts, f_s_MultiplyCounts_k, s_l7Counts_eq P hPl, s_l7Counts_eq Q hQl, i1, i2, hb, hb2, hb3, Bool.and_true, bo_some, Bool.not_true, BEq.rfl, br_true, br_false, ints_length, e5, Int.toNat_natCast, s_mc_loop h24 rfl hl.symm, bl1_one]
    · have ok' : f_i_areCounts (ints P) (ints Q) = some true := by rw [i_areCounts_eq P Q hP hQ]; exact congrArg some hok
      simp only [f_i_MultiplyCounts, f_i_MultiplyCounts_k, ok', bo_some, Bool.not_true, br_false, br_true, ints_length, e5, Int.toNat_natCast, i_mc_loop h24 rfl hl.symm, bl1_one]
  | false =>
    refine ⟨[], ?_, ?_, by simp⟩
    · simp only [f_s_MultiplyCounts, f_s_MultiplyCounts_k, s_l7Counts_eq P hPl, s_l7Counts_eq Q hQl, bo_some, ints_length]
      cases h2 : (inC P && inB (P.length : Int) 1 24) with
      | false => rfl
      | true =>
        cases h3 : (inC Q && inB (Q.length : Int) 1 24) with
        | false => rfl
        | true =>
          cases h4 : ((P.length : Int) == (Q.length : Int)) with
          | false =>
            have e : ((P.length : Int) != (Q.length : Int)) = true := by show (!((P.length : Int) == (Q.length : Int))) = true; rw [h4]; rfl
            simp only [e]
            rfl
          | true => rw [okC_s P Q h2 h3 h4] at hok; cases hok
    · have ok' : f_i_areCounts (ints P) (ints Q) = some false := by rw [i_areCounts_eq P Q hP hQ]; exact congrArg some hok
      simp only [f_i_MultiplyCounts, f_i_MultiplyCounts_k, ok', bo_some]
      rfl
def subR (d : List Int) (i : Nat) (f : Int) (r : List Int) (k : Nat) : List Int := r.set (i + k) (w64 (r.getD (i + k) 0 - w64 (f * d.getD k 0)))
def innR (d : List Int) (i : Nat) (f : Int) (r : List Int) (n : Nat) : List Int := (List.range n).foldl (subR d i f) r
theorem innR_succ (d : List Int) (i : Nat) (f : Int) (r : List Int) (n : Nat) : innR d i f r (n + 1) = subR d i f (innR d i f r n) n := foldl_range_succ _ _ _
theorem innR_len (d : List Int) (i : Nat) (f : Int) (r : List Int) : ∀ n, (innR d i f r n).length = r.length
  | 0 => rfl
  | n + 1 => by
    rw [innR_succ]
    unfold subR
    rw [List.length_set, innR_len d i f r n]
def outR (d : List Int) : Nat → List Int → List Int
  | 0, r => r
  | n + 1, r => outR d n (innR d n (r.getD (n + d.length - 1) 0) r d.length)
def outQ (d : List Int) : Nat → List Int → List Int → List Int
  | 0, _, q => q
  | n + 1, r, q => outQ d n (innR d n (r.getD (n + d.length - 1) 0) r d.length) (q.set n (r.getD (n + d.length - 1) 0))
theorem outR_len (d : List Int) : ∀ (n : Nat) (r : List Int), (outR d n r).length = r.length
  | 0, _ => rfl
  | n + 1, r => by
    show (outR d n (innR d n (r.getD (n + d.length - 1) 0) r d.length)).length = _
    rw [outR_len d n, innR_len]
def polyR (p d : List Int) : List Int := outR d (p.length + 1 - d.length) p
def polyQ (p d : List Int) : List Int := outQ d (p.length + 1 - d.length) p (List.replicate (p.length + 1 - d.length) 0)
theorem polyR_len (p d : List Int) : (polyR p d).length = p.length := outR_len _ _ _
theorem top_idx {n l : Nat} (hn : n ≤ 1000) (hl : 1 ≤ l) (hl2 : l ≤ 1000) : w64 ((w64 ((n : Int) + (l : Int))) - 1) = ((n + l - 1 : Nat) : Int) := by
  rw [w64_addN (show n + l ≤ 1000000 by omega), show ((n + l : Nat) : Int) - 1 = ((n + l - 1 : Nat) : Int) by omega]
  exact w64_cast (by omega)
theorem low_idx {n : Nat} (hn : n ≤ 1000) : w64 ((n : Int) - 1) = (n : Int) - 1 := by rw [w64_in] <;> omega
theorem rep_ints (n : Nat) : ints (List.replicate n 0) = List.replicate n (Sc.n .i64 0) := by
  unfold ints
  rw [List.map_replicate]
theorem s_rest_inner (d : List Int) {i : Nat} (f : Int) (r : List Int) (hi : i + d.length ≤ r.length) (hr : r.length ≤ 1000) :
    loopL (f_s_l7Rest_r2 (ints d) (i : Int) f) (ints r, 0) = some (.one (ints (innR d i f r d.length))) := by
  have key := loop_count (rd := f_s_l7Rest_r2 (ints d) (i : Int) f) (fun k => (ints (innR d i f r k), (k : Int))) d.length (a := ints (innR d i f r d.length)) (fun k hk => by
    have hlen := innR_len d i f r k
    have hk2 : i + k < (innR d i f r k).length := by omega
    simp only [f_s_l7Rest_r2, f_s_l7Rest_k2, ints_length, lt_dec hk, br_true, w64_addN (show i + k ≤ 1000000 by omega), in_nat hk2, Int.toNat_natCast, kAt_ints, ok_nat hk, at_nat, atN_ints, ints_set, w64_nat (show k < 9223372036854775807 by omega), innR_succ]
    rfl) (by
    simp only [f_s_l7Rest_r2, f_s_l7Rest_k2, ints_length, lt_dec_self, br_false]) 0 (Nat.zero_le _)
  exact key
theorem s_rest_loop (d : List Int) (hd : 1 ≤ d.length) : ∀ (n : Nat) (r : List Int), n + d.length ≤ r.length + 1 → r.length ≤ 1000 →
    ∃ z, loopL (f_s_l7Rest_r0 (ints d)) (ints r, (n : Int) - 1) = some (.one (ints (outR d n r), z))
  | 0, r, _, _ => by
    refine ⟨((0 : Nat) : Int) - 1, loopL_one ?_⟩
    have h0 : decide (((0 : Nat) : Int) - 1 ≥ 0) = false := by decide
    simp only [f_s_l7Rest_r0, f_s_l7Rest_k0, h0, br_false]
    rfl
  | n + 1, r, h, hr => by
    have hl := innR_len d n (r.getD (n + d.length - 1) 0) r d.length
    obtain ⟨z, ih⟩ := s_rest_loop d hd n (innR d n (r.getD (n + d.length - 1) 0) r d.length) (by omega) (by omega)
    refine ⟨z, ?_⟩
    have h0 : decide ((n : Int) ≥ 0) = true := decide_eq_true (by omega)
    have hin : n + d.length - 1 < r.length := by omega
    rw [show ((n + 1 : Nat) : Int) - 1 = (n : Int) by omega]
    rw [loopL_again (s' := (ints (innR d n (r.getD (n + d.length - 1) 0) r d.length), (n : Int) - 1)) (by
      simp only [f_s_l7Rest_r0, f_s_l7Rest_k0, h0, br_true, ints_length, top_idx (show n ≤ 1000 by omega) hd (show d.length ≤ 1000 by omega), in_nat hin, Int.toNat_natCast, kAt_ints, atN_ints, s_rest_inner d _ r (show n + d.length ≤ r.length by omega) hr, bl1_one, low_idx (show n ≤ 1000 by omega)])]
    exact ih
theorem s_rest_eq (p d : List Int) (hd : 1 ≤ d.length) (hl : d.length ≤ p.length + 1) (hp : p.length ≤ 1000) : f_s_l7Rest (ints p) (ints d) = some (ints (polyR p d)) := by
  have c1 : decide (([] : List Sc).length + p.length ≤ lim) = true := decide_eq_true (by rw [List.length_nil, Nat.zero_add]; exact Nat.le_trans hp (by decide))
  obtain ⟨z, key⟩ := s_rest_loop d hd (p.length + 1 - d.length) p (by omega) hp
  have e : w64 ((p.length : Int) - (d.length : Int)) = ((p.length + 1 - d.length : Nat) : Int) - 1 := by
    rw [show (p.length : Int) - (d.length : Int) = ((p.length + 1 - d.length : Nat) : Int) - 1 by omega]
    exact low_idx (by omega)
  simp only [f_s_l7Rest, f_s_l7Rest_k, ints_length, c1, br_true, List.nil_append, e, key, bl1_one]
  rfl
theorem s_quot_inner (d : List Int) {i : Nat} (f : Int) (r : List Int) (q : List Sc) (hi : i + d.length ≤ r.length) (hr : r.length ≤ 1000) :
    loopL (f_s_l7Quotient_r2 (ints d) (i : Int) f) (ints r, q, 0) = some (.one (ints (innR d i f r d.length), q)) := by
  have key := loop_count (rd := f_s_l7Quotient_r2 (ints d) (i : Int) f) (fun k => (ints (innR d i f r k), q, (k : Int))) d.length (a := (ints (innR d i f r d.length), q)) (fun k hk => by
    have hlen := innR_len d i f r k
    have hk2 : i + k < (innR d i f r k).length := by omega
    simp only [f_s_l7Quotient_r2, f_s_l7Quotient_k2, ints_length, lt_dec hk, br_true, w64_addN (show i + k ≤ 1000000 by omega), in_nat hk2, Int.toNat_natCast, kAt_ints, ok_nat hk, at_nat, atN_ints, ints_set, w64_nat (show k < 9223372036854775807 by omega), innR_succ]
    rfl) (by
    simp only [f_s_l7Quotient_r2, f_s_l7Quotient_k2, ints_length, lt_dec_self, br_false]) 0 (Nat.zero_le _)
  exact key
theorem s_quot_loop (d : List Int) (hd : 1 ≤ d.length) : ∀ (n : Nat) (r q : List Int), n + d.length ≤ r.length + 1 → r.length ≤ 1000 → n ≤ q.length →
    ∃ z, loopL (f_s_l7Quotient_r0 (ints d)) (ints r, ints q, (n : Int) - 1) = some (.one (ints (outR d n r), ints (outQ d n r q), z))
  | 0, r, q, _, _, _ => by
    refine ⟨((0 : Nat) : Int) - 1, loopL_one ?_⟩
    have h0 : decide (((0 : Nat) : Int) - 1 ≥ 0) = false := by decide
    simp only [f_s_l7Quotient_r0, f_s_l7Quotient_k0, h0, br_false]
    rfl
  | n + 1, r, q, h, hr, hq => by
    have hl := innR_len d n (r.getD (n + d.length - 1) 0) r d.length
    obtain ⟨z, ih⟩ := s_quot_loop d hd n (innR d n (r.getD (n + d.length - 1) 0) r d.length) (q.set n (r.getD (n + d.length - 1) 0)) (by omega) (by omega) (by rw [List.length_set]; omega)
    refine ⟨z, ?_⟩
    have h0 : decide ((n : Int) ≥ 0) = true := decide_eq_true (by omega)
    have hin : n + d.length - 1 < r.length := by omega
    have hiq : n < q.length := by omega
    rw [show ((n + 1 : Nat) : Int) - 1 = (n : Int) by omega]
    rw [loopL_again (s' := (ints (innR d n (r.getD (n + d.length - 1) 0) r d.length), ints (q.set n (r.getD (n + d.length - 1) 0)), (n : Int) - 1)) (by
      simp only [f_s_l7Quotient_r0, f_s_l7Quotient_k0, h0, br_true, ints_length, top_idx (show n ≤ 1000 by omega) hd (show d.length ≤ 1000 by omega), in_nat hin, in_nat hiq, Int.toNat_natCast, kAt_ints, atN_ints, ints_set, s_quot_inner d _ r _ (show n + d.length ≤ r.length by omega) hr, bl1_one, low_idx (show n ≤ 1000 by omega)])]
    exact ih
theorem max_len {p d n : Nat} (h : p + 1 = n + d) (hd : 1 ≤ d) (hp : p ≤ 1000) : (if (w64 ((w64 ((p : Int) - (d : Int))) + 1)) > 0 then (w64 ((w64 ((p : Int) - (d : Int))) + 1)) else 0) = (n : Int) := by
  have e : w64 ((p : Int) - (d : Int)) = (n : Int) - 1 := by
    rw [show (p : Int) - (d : Int) = (n : Int) - 1 by omega]
    exact low_idx (by omega)
  have e2 : w64 ((n : Int) - 1 + 1) = (n : Int) := by
    rw [show (n : Int) - 1 + 1 = (n : Int) by omega]
    exact w64_cast (by omega)
  rw [e, e2]
  split <;> omega
theorem make_ok {n : Nat} (h : n ≤ 2000) : (decide (0 ≤ (n : Int)) && (decide ((n : Int) ≤ (n : Int)) && decide ((n : Int) ≤ (lim : Int)))) = true := by
  have : n ≤ lim := Nat.le_trans h (by decide)
  rw [decide_eq_true (by omega), decide_eq_true (by omega), decide_eq_true (by omega)]; rfl
theorem s_quot_eq (p d : List Int) (hd : 1 ≤ d.length) (hl : d.length ≤ p.length + 1) (hp : p.length ≤ 1000) : f_s_l7Quotient (ints p) (ints d) = some (ints (polyQ p d)) := by
  have c1 : decide (([] : List Sc).length + p.length ≤ lim) = true := decide_eq_true (by rw [List.length_nil, Nat.zero_add]; exact Nat.le_trans hp (by decide))
  obtain ⟨z, key⟩ := s_quot_loop d hd (p.length + 1 - d.length) p (List.replicate (p.length + 1 - d.length) 0) (by omega) hp (by rw [List.length_replicate]; exact Nat.le_refl _)
  have e := max_len (p := p.length) (d := d.length) (n := p.length + 1 - d.length) (by omega) hd hp
  rw [rep_ints] at key
  simp only [f_s_l7Quotient, f_s_l7Quotient_k, ints_length, c1, br_true, List.nil_append, e, make_ok (show p.length + 1 - d.length ≤ 2000 by omega), Int.toNat_natCast, List.length_replicate, low_idx (show p.length + 1 - d.length ≤ 1000 by omega), key, bl1_one]
  rfl
theorem i_rest_inner (d : List Int) {i : Nat} (f : Int) (r : List Int) (q : List Sc) (hi : i + d.length ≤ r.length) (hr : r.length ≤ 1000) :
    loopL (f_i_rest_r2 (ints d) (i : Int) f (ints d) (d.length : Int)) (ints r, q, 0) = some (.one (ints (innR d i f r d.length), q)) := by
  have key := loop_count (rd := f_i_rest_r2 (ints d) (i : Int) f (ints d) (d.length : Int)) (fun k => (ints (innR d i f r k), q, (k : Int))) d.length (a := (ints (innR d i f r d.length), q)) (fun k hk => by
    have hlen := innR_len d i f r k
    have hk2 : i + k < (innR d i f r k).length := by omega
    simp only [f_i_rest_r2, f_i_rest_k2, ints_length, lt_dec hk, br_true, w64_addN (show i + k ≤ 1000000 by omega), in_nat hk2, Int.toNat_natCast, kAt_ints, ok_nat hk, at_nat, atN_ints, ints_set, w64_nat (show k < 9223372036854775807 by omega), innR_succ]
    rfl) (by
    simp only [f_i_rest_r2, f_i_rest_k2, lt_dec_self, br_false]) 0 (Nat.zero_le _)
  exact key
theorem i_rest_loop (d : List Int) (hd : 1 ≤ d.length) : ∀ (n : Nat) (r q : List Int), n + d.length ≤ r.length + 1 → r.length ≤ 1000 → n ≤ q.length →
    ∃ z, loopL (f_i_rest_r0 (ints d)) (ints r, ints q, (n : Int) - 1) = some (.one (ints (outR d n r), ints (outQ d n r q), z))
  | 0, r, q, _, _, _ => by
    refine ⟨((0 : Nat) : Int) - 1, loopL_one ?_⟩
    have h0 : decide (((0 : Nat) : Int) - 1 ≥ 0) = false := by decide
    simp only [f_i_rest_r0, f_i_rest_k0, h0, br_false]
    rfl
  | n + 1, r, q, h, hr, hq => by
    have hl := innR_len d n (r.getD (n + d.length - 1) 0) r d.length
    obtain ⟨z, ih⟩ := i_rest_loop d hd n (innR d n (r.getD (n + d.length - 1) 0) r d.length) (q.set n (r.getD (n + d.length - 1) 0)) (by omega) (by omega) (by rw [List.length_set]; omega)
    refine ⟨z, ?_⟩
    have h0 : decide ((n : Int) ≥ 0) = true := decide_eq_true (by omega)
    have hin : n + d.length - 1 < r.length := by omega
    have hiq : n < q.length := by omega
    rw [show ((n + 1 : Nat) : Int) - 1 = (n : Int) by omega]
    rw [loopL_again (s' := (ints (innR d n (r.getD (n + d.length - 1) 0) r d.length), ints (q.set n (r.getD (n + d.length - 1) 0)), (n : Int) - 1)) (by
      simp only [f_i_rest_r0, f_i_rest_k0, h0, br_true, ints_length, top_idx (show n ≤ 1000 by omega) hd (show d.length ≤ 1000 by omega), in_nat hin, in_nat hiq, Int.toNat_natCast, kAt_ints, atN_ints, ints_set, i_rest_inner d _ r _ (show n + d.length ≤ r.length by omega) hr, bl1_one, low_idx (show n ≤ 1000 by omega)])]
    exact ih
theorem i_rest_eq (p d : List Int) (hd : 1 ≤ d.length) (hl : d.length ≤ p.length + 1) (hp : p.length ≤ 1000) : f_i_rest (ints p) (ints d) = some (ints (polyQ p d), ints ((polyR p d).take (min p.length (d.length - 1)))) := by
  have c1 : decide (([] : List Sc).length + p.length ≤ lim) = true := decide_eq_true (by rw [List.length_nil, Nat.zero_add]; exact Nat.le_trans hp (by decide))
  obtain ⟨z, key⟩ := i_rest_loop d hd (p.length + 1 - d.length) p (List.replicate (p.length + 1 - d.length) 0) (by omega) hp (by rw [List.length_replicate]; exact Nat.le_refl _)
  have e := max_len (p := p.length) (d := d.length) (n := p.length + 1 - d.length) (by omega) hd hp
  rw [rep_ints] at key
  have hpl := polyR_len p d
  have eout : outR d (p.length + 1 - d.length) p = polyR p d := rfl
  have eq' : outQ d (p.length + 1 - d.length) p (List.replicate (p.length + 1 - d.length) 0) = polyQ p d := rfl
  rw [eout, eq'] at key
  have em : (if w64 ((d.length : Int) - 1) < (p.length : Int) then w64 ((d.length : Int) - 1) else (p.length : Int)) = ((min p.length (d.length - 1) : Nat) : Int) := by
    have e1 : w64 ((d.length : Int) - 1) = (d.length : Int) - 1 := by rw [w64_in] <;> omega
    rw [e1]
    split <;> omega
  simp only [f_i_rest, f_i_rest_k, f_i_rest_g13, f_i_rest_g13_k, f_i_copyInts, f_i_copyInts_k, ints_length, c1, br_true, List.nil_append, bo_some, e, make_ok (show p.length + 1 - d.length ≤ 2000 by omega), Int.toNat_natCast, List.length_replicate, low_idx (show p.length + 1 - d.length ≤ 1000 by omega), key, bl1_one, hpl, em]
  have b1 : (decide ((0 : Int) ≤ 0) && (decide ((0 : Int) ≤ ((min p.length (d.length - 1) : Nat) : Int)) && decide (((min p.length (d.length - 1) : Nat) : Int) ≤ (p.length : Int)))) = true := by
    rw [decide_eq_true (by omega), decide_eq_true (by omega), decide_eq_true (by omega)]; rfl
  rw [b1, br_true]
  have es : sliceA (ints (polyR p d)) 0 ((min p.length (d.length - 1) : Nat) : Int) = ints ((polyR p d).take (min p.length (d.length - 1))) := by
    unfold sliceA
    simp [ints]
  rw [es]
  rfl
def cyT : List (List Int) := [[], [-1, 1], [1, 1], [1, 1, 1], [1, 0, 1], [1, 1, 1, 1, 1], [1, -1, 1], [1, 1, 1, 1, 1, 1, 1], [1, 0, 0, 0, 1], [1, 0, 0, 1, 0, 0, 1], [1, -1, 1, -1, 1], [1, 1, 1, 1, 1, 1, 1, 1, 1, 1, 1], [1, 0, -1, 0, 1], [1, 1, 1, 1, 1, 1, 1, 1, 1, 1, 1, 1, 1], [1, -1, 1, -1, 1, -1, 1], [1, -1, 0, 1, -1, 1, 0, -1, 1], [1, 0, 0, 0, 0, 0, 0, 0, 1], [1, 1, 1, 1, 1, 1, 1, 1, 1, 1, 1, 1, 1, 1, 1, 1, 1], [1, 0, 0, -1, 0, 0, 1], [1, 1, 1, 1, 1, 1, 1, 1, 1, 1, 1, 1, 1, 1, 1, 1, 1, 1, 1], [1, 0, -1, 0, 1, 0, -1, 0, 1], [1, -1, 0, 1, -1, 0, 1, 0, -1, 1, 0, -1, 1], [1, -1, 1, -1, 1, -1, 1, -1, 1, -1, 1], [1, 1, 1, 1, 1, 1, 1, 1, 1, 1, 1, 1, 1, 1, 1, 1, 1, 1, 1, 1, 1, 1, 1], [1, 0, 0, 0, -1, 0, 0, 0, 1]]
def cyP (n : Nat) : List Int := cyT.getD n []
def cyS (d : Nat) (p : List Int) (e : Nat) : List Int := if d % e = 0 then polyQ p (cyP e) else p
def cy0 (d : Nat) : List Int := ((List.replicate (d + 1) 0).set 0 (-1)).set d 1
theorem cy_all : ((List.range 25).all fun d => Nat.beq d 0 || decide ((List.range' 1 (d - 1)).foldl (cyS d) (cy0 d) = cyP d)) = true := by decide +kernel
theorem cy_len : ((List.range 25).all fun d => Nat.beq d 0 || (Nat.ble 2 (cyP d).length && (Nat.ble (cyP d).length (d + 1) && decide ((cyP d).getD ((cyP d).length - 1) 0 = 1)))) = true := by decide +kernel
theorem cy_lens : ((List.range 25).all fun d => (List.range (d - 1)).all fun j => (!Nat.beq (d % (1 + j)) 0 || Nat.ble (cyP (1 + j)).length (((List.range' 1 j).foldl (cyS d) (cy0 d)).length + 1)) && Nat.ble ((List.range' 1 j).foldl (cyS d) (cy0 d)).length 1000) = true := by decide +kernel
theorem cy_fold {d : Nat} (h1 : 1 ≤ d) (h : d ≤ 24) : (List.range' 1 (d - 1)).foldl (cyS d) (cy0 d) = cyP d := by
  have h2 := List.all_eq_true.1 cy_all d (List.mem_range.2 (by omega))
  rw [Bool.or_eq_true] at h2
  rcases h2 with h2 | h2
  · have := Nat.eq_of_beq_eq_true h2; omega
  · exact of_decide_eq_true h2
theorem cyP_len {d : Nat} (h1 : 1 ≤ d) (h : d ≤ 24) : 2 ≤ (cyP d).length ∧ (cyP d).length ≤ d + 1 ∧ (cyP d).getD ((cyP d).length - 1) 0 = 1 := by
  have h2 := List.all_eq_true.1 cy_len d (List.mem_range.2 (by omega))
  rw [Bool.or_eq_true] at h2
  rcases h2 with h2 | h2
  · have := Nat.eq_of_beq_eq_true h2; omega
  · simp only [Bool.and_eq_true] at h2
    exact ⟨Nat.le_of_ble_eq_true h2.1, Nat.le_of_ble_eq_true h2.2.1, of_decide_eq_true h2.2.2⟩
theorem cyP_at {d j : Nat} (h : d ≤ 24) (hj : j < d - 1) : (d % (1 + j) = 0 → (cyP (1 + j)).length ≤ ((List.range' 1 j).foldl (cyS d) (cy0 d)).length + 1) ∧ ((List.range' 1 j).foldl (cyS d) (cy0 d)).length ≤ 1000 := by
  have h2 := List.all_eq_true.1 cy_lens d (List.mem_range.2 (by omega))
  have h3 := List.all_eq_true.1 h2 j (List.mem_range.2 hj)
  rw [Bool.and_eq_true] at h3
  refine ⟨fun hc => ?_, Nat.le_of_ble_eq_true h3.2⟩
  have h4 := h3.1
  rw [hc] at h4
  exact Nat.le_of_ble_eq_true h4
theorem range1_succ {β : Type} (f : β → Nat → β) (t : β) (j : Nat) : (List.range' 1 (j + 1)).foldl f t = f ((List.range' 1 j).foldl f t) (1 + j) := by
  rw [List.range'_concat, List.foldl_append]
  simp
theorem cy0_ints (d : Nat) : ((List.replicate (d + 1) (Sc.n .i64 0)).set 0 (Sc.n .i64 (-1))).set d (Sc.n .i64 1) = ints (cy0 d) := by
  unfold cy0
  rw [← rep_ints, ints_set, ints_set]
theorem l7Cyclotomic_le : ∀ n a, Le (f_s_l7Cyclotomic_n n a) (f_s_l7Cyclotomic_n (n + 1) a)
  | 0, _ => Le.no
  | n + 1, a => by
    have ih := l7Cyclotomic_le n
    simp only [f_s_l7Cyclotomic_n, f_s_l7Cyclotomic_k]
    refine Le.br (Le.br (Le.br (Le.bl1 (Le.loop fun s => ?_) fun e => Le.same) Le.same) Le.same) Le.same
    simp only [f_s_l7Cyclotomic_r0, f_s_l7Cyclotomic_k0]
    exact Le.br (Le.br Le.same (Le.br (Le.bo (ih _) fun r => Le.same) Le.same)) Le.same
theorem cyclotomic_le : ∀ n a, Le (f_i_cyclotomic_n n a) (f_i_cyclotomic_n (n + 1) a)
  | 0, _ => Le.no
  | n + 1, a => by
    have ih := cyclotomic_le n
    simp only [f_i_cyclotomic_n, f_i_cyclotomic_k]
    refine Le.br (Le.br (Le.br (Le.bl1 (Le.loop fun s => ?_) fun e => Le.same) Le.same) Le.same) Le.same
    simp only [f_i_cyclotomic_r0, f_i_cyclotomic_k0]
    exact Le.br (Le.br Le.same (Le.br (Le.bo (ih _) fun r => Le.same) Le.same)) Le.same
theorem s_cyc_fuel : ∀ (n d : Nat), 1 ≤ d → d ≤ 24 → d ≤ n → f_s_l7Cyclotomic_n n (d : Int) = some (ints (cyP d))
  | 0, d, h1, _, h => by omega
  | n + 1, d, h1, h24, h => by
    have ih := s_cyc_fuel n
    have key := loop_count (rd := f_s_l7Cyclotomic_r0 (f_s_l7Cyclotomic_n n) (d : Int)) (fun j => (ints ((List.range' 1 j).foldl (cyS d) (cy0 d)), ((1 + j : Nat) : Int))) (d - 1) (a := ints ((List.range' 1 (d - 1)).foldl (cyS d) (cy0 d))) (fun j hj => by
      obtain ⟨a1, a2⟩ := cyP_at h24 hj
      obtain ⟨l1, _, _⟩ := cyP_len (d := 1 + j) (by omega) (by omega)
      have hz : (((1 + j : Nat) : Int) == 0) = false := by rw [eq0]; exact decide_eq_false (by omega)
      simp only [f_s_l7Cyclotomic_r0, f_s_l7Cyclotomic_k0, lt_dec (show 1 + j < d by omega), br_true, hz, br_false, tmod_nat, eq0, ih (1 + j) (by omega) (by omega) (by omega), bo_some, w64_nat (show 1 + j < 9223372036854775807 by omega), range1_succ]
      unfold cyS
      by_cases hc : d % (1 + j) = 0
      · have hq := s_quot_eq _ _ (show 1 ≤ (cyP (1 + j)).length by omega) (a1 hc) a2
        unfold cyS at hq
        rw [decide_eq_true hc, if_pos hc, hq]; rfl
      · rw [decide_eq_false hc, if_neg hc]; rfl) (by
      rw [show 1 + (d - 1) = d by omega]
      simp only [f_s_l7Cyclotomic_r0, f_s_l7Cyclotomic_k0, lt_dec_self, br_false]) 0 (Nat.zero_le _)
    rw [cy_fold h1 h24] at key
    have key' : loopL (f_s_l7Cyclotomic_r0 (f_s_l7Cyclotomic_n n) (d : Int)) (ints (cy0 d), 1) = some (.one (ints (cyP d))) := key
    have i0 : inRange 0 (d + 1) = true := in_nat (k := 0) (by omega)
    have i1 : inRange (d : Int) (d + 1) = true := in_nat (by omega)
    simp only [f_s_l7Cyclotomic_n, f_s_l7Cyclotomic_k, w64_nat (show d < 9223372036854775807 by omega), make_ok (show d + 1 ≤ 2000 by omega), br_true, Int.toNat_natCast, List.length_set, List.length_replicate, i0, i1, show (0 : Int).toNat = 0 from rfl, cy0_ints, key', bl1_one]
theorem i_cyc_fuel : ∀ (n d : Nat), 1 ≤ d → d ≤ 24 → d ≤ n → f_i_cyclotomic_n n (d : Int) = some (ints (cyP d))
  | 0, d, h1, _, h => by omega
  | n + 1, d, h1, h24, h => by
    have ih := i_cyc_fuel n
    have key := loop_count (rd := f_i_cyclotomic_r0 (f_i_cyclotomic_n n) (d : Int)) (fun j => (ints ((List.range' 1 j).foldl (cyS d) (cy0 d)), ((1 + j : Nat) : Int))) (d - 1) (a := ints ((List.range' 1 (d - 1)).foldl (cyS d) (cy0 d))) (fun j hj => by
      obtain ⟨a1, a2⟩ := cyP_at h24 hj
      obtain ⟨l1, _, _⟩ := cyP_len (d := 1 + j) (by omega) (by omega)
      have hz : (((1 + j : Nat) : Int) == 0) = false := by rw [eq0]; exact decide_eq_false (by omega)
      simp only [f_i_cyclotomic_r0, f_i_cyclotomic_k0, lt_dec (show 1 + j < d by omega), br_true, hz, br_false, tmod_nat, eq0, ih (1 + j) (by omega) (by omega) (by omega), bo_some, w64_nat (show 1 + j < 9223372036854775807 by omega), range1_succ]
      unfold cyS
      by_cases hc : d % (1 + j) = 0
      · have hq := i_rest_eq _ _ (show 1 ≤ (cyP (1 + j)).length by omega) (a1 hc) a2
        unfold cyS at hq
        rw [decide_eq_true hc, if_pos hc, hq]; rfl
      · rw [decide_eq_false hc, if_neg hc]; rfl) (by
      rw [show 1 + (d - 1) = d by omega]
      simp only [f_i_cyclotomic_r0, f_i_cyclotomic_k0, lt_dec_self, br_false]) 0 (Nat.zero_le _)
    rw [cy_fold h1 h24] at key
    have key' : loopL (f_i_cyclotomic_r0 (f_i_cyclotomic_n n) (d : Int)) (ints (cy0 d), 1) = some (.one (ints (cyP d))) := key
    have i0 : inRange 0 (d + 1) = true := in_nat (k := 0) (by omega)
    have i1 : inRange (d : Int) (d + 1) = true := in_nat (by omega)
    simp only [f_i_cyclotomic_n, f_i_cyclotomic_k, w64_nat (show d < 9223372036854775807 by omega), make_ok (show d + 1 ≤ 2000 by omega), br_true, Int.toNat_natCast, List.length_set, List.length_replicate, i0, i1, show (0 : Int).toNat = 0 from rfl, cy0_ints, key', bl1_one]
theorem s_cyc_eq {d : Nat} (h1 : 1 ≤ d) (h24 : d ≤ 24) : f_s_l7Cyclotomic (d : Int) = some (ints (cyP d)) := limF_le l7Cyclotomic_le (s_cyc_fuel d d h1 h24 (Nat.le_refl _))
theorem i_cyc_eq {d : Nat} (h1 : 1 ≤ d) (h24 : d ≤ 24) : f_i_cyclotomic (d : Int) = some (ints (cyP d)) := limF_le cyclotomic_le (i_cyc_fuel d d h1 h24 (Nat.le_refl _))
theorem getD_set (L : List Int) (a : Nat) (y : Int) (j : Nat) (hj : j < L.length) : (L.set a y).getD j 0 = if a = j then y else L.getD j 0 := by
  by_cases e : a = j
  · subst e
    simp [List.getD, hj]
  · rw [if_neg e]
    simp [List.getD, List.getElem?_set_ne e]
theorem innR_at (d : List Int) (i : Nat) (f : Int) (r : List Int) (j : Nat) (hj : j < r.length) : ∀ n, (innR d i f r n).getD j 0 = if i ≤ j ∧ j < i + n then w64 (r.getD j 0 - w64 (f * d.getD (j - i) 0)) else r.getD j 0
  | 0 => by
    rw [if_neg (by omega)]
    rfl
  | n + 1 => by
    have ih := innR_at d i f r j hj n
    rw [innR_succ]
    unfold subR
    rw [getD_set _ _ _ _ (by rw [innR_len]; exact hj)]
    by_cases e : i + n = j
    · rw [if_pos e, e, ih, if_neg (by omega), if_pos (by omega), show j - i = n by omega]
    · rw [if_neg e, ih]
      by_cases hc : i ≤ j ∧ j < i + n
      · rw [if_pos hc, if_pos (by omega)]
      · rw [if_neg hc, if_neg (by omega)]
theorem w64_gone (x : Int) : w64 (x - w64 x) = 0 := by
  obtain ⟨m, e⟩ := w64_ex x
  rw [e, show x - (x + 18446744073709551616 * m) = 0 + 18446744073709551616 * (-m) by omega, w64_per]
  decide
theorem outR_high (d : List Int) (hd : 1 ≤ d.length) (h1 : d.getD (d.length - 1) 0 = 1) : ∀ (n : Nat) (r : List Int), n + d.length ≤ r.length + 1 →
    (∀ j, d.length - 1 ≤ j → j < n + d.length - 1 → (outR d n r).getD j 0 = 0) ∧ (∀ j, n + d.length - 1 ≤ j → j < r.length → (outR d n r).getD j 0 = r.getD j 0)
  | 0, r, _ => ⟨fun j h2 h3 => by omega, fun j _ _ => rfl⟩
  | n + 1, r, h => by
    have hl := innR_len d n (r.getD (n + d.length - 1) 0) r d.length
    obtain ⟨ih1, ih2⟩ := outR_high d hd h1 n (innR d n (r.getD (n + d.length - 1) 0) r d.length) (by omega)
    refine ⟨fun j h2 h3 => ?_, fun j h2 h3 => ?_⟩
    · show (outR d n (innR d n (r.getD (n + d.length - 1) 0) r d.length)).getD j 0 = 0
      by_cases hc : j < n + d.length - 1
      · exact ih1 j h2 hc
      · have ej : j = n + d.length - 1 := by omega
        rw [ih2 j (by omega) (by omega), innR_at _ _ _ _ _ (by omega), if_pos (by omega), show j - n = d.length - 1 by omega, h1, ej, Int.mul_one, w64_gone]
    · show (outR d n (innR d n (r.getD (n + d.length - 1) 0) r d.length)).getD j 0 = _
      rw [ih2 j (by omega) (by omega), innR_at _ _ _ _ _ h3, if_neg (by omega)]
def zeroV (p : List Int) : Bool := (polyR p (cyP p.length)).all fun x => x == 0
theorem any_zero (L : List Int) : (List.range L.length).any (fun k => L.getD k 0 != 0) = !(L.all fun x => x == 0) := by
  rw [range_any L (fun x => x != 0), List.not_all_eq_any_not]
  rfl
theorem short_all {p : List Int} (h1 : 1 ≤ p.length) (h24 : p.length ≤ 24) : ((polyR p (cyP p.length)).take (min p.length ((cyP p.length).length - 1))).all (fun x => x == 0) = zeroV p := by
  obtain ⟨l1, l2, l3⟩ := cyP_len h1 h24
  have hl := polyR_len p (cyP p.length)
  obtain ⟨hz, _⟩ := outR_high (cyP p.length) (by omega) l3 (p.length + 1 - (cyP p.length).length) p (by omega)
  unfold zeroV
  rw [Bool.eq_iff_iff, List.all_eq_true, List.all_eq_true]
  constructor
  · intro ha x hx
    obtain ⟨j, hj, e⟩ := List.mem_iff_getElem.1 hx
    by_cases hc : j < min p.length ((cyP p.length).length - 1)
    · refine ha x ?_
      rw [← e]
      rw [List.mem_iff_getElem]
      exact ⟨j, by rw [List.length_take]; omega, by rw [List.getElem_take]⟩
    · have := hz j (by omega) (by omega)
      have e2 : (polyR p (cyP p.length)).getD j 0 = x := by rw [← e]; simp [List.getD, hj]
      have e3 : x = 0 := by rw [← e2]; exact this
      rw [e3]
      rfl
  · intro ha x hx
    exact ha x (List.mem_of_mem_take hx)
theorem i_vanishes_eq {p : List Int} (h1 : 1 ≤ p.length) (h24 : p.length ≤ 24) : f_i_vanishes (ints p) = some (zeroV p) := by
  obtain ⟨l1, l2, l3⟩ := cyP_len h1 h24
  have hs := short_all h1 h24
  have hl := polyR_len p (cyP p.length)
  have hln : ((polyR p (cyP p.length)).take (min p.length ((cyP p.length).length - 1))).length ≤ 24 := by rw [List.length_take]; omega
  have key := loop_any (rd := f_i_vanishes_r0 (ints ((polyR p (cyP p.length)).take (min p.length ((cyP p.length).length - 1)))) (((polyR p (cyP p.length)).take (min p.length ((cyP p.length).length - 1))).length : Int)) (fun k => (k : Int)) ((polyR p (cyP p.length)).take (min p.length ((cyP p.length).length - 1))).length (fun k => ((polyR p (cyP p.length)).take (min p.length ((cyP p.length).length - 1))).getD k 0 != 0) (a := ()) (b := ()) (fun k hk => by
    simp only [f_i_vanishes_r0, f_i_vanishes_k0, lt_dec hk, br_true, ok_nat hk, at_nat, w64_nat (show k < 9223372036854775807 by omega)]
    cases (((polyR p (cyP p.length)).take (min p.length ((cyP p.length).length - 1))).getD k 0 != 0) <;> rfl) (by
    simp only [f_i_vanishes_r0, f_i_vanishes_k0, lt_dec_self, br_false])
  rw [any_zero, hs] at key
  have key' : loopL (f_i_vanishes_r0 (ints ((polyR p (cyP p.length)).take (min p.length ((cyP p.length).length - 1)))) (((polyR p (cyP p.length)).take (min p.length ((cyP p.length).length - 1))).length : Int)) 0 = if (!zeroV p) = true then some (.two ()) else some (.one ()) := key
  simp only [f_i_vanishes, f_i_vanishes_k, ints_length, i_cyc_eq h1 h24, bo_some, i_rest_eq p (cyP p.length) (by omega) l2 (by omega), key']
  cases zeroV p <;> rfl
theorem IsZero_yes {g : List Nat} (v : VG g) {a k : Nat} (ha : a < 2 ^ ordN g) (hk : k < ordN g) :
    f_s_IsZeroCoefficient (ints (natsI g)) (a : Int) (k : Int) = some (zeroV (natsI (rowN (expN g) (coeN g a k)))) ∧ f_i_IsZeroCoefficient (ints (natsI g)) (a : Int) (k : Int) = some (zeroV (natsI (rowN (expN g) (coeN g a k)))) := by
  obtain ⟨E1, E24⟩ := exp24 v
  obtain ⟨p, ep⟩ : ∃ p, natsI (rowN (expN g) (coeN g a k)) = p := ⟨_, rfl⟩
  have hl : p.length = expN g := by rw [← ep, natsI_length, rowN_length]
  have h1 : 1 ≤ p.length := by omega
  have h24 : p.length ≤ 24 := by omega
  obtain ⟨l1, l2, l3⟩ := cyP_len h1 h24
  have hr := polyR_len p (cyP p.length)
  constructor
  · have key := loop_any (rd := f_s_IsZeroCoefficient_r0) (fun k => (ints (polyR p (cyP p.length)), (k : Int))) (polyR p (cyP p.length)).length (fun k => (polyR p (cyP p.length)).getD k 0 != 0) (a := ()) (b := ()) (fun k hk => by
      simp only [f_s_IsZeroCoefficient_r0, f_s_IsZeroCoefficient_k0, ints_length, lt_dec hk, br_true, in_nat hk, Int.toNat_natCast, kAt_ints, atN_ints, w64_nat (show k < 9223372036854775807 by omega)]
      cases ((polyR p (cyP p.length)).getD k 0 != 0) <;> rfl) (by
      simp only [f_s_IsZeroCoefficient_r0, f_s_IsZeroCoefficient_k0, ints_length, lt_dec_self, br_false])
    rw [any_zero] at key
    have key' : loopL f_s_IsZeroCoefficient_r0 (ints (polyR p (cyP p.length)), 0) = if (!zeroV p) = true then some (.two ()) else some (.one ()) := key
    have hz : ((p.length : Int) == 0) = false := by rw [eq0]; exact decide_eq_false (by omega)
    simp only [f_s_IsZeroCoefficient, f_s_IsZeroCoefficient_k, s_coe_eq v ha hk, ep, bo_some, ints_length, hz, br_false, s_cyc_eq h1 h24, s_rest_eq p (cyP p.length) (by omega) l2 (by omega), key']
    cases zeroV p <;> rfl
  · simp only [f_i_IsZeroCoefficient, f_i_IsZeroCoefficient_k, i_IsSet_eq _ _ v.lim, set_of v ha, i_has_eq _ _ v.lim, hasN v hk, bo_some, BEq.rfl, br_true, i_coe_eq v ha hk, ep, i_vanishes_eq h1 h24]
theorem IsZero_both (G : List Int) (x k : Int) (h : G.length ≤ lim) : ∃ r, f_s_IsZeroCoefficient (ints G) x k = some r ∧ f_i_IsZeroCoefficient (ints G) x k = some r := by
  rcases CoefficientCounts_more G x k h with ⟨hn, e1, e2⟩ | ⟨g, a, d, rfl, v, rfl, ha, rfl, hd⟩
  · refine ⟨false, ?_, ?_⟩
    · simp only [f_s_IsZeroCoefficient, f_s_IsZeroCoefficient_k, e1, bo_some]
      rfl
    · simp only [f_i_IsZeroCoefficient, f_i_IsZeroCoefficient_k, i_IsSet_eq _ _ h, i_has_eq _ _ h, bo_some]
      rcases hn with hn | hn
      · rw [hn]; rfl
      · rw [hn]
        cases setG G x <;> rfl
  · obtain ⟨e1, e2⟩ := IsZero_yes v ha hd
    exact ⟨_, e1, e2⟩
theorem mod_two {E x : Nat} (h : x < E + E) : x % E = if x < E then x else x - E := by
  split
  · exact Nat.mod_eq_of_lt (by assumption)
  · rw [Nat.mod_eq_sub_mod (by omega), Nat.mod_eq_of_lt (by omega)]
theorem mod_cancel {E a b c : Nat} (ha : a < E) (hb : b < E) (hc : c < E) : (c + a) % E = (b + c) % E ↔ a = b := by
  rw [mod_two (show c + a < E + E by omega), mod_two (show b + c < E + E by omega)]
  constructor
  · intro h
    split at h <;> split at h <;> omega
  · rintro rfl
    rw [Nat.add_comm]
theorem coe_shift {g : List Nat} {h : Nat} (v : VG g) (s : Subg g h) (k : Nat) {x z : Nat} (hx : h.testBit x = true) (hz : z < expN g) : coeN g h k ((z + chN g k x) % expN g) = coeN g h k z := by
  rw [coe_eq, coe_eq, countP_sum, countP_sum, ← trans_sum v s hx fun y => if decide (chN g k y = (z + chN g k x) % expN g) = true then 1 else 0]
  refine sumM_congr fun y _ => ?_
  show (if decide (chN g k (addN g x y) = (z + chN g k x) % expN g) = true then 1 else 0) = _
  have e : decide (chN g k (addN g x y) = (z + chN g k x) % expN g) = decide (chN g k y = z) := by
    rw [Bool.eq_iff_iff, decide_eq_true_eq, decide_eq_true_eq, chN_add v]
    exact mod_cancel (chN_lt v k y) hz (chN_lt v k x)
  rw [e]
theorem coe_of {g : List Nat} {h k z : Nat} (v : VG g) (s : Subg g h) (hp : 0 < coeN g h k z) : ∃ x, h.testBit x = true ∧ chN g k x = z := by
  rw [coe_eq, List.countP_pos_iff] at hp
  obtain ⟨x, hx, e⟩ := hp
  exact ⟨x, (mem_elems (set_i64 v s.lt)).1 hx, of_decide_eq_true e⟩
theorem coe_in {g : List Nat} {h k x : Nat} (v : VG g) (s : Subg g h) (hx : h.testBit x = true) : 0 < coeN g h k (chN g k x) := by
  rw [coe_eq, List.countP_pos_iff]
  exact ⟨x, (mem_elems (set_i64 v s.lt)).2 hx, decide_eq_true rfl⟩
theorem coe_step {g : List Nat} {h : Nat} (v : VG g) (s : Subg g h) (k : Nat) {m z : Nat} (hm : 0 < coeN g h k m) (hz : z < expN g) : ∀ j, coeN g h k ((z + j * m) % expN g) = coeN g h k z
  | 0 => by rw [Nat.zero_mul, Nat.add_zero, Nat.mod_eq_of_lt hz]
  | j + 1 => by
    obtain ⟨E1, _⟩ := exp24 v
    obtain ⟨x, hx, ex⟩ := coe_of v s hm
    have ih := coe_step v s k hm hz j
    have h1 := coe_shift v s k hx (z := (z + j * m) % expN g) (Nat.mod_lt _ E1)
    rw [ex, Nat.mod_add_mod] at h1
    rw [← ih, ← h1, Nat.succ_mul, Nat.add_assoc]
theorem least_of (P : Nat → Prop) [DecidablePred P] : ∀ n, P n → ∃ m, P m ∧ ∀ k, k < m → ¬ P k := by
  intro n
  induction n using Nat.strongRecOn with
  | ind n ih =>
    intro hn
    by_cases hc : ∃ k, k < n ∧ P k
    · obtain ⟨k, hk, hp⟩ := hc
      exact ih k hk hp
    · exact ⟨n, hn, fun k hk hp => hc ⟨k, hk, hp⟩⟩
theorem coe_even {g : List Nat} {h : Nat} (v : VG g) (s : Subg g h) (k : Nat) (ha : annP g h k = false) :
    ∃ m, 0 < m ∧ m < expN g ∧ expN g % m = 0 ∧ ∀ z, z < expN g → coeN g h k z = if z % m = 0 then coeN g h k 0 else 0 := by
  obtain ⟨E1, E24⟩ := exp24 v
  have hz0 : 0 < coeN g h k 0 := by
    have := coe_in (k := k) v s s.zero
    rw [chN_zero v] at this
    exact this
  have hex : ∃ x, h.testBit x = true ∧ chN g k x ≠ 0 := by
    unfold annP at ha
    rw [List.all_eq_false] at ha
    obtain ⟨x, hx, hne⟩ := ha
    exact ⟨x, (mem_elems (set_i64 v s.lt)).1 hx, fun hh => hne (by rw [hh]; rfl)⟩
  obtain ⟨x, hx, hne⟩ := hex
  obtain ⟨m, ⟨m0, mE, mp⟩, hmin⟩ := least_of (fun z => 0 < z ∧ z < expN g ∧ 0 < coeN g h k z) (chN g k x) ⟨by omega, chN_lt v k x, coe_in v s hx⟩
  have st := fun z hz j => coe_step v s k mp (z := z) hz j
  have hr := Nat.mod_lt (expN g) m0
  have he := Nat.div_add_mod (expN g) m
  have hd : expN g % m = 0 := by
    refine Decidable.byContradiction fun hc => ?_
    have h1 := st 0 (by omega) (expN g / m + 1)
    have e : 0 + (expN g / m + 1) * m = expN g + (m - expN g % m) := by
      rw [Nat.succ_mul, Nat.mul_comm]
      omega
    rw [e, Nat.add_mod_left, Nat.mod_eq_of_lt (show m - expN g % m < expN g by omega)] at h1
    exact hmin (m - expN g % m) (by omega) ⟨by omega, by omega, by omega⟩
  refine ⟨m, m0, mE, hd, fun z hz => ?_⟩
  have hzr := Nat.mod_lt z m0
  have hze := Nat.div_add_mod z m
  by_cases hc : z % m = 0
  · rw [if_pos hc]
    have h1 := st 0 (by omega) (z / m)
    have e : 0 + z / m * m = z := by
      rw [Nat.mul_comm]
      omega
    rw [e, Nat.mod_eq_of_lt hz] at h1
    exact h1
  · rw [if_neg hc]
    refine Decidable.byContradiction fun hp => ?_
    have hle : z / m ≤ expN g / m := Nat.div_le_div_right (by omega)
    have h1 := st z hz (expN g / m - z / m)
    have hmul : m * (z / m) ≤ m * (expN g / m) := Nat.mul_le_mul_left m hle
    have e : z + (expN g / m - z / m) * m = expN g + z % m := by
      rw [Nat.mul_comm, Nat.mul_sub]
      omega
    rw [e, Nat.add_mod_left, Nat.mod_eq_of_lt (show z % m < expN g by omega)] at h1
    exact hmin (z % m) hzr ⟨by omega, by omega, by omega⟩
def vanE (E : Nat) : Bool := (List.range E).all fun m => Nat.beq m 0 || (!Nat.beq (E % m) 0 || (List.range (24 / (E / m) + 1)).all fun c => zeroV (natsI (rowN E fun z => if z % m = 0 then c else 0)))
theorem van_a : (List.range' 0 13).all vanE = true := by decide +kernel
theorem van_b : (List.range' 13 6).all vanE = true := by decide +kernel
theorem van_c : (List.range' 19 3).all vanE = true := by decide +kernel
theorem van_d : (List.range' 22 2).all vanE = true := by decide +kernel
theorem van_e : (List.range' 24 1).all vanE = true := by decide +kernel
theorem van_at {E : Nat} (h : E ≤ 24) : vanE E = true := by
  by_cases h1 : E < 13
  · exact List.all_eq_true.1 van_a E (by rw [List.mem_range'_1]; omega)
  · by_cases h2 : E < 19
    · exact List.all_eq_true.1 van_b E (by rw [List.mem_range'_1]; omega)
    · by_cases h3 : E < 22
      · exact List.all_eq_true.1 van_c E (by rw [List.mem_range'_1]; omega)
      · by_cases h4 : E < 24
        · exact List.all_eq_true.1 van_d E (by rw [List.mem_range'_1]; omega)
        · exact List.all_eq_true.1 van_e E (by rw [List.mem_range'_1]; omega)
theorem cnt_all : ((List.range 25).all fun E => (List.range E).all fun m => Nat.beq m 0 || (!Nat.beq (E % m) 0 || Nat.beq ((List.range E).map fun z => if z % m = 0 then 1 else 0).sum (E / m))) = true := by decide +kernel
theorem nov_all : ((List.range 25).all fun E => Nat.beq E 0 || (List.range 25).all fun c => Nat.beq c 0 || !zeroV (natsI (rowN E fun z => if z = 0 then c else 0))) = true := by decide +kernel
theorem pop24S {g : List Nat} {h : Nat} (v : VG g) (s : Subg g h) : popN h ≤ 24 := by
  have h2 := ann_size v s
  have h3 := v.ord
  have h4 := ordN_pos v.each
  have h5 : popN h ≤ popN (annN g h) * popN h := by
    rcases Nat.eq_zero_or_pos (popN (annN g h)) with hz | hz
    · rw [hz, Nat.zero_mul] at h2; omega
    · exact Nat.le_mul_of_pos_left _ hz
  omega
theorem coe_24 {g : List Nat} {h : Nat} (v : VG g) (s : Subg g h) (k z : Nat) : coeN g h k z ≤ 24 := by
  rw [coe_eq]
  have h1 : (elems h).countP (fun x => decide (chN g k x = z)) ≤ (elems h).length := List.countP_le_length
  rw [elems_pop] at h1
  exact Nat.le_trans h1 (pop24S v s)
theorem zero_sub {g : List Nat} {h : Nat} (v : VG g) (s : Subg g h) (k : Nat) : zeroV (natsI (rowN (expN g) (coeN g h k))) = !annP g h k := by
  obtain ⟨E1, E24⟩ := exp24 v
  cases ha : annP g h k with
  | true =>
    have hall := (annP_iff v s.lt k).1 ha
    have c1 := coe_24 v s k 0
    have hz0 : 0 < coeN g h k 0 := by
      have := coe_in (k := k) v s s.zero
      rw [chN_zero v] at this
      exact this
    have e : rowN (expN g) (coeN g h k) = rowN (expN g) fun z => if z = 0 then coeN g h k 0 else 0 := by
      apply rowN_congr
      intro z _
      by_cases hc : z = 0
      · rw [if_pos hc, hc]
      · rw [if_neg hc]
        refine Decidable.byContradiction fun hp => ?_
        obtain ⟨x, hx, ex⟩ := coe_of (z := z) (k := k) v s (by omega)
        rw [hall x hx] at ex
        exact hc ex.symm
    rw [e]
    have h1 := List.all_eq_true.1 nov_all (expN g) (List.mem_range.2 (by omega))
    rw [Bool.or_eq_true] at h1
    rcases h1 with h1 | h1
    · have := Nat.eq_of_beq_eq_true h1; omega
    · have h2 := List.all_eq_true.1 h1 (coeN g h k 0) (List.mem_range.2 (by omega))
      rw [Bool.or_eq_true] at h2
      rcases h2 with h2 | h2
      · have := Nat.eq_of_beq_eq_true h2; omega
      · simpa using h2
  | false =>
    obtain ⟨m, m0, mE, hd, hall⟩ := coe_even v s k ha
    have c1 := coe_24 v s k 0
    have e : rowN (expN g) (coeN g h k) = rowN (expN g) fun z => if z % m = 0 then coeN g h k 0 else 0 := rowN_congr fun z hz => hall z hz
    have hsum := coe_sum v h k
    have h24 := pop24S v s
    rw [e] at hsum ⊢
    have hc : expN g / m * coeN g h k 0 ≤ 24 := by
      have h1 := List.all_eq_true.1 cnt_all (expN g) (List.mem_range.2 (by omega))
      have h2 := List.all_eq_true.1 h1 m (List.mem_range.2 mE)
      rw [Bool.or_eq_true, Bool.or_eq_true] at h2
      rcases h2 with h2 | h2 | h2
      · have := Nat.eq_of_beq_eq_true h2; omega
      · rw [hd] at h2; cases h2
      · have h3 := Nat.eq_of_beq_eq_true h2
        rw [← h3, ← sumM_mul]
        have e4 : ((List.range (expN g)).map fun z => (if z % m = 0 then 1 else 0) * coeN g h k 0).sum = (rowN (expN g) fun z => if z % m = 0 then coeN g h k 0 else 0).sum := by
          unfold rowN
          refine sumM_congr fun z _ => ?_
          by_cases hz : z % m = 0
          · rw [if_pos hz, if_pos hz, Nat.one_mul]
          · rw [if_neg hz, if_neg hz, Nat.zero_mul]
        rw [e4, hsum]
        exact h24
    have hq : 1 ≤ expN g / m := (Nat.le_div_iff_mul_le m0).2 (by omega)
    have hc2 : coeN g h k 0 ≤ 24 / (expN g / m) := (Nat.le_div_iff_mul_le hq).2 (by rw [Nat.mul_comm]; exact hc)
    have h2 := List.all_eq_true.1 (van_at E24) m (List.mem_range.2 mE)
    rw [Bool.or_eq_true, Bool.or_eq_true] at h2
    rcases h2 with h2 | h2 | h2
    · have := Nat.eq_of_beq_eq_true h2; omega
    · rw [hd] at h2; cases h2
    · exact List.all_eq_true.1 h2 (coeN g h k 0) (List.mem_range.2 (by omega))
theorem s_AddElements_eq {g : List Nat} (v : VG g) {a b : Nat} (ha : a < ordN g) (hb : b < ordN g) : f_s_AddElements (ints (natsI g)) (a : Int) (b : Int) = some ((addN g a b : Nat) : Int) := by
  have o24 := v.ord
  have h1 : hasG (natsI g) (a : Int) = true := (v.has _).2 ⟨a, rfl, ha⟩
  have h2 : hasG (natsI g) (b : Int) = true := (v.has _).2 ⟨b, rfl, hb⟩
  simp only [f_s_AddElements, f_s_AddElements_k, s_l2Is_eq _ _ v.lim, h1, h2, bo_some, Bool.not_true, BEq.rfl, br_true, br_false, s_l2Add_eq v (show a < 4611686018427387904 by omega) (show b < 4611686018427387904 by omega)]
theorem l_total_nat (l : List Nat) (hl : l.length ≤ 1000) (hs : l.sum ≤ 1000000) : f_l_total (ints (natsI l)) = some ((l.sum : Nat) : Int) := by
  have le : ∀ k, (l.take k).sum ≤ l.sum := fun k => by
    have h := congrArg List.sum (List.take_append_drop k l)
    rw [List.sum_append] at h
    omega
  have step : ∀ k, k < l.length → (l.take (k + 1)).sum = (l.take k).sum + l.getD k 0 := fun k hk => by
    rw [List.take_succ_eq_append_getElem hk, List.sum_append]
    simp [List.getD, List.getElem?_eq_getElem hk]
  have key := loop_count (rd := f_l_total_r0 (ints (natsI l))) (fun k => (((l.take k).sum : Nat), (k : Int))) l.length (a := (((l.take l.length).sum : Nat) : Int)) (fun k hk => by
    have h1 := le (k + 1)
    rw [step k hk] at h1
    simp only [f_l_total_r0, f_l_total_k0, ints_length, natsI_length, lt_dec hk, ok_natsI hk, at_natsI, br_true, w64_nat (show k < 9223372036854775807 by omega), ← Int.natCast_add, w64_cast (show (l.take k).sum + l.getD k 0 < 9223372036854775808 by omega), step k hk]) (by
    simp only [f_l_total_r0, f_l_total_k0, ints_length, natsI_length, lt_dec_self, br_false]) 0 (Nat.zero_le _)
  rw [List.take_length] at key
  have key' : loopL (f_l_total_r0 (ints (natsI l))) (0, 0) = some (.one ((l.sum : Nat) : Int)) := key
  simp only [f_l_total, f_l_total_k, key', bl1_one]
theorem l3Set_ok {x0 : List Int} {c : List Sc × Int × Int} (hc : Cur x0 c) (G : List Int) (hG : G.length ≤ lim) : ∃ r c', f_s_l3Set_io (ints G) c.1 c.2.1 c.2.2 = some (r, c') ∧ Cur x0 c' := by
  have hO := ordG_range G
  have hif : (if ordG G > 1 then ordG G else 1) ≤ 256 := by split <;> omega
  have hif0 : decide ((if ordG G > 1 then ordG G else 1) < 0) = false := decide_eq_false (by split <;> omega)
  obtain ⟨n, c1, e1, h1, hn0, hn1, _⟩ := l1Below_ok hc 6 (by decide)
  obtain ⟨n, rfl⟩ : ∃ k : Nat, n = k := ⟨n.toNat, by omega⟩
  have hn : n < 6 := by have := hn1 (by decide); omega
  have key := loop_ex (rd := f_s_l3Set_io_r0 (if ordG G > 1 then ordG G else 1)) (fun m s => ∃ (d : List Sc × Int × Int) (a : Int), s = (d.1, d.2.1, d.2.2, a, (m : Int)) ∧ Cur x0 d ∧ m < 6)
    (fun r => ∃ (d : List Sc × Int × Int) (a : Int), r = (d.1, d.2.1, d.2.2, a) ∧ Cur x0 d) (fun m s hs => by
      obtain ⟨d, a, rfl, hd, hm⟩ := hs
      obtain ⟨y, d1, f1, g1, hy, _⟩ := l1Below_ok hd (if ordG G > 1 then ordG G else 1) hif
      have hpos : decide (((m + 1 : Nat) : Int) > 0) = true := decide_eq_true (by omega)
      have hw : w64 (((m + 1 : Nat) : Int) - 1) = (m : Int) := by rw [show ((m + 1 : Nat) : Int) - 1 = (m : Int) by omega]; exact w64_cast (by omega)
      have hy0 : decide (y < 0) = false := decide_eq_false (by omega)
      simp only [f_s_l3Set_io_r0, f_s_l3Set_io_k0, hpos, br_true, f1, bo_some, hy0, br_false, hw]
      exact ⟨_, rfl, d1, _, rfl, g1, by omega⟩)
    (fun s hs => by
      obtain ⟨d, a, rfl, hd, hm⟩ := hs
      have hpos : decide (((0 : Nat) : Int) > 0) = false := by decide
      simp only [f_s_l3Set_io_r0, f_s_l3Set_io_k0, hpos, br_false]
      exact ⟨_, rfl, d, a, rfl, hd⟩) n (c1.1, c1.2.1, c1.2.2, 0, (n : Int)) ⟨c1, 0, rfl, h1, hn⟩
  obtain ⟨r, ek, d, a, rfl, hd⟩ := key
  obtain ⟨q, d1, f1, g1, _⟩ := l1Below_ok hd 20 (by decide)
  obtain ⟨k, d2, f2, g2, _⟩ := l1PickInt_ok g1 [-1, 16777216, 9223372036854775807] (by decide) (by decide)
  have f2' : f_s_l1PickInt_io [(Sc.n .i64 (-1)), (Sc.n .i64 16777216), (Sc.n .i64 9223372036854775807)] d1.1 d1.2.1 d1.2.2 = _ := f2
  simp only [f_s_l3Set_io, f_s_l3Set_io_k, s_OrderOf_eq G hG, bo_some, e1, ek, bl1_one, f1, f2', hif0, br_false]
  cases (q == 0) with
  | true => exact ⟨_, _, rfl, ⟨g1.row, g1.low, g1.len⟩⟩
  | false =>
    cases (q == 1) with
    | true => exact ⟨_, _, rfl, ⟨g2.row, g2.low, g2.len⟩⟩
    | false => exact ⟨_, _, rfl, ⟨g1.row, g1.low, g1.len⟩⟩
end Go.Proofs.Ytonjcafobhpfdaa
