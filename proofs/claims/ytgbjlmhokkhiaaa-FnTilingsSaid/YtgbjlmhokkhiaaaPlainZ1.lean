/-
  The plain side, joined.
-/
import Derived.Test.YtgbjlmhokkhiaaaShal
import Derived.Test.YtgbjlmhokkhiaaaVOpen
import Derived.Test.YtgbjlmhokkhiaaaVSort
set_option linter.unusedVariables false
set_option linter.unusedSimpArgs false
namespace Go.Proofs.Ytgbjlmhokkhiaaa
open Go Ev
section
variable {S A B : Type} {rd : S → Option (Ro S A B)}
theorem loop_count (st : Nat → S) (n : Nat) {a : A} (h : ∀ k, k < n → rd (st k) = some (.again (st (k + 1)))) (he : rd (st n) = some (.one a)) (k : Nat) (hk : k ≤ n) : loopL rd (st k) = some (.one a) := by
  obtain ⟨d, rfl⟩ : ∃ d, n = k + d := ⟨n - k, by omega⟩
  clear hk
  induction d generalizing k with
  | zero => exact loopL_one he
  | succ d ih =>
    rw [loopL_again (h k (by omega))]
    have e : k + 1 + d = k + (d + 1) := by omega
    exact ih (k + 1) (by rw [e]; exact h) (by rw [e]; exact he)
theorem loop_find (st : Nat → S) (n : Nat) (p : Nat → Bool) (two : Nat → B) {a : A} (h : ∀ k, k < n → rd (st k) = if p k then some (.two (two k)) else some (.again (st (k + 1)))) (he : rd (st n) = some (.one a)) :
    loopL rd (st 0) = match (List.range n).find? p with
      | some k => some (.two (two k))
      | none => some (.one a) := by
  have key : ∀ d k, k + d = n → loopL rd (st k) = match (List.range' k d).find? p with
      | some k => some (.two (two k))
      | none => some (.one a) := by
    intro d
    induction d with
    | zero => intro k hk; rw [show k = n by omega]; exact loopL_one he
    | succ d ih =>
      intro k hk
      rw [List.range'_succ, List.find?_cons]
      have := h k (by omega)
      cases hp : p k with
      | true => rw [hp] at this; exact loopL_two this
      | false =>
        rw [hp] at this
        rw [loopL_again this]
        exact ih (k + 1) (by omega)
  rw [List.range_eq_range']
  exact key n 0 (by omega)
end
theorem w64_nat {k : Nat} (h : k < 9223372036854775807) : w64 ((k : Int) + 1) = ((k + 1 : Nat) : Int) := by
  rw [w64_in] <;> omega
theorem lim_lt {n : Nat} (h : n ≤ lim) : n < 9223372036854775807 := by unfold lim at h; omega
section
variable {T A B : Type}
theorem loop_fold {rd : T × Int → Option (Ro (T × Int) A B)} (L : List Int) (f : T → Int → T) (g : T → A) (t0 : T)
    (h : ∀ (k : Nat) t, k < L.length → rd (t, (k : Int)) = some (.again (f t (L.getD k 0), ((k + 1 : Nat) : Int))))
    (he : ∀ t, rd (t, (L.length : Int)) = some (.one (g t))) : loopL rd (t0, 0) = some (.one (g (L.foldl f t0))) := by
  have key := loop_count (rd := rd) (fun k => ((L.take k).foldl f t0, (k : Int))) L.length (a := g (L.foldl f t0)) (fun k hk => by
    show rd ((L.take k).foldl f t0, (k : Int)) = _
    rw [h k _ hk]
    have : (L.take (k + 1)).foldl f t0 = f ((L.take k).foldl f t0) (L.getD k 0) := by
      rw [List.take_succ_eq_append_getElem hk, List.foldl_append]
      simp [List.getD, List.getElem?_eq_getElem hk]
    rw [this]) (by show rd ((L.take L.length).foldl f t0, (L.length : Int)) = _; rw [he, List.take_length]) 0 (Nat.zero_le _)
  simpa using key
end
theorem br_eq {α : Type} (t : Bool) (x y : α) : br t x y = if t = true then x else y := by cases t <;> rfl
theorem lt_dec {k n : Nat} (h : k < n) : decide ((k : Int) < (n : Int)) = true := by simpa using h
theorem lt_dec_self (n : Nat) : decide ((n : Int) < (n : Int)) = false := by simp
theorem ok_nat {L : List Int} {k : Nat} (h : k < L.length) : okAt (ints L) (k : Int) = true := by rw [okAt_ints, inRange_nat]; simpa using h
theorem at_nat (L : List Int) (k : Nat) : atI (ints L) (k : Int) = L.getD k 0 := by rw [atI_ints]; simp
section
variable {T A B : Type}
theorem loop_foldx {rd : T × Int → Option (Ro (T × Int) A B)} (L : List Int) (f : T → Int → T) (p : Nat → Int → Bool) (g : T → A) (b : B) (t0 : T)
    (h : ∀ (k : Nat) t, k < L.length → rd (t, (k : Int)) = if p k (L.getD k 0) then some (.two b) else some (.again (f t (L.getD k 0), ((k + 1 : Nat) : Int))))
    (he : ∀ t, rd (t, (L.length : Int)) = some (.one (g t))) :
    loopL rd (t0, 0) = if (List.range L.length).any (fun k => p k (L.getD k 0)) then some (.two b) else some (.one (g (L.foldl f t0))) := by
  have key := loop_find (rd := rd) (fun k => ((L.take k).foldl f t0, (k : Int))) L.length (fun k => p k (L.getD k 0)) (fun _ => b) (a := g (L.foldl f t0)) (fun k hk => by
    show rd ((L.take k).foldl f t0, (k : Int)) = _
    rw [h k _ hk]
    have : (L.take (k + 1)).foldl f t0 = f ((L.take k).foldl f t0) (L.getD k 0) := by
      rw [List.take_succ_eq_append_getElem hk, List.foldl_append]
      simp [List.getD, List.getElem?_eq_getElem hk]
    rw [this]) (by show rd ((L.take L.length).foldl f t0, (L.length : Int)) = _; rw [he, List.take_length])
  simp only [List.take_zero, List.foldl_nil] at key
  have e0 : (((0 : Nat) : Int)) = 0 := rfl
  rw [e0] at key
  rw [key]
  cases hf : (List.range L.length).find? (fun k => p k (L.getD k 0)) with
  | none =>
    rw [List.find?_eq_none] at hf
    have : (List.range L.length).any (fun k => p k (L.getD k 0)) = false := by
      rw [List.any_eq_false]
      exact hf
    rw [this]
    rfl
  | some k =>
    have h1 := List.mem_of_find?_eq_some hf
    have h2 := List.find?_some hf
    have : (List.range L.length).any (fun k => p k (L.getD k 0)) = true := List.any_eq_true.2 ⟨k, h1, h2⟩
    rw [this]
    rfl
end
theorem range_any (L : List Int) (p : Int → Bool) : (List.range L.length).any (fun k => p (L.getD k 0)) = L.any p := by
  rw [Bool.eq_iff_iff, List.any_eq_true, List.any_eq_true]
  constructor
  · rintro ⟨k, hk, hp⟩
    have hk' : k < L.length := List.mem_range.1 hk
    refine ⟨L[k], List.getElem_mem hk', ?_⟩
    simpa [List.getD, List.getElem?_eq_getElem hk'] using hp
  · rintro ⟨x, hx, hp⟩
    obtain ⟨k, hk, rfl⟩ := List.getElem_of_mem hx
    exact ⟨k, List.mem_range.2 hk, by simpa [List.getD, List.getElem?_eq_getElem hk] using hp⟩
def inB (x lo hi : Int) : Bool := decide (x ≥ lo) && decide (x ≤ hi)
theorem s_l1In_eq (x lo hi : Int) : f_s_l1In x lo hi = some (inB x lo hi) := by
  simp only [f_s_l1In, f_s_l1In_k, inB]
  cases decide (x ≥ lo) <;> rfl
theorem i_within_eq (x lo hi : Int) : f_i_within x lo hi = some (inB x lo hi) := by
  simp only [f_i_within, f_i_within_k, inB]
  cases decide (x ≥ lo) <;> rfl
def prodW (G : List Int) : Int := G.foldl (fun n o => w64 (n * o)) 1
def isG (G : List Int) : Bool := decide (G.length ≤ 3) && (G.all (fun o => inB o 2 24) && decide (prodW G ≤ 24))
theorem s_IsGroup_eq (G : List Int) (h : G.length ≤ lim) : f_s_IsGroup (ints G) = some (isG G) := by
  have hl := lim_lt h
  have key := loop_foldx (rd := f_s_IsGroup_r0 (ints G)) G (fun n o => w64 (n * o)) (fun k o => !inB o 2 24 || decide (k > 2)) id () 1 (fun k t hk => by
    simp only [f_s_IsGroup_r0, f_s_IsGroup_k0, ints_length, lt_dec hk, ok_nat hk, at_nat, br_true, w64_nat (by omega : k < 9223372036854775807), s_l1In_eq, bo_some]
    generalize inB (G.getD k 0) 2 24 = t1
    by_cases e : k > 2 <;> cases t1 <;> simp [br_eq, e] <;> omega)
    (fun t => by simp only [f_s_IsGroup_r0, f_s_IsGroup_k0, ints_length, lt_dec_self, br_false, id])
  simp only [f_s_IsGroup, f_s_IsGroup_k, key]
  have e : (List.range G.length).any (fun k => !inB (G.getD k 0) 2 24 || decide (k > 2)) = (G.any (fun o => !inB o 2 24) || decide (G.length > 3)) := by
    rw [← range_any G (fun o => !inB o 2 24), Bool.eq_iff_iff, Bool.or_eq_true, List.any_eq_true, List.any_eq_true, decide_eq_true_eq]
    constructor
    · rintro ⟨k, hk, hp⟩
      rw [Bool.or_eq_true, decide_eq_true_eq] at hp
      rcases hp with hp | hp
      · exact .inl ⟨k, hk, hp⟩
      · have := List.mem_range.1 hk
        exact .inr (by omega)
    · rintro (⟨k, hk, hp⟩ | hp)
      · exact ⟨k, hk, by rw [hp]; rfl⟩
      · exact ⟨3, List.mem_range.2 (by omega), by simp⟩
  rw [e]
  have e2 : G.all (fun o => inB o 2 24) = !G.any (fun o => !inB o 2 24) := by rw [List.all_eq_not_any_not]
  unfold isG
  rw [e2]
  unfold prodW
  by_cases h3 : G.length ≤ 3
  · have : ¬ G.length > 3 := by omega
    cases G.any (fun o => !inB o 2 24) <;> simp [h3, this, bl_one, bl_two]
  · have : G.length > 3 := by omega
    cases G.any (fun o => !inB o 2 24) <;> simp [h3, this, bl_one, bl_two]
theorem i_IsGroup_eq (G : List Int) (h : G.length ≤ lim) : f_i_IsGroup (ints G) = some (isG G) := by
  have hl := lim_lt h
  have key := loop_foldx (rd := f_i_IsGroup_r0 (ints G) (G.length : Int)) G (fun n o => w64 (n * o)) (fun _ o => !inB o 2 24) id () 1 (fun k t hk => by
    simp only [f_i_IsGroup_r0, f_i_IsGroup_k0, ints_length, lt_dec hk, ok_nat hk, at_nat, br_true, w64_nat (by omega : k < 9223372036854775807), i_within_eq, bo_some]
    cases inB (G.getD k 0) 2 24 <;> rfl)
    (fun t => by simp only [f_i_IsGroup_r0, f_i_IsGroup_k0, ints_length, lt_dec_self, br_false, id])
  simp only [f_i_IsGroup, f_i_IsGroup_k, ints_length, key]
  rw [range_any G (fun o => !inB o 2 24)]
  have e2 : G.all (fun o => inB o 2 24) = !G.any (fun o => !inB o 2 24) := by rw [List.all_eq_not_any_not]
  unfold isG
  rw [e2]
  unfold prodW
  by_cases h3 : G.length ≤ 3
  · have h4 : decide ((G.length : Int) > 3) = false := by simp; omega
    rw [h4]
    cases G.any (fun o => !inB o 2 24) <;> simp [h3, bl_one, bl_two, br_false]
  · have h4 : decide ((G.length : Int) > 3) = true := by simp; omega
    rw [h4]
    simp [h3, br_true]
theorem s_l2Order_eq (G : List Int) (h : G.length ≤ lim) : f_s_l2Order (ints G) = some (prodW G) := by
  have hl := lim_lt h
  have key := loop_fold (rd := f_s_l2Order_r0 (ints G)) G (fun n o => w64 (n * o)) id 1 (fun k t hk => by
    simp only [f_s_l2Order_r0, f_s_l2Order_k0, ints_length, lt_dec hk, ok_nat hk, at_nat, br_true, w64_nat (by omega : k < 9223372036854775807)])
    (fun t => by simp only [f_s_l2Order_r0, f_s_l2Order_k0, ints_length, lt_dec_self, br_false, id])
  simp only [f_s_l2Order, f_s_l2Order_k, key, bl1_one, id, prodW]
def ordG (G : List Int) : Int := if isG G then prodW G else 0
theorem s_OrderOf_eq (G : List Int) (h : G.length ≤ lim) : f_s_OrderOf (ints G) = some (ordG G) := by
  simp only [f_s_OrderOf, f_s_OrderOf_k, s_IsGroup_eq G h, bo_some, s_l2Order_eq G h, ordG]
  cases isG G <;> rfl
theorem i_OrderOf_eq (G : List Int) (h : G.length ≤ lim) : f_i_OrderOf (ints G) = some (ordG G) := by
  have hl := lim_lt h
  have key := loop_fold (rd := f_i_OrderOf_r0 (ints G) (G.length : Int)) G (fun n o => w64 (n * o)) id 1 (fun k t hk => by
    simp only [f_i_OrderOf_r0, f_i_OrderOf_k0, ints_length, lt_dec hk, ok_nat hk, at_nat, br_true, w64_nat (by omega : k < 9223372036854775807)])
    (fun t => by simp only [f_i_OrderOf_r0, f_i_OrderOf_k0, ints_length, lt_dec_self, br_false, id])
  simp only [f_i_OrderOf, f_i_OrderOf_k, i_IsGroup_eq G h, bo_some, ordG, ints_length, key, bl1_one]
  cases isG G <;> rfl
theorem isG_spec {G : List Int} (h : isG G = true) : G.length ≤ 3 ∧ (∀ o ∈ G, 2 ≤ o ∧ o ≤ 24) ∧ prodW G ≤ 24 := by
  unfold isG at h
  simp only [Bool.and_eq_true, decide_eq_true_eq, List.all_eq_true, inB] at h
  exact ⟨h.1, fun o ho => h.2.1 o ho, h.2.2⟩
theorem prodW_pos {G : List Int} (h : isG G = true) : 1 ≤ prodW G := by
  obtain ⟨h1, h2, _⟩ := isG_spec h
  have w : ∀ x : Int, 1 ≤ x → x ≤ 20000 → w64 x = x := fun x a b => w64_in (by omega) (by omega)
  match G, h1, h2 with
  | [], _, _ => decide
  | [a], _, h2 =>
    have ha := h2 a (by simp)
    simp only [prodW, List.foldl, Int.one_mul]
    rw [w a (by omega) (by omega)]
    omega
  | [a, b], _, h2 =>
    have ha := h2 a (by simp)
    have hb := h2 b (by simp)
    simp only [prodW, List.foldl, Int.one_mul]
    have hab : 1 ≤ a * b := Int.le_trans (by decide : (1 : Int) ≤ 2 * 2) (Int.mul_le_mul ha.1 hb.1 (by decide) (by omega))
    have hab2 : a * b ≤ 24 * 24 := Int.mul_le_mul ha.2 hb.2 (by omega) (by decide)
    rw [w a (by omega) (by omega), w (a * b) hab (by omega)]
    exact hab
  | [a, b, c], _, h2 =>
    have ha := h2 a (by simp)
    have hb := h2 b (by simp)
    have hc := h2 c (by simp)
    simp only [prodW, List.foldl, Int.one_mul]
    have hab : 1 ≤ a * b := Int.le_trans (by decide : (1 : Int) ≤ 2 * 2) (Int.mul_le_mul ha.1 hb.1 (by decide) (by omega))
    have hab2 : a * b ≤ 24 * 24 := Int.mul_le_mul ha.2 hb.2 (by omega) (by decide)
    have habc : 1 ≤ a * b * c := Int.le_trans (by decide : (1 : Int) ≤ 1 * 2) (Int.mul_le_mul hab hc.1 (by decide) (by omega))
    have habc2 : a * b * c ≤ 24 * 24 * 24 := Int.mul_le_mul hab2 hc.2 (by omega) (by decide)
    rw [w a (by omega) (by omega), w (a * b) hab (by omega), w _ habc (by omega)]
    exact habc
  | _ :: _ :: _ :: _ :: _, h1, _ => simp at h1
theorem ordG_range (G : List Int) : 0 ≤ ordG G ∧ ordG G ≤ 24 := by
  unfold ordG
  cases h : isG G with
  | false => simp
  | true =>
    have h1 := prodW_pos h
    have h2 := (isG_spec h).2.2
    simp only [if_true]
    omega
def hasG (G : List Int) (x : Int) : Bool := decide (x ≥ 0) && decide (x < ordG G)
theorem s_l2Is_eq (G : List Int) (x : Int) (h : G.length ≤ lim) : f_s_l2Is (ints G) x = some (hasG G x) := by
  simp only [f_s_l2Is, f_s_l2Is_k, s_OrderOf_eq G h, bo_some, hasG]
  cases decide (x ≥ 0) <;> rfl
section
variable {S A B : Type} {rd : S → Option (Ro S A B)}
theorem loop_any (st : Nat → S) (n : Nat) (p : Nat → Bool) {a : A} {b : B} (h : ∀ k, k < n → rd (st k) = if p k then some (.two b) else some (.again (st (k + 1)))) (he : rd (st n) = some (.one a)) :
    loopL rd (st 0) = if (List.range n).any p then some (.two b) else some (.one a) := by
  rw [loop_find st n p (fun _ => b) h he]
  cases hf : (List.range n).find? p with
  | none =>
    rw [List.find?_eq_none] at hf
    have : (List.range n).any p = false := List.any_eq_false.2 hf
    rw [this]
    rfl
  | some k =>
    have : (List.range n).any p = true := List.any_eq_true.2 ⟨k, List.mem_of_find?_eq_some hf, List.find?_some hf⟩
    rw [this]
    rfl
end
theorem w64_cast {n : Nat} (h : n < 9223372036854775808) : w64 (n : Int) = n := w64_in (by omega) (by omega)
theorem ofInt_cast {n : Nat} (h : n < 9223372036854775808) : (BitVec.ofInt 64 (n : Int)).toNat = n := by
  simp [BitVec.toNat_ofInt]
  omega
theorem wrap_cast {n : Nat} (h : n < 9223372036854775808) : IntKind.i64.wrap (n : Int) = n := w64_cast h
theorem and64_nat {a b : Nat} (ha : a < 9223372036854775808) (hb : b < 9223372036854775808) : and64 (a : Int) (b : Int) = ((a &&& b : Nat) : Int) := by
  have : (BitVec.ofInt 64 (a : Int) &&& BitVec.ofInt 64 (b : Int)).toNat = a &&& b := by rw [BitVec.toNat_and, ofInt_cast ha, ofInt_cast hb]
  show IntKind.i64.wrap ((BitVec.ofInt 64 (a : Int) &&& BitVec.ofInt 64 (b : Int)).toNat : Int) = _
  rw [this, wrap_cast (Nat.lt_of_le_of_lt Nat.and_le_left ha)]
theorem or64_nat {a b : Nat} (ha : a < 9223372036854775808) (hb : b < 9223372036854775808) : or64 (a : Int) (b : Int) = ((a ||| b : Nat) : Int) := by
  have : (BitVec.ofInt 64 (a : Int) ||| BitVec.ofInt 64 (b : Int)).toNat = a ||| b := by rw [BitVec.toNat_or, ofInt_cast ha, ofInt_cast hb]
  show IntKind.i64.wrap ((BitVec.ofInt 64 (a : Int) ||| BitVec.ofInt 64 (b : Int)).toNat : Int) = _
  rw [this, wrap_cast (Nat.or_lt_two_pow (n := 63) ha hb)]
theorem shl64_nat {a k : Nat} (hk : k ≤ 63) (h : a * 2 ^ k < 9223372036854775808) : shl64 (a : Int) (k : Int) = ((a * 2 ^ k : Nat) : Int) := by
  unfold shl64
  have e : min (k : Int).toNat IntKind.i64.bits = k := by
    rw [Int.toNat_natCast]
    exact Nat.min_eq_left (by show k ≤ 64; omega)
  rw [e, show ((a : Int) * 2 ^ k) = ((a * 2 ^ k : Nat) : Int) by push_cast; rfl]
  exact w64_cast h
theorem shl1_nat {k : Nat} (h : k ≤ 62) : shl64 1 (k : Int) = ((2 ^ k : Nat) : Int) := by
  have h2 : 2 ^ k ≤ 2 ^ 62 := Nat.pow_le_pow_right (by decide) h
  have := shl64_nat (a := 1) (k := k) (by omega) (by omega)
  simpa using this
theorem shr64_nat {a k : Nat} (ha : a < 9223372036854775808) : shr64 (a : Int) (k : Int) = ((a >>> k : Nat) : Int) := by
  unfold shr64
  rw [Int.toNat_natCast]
  have h2 : (2 : Int) ^ (min k IntKind.i64.bits) = ((2 ^ (min k 64) : Nat) : Int) := by push_cast; rfl
  rw [h2, Int.fdiv_eq_ediv_of_nonneg _ (Int.natCast_nonneg _), ← Int.natCast_ediv, Nat.shiftRight_eq_div_pow]
  congr 1
  by_cases hk : k ≤ 64
  · rw [Nat.min_eq_left hk]
  · rw [Nat.min_eq_right (by omega), Nat.div_eq_of_lt (by have : (9223372036854775808 : Nat) ≤ 2 ^ 64 := by decide
                                                          omega), Nat.div_eq_of_lt]
    have : (2 : Nat) ^ 64 ≤ 2 ^ k := Nat.pow_le_pow_right (by decide) (by omega)
    have h3 : (9223372036854775808 : Nat) ≤ 2 ^ 64 := by decide
    omega
theorem bit_test {a k : Nat} (ha : a < 9223372036854775808) : (and64 (shr64 (a : Int) (k : Int)) 1 == 1) = a.testBit k := by
  rw [shr64_nat ha, show (1 : Int) = ((1 : Nat) : Int) from rfl, and64_nat (Nat.lt_of_le_of_lt (Nat.shiftRight_le a k) ha) (by decide)]
  rw [Bool.eq_iff_iff]
  simp only [Nat.testBit, bne_iff_ne, beq_iff_eq]
  rw [Nat.and_comm 1]
  have : (a >>> k) &&& 1 = (a >>> k) % 2 := Nat.and_one_is_mod _
  rw [this]
  omega
theorem bit_test0 {a : Nat} (ha : a < 9223372036854775808) : (and64 (a : Int) 1 == 1) = a.testBit 0 := by
  have := bit_test (a := a) (k := 0) ha
  rw [shr64_nat ha] at this
  simpa using this
def elems (a : Nat) : List Nat := (List.range 63).filter fun x => a.testBit x
theorem mem_elems {a x : Nat} (ha : a < 9223372036854775808) : x ∈ elems a ↔ a.testBit x = true := by
  unfold elems
  simp only [List.mem_filter, List.mem_range, and_iff_right_iff_imp]
  intro h
  rcases Nat.lt_or_ge x 63 with hx | hx
  · exact hx
  · have : a < 2 ^ x := Nat.lt_of_lt_of_le ha (by have : (2:Nat) ^ 63 ≤ 2 ^ x := Nat.pow_le_pow_right (by decide) hx
                                                  exact this)
    rw [Nat.testBit_lt_two_pow this] at h
    cases h
def orAll (f : Nat → Nat) (l : List Nat) : Nat := l.foldl (fun o y => o ||| f y) 0
theorem orFold_test (f : Nat → Nat) (l : List Nat) (o z : Nat) : (l.foldl (fun o y => o ||| f y) o).testBit z = (o.testBit z || l.any fun y => (f y).testBit z) := by
  induction l generalizing o with
  | nil => simp
  | cons y l ih => simp only [List.foldl_cons, ih, Nat.testBit_or, List.any_cons, Bool.or_assoc]
theorem orAll_test (f : Nat → Nat) (l : List Nat) (z : Nat) : (orAll f l).testBit z = l.any fun y => (f y).testBit z := by
  unfold orAll
  rw [orFold_test]
  simp
theorem pow_test {k z : Nat} : (2 ^ k).testBit z = decide (k = z) := Nat.testBit_two_pow
theorem orFold_lt {f : Nat → Nat} {n : Nat} : ∀ {l : List Nat} {o : Nat}, o < 2 ^ n → (∀ y ∈ l, f y < 2 ^ n) → l.foldl (fun o y => o ||| f y) o < 2 ^ n
  | [], _, ho, _ => ho
  | y :: l, o, ho, h => orFold_lt (l := l) (Nat.or_lt_two_pow ho (h y (by simp))) fun z hz => h z (by simp [hz])
def natsI (L : List Nat) : List Int := L.map fun (n : Nat) => (n : Int)
theorem natsI_length (L : List Nat) : (natsI L).length = L.length := by simp [natsI]
theorem natsI_getD (L : List Nat) (k : Nat) : (natsI L).getD k 0 = ((L.getD k 0 : Nat) : Int) := by
  unfold natsI
  simp only [List.getD, List.getElem?_map]
  cases L[k]? <;> rfl
def ordN : List Nat → Nat
  | [] => 1
  | n :: r => n * ordN r
structure VG (G : List Nat) : Prop where
  len : G.length ≤ 3
  each : ∀ n ∈ G, 2 ≤ n ∧ n ≤ 24
  ord : ordN G ≤ 24
theorem prodW_nat (G : List Nat) (hlen : G.length ≤ 3) (he : ∀ n ∈ G, 2 ≤ n ∧ n ≤ 24) : prodW (natsI G) = (ordN G : Nat) := by
  have w : ∀ x : Nat, x ≤ 20000 → w64 (x : Int) = x := fun x a => w64_cast (by omega)
  match G, hlen, he with
  | [], _, _ => rfl
  | [a], _, h2 =>
    have ha := h2 a (by simp)
    simp only [prodW, natsI, List.map, List.foldl, Int.one_mul, ordN, Nat.mul_one]
    exact w a (by omega)
  | [a, b], _, h2 =>
    have ha := h2 a (by simp)
    have hb := h2 b (by simp)
    simp only [prodW, natsI, List.map, List.foldl, Int.one_mul, ordN, Nat.mul_one]
    have hab2 : a * b ≤ 24 * 24 := Nat.mul_le_mul ha.2 hb.2
    rw [w a (by omega), ← Int.natCast_mul, w (a * b) (by omega)]
  | [a, b, c], _, h2 =>
    have ha := h2 a (by simp)
    have hb := h2 b (by simp)
    have hc := h2 c (by simp)
    simp only [prodW, natsI, List.map, List.foldl, Int.one_mul, ordN, Nat.mul_one]
    have hab2 : a * b ≤ 24 * 24 := Nat.mul_le_mul ha.2 hb.2
    have habc2 : a * b * c ≤ 24 * 24 * 24 := Nat.mul_le_mul hab2 hc.2
    rw [w a (by omega), ← Int.natCast_mul, w (a * b) (by omega), ← Int.natCast_mul, w _ (by omega), Nat.mul_assoc]
  | _ :: _ :: _ :: _ :: _, h1, _ => simp at h1
theorem nat_of_isG {G : List Int} (h : isG G = true) : ∃ g, G = natsI g ∧ VG g := by
  obtain ⟨h1, h2, h3⟩ := isG_spec h
  have e : G = natsI (G.map Int.toNat) := by
    unfold natsI
    rw [List.map_map]
    conv => lhs; rw [← List.map_id G]
    refine List.map_congr_left fun x hx => ?_
    have := h2 x hx
    show x = ((x.toNat : Nat) : Int)
    omega
  have he : ∀ n ∈ G.map Int.toNat, 2 ≤ n ∧ n ≤ 24 := by
    intro n hn
    obtain ⟨x, hx, rfl⟩ := List.mem_map.1 hn
    have := h2 x hx
    omega
  have hl : (G.map Int.toNat).length ≤ 3 := by simpa using h1
  refine ⟨G.map Int.toNat, e, hl, he, ?_⟩
  have := prodW_nat _ hl he
  rw [← e] at this
  omega
theorem VG.isG {g : List Nat} (h : VG g) : isG (natsI g) = true := by
  unfold Go.Proofs.Ytgbjlmhokkhiaaa.isG
  have := prodW_nat g h.len h.each
  have h3 := h.ord
  simp only [natsI_length, Bool.and_eq_true, decide_eq_true_eq, List.all_eq_true, this]
  refine ⟨h.len, fun x hx => ?_, by omega⟩
  unfold natsI at hx
  obtain ⟨n, hn, rfl⟩ := List.mem_map.1 hx
  have := h.each n hn
  simp only [inB, Bool.and_eq_true, decide_eq_true_eq]
  omega
theorem VG.ordG {g : List Nat} (h : VG g) : ordG (natsI g) = (ordN g : Nat) := by
  unfold Go.Proofs.Ytgbjlmhokkhiaaa.ordG
  rw [h.isG, if_pos rfl, prodW_nat g h.len h.each]
theorem VG.lim {g : List Nat} (h : VG g) : (natsI g).length ≤ lim := by
  rw [natsI_length]
  exact Nat.le_trans h.len (by decide)
theorem ordN_pos {g : List Nat} (h : ∀ n ∈ g, 2 ≤ n ∧ n ≤ 24) : 1 ≤ ordN g := by
  induction g with
  | nil => exact Nat.le_refl _
  | cons n r ih =>
    have := ih fun m hm => h m (by simp [hm])
    have hn := h n (by simp)
    show 1 ≤ n * ordN r
    exact Nat.mul_pos (by omega) this
theorem VG.has {g : List Nat} (h : VG g) (x : Int) : hasG (natsI g) x = true ↔ ∃ n : Nat, x = n ∧ n < ordN g := by
  unfold hasG
  rw [h.ordG]
  simp only [Bool.and_eq_true, decide_eq_true_eq]
  constructor
  · rintro ⟨h1, h2⟩
    exact ⟨x.toNat, by omega, by omega⟩
  · rintro ⟨n, rfl, h2⟩
    omega
def addN : List Nat → Nat → Nat → Nat
  | [], _, _ => 0
  | n :: r, x, y => (x % n + y % n) % n + n * addN r (x / n) (y / n)
theorem addN_comm (g : List Nat) (x y : Nat) : addN g x y = addN g y x := by
  induction g generalizing x y with
  | nil => rfl
  | cons n r ih => simp only [addN, ih (x / n) (y / n), Nat.add_comm (x % n) (y % n)]
theorem addN_lt {g : List Nat} (h : ∀ n ∈ g, 2 ≤ n ∧ n ≤ 24) (x y : Nat) : addN g x y < ordN g := by
  induction g generalizing x y with
  | nil => exact Nat.lt_succ_self 0
  | cons n r ih =>
    have hn := h n (by simp)
    have hr := ih (fun m hm => h m (by simp [hm])) (x / n) (y / n)
    have h1 : (x % n + y % n) % n < n := Nat.mod_lt _ (by omega)
    show (x % n + y % n) % n + n * addN r (x / n) (y / n) < n * ordN r
    have h2 : n * (addN r (x / n) (y / n) + 1) ≤ n * ordN r := Nat.mul_le_mul_left n hr
    rw [Nat.mul_add] at h2
    omega
theorem tmod_nat (x n : Nat) : (x : Int).tmod (n : Int) = ((x % n : Nat) : Int) := rfl
theorem tdiv_nat (x n : Nat) : (x : Int).tdiv (n : Int) = ((x / n : Nat) : Int) := rfl
theorem add_round {n x y z u : Nat} (hn : 2 ≤ n ∧ n ≤ 24) (hx : x < 4611686018427387904) (hy : y < 4611686018427387904) (hz : z < u) (hu : u * n ≤ 1000000) :
    w64 ((x : Int).tdiv (n : Int)) = ((x / n : Nat) : Int) ∧ w64 ((y : Int).tdiv (n : Int)) = ((y / n : Nat) : Int) ∧ w64 ((u : Int) * (n : Int)) = ((u * n : Nat) : Int) ∧
    w64 ((z : Int) + w64 ((w64 ((x : Int).tmod (n : Int) + (y : Int).tmod (n : Int))).tmod (n : Int) * (u : Int))) = ((z + (x % n + y % n) % n * u : Nat) : Int) ∧ z + (x % n + y % n) % n * u < u * n := by
  have h1 : x % n < n := Nat.mod_lt _ (by omega)
  have h2 : y % n < n := Nat.mod_lt _ (by omega)
  have h3 : (x % n + y % n) % n < n := Nat.mod_lt _ (by omega)
  have h4 : ((x % n + y % n) % n + 1) * u ≤ n * u := Nat.mul_le_mul_right u h3
  have h5 : n * u = u * n := Nat.mul_comm n u
  have h6 : ((x % n + y % n) % n + 1) * u = (x % n + y % n) % n * u + u := by rw [Nat.add_mul, Nat.one_mul]
  refine ⟨?_, ?_, ?_, ?_, ?_⟩
  · rw [tdiv_nat, w64_cast (Nat.lt_of_le_of_lt (Nat.div_le_self x n) (by omega))]
  · rw [tdiv_nat, w64_cast (Nat.lt_of_le_of_lt (Nat.div_le_self y n) (by omega))]
  · rw [← Int.natCast_mul, w64_cast (by omega)]
  · rw [tmod_nat, tmod_nat, ← Int.natCast_add, w64_cast (by omega), tmod_nat, ← Int.natCast_mul, w64_cast (by omega), ← Int.natCast_add, w64_cast (by omega)]
  · omega
theorem drop_cons {G : List Nat} {k n : Nat} {r : List Nat} (h : G.drop k = n :: r) : k < G.length ∧ G.getD k 0 = n ∧ G.drop (k + 1) = r := drop_facts h 0
theorem drop_nil {G : List Nat} {k : Nat} (h : G.drop k = []) (hk : k ≤ G.length) : k = G.length := by
  have := List.drop_eq_nil_iff.1 h
  omega
theorem s_l2Add_eq {g : List Nat} (hg : VG g) {x y : Nat} (hx : x < 4611686018427387904) (hy : y < 4611686018427387904) : f_s_l2Add (ints (natsI g)) (x : Int) (y : Int) = some ((addN g x y : Nat) : Int) := by
  have key : ∀ (r : List Nat) (k x y z u : Nat), g.drop k = r → k ≤ g.length → x < 4611686018427387904 → y < 4611686018427387904 → z < u → u * ordN r ≤ 1000000 →
      loopL (f_s_l2Add_r0 (ints (natsI g))) ((x : Int), (y : Int), (z : Int), (u : Int), (k : Int)) = some (.one (((z + u * addN r x y : Nat)) : Int)) := by
    intro r
    induction r with
    | nil =>
      intro k x y z u hd hk hx hy hz hu
      have := drop_nil hd hk
      subst this
      refine loopL_one ?_
      simp only [f_s_l2Add_r0, f_s_l2Add_k0, ints_length, natsI_length, lt_dec_self, br_false, addN, Nat.mul_zero, Nat.add_zero]
    | cons n r ih =>
      intro k x y z u hd hk hx hy hz hu
      obtain ⟨hkl, hn, hd'⟩ := drop_cons hd
      have hne := hg.each n (by rw [← hn]; simp [List.getD, List.getElem?_eq_getElem hkl])
      have hor : 1 ≤ ordN r := ordN_pos fun m hm => hg.each m (by rw [← hd'] at hm; exact List.mem_of_mem_drop hm)
      have hu' : u * n * ordN r ≤ 1000000 := by rw [Nat.mul_assoc]; exact hu
      have hu2 : u * n ≤ 1000000 := Nat.le_trans (Nat.le_mul_of_pos_right _ hor) hu'
      obtain ⟨a1, a2, a3, a4, a5⟩ := add_round hne hx hy hz hu2
      have hkl' : k < (natsI g).length := by rw [natsI_length]; exact hkl
      have hat : atI (ints (natsI g)) (k : Int) = (n : Int) := by rw [at_nat, natsI_getD, hn]
      have hn0 : ((n : Int) == 0) = false := by
        have : ¬ ((n : Int) = 0) := by omega
        simpa using this
      rw [loopL_again (s' := (((x / n : Nat) : Int), ((y / n : Nat) : Int), ((z + (x % n + y % n) % n * u : Nat) : Int), ((u * n : Nat) : Int), ((k + 1 : Nat) : Int))) (by
        have hg3 := hg.len
        simp only [f_s_l2Add_r0, f_s_l2Add_k0, ints_length, natsI_length, lt_dec hkl, ok_nat hkl', hat, hn0, br_true, br_false, a1, a2, a3, a4, w64_nat (by omega : k < 9223372036854775807)])]
      rw [ih (k + 1) (x / n) (y / n) _ (u * n) hd' hkl (Nat.lt_of_le_of_lt (Nat.div_le_self x n) hx) (Nat.lt_of_le_of_lt (Nat.div_le_self y n) hy) a5 hu']
      congr 3
      simp only [addN, Nat.mul_add, Nat.mul_assoc, Nat.mul_comm u ((x % n + y % n) % n), Nat.add_assoc]
  have := key g 0 x y 0 1 rfl (Nat.zero_le _) hx hy (by decide) (by have := hg.ord; omega)
  simp only [f_s_l2Add, f_s_l2Add_k]
  have e0 : ((0 : Nat) : Int) = 0 := rfl
  have e1 : ((1 : Nat) : Int) = 1 := rfl
  rw [e0, e1] at this
  rw [this, bl1_one]
  simp
theorem i_add_eq {g : List Nat} (hg : VG g) {x y : Nat} (hx : x < 4611686018427387904) (hy : y < 4611686018427387904) : f_i_Group_add (ints (natsI g)) (x : Int) (y : Int) = some ((addN g x y : Nat) : Int) := by
  have key : ∀ (r : List Nat) (k x y z u : Nat), g.drop k = r → k ≤ g.length → x < 4611686018427387904 → y < 4611686018427387904 → z < u → u * ordN r ≤ 1000000 →
      loopL (f_i_Group_add_r0 (ints (natsI g)) (g.length : Int)) ((x : Int), (y : Int), (z : Int), (u : Int), (k : Int)) = some (.one (((z + u * addN r x y : Nat)) : Int)) := by
    intro r
    induction r with
    | nil =>
      intro k x y z u hd hk hx hy hz hu
      have := drop_nil hd hk
      subst this
      refine loopL_one ?_
      simp only [f_i_Group_add_r0, f_i_Group_add_k0, lt_dec_self, br_false, addN, Nat.mul_zero, Nat.add_zero]
    | cons n r ih =>
      intro k x y z u hd hk hx hy hz hu
      obtain ⟨hkl, hn, hd'⟩ := drop_cons hd
      have hne := hg.each n (by rw [← hn]; simp [List.getD, List.getElem?_eq_getElem hkl])
      have hor : 1 ≤ ordN r := ordN_pos fun m hm => hg.each m (by rw [← hd'] at hm; exact List.mem_of_mem_drop hm)
      have hu' : u * n * ordN r ≤ 1000000 := by rw [Nat.mul_assoc]; exact hu
      have hu2 : u * n ≤ 1000000 := Nat.le_trans (Nat.le_mul_of_pos_right _ hor) hu'
      obtain ⟨a1, a2, a3, a4, a5⟩ := add_round hne hx hy hz hu2
      have hkl' : k < (natsI g).length := by rw [natsI_length]; exact hkl
      have hat : atI (ints (natsI g)) (k : Int) = (n : Int) := by rw [at_nat, natsI_getD, hn]
      have hn0 : ((n : Int) == 0) = false := by
        have : ¬ ((n : Int) = 0) := by omega
        simpa using this
      rw [loopL_again (s' := (((x / n : Nat) : Int), ((y / n : Nat) : Int), ((z + (x % n + y % n) % n * u : Nat) : Int), ((u * n : Nat) : Int), ((k + 1 : Nat) : Int))) (by
        have hg3 := hg.len
        simp only [f_i_Group_add_r0, f_i_Group_add_k0, lt_dec hkl, ok_nat hkl', hat, hn0, br_true, br_false, a1, a2, a3, a4, w64_nat (by omega : k < 9223372036854775807)])]
      rw [ih (k + 1) (x / n) (y / n) _ (u * n) hd' hkl (Nat.lt_of_le_of_lt (Nat.div_le_self x n) hx) (Nat.lt_of_le_of_lt (Nat.div_le_self y n) hy) a5 hu']
      congr 3
      simp only [addN, Nat.mul_add, Nat.mul_assoc, Nat.mul_comm u ((x % n + y % n) % n), Nat.add_assoc]
  have := key g 0 x y 0 1 rfl (Nat.zero_le _) hx hy (by decide) (by have := hg.ord; omega)
  simp only [f_i_Group_add, f_i_Group_add_k, ints_length, natsI_length]
  have e0 : ((0 : Nat) : Int) = 0 := rfl
  have e1 : ((1 : Nat) : Int) = 1 := rfl
  rw [e0, e1] at this
  rw [this, bl1_one]
  simp
theorem loop_foldN {S T A B : Type} {rd : S → Option (Ro S A B)} (l : List Nat) (mk : T → Int → S) (f : T → Nat → T) (gg : T → A) (P : T → Prop) (t0 : T) (h0 : P t0)
    (h : ∀ (k : Nat) t, k < l.length → P t → rd (mk t (k : Int)) = some (.again (mk (f t (l.getD k 0)) ((k + 1 : Nat) : Int))))
    (hP : ∀ (k : Nat) t, k < l.length → P t → P (f t (l.getD k 0)))
    (he : ∀ t, P t → rd (mk t (l.length : Int)) = some (.one (gg t))) : loopL rd (mk t0 0) = some (.one (gg (l.foldl f t0))) ∧ P (l.foldl f t0) := by
  have step : ∀ k, k < l.length → (l.take (k + 1)).foldl f t0 = f ((l.take k).foldl f t0) (l.getD k 0) := by
    intro k hk
    rw [List.take_succ_eq_append_getElem hk, List.foldl_append]
    simp [List.getD, List.getElem?_eq_getElem hk]
  have inv : ∀ k, k ≤ l.length → P ((l.take k).foldl f t0) := by
    intro k
    induction k with
    | zero => intro _; exact h0
    | succ k ih => intro hk; rw [step k hk]; exact hP k _ hk (ih (by omega))
  have key := loop_count (rd := rd) (fun k => mk ((l.take k).foldl f t0) (k : Int)) l.length (a := gg (l.foldl f t0)) (fun k hk => by
    show rd (mk ((l.take k).foldl f t0) (k : Int)) = _
    rw [h k _ hk (inv k (by omega)), step k hk]) (by
      have := inv l.length (Nat.le_refl _)
      show rd (mk ((l.take l.length).foldl f t0) (l.length : Int)) = _
      rw [he _ this, List.take_length]) 0 (Nat.zero_le _)
  refine ⟨by simpa using key, ?_⟩
  have := inv l.length (Nat.le_refl _)
  rwa [List.take_length] at this
structure VS (g l : List Nat) : Prop where
  grp : VG g
  each : ∀ x ∈ l, x < ordN g
  len : l.length ≤ 12
theorem VS.at {g l : List Nat} (v : VS g l) {k : Nat} (hk : k < l.length) : l.getD k 0 < ordN g := v.each _ (by simp [List.getD, List.getElem?_eq_getElem hk])
theorem ok_natsI {l : List Nat} {k : Nat} (h : k < l.length) : okAt (ints (natsI l)) (k : Int) = true := ok_nat (by rw [natsI_length]; exact h)
theorem at_natsI (l : List Nat) (k : Nat) : atI (ints (natsI l)) (k : Int) = ((l.getD k 0 : Nat) : Int) := by rw [at_nat, natsI_getD]
theorem VS.lim {g l : List Nat} (v : VS g l) : l.length ≤ Ev.lim := Nat.le_trans v.len (by decide)
def elemsFrom (a k : Nat) : List Nat := (List.range' k (63 - k)).filter fun x => a.testBit x
theorem elemsFrom_zero (a : Nat) : elemsFrom a 0 = elems a := by
  unfold elemsFrom elems
  rw [List.range_eq_range']
theorem elemsFrom_step (a k : Nat) (hk : k < 63) : elemsFrom a k = if a.testBit k then k :: elemsFrom a (k + 1) else elemsFrom a (k + 1) := by
  unfold elemsFrom
  rw [show 63 - k = (63 - (k + 1)) + 1 by omega, List.range'_succ, List.filter_cons]
theorem shr_zero_bits {a k x : Nat} (h : a >>> k = 0) (hx : k ≤ x) : a.testBit x = false := by
  have : a.testBit x = (a >>> k).testBit (x - k) := by
    rw [Nat.testBit_shiftRight]
    congr 1
    omega
  rw [this, h]
  simp
theorem elemsFrom_nil {a k : Nat} (h : a >>> k = 0) : elemsFrom a k = [] := by
  unfold elemsFrom
  rw [List.filter_eq_nil_iff]
  intro x hx
  have := List.mem_range'_1.1 hx
  rw [shr_zero_bits h this.1]
  decide
theorem shr_pos_lt {a k : Nat} (ha : a < 9223372036854775808) (h : a >>> k ≠ 0) : k < 63 := by
  rcases Nat.lt_or_ge k 63 with hk | hk
  · exact hk
  · exfalso
    apply h
    rw [Nat.shiftRight_eq_div_pow]
    apply Nat.div_eq_of_lt
    have : (2 : Nat) ^ 63 ≤ 2 ^ k := Nat.pow_le_pow_right (by decide) hk
    have h2 : (2 : Nat) ^ 63 = 9223372036854775808 := by decide
    omega
theorem elems_len (a : Nat) : (elems a).length ≤ 63 := by
  unfold elems
  exact Nat.le_trans (List.length_filter_le _ _) (by simp)
theorem ints_cast_snoc (l : List Nat) (k : Nat) : ints (natsI l) ++ [Sc.n .i64 (k : Int)] = ints (natsI (l ++ [k])) := by
  simp [ints, natsI]
theorem ne_zero_dec {n : Nat} : ((n : Int) != 0) = decide (n ≠ 0) := by
  by_cases h : n = 0
  · subst h; rfl
  · have : ¬ ((n : Int) = 0) := by omega
    simp [h, this]
theorem neg_dec (n : Nat) : decide ((n : Int) < 0) = false := by simp
theorem i_members_eq {a : Nat} (ha : a < 9223372036854775808) : f_i_members (a : Int) = some (ints (natsI (elems a))) := by
  have key : ∀ d k (out : List Nat), d + k = 63 → out.length ≤ k → loopL (f_i_members_r0 (a : Int)) (ints (natsI out), (k : Int)) = some (.one (ints (natsI (out ++ elemsFrom a k)))) := by
    intro d
    induction d with
    | zero =>
      intro k out hk hlen
      have h0 : a >>> k = 0 := by
        by_cases h : a >>> k = 0
        · exact h
        · have := shr_pos_lt ha h; omega
      refine loopL_one ?_
      simp only [f_i_members_r0, f_i_members_k0, neg_dec, br_false, shr64_nat ha, h0, ne_zero_dec, elemsFrom_nil h0, List.append_nil]
      rfl
    | succ d ih =>
      intro k out hk hlen
      by_cases h0 : a >>> k = 0
      · refine loopL_one ?_
        simp only [f_i_members_r0, f_i_members_k0, neg_dec, br_false, shr64_nat ha, h0, ne_zero_dec, elemsFrom_nil h0, List.append_nil]
        rfl
      · have e1 : decide (a >>> k ≠ 0) = true := by simpa using h0
        have hlim : decide ((ints (natsI out)).length + [Sc.n .i64 (k : Int)].length ≤ lim) = true := by
          simp only [ints_length, natsI_length, List.length_singleton, decide_eq_true_eq]
          exact Nat.le_trans (by omega : out.length + 1 ≤ 64) (by decide)
        rw [elemsFrom_step a k (by omega)]
        cases ht : a.testBit k with
        | true =>
          rw [loopL_again (s' := (ints (natsI (out ++ [k])), ((k + 1 : Nat) : Int))) (by
            simp only [f_i_members_r0, f_i_members_k0, neg_dec, br_false, bit_test ha, ht, br_true, hlim, ints_cast_snoc, w64_nat (by omega : k < 9223372036854775807)]
            simp only [shr64_nat ha, ne_zero_dec, e1, br_true])]
          rw [ih (k + 1) (out ++ [k]) (by omega) (by simp; omega)]
          simp
        | false =>
          rw [loopL_again (s' := (ints (natsI out), ((k + 1 : Nat) : Int))) (by
            simp only [f_i_members_r0, f_i_members_k0, neg_dec, br_false, bit_test ha, ht, w64_nat (by omega : k < 9223372036854775807)]
            simp only [shr64_nat ha, ne_zero_dec, e1, br_true])]
          rw [ih (k + 1) out (by omega) (by omega)]
          simp
  have := key 63 0 [] rfl (Nat.le_refl _)
  simp only [f_i_members, f_i_members_k]
  have e0 : (ints (natsI []), ((0 : Nat) : Int)) = (([] : List Sc), (0 : Int)) := rfl
  rw [e0] at this
  rw [this, bl1_one, elemsFrom_zero]
  rfl
theorem s_l3List_eq {a : Nat} (ha : a < 9223372036854775808) : f_s_l3List (a : Int) = some (ints (natsI (elems a))) := by
  have key : ∀ d k (out : List Nat), d + k = 63 → out.length ≤ k → loopL f_s_l3List_r0 (ints (natsI out), (k : Int), ((a >>> k : Nat) : Int)) = some (.one (ints (natsI (out ++ elemsFrom a k)))) := by
    intro d
    induction d with
    | zero =>
      intro k out hk hlen
      have h0 : a >>> k = 0 := by
        by_cases h : a >>> k = 0
        · exact h
        · have := shr_pos_lt ha h; omega
      refine loopL_one ?_
      simp only [f_s_l3List_r0, f_s_l3List_k0, h0, elemsFrom_nil h0, List.append_nil]
      rfl
    | succ d ih =>
      intro k out hk hlen
      by_cases h0 : a >>> k = 0
      · refine loopL_one ?_
        simp only [f_s_l3List_r0, f_s_l3List_k0, h0, elemsFrom_nil h0, List.append_nil]
        rfl
      · have e1 : decide (((a >>> k : Nat) : Int) > 0) = true := by
          rw [decide_eq_true_eq]
          have : 0 < a >>> k := Nat.pos_of_ne_zero h0
          omega
        have hs : a >>> k < 9223372036854775808 := Nat.lt_of_le_of_lt (Nat.shiftRight_le a k) ha
        have e2 : shr64 ((a >>> k : Nat) : Int) 1 = ((a >>> (k + 1) : Nat) : Int) := by
          have := shr64_nat (a := a >>> k) (k := 1) hs
          rw [show ((1 : Nat) : Int) = 1 from rfl] at this
          rw [this, ← Nat.shiftRight_add]
        have e3 : (a >>> k).testBit 0 = a.testBit k := by rw [Nat.testBit_shiftRight, Nat.add_zero]
        have hlim : decide ((ints (natsI out)).length + [Sc.n .i64 (k : Int)].length ≤ lim) = true := by
          simp only [ints_length, natsI_length, List.length_singleton, decide_eq_true_eq]
          exact Nat.le_trans (by omega : out.length + 1 ≤ 64) (by decide)
        rw [elemsFrom_step a k (by omega)]
        cases ht : a.testBit k with
        | true =>
          rw [loopL_again (s' := (ints (natsI (out ++ [k])), ((k + 1 : Nat) : Int), ((a >>> (k + 1) : Nat) : Int))) (by
            simp only [f_s_l3List_r0, f_s_l3List_k0, e1, br_true, bit_test0 hs, e3, ht, hlim, ints_cast_snoc, w64_nat (by omega : k < 9223372036854775807), e2])]
          rw [ih (k + 1) (out ++ [k]) (by omega) (by simp; omega)]
          simp
        | false =>
          rw [loopL_again (s' := (ints (natsI out), ((k + 1 : Nat) : Int), ((a >>> (k + 1) : Nat) : Int))) (by
            simp only [f_s_l3List_r0, f_s_l3List_k0, e1, br_true, br_false, bit_test0 hs, e3, ht, w64_nat (by omega : k < 9223372036854775807), e2])]
          rw [ih (k + 1) out (by omega) (by omega)]
          simp
  have := key 63 0 [] rfl (Nat.le_refl _)
  simp only [f_s_l3List, f_s_l3List_k]
  have e0 : (ints (natsI []), ((0 : Nat) : Int), ((a >>> 0 : Nat) : Int)) = (([] : List Sc), (0 : Int), (a : Int)) := by simp [ints, natsI]
  rw [e0] at this
  rw [this, bl1_one, elemsFrom_zero]
  rfl
def shiftN (g : List Nat) (a x : Nat) : Nat := orAll (fun y => 2 ^ addN g x y) (elems a)
theorem two_pow_lt {k n : Nat} (h : k < n) : 2 ^ k < 2 ^ n := Nat.pow_lt_pow_right (by decide) h
theorem shiftN_lt {g : List Nat} (v : VG g) (a x : Nat) : shiftN g a x < 2 ^ ordN g :=
  orFold_lt (Nat.two_pow_pos _) fun y _ => two_pow_lt (addN_lt v.each x y)
theorem pow24 {g : List Nat} (v : VG g) {a : Nat} (h : a < 2 ^ ordN g) : a < 16777216 :=
  Nat.lt_of_lt_of_le h (Nat.pow_le_pow_right (by decide) v.ord)
theorem elems_lt {a n x : Nat} (h : a < 2 ^ n) (hx : x ∈ elems a) : x < n := by
  unfold elems at hx
  have h2 := (List.mem_filter.1 hx).2
  rcases Nat.lt_or_ge x n with hl | hl
  · exact hl
  · have : a < 2 ^ x := Nat.lt_of_lt_of_le h (Nat.pow_le_pow_right (by decide) hl)
    rw [Nat.testBit_lt_two_pow this] at h2
    cases h2
theorem or_pow {g : List Nat} (v : VG g) {o k : Nat} (ho : o < 2 ^ ordN g) (hk : k < ordN g) : or64 (o : Int) (shl64 1 (k : Int)) = ((o ||| 2 ^ k : Nat) : Int) := by
  have h24 := v.ord
  rw [shl1_nat (by omega), or64_nat (Nat.lt_trans (pow24 v ho) (by decide)) (Nat.lt_trans (pow24 v (two_pow_lt hk)) (by decide))]
theorem or_lt {g : List Nat} {o p : Nat} (ho : o < 2 ^ ordN g) (hp : p < 2 ^ ordN g) : o ||| p < 2 ^ ordN g := Nat.or_lt_two_pow ho hp
theorem i_shift_eq {g : List Nat} (v : VG g) {a x : Nat} (ha : a < 2 ^ ordN g) (hx : x < ordN g) : f_i_Group_shift (ints (natsI g)) (a : Int) (x : Int) = some ((shiftN g a x : Nat) : Int) := by
  have h24 := v.ord
  have ha' : a < 9223372036854775808 := Nat.lt_trans (pow24 v ha) (by decide)
  have key : ∀ (d k out : Nat), d + k = 63 → out < 2 ^ ordN g → loopL (f_i_Group_shift_r0 (a : Int) (x : Int) (ints (natsI g))) ((out : Int), (k : Int)) = some (.one (((elemsFrom a k).foldl (fun o y => o ||| 2 ^ addN g x y) out : Nat) : Int)) := by
    intro d
    induction d with
    | zero =>
      intro k out hk hlen
      have h0 : a >>> k = 0 := by
        by_cases h : a >>> k = 0
        · exact h
        · have := shr_pos_lt ha' h; omega
      refine loopL_one ?_
      simp only [f_i_Group_shift_r0, f_i_Group_shift_k0, neg_dec, br_false, shr64_nat ha', h0, ne_zero_dec, elemsFrom_nil h0]
      rfl
    | succ d ih =>
      intro k out hk hout
      by_cases h0 : a >>> k = 0
      · refine loopL_one ?_
        simp only [f_i_Group_shift_r0, f_i_Group_shift_k0, neg_dec, br_false, shr64_nat ha', h0, ne_zero_dec, elemsFrom_nil h0]
        rfl
      · have e1 : decide (a >>> k ≠ 0) = true := by simpa using h0
        rw [elemsFrom_step a k (by omega)]
        have hadd := addN_lt v.each x k
        cases ht : a.testBit k with
        | true =>
          rw [loopL_again (s' := (((out ||| 2 ^ addN g x k : Nat) : Int), ((k + 1 : Nat) : Int))) (by
            simp only [f_i_Group_shift_r0, f_i_Group_shift_k0, neg_dec, br_false, bit_test ha', ht, br_true, i_add_eq v (by omega : x < 4611686018427387904) (by omega : k < 4611686018427387904), bo_some, or_pow v hout hadd, w64_nat (by omega : k < 9223372036854775807)]
            simp only [shr64_nat ha', ne_zero_dec, e1, br_true])]
          rw [ih (k + 1) _ (by omega) (or_lt hout (two_pow_lt hadd))]
          rfl
        | false =>
          rw [loopL_again (s' := ((out : Int), ((k + 1 : Nat) : Int))) (by
            simp only [f_i_Group_shift_r0, f_i_Group_shift_k0, neg_dec, br_false, bit_test ha', ht, w64_nat (by omega : k < 9223372036854775807)]
            simp only [shr64_nat ha', ne_zero_dec, e1, br_true])]
          rw [ih (k + 1) out (by omega) hout]
          rfl
  have := key 63 0 0 rfl (Nat.two_pow_pos _)
  simp only [f_i_Group_shift, f_i_Group_shift_k]
  rw [show ((0 : Nat) : Int) = 0 from rfl] at this
  rw [this, bl1_one, elemsFrom_zero]
  rfl
theorem in_nat {k n : Nat} (h : k < n) : inRange (k : Int) n = true := by rw [inRange_nat]; simpa using h
theorem atN_natsI (l : List Nat) (k : Nat) : atN (ints (natsI l)) k = ((l.getD k 0 : Nat) : Int) := by rw [atN_ints, natsI_getD]
theorem elems_lim (a : Nat) : (elems a).length ≤ 9223372036854775806 := Nat.le_trans (elems_len a) (by decide)
theorem elems_at {a n k : Nat} (h : a < 2 ^ n) (hk : k < (elems a).length) : (elems a).getD k 0 < n := elems_lt h (by simp [List.getD, List.getElem?_eq_getElem hk])
theorem s_l3Shift_eq {g : List Nat} (v : VG g) {a x : Nat} (ha : a < 2 ^ ordN g) (hx : x < ordN g) : f_s_l3Shift (ints (natsI g)) (a : Int) (x : Int) = some ((shiftN g a x : Nat) : Int) := by
  have h24 := v.ord
  have ha' : a < 9223372036854775808 := Nat.lt_trans (pow24 v ha) (by decide)
  have hlim := elems_lim a
  have key := loop_foldN (rd := f_s_l3Shift_r0 (x : Int) (ints (natsI g))) (elems a) (fun (t : Nat) i => ((t : Int), ints (natsI (elems a)), i)) (fun o y => o ||| 2 ^ addN g x y) (fun t => (t : Int)) (fun t => t < 2 ^ ordN g) 0 (Nat.two_pow_pos _) (fun k t hk ht => by
    have hy := elems_at ha hk
    have hadd := addN_lt v.each x ((elems a).getD k 0)
    simp only [f_s_l3Shift_r0, f_s_l3Shift_k0, ints_length, natsI_length, lt_dec hk, in_nat hk, Int.toNat_natCast, kAt_ints, atN_natsI, br_true, s_l2Add_eq v (by omega : (elems a).getD k 0 < 4611686018427387904) (by omega : x < 4611686018427387904), bo_some, neg_dec, br_false, addN_comm g ((elems a).getD k 0) x, or_pow v ht hadd, w64_nat (by omega : k < 9223372036854775807)])
    (fun k t hk ht => or_lt ht (two_pow_lt (addN_lt v.each _ _)))
    (fun t ht => by simp only [f_s_l3Shift_r0, f_s_l3Shift_k0, ints_length, natsI_length, lt_dec_self, br_false])
  simp only [f_s_l3Shift, f_s_l3Shift_k, s_l3List_eq ha', bo_some]
  have := key.1
  rw [show ((0 : Nat) : Int) = 0 from rfl] at this
  rw [this, bl1_one]
  rfl
def sumN (g : List Nat) (a b : Nat) : Nat := orAll (fun x => shiftN g b x) (elems a)
theorem shiftN_test (g : List Nat) (a x z : Nat) : (shiftN g a x).testBit z = (elems a).any fun y => decide (addN g x y = z) := by
  unfold shiftN
  rw [orAll_test]
  simp only [pow_test]
theorem sumN_test (g : List Nat) (a b z : Nat) : (sumN g a b).testBit z = true ↔ ∃ x ∈ elems a, ∃ y ∈ elems b, addN g x y = z := by
  unfold sumN
  rw [orAll_test, List.any_eq_true]
  simp only [shiftN_test, List.any_eq_true, decide_eq_true_eq]
theorem sumN_comm (g : List Nat) (a b : Nat) : sumN g a b = sumN g b a := by
  apply Nat.eq_of_testBit_eq
  intro z
  rw [Bool.eq_iff_iff, sumN_test, sumN_test]
  constructor
  · rintro ⟨x, hx, y, hy, h⟩; exact ⟨y, hy, x, hx, by rw [addN_comm]; exact h⟩
  · rintro ⟨x, hx, y, hy, h⟩; exact ⟨y, hy, x, hx, by rw [addN_comm]; exact h⟩
theorem sumN_lt {g : List Nat} (v : VG g) (a b : Nat) : sumN g a b < 2 ^ ordN g := orFold_lt (Nat.two_pow_pos _) fun y _ => shiftN_lt v b y
theorem or_or {g : List Nat} (v : VG g) {o p : Nat} (ho : o < 2 ^ ordN g) (hp : p < 2 ^ ordN g) : or64 (o : Int) (p : Int) = ((o ||| p : Nat) : Int) :=
  or64_nat (Nat.lt_trans (pow24 v ho) (by decide)) (Nat.lt_trans (pow24 v hp) (by decide))
theorem s_l4Sum_eq {g : List Nat} (v : VG g) {a b : Nat} (ha : a < 2 ^ ordN g) (hb : b < 2 ^ ordN g) : f_s_l4Sum (ints (natsI g)) (a : Int) (b : Int) = some ((sumN g b a : Nat) : Int) := by
  have hb' : b < 9223372036854775808 := Nat.lt_trans (pow24 v hb) (by decide)
  have hlim := elems_lim b
  have key := loop_foldN (rd := f_s_l4Sum_r0 (a : Int) (ints (natsI g))) (elems b) (fun (t : Nat) i => ((t : Int), ints (natsI (elems b)), i)) (fun o y => o ||| shiftN g a y) (fun t => (t : Int)) (fun t => t < 2 ^ ordN g) 0 (Nat.two_pow_pos _) (fun k t hk ht => by
    have hy := elems_at hb hk
    simp only [f_s_l4Sum_r0, f_s_l4Sum_k0, ints_length, natsI_length, lt_dec hk, in_nat hk, Int.toNat_natCast, kAt_ints, atN_natsI, br_true, s_l3Shift_eq v ha hy, bo_some, or_or v ht (shiftN_lt v a _), w64_nat (by omega : k < 9223372036854775807)])
    (fun k t hk ht => or_lt ht (shiftN_lt v a _))
    (fun t ht => by simp only [f_s_l4Sum_r0, f_s_l4Sum_k0, ints_length, natsI_length, lt_dec_self, br_false])
  simp only [f_s_l4Sum, f_s_l4Sum_k, s_l3List_eq hb', bo_some]
  have := key.1
  rw [show ((0 : Nat) : Int) = 0 from rfl] at this
  rw [this, bl1_one]
  rfl
theorem i_sum_eq {g : List Nat} (v : VG g) {a b : Nat} (ha : a < 2 ^ ordN g) (hb : b < 2 ^ ordN g) : f_i_Group_sum (ints (natsI g)) (a : Int) (b : Int) = some ((sumN g a b : Nat) : Int) := by
  have ha' : a < 9223372036854775808 := Nat.lt_trans (pow24 v ha) (by decide)
  have hlim := elems_lim a
  have key := loop_foldN (rd := f_i_Group_sum_r0 (b : Int) (ints (natsI g)) ((elems a).length : Int)) (elems a) (fun (t : Nat) i => ((t : Int), ints (natsI (elems a)), i)) (fun o y => o ||| shiftN g b y) (fun t => (t : Int)) (fun t => t < 2 ^ ordN g) 0 (Nat.two_pow_pos _) (fun k t hk ht => by
    have hy := elems_at ha hk
    simp only [f_i_Group_sum_r0, f_i_Group_sum_k0, ints_length, natsI_length, lt_dec hk, in_nat hk, Int.toNat_natCast, kAt_ints, atN_natsI, br_true, i_shift_eq v hb hy, bo_some, or_or v ht (shiftN_lt v b _), w64_nat (by omega : k < 9223372036854775807)])
    (fun k t hk ht => or_lt ht (shiftN_lt v b _))
    (fun t ht => by simp only [f_i_Group_sum_r0, f_i_Group_sum_k0, lt_dec_self, br_false])
  simp only [f_i_Group_sum, f_i_Group_sum_k, i_members_eq ha', bo_some, ints_length, natsI_length]
  have := key.1
  rw [show ((0 : Nat) : Int) = 0 from rfl] at this
  rw [this, bl1_one]
  rfl
theorem and_one_zero {a : Nat} (ha : a < 9223372036854775808) : (and64 (a : Int) 1 == 0) = !a.testBit 0 := by
  rw [show (1 : Int) = ((1 : Nat) : Int) from rfl, and64_nat ha (by decide), Nat.and_one_is_mod, Nat.testBit_zero]
  rcases Nat.mod_two_eq_zero_or_one a with h | h <;> rw [h] <;> rfl
theorem i_in_eq {a k : Nat} (ha : a < 9223372036854775808) : f_i_in (a : Int) (k : Int) = some (a.testBit k) := by
  simp only [f_i_in, f_i_in_k, neg_dec, br_false, bit_test ha]
def setG (G : List Int) (a : Int) : Bool := isG G && (decide (a ≥ 0) && decide (a < shl64 1 (ordG G)))
theorem shl_ord {g : List Nat} (v : VG g) : shl64 1 (ordN g : Int) = ((2 ^ ordN g : Nat) : Int) := shl1_nat (by have := v.ord; omega)
theorem full_ord {g : List Nat} (v : VG g) : w64 (shl64 1 (ordN g : Int) - 1) = ((2 ^ ordN g - 1 : Nat) : Int) := by
  rw [shl_ord v]
  have h1 : 1 ≤ 2 ^ ordN g := Nat.one_le_two_pow
  have h2 : 2 ^ ordN g ≤ 2 ^ 24 := Nat.pow_le_pow_right (by decide) v.ord
  rw [w64_in (by omega) (by omega)]
  omega
theorem nat_of_set {G : List Int} {a : Int} (h : setG G a = true) : ∃ g n, G = natsI g ∧ VG g ∧ a = ((n : Nat) : Int) ∧ n < 2 ^ ordN g := by
  unfold setG at h
  simp only [Bool.and_eq_true, decide_eq_true_eq] at h
  obtain ⟨h1, h2, h3⟩ := h
  obtain ⟨g, rfl, v⟩ := nat_of_isG h1
  rw [v.ordG, shl_ord v] at h3
  exact ⟨g, a.toNat, rfl, v, by omega, by omega⟩
theorem s_IsSet_eq (G : List Int) (a : Int) (h : G.length ≤ lim) : f_s_IsSet (ints G) a = some (setG G a) := by
  simp only [f_s_IsSet, f_s_IsSet_k, s_IsGroup_eq G h, bo_some, s_l2Order_eq G h, s_l1In_eq, setG]
  cases hg : isG G with
  | false => rfl
  | true =>
    obtain ⟨g, rfl, v⟩ := nat_of_isG hg
    rw [prodW_nat g v.len v.each, v.ordG, full_ord v, shl_ord v]
    have h1 : 1 ≤ 2 ^ ordN g := Nat.one_le_two_pow
    have e : decide (a ≤ ((2 ^ ordN g - 1 : Nat) : Int)) = decide (a < ((2 ^ ordN g : Nat) : Int)) := by rw [decide_eq_decide]; omega
    simp only [neg_dec, inB, e, Bool.true_and]
    rfl
theorem i_IsSet_eq (G : List Int) (a : Int) (h : G.length ≤ lim) : f_i_IsSet (ints G) a = some (setG G a) := by
  simp only [f_i_IsSet, f_i_IsSet_k, i_IsGroup_eq G h, bo_some, i_OrderOf_eq G h, setG]
  cases hg : isG G with
  | false => rfl
  | true =>
    obtain ⟨g, rfl, v⟩ := nat_of_isG hg
    rw [v.ordG, shl_ord v]
    simp only [neg_dec, Bool.true_and]
    cases decide (a ≥ 0) <;> rfl
def pcn : Nat → Nat → Nat
  | 0, _ => 0
  | n + 1, a => a % 2 + pcn n (a / 2)
theorem filter_len (n a : Nat) : ((List.range n).filter fun x => a.testBit x).length = pcn n a := by
  induction n generalizing a with
  | zero => rfl
  | succ n ih =>
    rw [List.range_succ_eq_map, List.filter_cons, List.filter_map, pcn, ← ih (a / 2)]
    have e : ((fun x => a.testBit x) ∘ Nat.succ) = fun x => (a / 2).testBit x := by
      funext x
      simp only [Function.comp_apply, Nat.succ_eq_add_one, Nat.testBit_div_two]
    rw [e, Nat.testBit_zero]
    rcases Nat.mod_two_eq_zero_or_one a with h | h
    · simp [h]
    · simp [h]; omega
def popN (a : Nat) : Nat := pcn 63 a
theorem elems_pop (a : Nat) : (elems a).length = popN a := filter_len 63 a
theorem pcn_le (n a : Nat) : pcn n a ≤ n := by
  induction n generalizing a with
  | zero => exact Nat.le_refl _
  | succ n ih => have := ih (a / 2); show a % 2 + pcn n (a / 2) ≤ n + 1; omega
theorem pcn_zero (n : Nat) : pcn n 0 = 0 := by
  induction n with
  | zero => rfl
  | succ n ih => simpa [pcn] using ih
theorem and_half (a b : Nat) : (a &&& b) / 2 = (a / 2) &&& (b / 2) := by
  apply Nat.eq_of_testBit_eq
  intro i
  rw [Nat.testBit_and, Nat.testBit_div_two, Nat.testBit_div_two, Nat.testBit_div_two, Nat.testBit_and]
theorem and_mod2 (a b : Nat) : (a &&& b) % 2 = (a % 2) * (b % 2) := by
  have h := Nat.testBit_and a b 0
  rw [Nat.testBit_zero, Nat.testBit_zero, Nat.testBit_zero] at h
  rcases Nat.mod_two_eq_zero_or_one a with ha | ha <;> rcases Nat.mod_two_eq_zero_or_one b with hb | hb <;> rcases Nat.mod_two_eq_zero_or_one (a &&& b) with hc | hc <;> simp_all
theorem pcn_clear (n : Nat) : ∀ a, 0 < a → a < 2 ^ n → pcn n (a &&& (a - 1)) + 1 = pcn n a := by
  induction n with
  | zero => intro a h1 h2; simp at h2; omega
  | succ n ih =>
    intro a h1 h2
    rw [Nat.pow_succ] at h2
    simp only [pcn, and_half, and_mod2]
    rcases Nat.mod_two_eq_zero_or_one a with h | h
    · have e : (a - 1) / 2 = a / 2 - 1 := by omega
      have := ih (a / 2) (by omega) (by omega)
      rw [h, e]
      omega
    · have e : (a - 1) / 2 = a / 2 := by omega
      have e2 : (a - 1) % 2 = 0 := by omega
      rw [h, e, e2, Nat.and_self]
      omega
theorem i_bits_eq {a : Nat} (ha : a < 9223372036854775808) : f_i_bits (a : Int) = some ((popN a : Nat) : Int) := by
  have key : ∀ (p a n : Nat), popN a = p → a < 9223372036854775808 → n + p ≤ 63 → loopL f_i_bits_r0 ((a : Int), (n : Int)) = some (.one ((n + p : Nat) : Int)) := by
    intro p
    induction p with
    | zero =>
      intro a n hp ha hn
      have h0 : a = 0 := by
        rcases Nat.eq_zero_or_pos a with h | h
        · exact h
        · have h1 : popN (a &&& (a - 1)) + 1 = popN a := pcn_clear 63 a h ha
          omega
      subst h0
      exact loopL_one rfl
    | succ p ih =>
      intro a n hp ha hn
      have h0 : a ≠ 0 := by
        intro h
        subst h
        unfold popN at hp
        rw [pcn_zero] at hp
        cases hp
      have e1 : decide (a ≠ 0) = true := by simpa using h0
      have e2 : w64 ((a : Int) - 1) = ((a - 1 : Nat) : Int) := by rw [w64_in (by omega) (by omega)]; omega
      have hc := pcn_clear 63 a (Nat.pos_of_ne_zero h0) ha
      rw [loopL_again (s' := (((a &&& (a - 1) : Nat) : Int), ((n + 1 : Nat) : Int))) (by
        simp only [f_i_bits_r0, f_i_bits_k0, ne_zero_dec, e1, br_true, e2, and64_nat ha (by omega : a - 1 < 9223372036854775808), w64_nat (by omega : n < 9223372036854775807)])]
      have hc' : popN (a &&& (a - 1)) = p := by
        have h1 : popN (a &&& (a - 1)) + 1 = popN a := hc
        omega
      have h2 := ih (a &&& (a - 1)) (n + 1) hc' (Nat.lt_of_le_of_lt Nat.and_le_left ha) (by omega)
      rw [show n + (p + 1) = n + 1 + p by omega]
      exact h2
  have hp := pcn_le 63 a
  have := key (popN a) a 0 rfl ha (by unfold popN; omega)
  simp only [f_i_bits, f_i_bits_k]
  rw [show ((0 : Nat) : Int) = 0 from rfl] at this
  rw [this, bl1_one, Nat.zero_add]
theorem pcn_small : ∀ (d n a : Nat), a < 2 ^ d → d ≤ n → pcn n a = pcn d a := by
  intro d
  induction d with
  | zero =>
    intro n a ha _
    have h0 : a = 0 := by simpa using ha
    subst h0
    rw [pcn_zero, pcn_zero]
  | succ d ih =>
    intro n a ha hn
    obtain ⟨m, rfl⟩ : ∃ m, n = m + 1 := ⟨n - 1, by omega⟩
    rw [Nat.pow_succ] at ha
    show a % 2 + pcn m (a / 2) = a % 2 + pcn d (a / 2)
    rw [ih m (a / 2) (by omega) (by omega)]
theorem s_l3Bits_eq {a : Nat} (ha : a < 9223372036854775808) : f_s_l3Bits (a : Int) = some ((popN a : Nat) : Int) := by
  have key : ∀ (d a n : Nat), a < 2 ^ d → a < 9223372036854775808 → n + d ≤ 63 → loopL f_s_l3Bits_r0 ((n : Int), (a : Int)) = some (.one ((n + pcn d a : Nat) : Int)) := by
    intro d
    induction d with
    | zero =>
      intro a n ha _ hn
      have h0 : a = 0 := by simpa using ha
      subst h0
      exact loopL_one rfl
    | succ d ih =>
      intro a n ha ha' hn
      rw [Nat.pow_succ] at ha
      by_cases h0 : a = 0
      · subst h0
        rw [pcn_zero]
        exact loopL_one rfl
      · have e1 : decide ((a : Int) > 0) = true := by simp; omega
        have e2 : and64 (a : Int) 1 = ((a % 2 : Nat) : Int) := by
          rw [show (1 : Int) = ((1 : Nat) : Int) from rfl, and64_nat ha' (by decide), Nat.and_one_is_mod]
        have e3 : shr64 (a : Int) 1 = ((a / 2 : Nat) : Int) := by
          rw [show (1 : Int) = ((1 : Nat) : Int) from rfl, shr64_nat ha', Nat.shiftRight_eq_div_pow, Nat.pow_one]
        have e4 : w64 ((n : Int) + ((a % 2 : Nat) : Int)) = ((n + a % 2 : Nat) : Int) := by rw [← Int.natCast_add]; exact w64_cast (by omega)
        rw [loopL_again (s' := (((n + a % 2 : Nat) : Int), ((a / 2 : Nat) : Int))) (by
          simp only [f_s_l3Bits_r0, f_s_l3Bits_k0, e1, br_true, e2, e3, e4])]
        by_cases hd : d = 0
        · subst hd
          have : a = 1 := by omega
          subst this
          exact loopL_one rfl
        · by_cases hq : n + a % 2 + d ≤ 63
          · rw [ih (a / 2) (n + a % 2) (by omega) (by omega) hq]
            show some (En.one (((n + a % 2 + pcn d (a / 2) : Nat)) : Int)) = some (En.one (((n + (a % 2 + pcn d (a / 2)) : Nat)) : Int))
            rw [Nat.add_assoc]
          · omega
  have := key 63 a 0 ha ha (by omega)
  simp only [f_s_l3Bits, f_s_l3Bits_k]
  rw [show ((0 : Nat) : Int) = 0 from rfl] at this
  rw [this, bl1_one, Nat.zero_add]
  rfl
theorem popN_le (a : Nat) : popN a ≤ 63 := pcn_le 63 a
theorem set_i64 {g : List Nat} (v : VG g) {a : Nat} (h : a < 2 ^ ordN g) : a < 9223372036854775808 := Nat.lt_trans (pow24 v h) (by decide)
theorem i_areSets_eq (G : List Int) (L : List Int) (h : G.length ≤ lim) (hL : L.length ≤ lim) : f_i_areSets (ints G) (ints L) = some (!L.any (fun x => !setG G x) && isG G) := by
  have hl := lim_lt hL
  have key := loop_any (rd := f_i_areSets_r0 (ints G) (ints L) (L.length : Int)) (fun k => (k : Int)) L.length (fun k => !setG G (L.getD k 0)) (a := ()) (b := ()) (fun k hk => by
    simp only [f_i_areSets_r0, f_i_areSets_k0, lt_dec hk, ok_nat hk, at_nat, br_true, w64_nat (by omega : k < 9223372036854775807), i_IsSet_eq G _ h, bo_some]
    cases setG G (L.getD k 0) <;> rfl)
    (by simp only [f_i_areSets_r0, f_i_areSets_k0, lt_dec_self, br_false])
  rw [show (((0 : Nat)) : Int) = 0 from rfl, range_any L (fun x => !setG G x)] at key
  simp only [f_i_areSets, f_i_areSets_k, ints_length, key, i_IsGroup_eq G h, bo_some]
  cases L.any (fun x => !setG G x) <;> rfl
def directG (G : List Int) (a b : Int) : Bool := setG G a && (setG G b && decide (popN (sumN (G.map Int.toNat) a.toNat b.toNat) = popN a.toNat * popN b.toNat))
theorem toNat_natsI (g : List Nat) : (natsI g).map Int.toNat = g := by
  unfold natsI
  rw [List.map_map]
  conv => rhs; rw [← List.map_id g]
  exact List.map_congr_left fun x _ => by simp
theorem pop_mul (p q r : Nat) (hp : p ≤ 63) (hq : q ≤ 63) : ((r : Int) == w64 ((p : Int) * (q : Int))) = decide (r = p * q) := by
  have : p * q ≤ 63 * 63 := Nat.mul_le_mul hp hq
  rw [← Int.natCast_mul, w64_cast (by omega), Bool.eq_iff_iff]
  simp only [beq_iff_eq, decide_eq_true_eq]
  omega
theorem s_IsDirect_eq (G : List Int) (a b : Int) (h : G.length ≤ lim) : f_s_IsDirect (ints G) a b = some (directG G a b) := by
  simp only [f_s_IsDirect, f_s_IsDirect_k, s_IsSet_eq G _ h, bo_some, directG]
  cases ha : setG G a with
  | false => rfl
  | true =>
    cases hb : setG G b with
    | false => rfl
    | true =>
      obtain ⟨g, n, rfl, v, rfl, hn⟩ := nat_of_set ha
      obtain ⟨g', m, hg', v', rfl, hm⟩ := nat_of_set hb
      have : g' = g := by rw [← toNat_natsI g, hg', toNat_natsI]
      subst this
      simp only [s_l4Sum_eq v hn hm, bo_some, s_l3Bits_eq (set_i64 v (sumN_lt v n m)), s_l3Bits_eq (set_i64 v hn), s_l3Bits_eq (set_i64 v hm), pop_mul _ _ _ (popN_le n) (popN_le m), toNat_natsI, Int.toNat_natCast, Bool.true_and, sumN_comm g' m n, BEq.rfl, br_true]
theorem i_IsDirect_eq (G : List Int) (a b : Int) (h : G.length ≤ lim) : f_i_IsDirect (ints G) a b = some (directG G a b) := by
  have hab := i_areSets_eq G [a, b] h (by show 2 ≤ lim; decide)
  have e0 : ints [a, b] = [Sc.n .i64 a, Sc.n .i64 b] := rfl
  rw [e0] at hab
  simp only [f_i_IsDirect, f_i_IsDirect_k, hab, bo_some, directG, List.any_cons, List.any_nil, Bool.or_false]
  cases ha : setG G a with
  | false => rfl
  | true =>
    cases hb : setG G b with
    | false => rfl
    | true =>
      obtain ⟨g, n, rfl, v, rfl, hn⟩ := nat_of_set ha
      obtain ⟨g', m, hg', v', rfl, hm⟩ := nat_of_set hb
      have : g' = g := by rw [← toNat_natsI g, hg', toNat_natsI]
      subst this
      simp only [v.isG, i_sum_eq v hn hm, bo_some, i_bits_eq (set_i64 v (sumN_lt v n m)), i_bits_eq (set_i64 v hn), i_bits_eq (set_i64 v hm), pop_mul _ _ _ (popN_le n) (popN_le m), toNat_natsI, Int.toNat_natCast, Bool.true_and, Bool.not_true, Bool.or_false, Bool.not_false, BEq.rfl, br_true]
theorem directG_sets {G : List Int} {a b : Int} (h : directG G a b = true) : ∃ g n m, G = natsI g ∧ VG g ∧ a = ((n : Nat) : Int) ∧ n < 2 ^ ordN g ∧ b = ((m : Nat) : Int) ∧ m < 2 ^ ordN g := by
  unfold directG at h
  simp only [Bool.and_eq_true] at h
  obtain ⟨ha, hb, _⟩ := h
  obtain ⟨g, n, rfl, v, rfl, hn⟩ := nat_of_set ha
  obtain ⟨g', m, hg', v', rfl, hm⟩ := nat_of_set hb
  have : g' = g := by rw [← toNat_natsI g, hg', toNat_natsI]
  subst this
  exact ⟨g', n, m, rfl, v, rfl, hn, rfl, hm⟩
theorem IsTiling_both (G : List Int) (a b : Int) (h : G.length ≤ lim) : ∃ r, f_s_IsTiling (ints G) a b = some r ∧ f_i_IsTiling (ints G) a b = some r := by
  simp only [f_s_IsTiling, f_s_IsTiling_k, f_i_IsTiling, f_i_IsTiling_k, s_IsDirect_eq G a b h, i_IsDirect_eq G a b h, bo_some]
  cases hd : directG G a b with
  | false => exact ⟨_, rfl, rfl⟩
  | true =>
    obtain ⟨g, n, m, rfl, v, rfl, hn, rfl, hm⟩ := directG_sets hd
    simp only [f_i_FullSet, f_i_FullSet_k, i_IsGroup_eq _ h, i_OrderOf_eq _ h, v.isG, v.ordG, s_l2Order_eq _ h, prodW_nat g v.len v.each, s_l4Sum_eq v hn hm, i_sum_eq v hn hm, bo_some, neg_dec, sumN_comm g m n]
    exact ⟨_, rfl, rfl⟩
section
variable {R A B S D : Type}
def Le (a b : Option R) : Prop := ∀ r, a = some r → b = some r
theorem Le.same {a : Option R} : Le a a := fun _ h => h
theorem Le.no {b : Option R} : Le none b := fun _ h => by cases h
theorem Le.br {t : Bool} {a b a' b' : Option R} (h : Le a a') (h' : Le b b') : Le (Ev.br t a b) (Ev.br t a' b') := by cases t <;> assumption
theorem Le.bo {o o' : Option A} {d : A} {k k' : A → Option R} (h : Le o o') (hk : ∀ a, Le (k a) (k' a)) : Le (Ev.bo o d k) (Ev.bo o' d k') := by
  cases o with
  | none => exact Le.no
  | some x => rw [h x rfl]; exact hk x
theorem Le.bl1 {o o' : Option (En A B)} {d : A} {k k' : A → Option R} (h : Le o o') (hk : ∀ a, Le (k a) (k' a)) : Le (Ev.bl1 o d k) (Ev.bl1 o' d k') := by
  cases o with
  | none => exact Le.no
  | some x =>
    rw [h x rfl]
    cases x with
    | one a => exact hk a
    | two b => exact Le.no
theorem loopN_le {rd rd' : S → Option (Ro S A B)} (h : ∀ s, Le (rd s) (rd' s)) : ∀ n s, Le (loopN rd n s) (loopN rd' n s)
  | 0, _ => Le.no
  | n + 1, s => by
    unfold loopN
    cases hs : rd s with
    | none => exact Le.no
    | some x =>
      rw [h s x hs]
      cases x with
      | again s' => exact loopN_le h n s'
      | one a => exact Le.same
      | two b => exact Le.same
theorem Le.loop {rd rd' : S → Option (Ro S A B)} {s : S} (h : ∀ s, Le (rd s) (rd' s)) : Le (loopL rd s) (loopL rd' s) := fun r hr => by
  obtain ⟨n, hn⟩ := loopL_some hr
  exact loopL_of (loopN_le h n s r hn)
theorem le_fuel {F : Nat → D → Option R} (h : ∀ n a, Le (F n a) (F (n + 1) a)) {n m : Nat} (hm : n ≤ m) (a : D) : Le (F n a) (F m a) := by
  obtain ⟨d, rfl⟩ : ∃ d, m = n + d := ⟨m - n, by omega⟩
  clear hm
  induction d with
  | zero => exact Le.same
  | succ d ih => exact fun r hr => h _ a r (ih r hr)
theorem limF_le {F : Nat → D → Option R} (h : ∀ n a, Le (F n a) (F (n + 1) a)) {n : Nat} {a : D} {r : R} (hr : F n a = some r) : limF F a = some r :=
  limF_of hr fun m r' hm => by
    have h1 := le_fuel h (Nat.le_max_left n m) a r hr
    have h2 := le_fuel h (Nat.le_max_right n m) a r' hm
    rw [h1] at h2
    exact (Option.some.inj h2).symm
end
section
variable {S A B : Type} {rd : S → Option (Ro S A B)}
end
theorem eq_nat_dec (a b : Nat) : ((a : Int) == (b : Int)) = decide (a = b) := by
  rw [Bool.eq_iff_iff]
  simp only [beq_iff_eq, decide_eq_true_eq]
  omega
def negN : List Nat → Nat → Nat
  | [], _ => 0
  | n :: r, x => (n - x % n) % n + n * negN r (x / n)
theorem negN_lt {g : List Nat} (h : ∀ n ∈ g, 2 ≤ n ∧ n ≤ 24) (x : Nat) : negN g x < ordN g := by
  induction g generalizing x with
  | nil => exact Nat.lt_succ_self 0
  | cons n r ih =>
    have hn := h n (by simp)
    have hr := ih (fun m hm => h m (by simp [hm])) (x / n)
    have h1 : (n - x % n) % n < n := Nat.mod_lt _ (by omega)
    show (n - x % n) % n + n * negN r (x / n) < n * ordN r
    have h2 : n * (negN r (x / n) + 1) ≤ n * ordN r := Nat.mul_le_mul_left n hr
    rw [Nat.mul_add] at h2
    omega
theorem neg_round {n x z u : Nat} (hn : 2 ≤ n ∧ n ≤ 24) (hx : x < 4611686018427387904) (hz : z < u) (hu : u * n ≤ 1000000) :
    w64 ((x : Int).tdiv (n : Int)) = ((x / n : Nat) : Int) ∧ w64 ((u : Int) * (n : Int)) = ((u * n : Nat) : Int) ∧
    w64 ((z : Int) + w64 ((w64 ((n : Int) - (x : Int).tmod (n : Int))).tmod (n : Int) * (u : Int))) = ((z + (n - x % n) % n * u : Nat) : Int) ∧ z + (n - x % n) % n * u < u * n := by
  have h1 : x % n < n := Nat.mod_lt _ (by omega)
  have h3 : (n - x % n) % n < n := Nat.mod_lt _ (by omega)
  have h4 : ((n - x % n) % n + 1) * u ≤ n * u := Nat.mul_le_mul_right u h3
  have h5 : n * u = u * n := Nat.mul_comm n u
  have h6 : ((n - x % n) % n + 1) * u = (n - x % n) % n * u + u := by rw [Nat.add_mul, Nat.one_mul]
  have h7 : (n : Int) - ((x % n : Nat) : Int) = ((n - x % n : Nat) : Int) := by omega
  refine ⟨?_, ?_, ?_, ?_⟩
  · rw [tdiv_nat, w64_cast (Nat.lt_of_le_of_lt (Nat.div_le_self x n) (by omega))]
  · rw [← Int.natCast_mul, w64_cast (by omega)]
  · rw [tmod_nat, h7, w64_cast (by omega), tmod_nat, ← Int.natCast_mul, w64_cast (by omega), ← Int.natCast_add, w64_cast (by omega)]
  · omega
theorem s_l2Negate_eq {g : List Nat} (hg : VG g) {x : Nat} (hx : x < 4611686018427387904) : f_s_l2Negate (ints (natsI g)) (x : Int) = some ((negN g x : Nat) : Int) := by
  have key : ∀ (r : List Nat) (k x z u : Nat), g.drop k = r → k ≤ g.length → x < 4611686018427387904 → z < u → u * ordN r ≤ 1000000 →
      loopL (f_s_l2Negate_r0 (ints (natsI g))) ((x : Int), (z : Int), (u : Int), (k : Int)) = some (.one (((z + u * negN r x : Nat)) : Int)) := by
    intro r
    induction r with
    | nil =>
      intro k x z u hd hk hx hz hu
      have := drop_nil hd hk
      subst this
      refine loopL_one ?_
      simp only [f_s_l2Negate_r0, f_s_l2Negate_k0, ints_length, natsI_length, lt_dec_self, br_false, negN, Nat.mul_zero, Nat.add_zero]
    | cons n r ih =>
      intro k x z u hd hk hx hz hu
      obtain ⟨hkl, hn, hd'⟩ := drop_cons hd
      have hne := hg.each n (by rw [← hn]; simp [List.getD, List.getElem?_eq_getElem hkl])
      have hor : 1 ≤ ordN r := ordN_pos fun m hm => hg.each m (by rw [← hd'] at hm; exact List.mem_of_mem_drop hm)
      have hu' : u * n * ordN r ≤ 1000000 := by rw [Nat.mul_assoc]; exact hu
      have hu2 : u * n ≤ 1000000 := Nat.le_trans (Nat.le_mul_of_pos_right _ hor) hu'
      obtain ⟨a1, a3, a4, a5⟩ := neg_round hne hx hz hu2
      have hkl' : k < (natsI g).length := by rw [natsI_length]; exact hkl
      have hat : atI (ints (natsI g)) (k : Int) = (n : Int) := by rw [at_nat, natsI_getD, hn]
      have hn0 : ((n : Int) == 0) = false := beq_eq_false_iff_ne.2 (by omega)
      rw [loopL_again (s' := (((x / n : Nat) : Int), ((z + (n - x % n) % n * u : Nat) : Int), ((u * n : Nat) : Int), ((k + 1 : Nat) : Int))) (by
        have hg3 := hg.len
        simp only [f_s_l2Negate_r0, f_s_l2Negate_k0, ints_length, natsI_length, lt_dec hkl, ok_nat hkl', hat, hn0, br_true, br_false, a1, a3, a4, w64_nat (by omega : k < 9223372036854775807)])]
      rw [ih (k + 1) (x / n) _ (u * n) hd' hkl (Nat.lt_of_le_of_lt (Nat.div_le_self x n) hx) a5 hu']
      congr 3
      simp only [negN, Nat.mul_add, Nat.mul_assoc, Nat.mul_comm u ((n - x % n) % n), Nat.add_assoc]
  have := key g 0 x 0 1 rfl (Nat.zero_le _) hx (by decide) (by have := hg.ord; omega)
  simp only [f_s_l2Negate, f_s_l2Negate_k, ints_length, natsI_length]
  have e0 : ((0 : Nat) : Int) = 0 := rfl
  have e1 : ((1 : Nat) : Int) = 1 := rfl
  rw [e0, e1] at this
  rw [this, bl1_one]
  simp
theorem i_negate_eq {g : List Nat} (hg : VG g) {x : Nat} (hx : x < 4611686018427387904) : f_i_Group_negate (ints (natsI g)) (x : Int) = some ((negN g x : Nat) : Int) := by
  have key : ∀ (r : List Nat) (k x z u : Nat), g.drop k = r → k ≤ g.length → x < 4611686018427387904 → z < u → u * ordN r ≤ 1000000 →
      loopL (f_i_Group_negate_r0 (ints (natsI g)) (g.length : Int)) ((x : Int), (z : Int), (u : Int), (k : Int)) = some (.one (((z + u * negN r x : Nat)) : Int)) := by
    intro r
    induction r with
    | nil =>
      intro k x z u hd hk hx hz hu
      have := drop_nil hd hk
      subst this
      refine loopL_one ?_
      simp only [f_i_Group_negate_r0, f_i_Group_negate_k0, ints_length, natsI_length, lt_dec_self, br_false, negN, Nat.mul_zero, Nat.add_zero]
    | cons n r ih =>
      intro k x z u hd hk hx hz hu
      obtain ⟨hkl, hn, hd'⟩ := drop_cons hd
      have hne := hg.each n (by rw [← hn]; simp [List.getD, List.getElem?_eq_getElem hkl])
      have hor : 1 ≤ ordN r := ordN_pos fun m hm => hg.each m (by rw [← hd'] at hm; exact List.mem_of_mem_drop hm)
      have hu' : u * n * ordN r ≤ 1000000 := by rw [Nat.mul_assoc]; exact hu
      have hu2 : u * n ≤ 1000000 := Nat.le_trans (Nat.le_mul_of_pos_right _ hor) hu'
      obtain ⟨a1, a3, a4, a5⟩ := neg_round hne hx hz hu2
      have hkl' : k < (natsI g).length := by rw [natsI_length]; exact hkl
      have hat : atI (ints (natsI g)) (k : Int) = (n : Int) := by rw [at_nat, natsI_getD, hn]
      have hn0 : ((n : Int) == 0) = false := beq_eq_false_iff_ne.2 (by omega)
      rw [loopL_again (s' := (((x / n : Nat) : Int), ((z + (n - x % n) % n * u : Nat) : Int), ((u * n : Nat) : Int), ((k + 1 : Nat) : Int))) (by
        have hg3 := hg.len
        simp only [f_i_Group_negate_r0, f_i_Group_negate_k0, ints_length, natsI_length, lt_dec hkl, ok_nat hkl', hat, hn0, br_true, br_false, a1, a3, a4, w64_nat (by omega : k < 9223372036854775807)])]
      rw [ih (k + 1) (x / n) _ (u * n) hd' hkl (Nat.lt_of_le_of_lt (Nat.div_le_self x n) hx) a5 hu']
      congr 3
      simp only [negN, Nat.mul_add, Nat.mul_assoc, Nat.mul_comm u ((n - x % n) % n), Nat.add_assoc]
  have := key g 0 x 0 1 rfl (Nat.zero_le _) hx (by decide) (by have := hg.ord; omega)
  simp only [f_i_Group_negate, f_i_Group_negate_k, ints_length, natsI_length]
  have e0 : ((0 : Nat) : Int) = 0 := rfl
  have e1 : ((1 : Nat) : Int) = 1 := rfl
  rw [e0, e1] at this
  rw [this, bl1_one]
  simp
def iterN (g : List Nat) (x : Nat) : Nat → Nat
  | 0 => 0
  | k + 1 => addN g (iterN g x k) x
def mulN (g : List Nat) (x : Nat) (n : Int) : Nat := if n < 0 then iterN g (negN g x) (0 - n).toNat else iterN g x n.toNat
theorem iterN_lt {g : List Nat} (v : VG g) (x k : Nat) : iterN g x k < ordN g := by
  cases k with
  | zero => exact ordN_pos v.each
  | succ k => exact addN_lt v.each _ _
theorem mulN_lt {g : List Nat} (v : VG g) (x : Nat) (n : Int) : mulN g x n < ordN g := by
  unfold mulN
  split <;> exact iterN_lt v _ _
theorem big {n k : Nat} (h : k < n) (hn : n ≤ 24) : k < 4611686018427387904 := by omega
theorem s_mul_loop {g : List Nat} (v : VG g) {x : Nat} (hx : x < ordN g) {n : Nat} (hn : n ≤ 100) : loopL (f_s_MultipleOf_r0 (x : Int) (n : Int) (ints (natsI g))) (0, 0) = some (.one ((iterN g x n : Nat) : Int)) := by
  have ho : ordN g ≤ 24 := by have := v.ord; omega
  exact loop_count (rd := f_s_MultipleOf_r0 (x : Int) (n : Int) (ints (natsI g))) (fun k => (((iterN g x k : Nat) : Int), (k : Int))) n (a := ((iterN g x n : Nat) : Int)) (fun k hk => by
    simp only [f_s_MultipleOf_r0, f_s_MultipleOf_k0, lt_dec hk, br_true, s_l2Add_eq v (big (iterN_lt v x k) ho) (big hx ho), bo_some, w64_nat (show k < 9223372036854775807 by omega), iterN]) (by
    simp only [f_s_MultipleOf_r0, f_s_MultipleOf_k0, lt_dec_self, br_false]) 0 (Nat.zero_le _)
theorem s_MultipleOf_nat {g : List Nat} (v : VG g) {x : Nat} (hx : x < ordN g) {n : Int} (hn : -100 ≤ n ∧ n ≤ 100) : f_s_MultipleOf (ints (natsI g)) (x : Int) n = some ((mulN g x n : Nat) : Int) := by
  have ho : ordN g ≤ 24 := by have := v.ord; omega
  have hin : inB n (-100) 100 = true := by simp [inB, hn]
  have hh : hasG (natsI g) (x : Int) = true := (v.has _).2 ⟨x, rfl, hx⟩
  simp only [f_s_MultipleOf, f_s_MultipleOf_k, s_l2Is_eq _ _ v.lim, hh, s_l1In_eq, hin, bo_some]
  by_cases h : n < 0
  · obtain ⟨m, hm⟩ : ∃ m : Nat, 0 - n = m := ⟨(0 - n).toNat, by omega⟩
    have e1 : w64 (0 - n) = (m : Int) := by rw [hm]; exact w64_cast (by omega)
    simp only [decide_eq_true h, s_l2Negate_eq v (big hx ho), bo_some, e1, s_mul_loop v (negN_lt v.each x) (show m ≤ 100 by omega)]
    unfold mulN
    rw [if_pos h, hm]
    rfl
  · obtain ⟨m, rfl⟩ : ∃ m : Nat, n = m := ⟨n.toNat, by omega⟩
    simp only [decide_eq_false h, s_mul_loop v hx (show m ≤ 100 by omega)]
    unfold mulN
    rw [if_neg h]
    rfl
theorem i_mul_loop {g : List Nat} (v : VG g) {x : Nat} (hx : x < ordN g) {n : Nat} (hn : n ≤ 100) : loopL (f_i_Group_times_r0 (x : Int) (ints (natsI g)) (n : Int)) (0, 0) = some (.one ((iterN g x n : Nat) : Int)) := by
  have ho : ordN g ≤ 24 := by have := v.ord; omega
  exact loop_count (rd := f_i_Group_times_r0 (x : Int) (ints (natsI g)) (n : Int)) (fun k => (((iterN g x k : Nat) : Int), (k : Int))) n (a := ((iterN g x n : Nat) : Int)) (fun k hk => by
    simp only [f_i_Group_times_r0, f_i_Group_times_k0, lt_dec hk, br_true, i_add_eq v (big (iterN_lt v x k) ho) (big hx ho), bo_some, w64_nat (show k < 9223372036854775807 by omega), iterN]) (by
    simp only [f_i_Group_times_r0, f_i_Group_times_k0, lt_dec_self, br_false]) 0 (Nat.zero_le _)
theorem i_times_nat {g : List Nat} (v : VG g) {x : Nat} (hx : x < ordN g) {n : Int} (hn : -100 ≤ n ∧ n ≤ 100) : f_i_Group_times (ints (natsI g)) (x : Int) n = some ((mulN g x n : Nat) : Int) := by
  have ho : ordN g ≤ 24 := by have := v.ord; omega
  simp only [f_i_Group_times, f_i_Group_times_k]
  by_cases h : n < 0
  · obtain ⟨m, hm⟩ : ∃ m : Nat, 0 - n = m := ⟨(0 - n).toNat, by omega⟩
    have e1 : w64 (0 - n) = (m : Int) := by rw [hm]; exact w64_cast (by omega)
    simp only [decide_eq_true h, i_negate_eq v (big hx ho), bo_some, e1, i_mul_loop v (negN_lt v.each x) (show m ≤ 100 by omega)]
    unfold mulN
    rw [if_pos h, hm]
    rfl
  · obtain ⟨m, rfl⟩ : ∃ m : Nat, n = m := ⟨n.toNat, by omega⟩
    simp only [decide_eq_false h, i_mul_loop v hx (show m ≤ 100 by omega)]
    unfold mulN
    rw [if_neg h]
    rfl
def dilN (g : List Nat) (n : Int) (l : List Nat) : Nat := l.foldl (fun o x => o ||| 2 ^ mulN g x n) 0
theorem dilN_lt {g : List Nat} (v : VG g) (n : Int) (l : List Nat) : dilN g n l < 2 ^ ordN g := orFold_lt (Nat.two_pow_pos _) fun y _ => two_pow_lt (mulN_lt v y n)
theorem dilN_snoc (g : List Nat) (n : Int) (l : List Nat) {k : Nat} (h : k < l.length) : dilN g n (l.take (k + 1)) = dilN g n (l.take k) ||| 2 ^ mulN g (l.getD k 0) n := by
  unfold dilN
  rw [List.take_succ_eq_append_getElem h, List.foldl_append]
  simp [List.getD, h]
theorem s_dil_loop {g : List Nat} (v : VG g) {n : Int} (hn : -100 ≤ n ∧ n ≤ 100) {l : List Nat} (hl : ∀ x ∈ l, x < ordN g) (hlen : l.length ≤ 63) : loopL (f_s_DilateSet_r0 n (ints (natsI g))) (0, ints (natsI l), 0) = some (.one ((dilN g n l : Nat) : Int)) := by
  have key := loop_count (rd := f_s_DilateSet_r0 n (ints (natsI g))) (fun k => (((dilN g n (l.take k) : Nat) : Int), ints (natsI l), (k : Int))) l.length (a := ((dilN g n l : Nat) : Int)) (fun k hk => by
    have hx : l.getD k 0 < ordN g := hl _ (by simp [List.getD, List.getElem?_eq_getElem hk])
    simp only [f_s_DilateSet_r0, f_s_DilateSet_k0, ints_length, natsI_length, lt_dec hk, in_nat hk, Int.toNat_natCast, kAt_ints, atN_natsI, br_true, s_MultipleOf_nat v hx hn, bo_some, neg_dec, br_false, or_pow v (dilN_lt v n _) (mulN_lt v _ n), dilN_snoc g n l hk, w64_nat (show k < 9223372036854775807 by omega)]) (by
    simp only [f_s_DilateSet_r0, f_s_DilateSet_k0, ints_length, natsI_length, lt_dec_self, br_false, List.take_length]) 0 (Nat.zero_le _)
  exact key
theorem i_dil_loop {g : List Nat} (v : VG g) {n : Int} (hn : -100 ≤ n ∧ n ≤ 100) {l : List Nat} (hl : ∀ x ∈ l, x < ordN g) (hlen : l.length ≤ 63) : loopL (f_i_DilateSet_r0 n (ints (natsI g)) (l.length : Int)) (0, ints (natsI l), 0) = some (.one ((dilN g n l : Nat) : Int)) := by
  have key := loop_count (rd := f_i_DilateSet_r0 n (ints (natsI g)) (l.length : Int)) (fun k => (((dilN g n (l.take k) : Nat) : Int), ints (natsI l), (k : Int))) l.length (a := ((dilN g n l : Nat) : Int)) (fun k hk => by
    have hx : l.getD k 0 < ordN g := hl _ (by simp [List.getD, List.getElem?_eq_getElem hk])
    simp only [f_i_DilateSet_r0, f_i_DilateSet_k0, ints_length, natsI_length, lt_dec hk, in_nat hk, Int.toNat_natCast, kAt_ints, atN_natsI, br_true, i_times_nat v hx hn, bo_some, neg_dec, br_false, or_pow v (dilN_lt v n _) (mulN_lt v _ n), dilN_snoc g n l hk, w64_nat (show k < 9223372036854775807 by omega)]) (by
    simp only [f_i_DilateSet_r0, f_i_DilateSet_k0, lt_dec_self, br_false, List.take_length]) 0 (Nat.zero_le _)
  exact key
theorem DilateSet_both (G : List Int) (a n : Int) (h : G.length ≤ lim) : (f_s_DilateSet (ints G) a n = some (-1) ∧ f_i_DilateSet (ints G) a n = some (-1)) ∨
    ∃ (g : List Nat) (c r : Nat), G = natsI g ∧ VG g ∧ a = ((c : Nat) : Int) ∧ c < 2 ^ ordN g ∧ r < 2 ^ ordN g ∧ f_s_DilateSet (ints G) a n = some ((r : Nat) : Int) ∧ f_i_DilateSet (ints G) a n = some ((r : Nat) : Int) := by
  simp only [f_s_DilateSet, f_s_DilateSet_k, f_i_DilateSet, f_i_DilateSet_k, s_IsSet_eq G a h, i_IsSet_eq G a h, s_l1In_eq, i_within_eq, bo_some]
  cases hs : setG G a with
  | false => exact .inl ⟨rfl, rfl⟩
  | true =>
    cases hn : inB n (-100) 100 with
    | false => exact .inl ⟨rfl, rfl⟩
    | true =>
      obtain ⟨g, c, rfl, v, rfl, hc⟩ := nat_of_set hs
      have hn' : -100 ≤ n ∧ n ≤ 100 := by simpa [inB] using hn
      have hc' := set_i64 v hc
      refine .inr ⟨g, c, dilN g n (elems c), rfl, v, rfl, hc, dilN_lt v n _, ?_, ?_⟩
      · simp only [s_l3List_eq hc', bo_some, s_dil_loop v hn' (fun x hx => elems_lt hc hx) (elems_len c)]
        rfl
      · simp only [i_members_eq hc', bo_some, ints_length, natsI_length, i_dil_loop v hn' (fun x hx => elems_lt hc hx) (elems_len c)]
        rfl
theorem ReplaceFactor_both (G : List Int) (a b n : Int) (h : G.length ≤ lim) : ∃ r, f_s_ReplaceFactor (ints G) a b n = some r ∧ f_i_ReplaceFactor (ints G) a b n = some r := by
  obtain ⟨t, t1, t2⟩ := IsTiling_both G a b h
  simp only [f_s_ReplaceFactor, f_s_ReplaceFactor_k, f_i_ReplaceFactor, f_i_ReplaceFactor_k, t1, t2]
  rcases DilateSet_both G a n h with ⟨e1, e2⟩ | ⟨g, c, r, rfl, v, rfl, hc, hr, e1, e2⟩
  · simp only [e1, e2, bo_some]
    cases t <;> exact ⟨_, rfl, rfl⟩
  · obtain ⟨q, q1, q2⟩ := IsTiling_both (natsI g) (r : Int) b h
    simp only [e1, e2, bo_some, s_l3Bits_eq (set_i64 v hr), i_bits_eq (set_i64 v hr), s_l3Bits_eq (set_i64 v hc), i_bits_eq (set_i64 v hc), q1, q2]
    have hd : decide (((r : Nat) : Int) ≥ 0) = true := decide_eq_true (by omega)
    simp only [hd]
    cases t with
    | false => exact ⟨false, rfl, rfl⟩
    | true =>
      cases ((popN r : Nat) : Int) == ((popN c : Nat) : Int) with
      | false => exact ⟨false, rfl, rfl⟩
      | true => exact ⟨q, rfl, rfl⟩
theorem addN_zero : ∀ (g : List Nat) (y : Nat), (∀ n ∈ g, 2 ≤ n ∧ n ≤ 24) → y < ordN g → addN g 0 y = y
  | [], y, _, h => by
    have : y < 1 := h
    simp only [addN]
    omega
  | n :: r, y, hg, h => by
    have hn := hg n (by simp)
    have h : y < n * ordN r := h
    have h1 : y / n < ordN r := Nat.div_lt_of_lt_mul h
    simp only [addN, Nat.zero_mod, Nat.zero_add, Nat.zero_div, Nat.mod_mod]
    rw [addN_zero r (y / n) (fun m hm => hg m (by simp [hm])) h1]
    exact Nat.mod_add_div y n
theorem shiftN_zero {g : List Nat} (v : VG g) {a : Nat} (ha : a < 2 ^ ordN g) : shiftN g a 0 = a := by
  apply Nat.eq_of_testBit_eq
  intro z
  rw [shiftN_test]
  have ha' := set_i64 v ha
  cases hz : a.testBit z with
  | true =>
    have hm := (mem_elems ha').2 hz
    exact List.any_eq_true.2 ⟨z, hm, decide_eq_true (addN_zero g z v.each (elems_lt ha hm))⟩
  | false =>
    rw [List.any_eq_false]
    intro y hy
    have h1 := addN_zero g y v.each (elems_lt ha hy)
    rw [h1]
    have h2 := (mem_elems ha').1 hy
    intro h3
    have : y = z := of_decide_eq_true h3
    subst this
    rw [h2] at hz
    cases hz
def stabF (g : List Nat) (a : Nat) (o x : Nat) : Nat := if shiftN g a x = a then o ||| 2 ^ x else o
def stabN (g : List Nat) (a k : Nat) : Nat := (List.range k).foldl (stabF g a) 0
theorem stabN_succ (g : List Nat) (a k : Nat) : stabN g a (k + 1) = stabF g a (stabN g a k) k := by
  unfold stabN
  rw [List.range_succ, List.foldl_append]
  rfl
theorem stabN_lt {g : List Nat} (v : VG g) (a : Nat) : ∀ k, k ≤ ordN g → stabN g a k < 2 ^ ordN g
  | 0, _ => Nat.two_pow_pos _
  | k + 1, h => by
    rw [stabN_succ]
    unfold stabF
    split
    · exact or_lt (stabN_lt v a k (by omega)) (two_pow_lt (by omega))
    · exact stabN_lt v a k (by omega)
theorem stabN_zero {g : List Nat} (v : VG g) {a : Nat} (ha : a < 2 ^ ordN g) : ∀ k, (stabN g a (k + 1)).testBit 0 = true
  | 0 => by
    rw [stabN_succ]
    unfold stabF
    rw [if_pos (shiftN_zero v ha), Nat.testBit_or, pow_test]
    simp
  | k + 1 => by
    rw [stabN_succ]
    unfold stabF
    split
    · rw [Nat.testBit_or, stabN_zero v ha k]; rfl
    · exact stabN_zero v ha k
theorem pcn_none : ∀ (n b : Nat), b < 2 ^ n → pcn n b = 0 → b = 0
  | 0, b, h, _ => by simpa using h
  | n + 1, b, h, h0 => by
    have h0 : b % 2 + pcn n (b / 2) = 0 := h0
    rw [Nat.pow_succ] at h
    have := pcn_none n (b / 2) (by omega) (by omega)
    omega
theorem pop_odd {s : Nat} (hs : s < 9223372036854775808) (h0 : s.testBit 0 = true) : decide (((popN s : Nat) : Int) > 1) = decide (((s : Nat) : Int) > 1) := by
  have h1 : s % 2 = 1 := by
    rw [Nat.testBit_zero] at h0
    exact of_decide_eq_true h0
  have h2 : popN s = s % 2 + pcn 62 (s / 2) := rfl
  have h3 : pcn 62 (s / 2) = 0 → s / 2 = 0 := pcn_none 62 (s / 2) (by omega)
  have h4 : s / 2 = 0 → pcn 62 (s / 2) = 0 := fun h => by rw [h, pcn_zero]
  rw [decide_eq_decide]
  constructor
  · intro h
    have : pcn 62 (s / 2) ≠ 0 := by omega
    have : s / 2 ≠ 0 := fun e => this (h4 e)
    omega
  · intro h
    have : s / 2 ≠ 0 := by omega
    have : pcn 62 (s / 2) ≠ 0 := fun e => this (h3 e)
    omega
theorem s_stab_eq {g : List Nat} (v : VG g) {a : Nat} (ha : a < 2 ^ ordN g) : f_s_l6Stabilizer (ints (natsI g)) (a : Int) = some ((stabN g a (ordN g) : Nat) : Int) := by
  have ho : ordN g ≤ 24 := by have := v.ord; omega
  have hp : prodW (natsI g) = (ordN g : Nat) := by rw [← v.ordG]; unfold ordG; rw [if_pos v.isG]
  have key := loop_count (rd := f_s_l6Stabilizer_r0 (a : Int) (ints (natsI g))) (fun k => (((stabN g a k : Nat) : Int), (k : Int))) (ordN g) (a := ((stabN g a (ordN g) : Nat) : Int)) (fun k hk => by
    simp only [f_s_l6Stabilizer_r0, f_s_l6Stabilizer_k0, s_l2Order_eq _ v.lim, hp, bo_some, lt_dec hk, br_true, s_l3Shift_eq v ha hk, eq_nat_dec, neg_dec, br_false, or_pow v (stabN_lt v a k (by omega)) hk, w64_nat (show k < 9223372036854775807 by omega), stabN_succ]
    unfold stabF
    by_cases h : shiftN g a k = a
    · simp only [decide_eq_true h, br_true, if_pos h]
    · simp only [decide_eq_false h, br_false, if_neg h]) (by
    simp only [f_s_l6Stabilizer_r0, f_s_l6Stabilizer_k0, s_l2Order_eq _ v.lim, hp, bo_some, lt_dec_self, br_false]) 0 (Nat.zero_le _)
  have e0 : (((stabN g a 0 : Nat) : Int), ((0 : Nat) : Int)) = ((0 : Int), (0 : Int)) := rfl
  rw [e0] at key
  simp only [f_s_l6Stabilizer, f_s_l6Stabilizer_k, key, bl1_one]
theorem i_stab_eq {g : List Nat} (v : VG g) {a : Nat} (ha : a < 2 ^ ordN g) (hs : setG (natsI g) (a : Int) = true) : f_i_StabilizerOf (ints (natsI g)) (a : Int) = some ((stabN g a (ordN g) : Nat) : Int) := by
  have ho : ordN g ≤ 24 := by have := v.ord; omega
  have key := loop_count (rd := f_i_StabilizerOf_r0 (a : Int) (ints (natsI g)) ((ordN g : Nat) : Int)) (fun k => (((stabN g a k : Nat) : Int), (k : Int))) (ordN g) (a := ((stabN g a (ordN g) : Nat) : Int)) (fun k hk => by
    simp only [f_i_StabilizerOf_r0, f_i_StabilizerOf_k0, bo_some, lt_dec hk, br_true, i_shift_eq v ha hk, eq_nat_dec, neg_dec, br_false, or_pow v (stabN_lt v a k (by omega)) hk, w64_nat (show k < 9223372036854775807 by omega), stabN_succ]
    unfold stabF
    by_cases h : shiftN g a k = a
    · simp only [decide_eq_true h, br_true, if_pos h]
    · simp only [decide_eq_false h, br_false, if_neg h]) (by
    simp only [f_i_StabilizerOf_r0, f_i_StabilizerOf_k0, lt_dec_self, br_false]) 0 (Nat.zero_le _)
  have e0 : (((stabN g a 0 : Nat) : Int), ((0 : Nat) : Int)) = ((0 : Int), (0 : Int)) := rfl
  rw [e0] at key
  simp only [f_i_StabilizerOf, f_i_StabilizerOf_k, i_IsSet_eq _ _ v.lim, hs, bo_some, Bool.not_true, br_false, i_OrderOf_eq _ v.lim, v.ordG, key, bl1_one]
theorem IsPeriodic_both (G : List Int) (a : Int) (h : G.length ≤ lim) : ∃ r, f_s_IsPeriodic (ints G) a = some r ∧ f_i_IsPeriodic (ints G) a = some r := by
  simp only [f_s_IsPeriodic, f_s_IsPeriodic_k, f_i_IsPeriodic, f_i_IsPeriodic_k, s_IsSet_eq G a h, i_IsSet_eq G a h, bo_some]
  cases hs : setG G a with
  | false => exact ⟨false, rfl, rfl⟩
  | true =>
    obtain ⟨g, c, rfl, v, rfl, hc⟩ := nat_of_set hs
    have hlt := set_i64 v (stabN_lt v c (ordN g) (Nat.le_refl _))
    obtain ⟨m, hm⟩ : ∃ m, ordN g = m + 1 := ⟨ordN g - 1, by have := ordN_pos v.each; omega⟩
    have h0 : (stabN g c (ordN g)).testBit 0 = true := by rw [hm]; exact stabN_zero v hc m
    simp only [s_stab_eq v hc, i_stab_eq v hc hs, bo_some, i_bits_eq hlt, pop_odd hlt h0]
    exact ⟨_, rfl, rfl⟩
theorem HasPeriodicFactor_both (G : List Int) (a b : Int) (h : G.length ≤ lim) : ∃ r, f_s_HasPeriodicFactor (ints G) a b = some r ∧ f_i_HasPeriodicFactor (ints G) a b = some r := by
  obtain ⟨t, t1, t2⟩ := IsTiling_both G a b h
  obtain ⟨p, p1, p2⟩ := IsPeriodic_both G a h
  obtain ⟨q, q1, q2⟩ := IsPeriodic_both G b h
  simp only [f_s_HasPeriodicFactor, f_s_HasPeriodicFactor_k, f_i_HasPeriodicFactor, f_i_HasPeriodicFactor_k, t1, t2, p1, p2, q1, q2, bo_some]
  cases t with
  | false => exact ⟨false, rfl, rfl⟩
  | true =>
    cases p with
    | false => exact ⟨q, rfl, rfl⟩
    | true => exact ⟨true, rfl, rfl⟩
theorem addN_cons (n : Nat) (r : List Nat) (x y : Nat) : addN (n :: r) x y = (x % n + y % n) % n + n * addN r (x / n) (y / n) := rfl
theorem addN_mod {n : Nat} (r : List Nat) (x y : Nat) (hn : 2 ≤ n) : addN (n :: r) x y % n = (x % n + y % n) % n := by
  rw [addN_cons, Nat.add_mul_mod_self_left, Nat.mod_mod]
theorem addN_div {n : Nat} (r : List Nat) (x y : Nat) (hn : 2 ≤ n) : addN (n :: r) x y / n = addN r (x / n) (y / n) := by
  rw [addN_cons, Nat.add_mul_div_left _ _ (by omega), Nat.div_eq_of_lt (Nat.mod_lt _ (by omega)), Nat.zero_add]
theorem addN_assoc : ∀ (g : List Nat), (∀ n ∈ g, 2 ≤ n ∧ n ≤ 24) → ∀ x y z, addN g (addN g x y) z = addN g x (addN g y z)
  | [], _, _, _, _ => rfl
  | n :: r, h, x, y, z => by
    have hn := (h n (by simp)).1
    rw [addN_cons n r (addN (n :: r) x y) z, addN_cons n r x (addN (n :: r) y z), addN_mod r x y hn, addN_mod r y z hn, addN_div r x y hn, addN_div r y z hn,
      addN_assoc r (fun m hm => h m (by simp [hm]))]
    congr 1
    simp only [Nat.mod_add_mod, Nat.add_mod_mod, Nat.add_assoc]
theorem iterN_cons {n : Nat} (r : List Nat) (x : Nat) (hn : 2 ≤ n) : ∀ k, iterN (n :: r) x k = (k * x) % n + n * iterN r (x / n) k
  | 0 => by simp [iterN]
  | k + 1 => by
    show addN (n :: r) (iterN (n :: r) x k) x = _
    rw [iterN_cons r x hn k, addN_cons, Nat.add_mul_mod_self_left, Nat.add_mul_div_left _ _ (by omega), Nat.div_eq_of_lt (Nat.mod_lt _ (by omega)), Nat.zero_add]
    congr 1
    rw [Nat.mod_mod, ← Nat.add_mod, Nat.add_mul, Nat.one_mul]
theorem iterN_zero : ∀ (g : List Nat), (∀ n ∈ g, 2 ≤ n ∧ n ≤ 24) → ∀ m, (∀ n ∈ g, n ∣ m) → ∀ x, iterN g x m = 0
  | [], _, m, _, x => by
    cases m with
    | zero => rfl
    | succ m => rfl
  | n :: r, h, m, hm, x => by
    rw [iterN_cons r x (h n (by simp)).1, iterN_zero r (fun k hk => h k (by simp [hk])) m (fun k hk => hm k (by simp [hk])) (x / n)]
    obtain ⟨c, rfl⟩ := hm n (by simp)
    rw [Nat.mul_assoc, Nat.mul_mod_right, Nat.mul_zero]
theorem dvd_ordN : ∀ (g : List Nat) (n : Nat), n ∈ g → n ∣ ordN g
  | m :: r, n, h => by
    rcases List.mem_cons.1 h with rfl | h
    · exact ⟨ordN r, rfl⟩
    · exact Nat.dvd_trans (dvd_ordN r n h) ⟨m, Nat.mul_comm m (ordN r)⟩
theorem iterN_ord {g : List Nat} (v : VG g) (x : Nat) : iterN g x (ordN g) = 0 := iterN_zero g v.each (ordN g) (dvd_ordN g) x
theorem addN_neg : ∀ (g : List Nat), (∀ n ∈ g, 2 ≤ n ∧ n ≤ 24) → ∀ x, addN g x (negN g x) = 0
  | [], _, _ => rfl
  | n :: r, h, x => by
    have hn := (h n (by simp)).1
    have e : negN (n :: r) x = (n - x % n) % n + n * negN r (x / n) := rfl
    rw [addN_cons, e, Nat.add_mul_mod_self_left, Nat.add_mul_div_left _ _ (by omega), Nat.div_eq_of_lt (Nat.mod_lt _ (by omega)), Nat.zero_add,
      addN_neg r (fun m hm => h m (by simp [hm])), Nat.mul_zero, Nat.add_zero, Nat.mod_mod, Nat.add_mod_mod]
    have : x % n < n := Nat.mod_lt _ (by omega)
    rw [show x % n + (n - x % n) = n by omega, Nat.mod_self]
theorem sumM_add {α : Type} (F G : α → Nat) : ∀ l : List α, (l.map fun x => F x + G x).sum = (l.map F).sum + (l.map G).sum
  | [] => rfl
  | x :: l => by rw [List.map_cons, List.sum_cons, sumM_add F G l, List.map_cons, List.map_cons, List.sum_cons, List.sum_cons]; omega
theorem sumM_zero {α : Type} : ∀ l : List α, (l.map fun _ => 0).sum = 0
  | [] => rfl
  | x :: l => by rw [List.map_cons, List.sum_cons, sumM_zero l]
theorem sumM_mul {α : Type} (F : α → Nat) (c : Nat) : ∀ l : List α, (l.map fun x => F x * c).sum = (l.map F).sum * c
  | [] => by simp
  | x :: l => by rw [List.map_cons, List.sum_cons, sumM_mul F c l, List.map_cons, List.sum_cons, Nat.add_mul]
theorem sumM_swap {α β : Type} (F : α → β → Nat) : ∀ (l : List α) (m : List β), (l.map fun x => (m.map fun y => F x y).sum).sum = (m.map fun y => (l.map fun x => F x y).sum).sum
  | [], m => by simp [sumM_zero]
  | x :: l, m => by
    rw [List.map_cons, List.sum_cons, sumM_swap F l m]
    have : (m.map fun y => ((x :: l).map fun x => F x y).sum) = m.map fun y => F x y + (l.map fun x => F x y).sum := by
      apply List.map_congr_left
      intro y _
      rw [List.map_cons, List.sum_cons]
    rw [this, sumM_add]
theorem sumM_congr {α : Type} {F G : α → Nat} {l : List α} (h : ∀ x ∈ l, F x = G x) : (l.map F).sum = (l.map G).sum := by rw [List.map_congr_left h]
theorem sumM_ge {α : Type} {F : α → Nat} {M : Nat} : ∀ {l : List α}, (∀ x ∈ l, M ≤ F x) → l.length * M ≤ (l.map F).sum
  | [], _ => by simp
  | x :: l, h => by
    have h1 := h x (by simp)
    have h2 := sumM_ge (l := l) fun y hy => h y (by simp [hy])
    rw [List.map_cons, List.sum_cons, List.length_cons, Nat.add_mul]
    omega
theorem countP_sum {α : Type} (p : α → Bool) : ∀ l : List α, l.countP p = (l.map fun y => if p y then 1 else 0).sum
  | [] => rfl
  | x :: l => by
    rw [List.map_cons, List.sum_cons, ← countP_sum p l, List.countP_cons]
    omega
theorem sum_delta (F : Nat → Nat) (z : Nat) : ∀ n, ((List.range n).map fun s => (if z = s then 1 else 0) * F s).sum = if z < n then F z else 0
  | 0 => rfl
  | n + 1 => by
    rw [List.range_succ, List.map_append, List.sum_append, sum_delta F z n]
    simp only [List.map_cons, List.map_nil, List.sum_cons, List.sum_nil, Nat.add_zero]
    by_cases h : z = n
    · subst h; simp
    · rw [if_neg h]
      by_cases h2 : z < n
      · rw [if_pos h2, if_pos (by omega)]; omega
      · rw [if_neg h2, if_neg (by omega)]; omega
theorem range_one (q : Nat → Bool) (w : Nat) : ∀ n, (List.range n).countP (fun x => decide (x = w) && q x) = if decide (w < n) && q w then 1 else 0
  | 0 => by simp
  | n + 1 => by
    rw [List.range_succ, List.countP_append, range_one q w n, List.countP_singleton]
    by_cases h : n = w
    · subst h
      cases hq : q n <;> simp
    · have h1 : decide (n = w) = false := decide_eq_false h
      rw [h1]
      by_cases h2 : w < n
      · have h3 : w < n + 1 := by omega
        simp [h2, h3]
      · have h3 : ¬ w < n + 1 := by omega
        simp [h2, h3]
def cnt1 (g : List Nat) (x : Nat) (B : List Nat) (z : Nat) : Nat := B.countP fun y => decide (addN g x y = z)
def cnt2 (g A B : List Nat) (z : Nat) : Nat := (A.map fun x => cnt1 g x B z).sum
theorem table_pairs {g : List Nat} (v : VG g) (A B : List Nat) (F : Nat → Nat) : ((List.range (ordN g)).map fun s => cnt2 g A B s * F s).sum = (A.map fun x => (B.map fun y => F (addN g x y)).sum).sum := by
  have e1 : ((List.range (ordN g)).map fun s => cnt2 g A B s * F s).sum = ((List.range (ordN g)).map fun s => (A.map fun x => cnt1 g x B s * F s).sum).sum := by
    refine sumM_congr fun s _ => ?_
    unfold cnt2
    rw [sumM_mul]
  rw [e1, sumM_swap]
  refine sumM_congr fun x _ => ?_
  have e2 : ((List.range (ordN g)).map fun s => cnt1 g x B s * F s).sum = ((List.range (ordN g)).map fun s => (B.map fun y => (if addN g x y = s then 1 else 0) * F s).sum).sum := by
    refine sumM_congr fun s _ => ?_
    unfold cnt1
    rw [countP_sum, ← sumM_mul]
    refine sumM_congr fun y _ => ?_
    simp only [decide_eq_true_eq]
  rw [e2, sumM_swap]
  refine sumM_congr fun y _ => ?_
  rw [sum_delta F, if_pos (addN_lt v.each x y)]
theorem addN_back {g : List Nat} (v : VG g) {z w : Nat} (hw : w < ordN g) : addN g (addN g z w) (negN g z) = w := by
  rw [addN_comm g z w, addN_assoc g v.each, addN_neg g v.each, addN_comm, addN_zero g w v.each hw]
theorem addN_forth {g : List Nat} (v : VG g) {z s : Nat} (hs : s < ordN g) : addN g z (addN g s (negN g z)) = s := by
  rw [addN_comm, addN_assoc g v.each, addN_comm g (negN g z), addN_neg g v.each, addN_comm, addN_zero g s v.each hs]
theorem cnt1_test {g : List Nat} (v : VG g) {a z s : Nat} (ha : a < 2 ^ ordN g) (hs : s < ordN g) : cnt1 g z (elems a) s = if a.testBit (addN g s (negN g z)) then 1 else 0 := by
  have hw := addN_lt v.each s (negN g z)
  have h24 := v.ord
  have e : cnt1 g z (elems a) s = (elems a).countP fun w => decide (w = addN g s (negN g z)) := by
    unfold cnt1
    apply List.countP_congr
    intro w hwm
    have hwl := elems_lt ha hwm
    simp only [decide_eq_true_eq]
    constructor
    · intro h; rw [← h, addN_back v hwl]
    · intro h; rw [h, addN_forth v hs]
  rw [e]
  unfold elems
  rw [List.countP_filter, range_one (fun x => a.testBit x) _ 63, decide_eq_true (show addN g s (negN g z) < 63 by omega), Bool.true_and]
theorem sum_range_succ (F : Nat → Nat) (k : Nat) : ((List.range (k + 1)).map F).sum = ((List.range k).map F).sum + F k := by
  rw [List.range_succ, List.map_append, List.sum_append]
  simp
def sbN (a b : Nat) : Prop := ∀ z, a.testBit z = true → b.testBit z = true
theorem sbN_eq {a b : Nat} (h1 : sbN a b) (h2 : sbN b a) : a = b := by
  apply Nat.eq_of_testBit_eq
  intro z
  rw [Bool.eq_iff_iff]
  exact ⟨h1 z, h2 z⟩
theorem sbN_and {a b : Nat} : sbN a b ↔ a &&& b = a := by
  constructor
  · intro h
    apply Nat.eq_of_testBit_eq
    intro z
    rw [Nat.testBit_and]
    cases ha : a.testBit z with
    | false => rfl
    | true => rw [h z ha]; rfl
  · intro h z hz
    rw [← h, Nat.testBit_and] at hz
    exact (Bool.and_eq_true _ _ ▸ hz).2
theorem bit_lt {a n z : Nat} (h : a < 2 ^ n) (hz : a.testBit z = true) : z < n := by
  rcases Nat.lt_or_ge z n with h1 | h1
  · exact h1
  · rw [Nat.testBit_lt_two_pow (Nat.lt_of_lt_of_le h (Nat.pow_le_pow_right (by decide) h1))] at hz
    cases hz
theorem sum_bit {g : List Nat} (v : VG g) {a b : Nat} (ha : a < 2 ^ ordN g) (hb : b < 2 ^ ordN g) (z : Nat) : (sumN g a b).testBit z = true ↔ ∃ x y, a.testBit x = true ∧ b.testBit y = true ∧ addN g x y = z := by
  rw [sumN_test]
  constructor
  · rintro ⟨x, hx, y, hy, h⟩
    exact ⟨x, y, (mem_elems (set_i64 v ha)).1 hx, (mem_elems (set_i64 v hb)).1 hy, h⟩
  · rintro ⟨x, y, hx, hy, h⟩
    exact ⟨x, (mem_elems (set_i64 v ha)).2 hx, y, (mem_elems (set_i64 v hb)).2 hy, h⟩
theorem shift_bit {g : List Nat} (v : VG g) {a : Nat} (ha : a < 2 ^ ordN g) (x z : Nat) : (shiftN g a x).testBit z = true ↔ ∃ y, a.testBit y = true ∧ addN g x y = z := by
  rw [shiftN_test, List.any_eq_true]
  constructor
  · rintro ⟨y, hy, h⟩
    exact ⟨y, (mem_elems (set_i64 v ha)).1 hy, of_decide_eq_true h⟩
  · rintro ⟨y, hy, h⟩
    exact ⟨y, (mem_elems (set_i64 v ha)).2 hy, decide_eq_true h⟩
structure Subg (g : List Nat) (h : Nat) : Prop where
  lt : h < 2 ^ ordN g
  zero : h.testBit 0 = true
  add : ∀ x y, h.testBit x = true → h.testBit y = true → h.testBit (addN g x y) = true
theorem neg_of_zero {g : List Nat} (v : VG g) {x w : Nat} (hw : w < ordN g) (h : addN g x w = 0) : w = negN g x := by
  have h1 : addN g (addN g x w) (negN g x) = w := by
    rw [addN_comm g x w, addN_assoc g v.each, addN_neg g v.each, addN_comm, addN_zero g w v.each hw]
  rw [h, addN_zero g _ v.each (negN_lt v.each x)] at h1
  exact h1.symm
theorem Subg.neg {g : List Nat} {h : Nat} (v : VG g) (s : Subg g h) {x : Nat} (hx : h.testBit x = true) : h.testBit (negN g x) = true := by
  have hxl := bit_lt s.lt hx
  have hit : ∀ k, h.testBit (iterN g x (k + 1)) = true := by
    intro k
    induction k with
    | zero =>
      rw [show iterN g x (0 + 1) = addN g 0 x from rfl, addN_zero g x v.each hxl]
      exact hx
    | succ k ih => exact s.add _ _ ih hx
  have o1 := ordN_pos v.each
  by_cases h1 : ordN g = 1
  · have hx0 : negN g x = 0 := by have := negN_lt v.each x; omega
    rw [hx0]
    exact s.zero
  · have e := iterN_ord v x
    have e2 : addN g (iterN g x (ordN g - 2 + 1)) x = 0 := by
      have : iterN g x (ordN g - 2 + 1 + 1) = 0 := by rw [show ordN g - 2 + 1 + 1 = ordN g by omega]; exact e
      exact this
    rw [addN_comm] at e2
    have := neg_of_zero v (iterN_lt v x (ordN g - 2 + 1)) e2
    rw [← this]
    exact hit _
def nxS (g : List Nat) (a o : Nat) : Nat := o ||| sumN g a o
theorem or_grow {o t : Nat} (h : ¬ (o ||| t) = o) : o < o ||| t := by
  have : o ≤ o ||| t := Nat.left_le_or
  omega
theorem one_test (z : Nat) : (1 : Nat).testBit z = true → z = 0 := by
  intro h
  cases z with
  | zero => rfl
  | succ z => rw [Nat.testBit_succ] at h; simp at h
theorem s_close_loop {g : List Nat} (v : VG g) {a : Nat} (ha : a < 2 ^ ordN g) : ∀ (d o : Nat), o < 2 ^ ordN g → 2 ^ ordN g ≤ d + o → ∃ c : Nat, loopL (f_s_l5Closure_r0 (a : Int) (ints (natsI g))) ((o : Int), ((nxS g a o : Nat) : Int)) = some (.one (c : Int)) ∧ c < 2 ^ ordN g ∧ sbN o c ∧ nxS g a c = c ∧
    ∀ S, sbN o S → (∀ x y, S.testBit x = true → a.testBit y = true → S.testBit (addN g x y) = true) → sbN c S
  | 0, o, h1, h2 => by omega
  | d + 1, o, h1, h2 => by
    have hn : nxS g a o < 2 ^ ordN g := or_lt h1 (sumN_lt v a o)
    by_cases he : nxS g a o = o
    · refine ⟨o, loopL_one ?_, h1, fun z h => h, he, fun S hS _ => hS⟩
      have e : (((nxS g a o : Nat) : Int) != (o : Int)) = false := by rw [he]; exact bne_self_eq_false _
      simp only [f_s_l5Closure_r0, f_s_l5Closure_k0, e, br_false]
    · have hgrow := or_grow (t := sumN g a o) he
      have e : (((nxS g a o : Nat) : Int) != (o : Int)) = true := bne_iff_ne.2 (by omega)
      obtain ⟨c, hc, q1, q2, q3, q4⟩ := s_close_loop v ha d (nxS g a o) hn (by unfold nxS at *; omega)
      have hsub : sbN o (nxS g a o) := fun z h => by unfold nxS; rw [Nat.testBit_or, h]; rfl
      refine ⟨c, ?_, q1, fun z h => q2 z (hsub z h), q3, fun S hS hadd => q4 S (fun z h => ?_) hadd⟩
      · rw [loopL_again (s' := (((nxS g a o : Nat) : Int), ((nxS g a (nxS g a o) : Nat) : Int))) (by
          simp only [f_s_l5Closure_r0, f_s_l5Closure_k0, e, br_true, s_l4Sum_eq v hn ha, bo_some, or_or v hn (sumN_lt v a (nxS g a o))]
          rfl)]
        exact hc
      · unfold nxS at h
        rw [Nat.testBit_or, Bool.or_eq_true] at h
        rcases h with h | h
        · exact hS z h
        · obtain ⟨x, y, hx, hy, rfl⟩ := (sum_bit v ha h1 z).1 h
          rw [addN_comm]
          exact hadd y x (hS y hy) hx
theorem one_lt2 {g : List Nat} (v : VG g) : 1 < 2 ^ ordN g := by
  have := Nat.pow_le_pow_right (n := 2) (by decide) (ordN_pos v.each)
  omega
theorem s_close {g : List Nat} (v : VG g) {a : Nat} (ha : a < 2 ^ ordN g) : ∃ c : Nat, f_s_l5Closure (ints (natsI g)) (a : Int) = some (c : Int) ∧ c < 2 ^ ordN g ∧ (c = a ↔ Subg g a) := by
  have h1 := one_lt2 v
  obtain ⟨c, hc, q1, q2, q3, q4⟩ := s_close_loop v ha (2 ^ ordN g) 1 h1 (by omega)
  have e1 := s_l4Sum_eq v h1 ha
  have e1' : f_s_l4Sum (ints (natsI g)) 1 (a : Int) = some ((sumN g a 1 : Nat) : Int) := e1
  have e2 := or_or v h1 (sumN_lt v a 1)
  have e2' : or64 1 ((sumN g a 1 : Nat) : Int) = ((nxS g a 1 : Nat) : Int) := e2
  have hc' : loopL (f_s_l5Closure_r0 (a : Int) (ints (natsI g))) (1, ((nxS g a 1 : Nat) : Int)) = some (.one (c : Int)) := hc
  have c0 : c.testBit 0 = true := q2 0 (by decide)
  have hcl : ∀ x y, c.testBit x = true → a.testBit y = true → c.testBit (addN g x y) = true := fun x y hx hy => by
    rw [← q3]
    unfold nxS
    rw [Nat.testBit_or, (sum_bit v ha q1 _).2 ⟨y, x, hy, hx, addN_comm g y x⟩, Bool.or_true]
  refine ⟨c, by simp only [f_s_l5Closure, f_s_l5Closure_k, e1', bo_some, e2', hc', bl1_one], q1, fun e => ?_, fun s => ?_⟩
  · subst e
    exact ⟨q1, c0, hcl⟩
  · refine sbN_eq (q4 a (fun z h => by rw [one_test z h]; exact s.zero) s.add) fun y hy => ?_
    have := hcl 0 y c0 hy
    rwa [addN_zero g y v.each (bit_lt ha hy)] at this
theorem s_IsSubgroup_eq {g : List Nat} (v : VG g) {a : Nat} (ha : a < 2 ^ ordN g) (hs : setG (natsI g) (a : Int) = true) : ∃ b, f_s_IsSubgroup (ints (natsI g)) (a : Int) = some b ∧ (b = true ↔ Subg g a) := by
  obtain ⟨c, hc, q, hi⟩ := s_close v ha
  refine ⟨((c : Int) == (a : Int)), ?_, ?_⟩
  · simp only [f_s_IsSubgroup, f_s_IsSubgroup_k, s_IsSet_eq _ _ v.lim, hs, bo_some, BEq.rfl, br_true, hc]
  · rw [← hi, beq_iff_eq]
    omega
theorem coset_self {g : List Nat} {h : Nat} (v : VG g) (s : Subg g h) {x : Nat} (hx : x < ordN g) : (shiftN g h x).testBit x = true := by
  rw [shift_bit v s.lt]
  exact ⟨0, s.zero, by rw [addN_comm]; exact addN_zero g x v.each hx⟩
theorem addN_undo {g : List Nat} (v : VG g) {x y : Nat} (hx : x < ordN g) : addN g (addN g x y) (negN g y) = x := by
  rw [addN_assoc g v.each, addN_neg g v.each, addN_comm, addN_zero g x v.each hx]
theorem coset_eq {g : List Nat} {h : Nat} (v : VG g) (s : Subg g h) {x z : Nat} (hx : x < ordN g) (hz : (shiftN g h x).testBit z = true) : shiftN g h z = shiftN g h x := by
  obtain ⟨y0, hy0, rfl⟩ := (shift_bit v s.lt x z).1 hz
  refine sbN_eq (fun w hw => ?_) fun w hw => ?_
  · obtain ⟨y, hy, rfl⟩ := (shift_bit v s.lt _ w).1 hw
    exact (shift_bit v s.lt x _).2 ⟨addN g y0 y, s.add _ _ hy0 hy, (addN_assoc g v.each x y0 y).symm⟩
  · obtain ⟨y, hy, rfl⟩ := (shift_bit v s.lt _ w).1 hw
    refine (shift_bit v s.lt _ _).2 ⟨addN g (negN g y0) y, s.add _ _ (s.neg v hy0) hy, ?_⟩
    rw [← addN_assoc g v.each, addN_undo v hx]
def cosF (g : List Nat) (h : Nat) (t : List Nat × Nat) (x : Nat) : List Nat × Nat := if t.2.testBit x then t else (t.1 ++ [shiftN g h x], t.2 ||| shiftN g h x)
def cosN (g : List Nat) (h k : Nat) : List Nat × Nat := (List.range k).foldl (cosF g h) ([], 0)
theorem cosN_succ (g : List Nat) (h k : Nat) : cosN g h (k + 1) = cosF g h (cosN g h k) k := by
  unfold cosN
  rw [List.range_succ, List.foldl_append]
  rfl
theorem pcn_or : ∀ (n a b : Nat), (∀ z, ¬ (a.testBit z = true ∧ b.testBit z = true)) → pcn n (a ||| b) = pcn n a + pcn n b
  | 0, _, _, _ => rfl
  | n + 1, a, b, h => by
    have ih := pcn_or n (a / 2) (b / 2) (fun z hz => h (z + 1) (by rw [Nat.testBit_succ, Nat.testBit_succ]; exact hz))
    have e1 : (a ||| b) / 2 = (a / 2) ||| (b / 2) := by
      apply Nat.eq_of_testBit_eq
      intro z
      rw [Nat.testBit_or, ← Nat.testBit_succ, ← Nat.testBit_succ, ← Nat.testBit_succ, Nat.testBit_or]
    have e2 : (a ||| b) % 2 = a % 2 + b % 2 := by
      have h0 := h 0
      have t1 : (a ||| b).testBit 0 = (a.testBit 0 || b.testBit 0) := Nat.testBit_or _ _ _
      simp only [Nat.testBit_zero] at h0 t1
      rcases Nat.mod_two_eq_zero_or_one a with ha | ha <;> rcases Nat.mod_two_eq_zero_or_one b with hb | hb <;> rcases Nat.mod_two_eq_zero_or_one (a ||| b) with hc | hc <;> simp [ha, hb, hc] at h0 t1 ⊢
    show (a ||| b) % 2 + pcn n ((a ||| b) / 2) = (a % 2 + pcn n (a / 2)) + (b % 2 + pcn n (b / 2))
    rw [e1, e2, ih]
    omega
structure CosOk (g : List Nat) (h k : Nat) : Prop where
  lt : (cosN g h k).2 < 2 ^ ordN g
  len : (cosN g h k).1.length ≤ k
  each : ∀ c ∈ (cosN g h k).1, ∃ x, x < ordN g ∧ c = shiftN g h x
  all : ∀ z, (cosN g h k).2.testBit z = true ↔ ∃ c ∈ (cosN g h k).1, c.testBit z = true
  seen : ∀ x, x < k → (cosN g h k).2.testBit x = true
  pop : ∀ a, ((cosN g h k).1.map fun c => popN (c &&& a)).sum = popN ((cosN g h k).2 &&& a)
theorem cos_ok {g : List Nat} {h : Nat} (v : VG g) (s : Subg g h) : ∀ k, k ≤ ordN g → CosOk g h k
  | 0, _ => by
    refine ⟨Nat.two_pow_pos _, Nat.le_refl _, fun c hc => by simp [cosN] at hc, fun z => by simp [cosN], fun x hx => by omega, fun a => ?_⟩
    have e : (cosN g h 0).2 = 0 := rfl
    have e2 : (cosN g h 0).1 = [] := rfl
    rw [e, e2, Nat.zero_and]
    exact (pcn_zero 63).symm
  | k + 1, hk => by
    have ih := cos_ok v s k (by omega)
    have hkl : k < ordN g := by omega
    cases hb : (cosN g h k).2.testBit k with
    | true =>
      have e : cosN g h (k + 1) = cosN g h k := by rw [cosN_succ]; unfold cosF; rw [hb]; rfl
      refine ⟨by rw [e]; exact ih.lt, by rw [e]; have := ih.len; omega, by rw [e]; exact ih.each, by rw [e]; exact ih.all, fun x hx => ?_, by rw [e]; exact ih.pop⟩
      rw [e]
      rcases Nat.lt_or_ge x k with h1 | h1
      · exact ih.seen x h1
      · rw [show x = k by omega]; exact hb
    | false =>
      have e : cosN g h (k + 1) = ((cosN g h k).1 ++ [shiftN g h k], (cosN g h k).2 ||| shiftN g h k) := by rw [cosN_succ]; unfold cosF; rw [hb]; rfl
      have hdis : ∀ z, ¬ ((cosN g h k).2.testBit z = true ∧ (shiftN g h k).testBit z = true) := by
        rintro z ⟨h1, h2⟩
        obtain ⟨c, hc, hz⟩ := (ih.all z).1 h1
        obtain ⟨x, hx, rfl⟩ := ih.each c hc
        have e1 := coset_eq v s hkl h2
        have e2 := coset_eq v s hx hz
        have : (shiftN g h x).testBit k = true := by rw [← e2, e1]; exact coset_self v s hkl
        rw [(ih.all k).2 ⟨_, hc, this⟩] at hb
        cases hb
      refine ⟨?_, ?_, fun c hc => ?_, fun z => ?_, fun x hx => ?_, fun a => ?_⟩
      · rw [e]; exact or_lt ih.lt (shiftN_lt v h k)
      · rw [e, List.length_append, List.length_singleton]; have := ih.len; omega
      · rw [e] at hc
        rcases List.mem_append.1 hc with hc | hc
        · exact ih.each c hc
        · exact ⟨k, hkl, List.mem_singleton.1 hc⟩
      · rw [e]
        show ((cosN g h k).2 ||| shiftN g h k).testBit z = true ↔ ∃ c ∈ (cosN g h k).1 ++ [shiftN g h k], c.testBit z = true
        rw [Nat.testBit_or, Bool.or_eq_true, ih.all z]
        constructor
        · rintro (⟨c, hc, hz⟩ | hz)
          · exact ⟨c, List.mem_append.2 (.inl hc), hz⟩
          · exact ⟨_, List.mem_append.2 (.inr (List.mem_singleton.2 rfl)), hz⟩
        · rintro ⟨c, hc, hz⟩
          rcases List.mem_append.1 hc with hc | hc
          · exact .inl ⟨c, hc, hz⟩
          · rw [List.mem_singleton.1 hc] at hz; exact .inr hz
      · rw [e]
        show ((cosN g h k).2 ||| shiftN g h k).testBit x = true
        rw [Nat.testBit_or]
        rcases Nat.lt_or_ge x k with h1 | h1
        · rw [ih.seen x h1]; rfl
        · rw [show x = k by omega, coset_self v s hkl, Bool.or_true]
      · rw [e]
        show (((cosN g h k).1 ++ [shiftN g h k]).map fun c => popN (c &&& a)).sum = popN (((cosN g h k).2 ||| shiftN g h k) &&& a)
        rw [List.map_append, List.sum_append, ih.pop a, Nat.and_or_distrib_right]
        unfold popN
        rw [pcn_or 63 _ _ (fun z hz => by
          simp only [Nat.testBit_and, Bool.and_eq_true] at hz
          exact hdis z ⟨hz.1.1, hz.2.1⟩)]
        simp
theorem eq_nat_decM (a b : Nat) : ((a : Int) == (b : Int)) = decide (a = b) := by
  by_cases h : a = b
  · simp [h]
  · have : ¬ ((a : Int) = (b : Int)) := by omega
    simp [h, this]
theorem okZ_bytes {x0 : List Int} {i : Int} (h0 : 0 ≤ i) (h : i < (x0.length : Int)) : okZ (.n .u8 0) (bytesL x0) i = true := by
  obtain ⟨k, rfl⟩ : ∃ k : Nat, i = k := ⟨i.toNat, by omega⟩
  have hk : k < x0.length := by omega
  have h1 : (bytesL x0).getD k (.n .u8 0) = .n .u8 (x0[k]) := by simp [bytesL, List.getD, hk]
  unfold okZ inRange
  rw [Int.toNat_natCast, h1]
  simp [bytesL, hk, sameKind]
theorem bytesL_len (x0 : List Int) : (bytesL x0).length = x0.length := by simp [bytesL]
theorem and255 (a : Int) : 0 ≤ and64 a 255 ∧ and64 a 255 ≤ 255 := by
  have e : (BitVec.ofInt 64 (255 : Int)).toNat = 255 := by decide
  have : (BitVec.ofInt 64 a &&& BitVec.ofInt 64 255).toNat = (BitVec.ofInt 64 a).toNat &&& 255 := by rw [BitVec.toNat_and, e]
  have e2 : and64 a 255 = w64 (((BitVec.ofInt 64 a).toNat &&& 255 : Nat) : Int) := by
    show IntKind.i64.wrap ((BitVec.ofInt 64 a &&& BitVec.ofInt 64 255).toNat : Int) = _
    rw [this]; rfl
  have hle : (BitVec.ofInt 64 a).toNat &&& 255 ≤ 255 := Nat.and_le_right
  rw [e2, w64_in (by omega) (by omega)]
  omega
structure Cur (x0 : List Int) (c : List Sc × Int × Int) : Prop where
  row : c.1 = bytesL x0
  low : 0 ≤ c.2.1
  len : x0.length ≤ 1048576
theorem l1New_ok {x0 : List Int} (hx : x0.length ≤ 1048576) : ∃ c, f_s_l1New (bytesL x0) = some c ∧ Cur x0 c := by
  let h0 : Int := w64 (10101 + ((bytesL x0).length : Int))
  let hk : Nat → Int := fun k => Nat.rec h0 (fun k h => and64 (w64 ((w64 ((w64 (h * 131)) + (w64 (sAt (bytesL x0) .u8 (k : Int))))) + 7)) 1073741823) k
  have key := loop_count (rd := f_s_l1New_r0 (bytesL x0)) (fun k => (hk k, (k : Int))) (min x0.length 4000) (a := hk (min x0.length 4000)) (fun k hk' => by
    have h1 : k < x0.length := by omega
    have h2 : decide ((k : Int) < ((bytesL x0).length : Int)) = true := by rw [bytesL_len]; exact lt_dec h1
    have h3 : decide ((k : Int) < 4000) = true := decide_eq_true (by omega)
    have h4 := okZ_bytes (x0 := x0) (i := (k : Int)) (by omega) (by omega)
    simp only [f_s_l1New_r0, f_s_l1New_k0, h2, h3, h4, br_true, BEq.rfl, w64_nat (show k < 9223372036854775807 by omega)]
    rfl) (by
    simp only [f_s_l1New_r0, f_s_l1New_k0]
    by_cases h : x0.length ≤ 4000
    · have h2 : decide (((min x0.length 4000 : Nat) : Int) < ((bytesL x0).length : Int)) = false := by rw [bytesL_len]; exact decide_eq_false (by omega)
      simp only [h2, br_false, show (false == true) = false from rfl]
    · have h2 : decide (((min x0.length 4000 : Nat) : Int) < ((bytesL x0).length : Int)) = true := by rw [bytesL_len]; exact decide_eq_true (by omega)
      have h3 : decide (((min x0.length 4000 : Nat) : Int) < 4000) = false := decide_eq_false (by omega)
      simp only [h2, h3, br_false, br_true, BEq.rfl]) 0 (Nat.zero_le _)
  refine ⟨(bytesL x0, 0, hk (min x0.length 4000)), ?_, rfl, by simp, hx⟩
  have key' : loopL (f_s_l1New_r0 (bytesL x0)) (w64 (10101 + ((bytesL x0).length : Int)), 0) = some (.one (hk (min x0.length 4000))) := key
  simp only [f_s_l1New, f_s_l1New_k, key', bl1_one]
theorem l1Byte_ok {x0 : List Int} {c : List Sc × Int × Int} (hc : Cur x0 c) : ∃ r c', f_s_l1Byte_io c.1 c.2.1 c.2.2 = some (r, c') ∧ Cur x0 c' ∧ 0 ≤ r ∧ r ≤ 255 := by
  obtain ⟨b, i, h⟩ := c
  obtain ⟨e, hl, hx⟩ := hc
  dsimp only at e hl ⊢
  subst e
  simp only [f_s_l1Byte_io, f_s_l1Byte_io_k]
  by_cases hi : i < (x0.length : Int)
  · have h2 : decide (i < ((bytesL x0).length : Int)) = true := by rw [bytesL_len]; exact decide_eq_true hi
    simp only [h2, okZ_bytes hl hi, br_true]
    refine ⟨_, _, rfl, ⟨rfl, ?_, hx⟩, and255 _⟩
    show 0 ≤ w64 (i + 1)
    rw [w64_in (by omega) (by omega)]
    omega
  · have h2 : decide (i < ((bytesL x0).length : Int)) = false := by rw [bytesL_len]; exact decide_eq_false hi
    simp only [h2, br_false]
    exact ⟨_, _, rfl, ⟨rfl, hl, hx⟩, and255 _⟩
theorem tmod_range {a n : Int} (ha : 0 ≤ a) (hn : 0 < n) : 0 ≤ a.tmod n ∧ a.tmod n < n := ⟨Int.tmod_nonneg n ha, Int.tmod_lt_of_pos a hn⟩
theorem l1Below_ok {x0 : List Int} {c : List Sc × Int × Int} (hc : Cur x0 c) (n : Int) (hn : n ≤ 256) : ∃ r c', f_s_l1Below_io n c.1 c.2.1 c.2.2 = some (r, c') ∧ Cur x0 c' ∧ 0 ≤ r ∧ (0 < n → r < n) ∧ (n ≤ 0 → r = 0) := by
  simp only [f_s_l1Below_io, f_s_l1Below_io_k]
  by_cases h0 : n ≤ 0
  · rw [decide_eq_true h0]
    exact ⟨0, c, rfl, hc, by omega, fun h => h, fun _ => rfl⟩
  · obtain ⟨r, c', e, h', hr⟩ := l1Byte_ok hc
    have hz : (n == 0) = false := beq_eq_false_iff_ne.2 (by omega)
    simp only [decide_eq_false h0, decide_eq_true hn, br_true, br_false, e, bo_some, hz]
    have := tmod_range hr.1 (show 0 < n by omega)
    exact ⟨_, _, rfl, h', this.1, fun _ => this.2, fun h => absurd h h0⟩
theorem l1Once_ok {x0 : List Int} {c : List Sc × Int × Int} (hc : Cur x0 c) (n : Int) (hn : n ≤ 256) : ∃ r c', f_s_l1Once_io n c.1 c.2.1 c.2.2 = some (r, c') ∧ Cur x0 c' := by
  obtain ⟨r, c', e, h', _⟩ := l1Below_ok hc n hn
  simp only [f_s_l1Once_io, f_s_l1Once_io_k, e, bo_some]
  exact ⟨_, _, rfl, h'⟩
theorem l1PickInt_ok {x0 : List Int} {c : List Sc × Int × Int} (hc : Cur x0 c) (L : List Int) (h1 : 0 < L.length) (h2 : L.length ≤ 256) : ∃ k c', f_s_l1PickInt_io (ints L) c.1 c.2.1 c.2.2 = some (L.getD k 0, c') ∧ Cur x0 c' ∧ k < L.length := by
  obtain ⟨r, c', e, h', h0, hr, _⟩ := l1Below_ok hc (L.length : Int) (by omega)
  obtain ⟨k, rfl⟩ : ∃ k : Nat, r = k := ⟨r.toNat, by omega⟩
  have hk : k < L.length := by have := hr (by omega); omega
  simp only [f_s_l1PickInt_io, f_s_l1PickInt_io_k, ints_length, e, bo_some, ok_nat hk, br_true, at_nat]
  exact ⟨k, _, rfl, h', hk⟩
def drawT : List (List Int) := [[], [2], [3], [4], [5], [6], [7], [8], [9], [10], [11], [12], [2, 2], [2, 4], [3, 3], [2, 6], [2, 2, 2], [13], [16], [4, 4], [2, 2, 3], [2, 3], [24]]
theorem drawT_lit : ([[], [(Sc.n .i64 2)], [(Sc.n .i64 3)], [(Sc.n .i64 4)], [(Sc.n .i64 5)], [(Sc.n .i64 6)], [(Sc.n .i64 7)], [(Sc.n .i64 8)], [(Sc.n .i64 9)], [(Sc.n .i64 10)], [(Sc.n .i64 11)], [(Sc.n .i64 12)], [(Sc.n .i64 2), (Sc.n .i64 2)], [(Sc.n .i64 2), (Sc.n .i64 4)], [(Sc.n .i64 3), (Sc.n .i64 3)], [(Sc.n .i64 2), (Sc.n .i64 6)], [(Sc.n .i64 2), (Sc.n .i64 2), (Sc.n .i64 2)], [(Sc.n .i64 13)], [(Sc.n .i64 16)], [(Sc.n .i64 4), (Sc.n .i64 4)], [(Sc.n .i64 2), (Sc.n .i64 2), (Sc.n .i64 3)], [(Sc.n .i64 2), (Sc.n .i64 3)], [(Sc.n .i64 24)]] : List (List Sc)) = drawT.map ints := rfl
theorem drawT_at {k : Nat} (h : k < 23) : (drawT.map ints).getD k [] = ints (drawT.getD k []) ∧ (drawT.getD k []).length ≤ 3 := by
  have : ∀ k : Fin 23, (drawT.getD k.1 []).length ≤ 3 := by decide
  refine ⟨?_, this ⟨k, h⟩⟩
  simp only [List.getD, List.getElem?_map]
  cases drawT[k]? <;> rfl
theorem l2Draw_ok {x0 : List Int} {c : List Sc × Int × Int} (hc : Cur x0 c) (most : Int) : ∃ G c', f_s_l2Draw_io most c.1 c.2.1 c.2.2 = some (ints G, c') ∧ Cur x0 c' ∧ (G ∈ drawT ∧ (prodW G ≤ most ∨ G = [5]) ∧ G.length ≤ 3) := by
  simp only [f_s_l2Draw_io, f_s_l2Draw_io_k, drawT_lit]
  obtain ⟨r, c', e, h', h0, hr, _⟩ := l1Below_ok hc ((drawT.map ints).length : Int) (by decide)
  have hlen : (drawT.map ints).length = 23 := rfl
  obtain ⟨k, rfl⟩ : ∃ k : Nat, r = k := ⟨r.toNat, by omega⟩
  have hk : k < 23 := by have := hr (by rw [hlen]; decide); rw [hlen] at this; omega
  have hin : inRange (k : Int) (drawT.map ints).length = true := by rw [hlen, inRange_nat]; simpa using hk
  obtain ⟨eG, hG⟩ := drawT_at hk
  obtain ⟨G, hGe⟩ : ∃ G, drawT.getD k [] = G := ⟨_, rfl⟩
  rw [hGe] at eG hG
  have hmem : G ∈ drawT := by
    rw [← hGe]
    have : k < drawT.length := hk
    rw [List.getD_eq_getElem?_getD, List.getElem?_eq_getElem this]
    exact List.getElem_mem this
  have hlim : G.length ≤ lim := Nat.le_trans hG (by decide)
  simp only [e, bo_some, hin, br_true, Int.toNat_natCast, eG]
  have key := loop_count (rd := f_s_l2Draw_io_r0 most (ints G)) (fun i => (c'.1, c'.2.1, c'.2.2, [], (G.take i).foldl (fun n o => w64 (n * o)) 1, (i : Int))) G.length (a := (c'.1, c'.2.1, c'.2.2, [], prodW G)) (fun i hi => by
    have e2 : (G.take (i + 1)).foldl (fun n o => w64 (n * o)) 1 = w64 ((G.take i).foldl (fun n o => w64 (n * o)) 1 * G.getD i 0) := by
      rw [List.take_succ_eq_append_getElem hi, List.foldl_append]
      simp [List.getD, List.getElem?_eq_getElem hi]
    simp only [f_s_l2Draw_io_r0, f_s_l2Draw_io_k0, ints_length, lt_dec hi, ok_nat hi, at_nat, br_true, w64_nat (show i < 9223372036854775807 by omega), e2]) (by
    simp only [f_s_l2Draw_io_r0, f_s_l2Draw_io_k0, ints_length, lt_dec_self, br_false, List.take_length, prodW]) 0 (Nat.zero_le _)
  have key' : loopL (f_s_l2Draw_io_r0 most (ints G)) (c'.1, c'.2.1, c'.2.2, [], 1, 0) = some (.one (c'.1, c'.2.1, c'.2.2, [], prodW G)) := key
  simp only [key', bl1_one]
  by_cases hm : prodW G > most
  · rw [decide_eq_true hm]
    exact ⟨[5], _, rfl, ⟨h'.row, h'.low, h'.len⟩, by decide, .inr rfl, by decide⟩
  · have hl : decide (([] : List Sc).length + (ints G).length ≤ lim) = true := decide_eq_true (by rw [ints_length]; simpa using hlim)
    simp only [decide_eq_false hm, br_false, hl, br_true, List.nil_append]
    exact ⟨G, _, rfl, ⟨h'.row, h'.low, h'.len⟩, hmem, .inl (by omega), hG⟩
theorem l2Any_ok {x0 : List Int} {c : List Sc × Int × Int} (hc : Cur x0 c) : ∃ G c', f_s_l2Any_io c.1 c.2.1 c.2.2 = some (ints G, c') ∧ Cur x0 c' ∧ G.length ≤ 4 := by
  obtain ⟨G, c1, e1, h1, _, _, hG⟩ := l2Draw_ok hc 24
  obtain ⟨r, c2, e2, h2, _⟩ := l1Below_ok h1 16 (by decide)
  have e3 := l1PickInt_ok h2 [0, 1, -1, 25, 9223372036854775807] (by decide) (by decide)
  obtain ⟨k, c3, e3, h3, _⟩ := e3
  have e3' : f_s_l1PickInt_io [(Sc.n .i64 0), (Sc.n .i64 1), (Sc.n .i64 (-1)), (Sc.n .i64 25), (Sc.n .i64 9223372036854775807)] c2.1 c2.2.1 c2.2.2 = _ := e3
  simp only [f_s_l2Any_io, f_s_l2Any_io_k, e1, bo_some, e2, e3']
  cases (r == 0) with
  | true => exact ⟨[_], _, rfl, ⟨h3.row, h3.low, h3.len⟩, by rw [List.length_singleton]; decide⟩
  | false =>
    cases (r == 1) with
    | true => exact ⟨[2, 2, 2, 2], _, rfl, ⟨h2.row, h2.low, h2.len⟩, by decide⟩
    | false =>
      cases (r == 2) with
      | true => exact ⟨[5, 5], _, rfl, ⟨h2.row, h2.low, h2.len⟩, by decide⟩
      | false => exact ⟨G, _, rfl, ⟨h2.row, h2.low, h2.len⟩, by omega⟩
theorem loop_ex {S A B : Type} {rd : S → Option (Ro S A B)} (P : Nat → S → Prop) (Q : A → Prop) (step : ∀ n s, P (n + 1) s → ∃ s', rd s = some (.again s') ∧ P n s')
    (last : ∀ s, P 0 s → ∃ a, rd s = some (.one a) ∧ Q a) : ∀ n s, P n s → ∃ a, loopL rd s = some (.one a) ∧ Q a
  | 0, s, h => by
    obtain ⟨a, e, q⟩ := last s h
    exact ⟨a, loopL_one e, q⟩
  | n + 1, s, h => by
    obtain ⟨s', e, h'⟩ := step n s h
    obtain ⟨a, e2, q⟩ := loop_ex P Q step last n s' h'
    exact ⟨a, by rw [loopL_again e, e2], q⟩
theorem sameInts_self (L : List Int) (h : L.length ≤ lim) : f_l_sameInts (ints L) (ints L) = some true := by
  have hl := lim_lt h
  have key := loop_count (rd := f_l_sameInts_r0 (ints L) (ints L)) (fun k => (k : Int)) L.length (a := ()) (fun k hk => by
    simp only [f_l_sameInts_r0, f_l_sameInts_k0, ints_length, lt_dec hk, ok_nat hk, br_true, bne_self_eq_false, br_false, w64_nat (by omega : k < 9223372036854775807)])
    (by simp only [f_l_sameInts_r0, f_l_sameInts_k0, ints_length, lt_dec_self, br_false]) 0 (Nat.zero_le _)
  simp only [f_l_sameInts, f_l_sameInts_k, bne_self_eq_false, br_false]
  rw [show ((0 : Int)) = ((0 : Nat) : Int) from rfl, key]
  rfl
theorem set_ofW {g : List Nat} (v : VG g) {a : Nat} (ha : a < 2 ^ ordN g) : setG (natsI g) (a : Int) = true := by
  unfold setG
  rw [v.isG, v.ordG, shl_ord v, decide_eq_true (show (a : Int) ≥ 0 by omega), decide_eq_true (show (a : Int) < ((2 ^ ordN g : Nat) : Int) by omega)]
  rfl
theorem cos_each_lt {g : List Nat} {h : Nat} (v : VG g) (s : Subg g h) {k : Nat} (hk : k < (cosN g h (ordN g)).1.length) : (cosN g h (ordN g)).1.getD k 0 < 2 ^ ordN g := by
  have ok := cos_ok v s (ordN g) (Nat.le_refl _)
  have hm : (cosN g h (ordN g)).1.getD k 0 ∈ (cosN g h (ordN g)).1 := by simp [List.getD, List.getElem?_eq_getElem hk]
  obtain ⟨x, _, e⟩ := ok.each _ hm
  rw [e]
  exact shiftN_lt v h x
def dfN (a b : Nat) : Nat := a ^^^ (a &&& b)
theorem df_test (a b z : Nat) : (dfN a b).testBit z = (a.testBit z && !b.testBit z) := by
  unfold dfN
  rw [Nat.testBit_xor, Nat.testBit_and]
  cases a.testBit z <;> cases b.testBit z <;> rfl
theorem pop_or_dis {a b : Nat} (h : ∀ z, a.testBit z = true → b.testBit z = true → False) : popN (a ||| b) = popN a + popN b :=
  pcn_or 63 a b fun z hz => h z hz.1 hz.2
theorem pop_split (a b : Nat) : popN a = popN (dfN a b) + popN (a &&& b) := by
  rw [← pop_or_dis (a := dfN a b) (b := a &&& b) fun z h1 h2 => by
    rw [df_test] at h1
    rw [Nat.testBit_and] at h2
    revert h1 h2
    cases a.testBit z <;> cases b.testBit z <;> simp]
  congr 1
  apply Nat.eq_of_testBit_eq
  intro z
  rw [Nat.testBit_or, df_test, Nat.testBit_and]
  cases a.testBit z <;> cases b.testBit z <;> rfl
theorem pop_mono {a b : Nat} (h : sbN a b) : popN a ≤ popN b := by
  have h1 := pop_split b a
  have h2 := sbN_and.1 h
  rw [Nat.and_comm b a, h2] at h1
  omega
theorem pop_pow {x : Nat} (h : x < 63) : popN (2 ^ x) = 1 := by
  have hd : (List.range 63).all (fun x => Nat.beq (popN (2 ^ x)) 1) = true := by decide +kernel
  exact Nat.eq_of_beq_eq_true (List.all_eq_true.1 hd x (List.mem_range.2 h))
theorem pop_list : ∀ (l : List Nat), l.Nodup → (∀ x ∈ l, x < 63) → popN (l.foldr (fun x o => 2 ^ x ||| o) 0) = l.length ∧ ∀ z, (l.foldr (fun x o => 2 ^ x ||| o) 0).testBit z = true ↔ z ∈ l
  | [], _, _ => by
    refine ⟨pcn_zero 63, fun z => by simp⟩
  | x :: l, hn, hl => by
    obtain ⟨hx, hn⟩ := List.nodup_cons.1 hn
    obtain ⟨h1, h2⟩ := pop_list l hn fun y hy => hl y (by simp [hy])
    refine ⟨?_, fun z => ?_⟩
    · rw [List.foldr_cons, pop_or_dis fun z h3 h4 => by
        rw [pow_test, decide_eq_true_eq] at h3
        subst h3
        exact hx ((h2 _).1 h4)]
      rw [h1, pop_pow (hl x (by simp)), List.length_cons]
      omega
    · rw [List.foldr_cons, Nat.testBit_or, Bool.or_eq_true, h2, pow_test, decide_eq_true_eq, List.mem_cons]
      constructor
      · rintro (h | h)
        · exact .inl h.symm
        · exact .inr h
      · rintro (h | h)
        · exact .inl h.symm
        · exact .inr h
theorem elems_sorted (a : Nat) : (elems a).Pairwise (· < ·) := List.Pairwise.filter _ List.pairwise_lt_range
theorem pop_inj {a b : Nat} (f : Nat → Nat) (ha : a < 9223372036854775808) (hb : b < 9223372036854775808) (hf : ∀ x, a.testBit x = true → b.testBit (f x) = true) (hi : ∀ x y, a.testBit x = true → a.testBit y = true → f x = f y → x = y) : popN a ≤ popN b := by
  have hn : ((elems a).map f).Nodup := by
    unfold List.Nodup
    rw [List.pairwise_map]
    refine List.Pairwise.imp_of_mem (R := (· < ·)) (fun {x y} hx hy hlt e => ?_) (elems_sorted a)
    have := hi x y ((mem_elems ha).1 hx) ((mem_elems ha).1 hy) e
    omega
  have hm : ∀ z ∈ (elems a).map f, b.testBit z = true := fun z hz => by
    obtain ⟨x, hx, rfl⟩ := List.mem_map.1 hz
    exact hf x ((mem_elems ha).1 hx)
  obtain ⟨h1, h2⟩ := pop_list ((elems a).map f) hn fun z hz => bit_lt (show b < 2 ^ 63 from hb) (hm z hz)
  rw [List.length_map, elems_pop] at h1
  rw [← h1]
  exact pop_mono fun z hz => hm z ((h2 z).1 hz)
section
variable {g : List Nat} (v : VG g)
include v
theorem add_cancel {x y z : Nat} (hy : y < ordN g) (hz : z < ordN g) (h : addN g x y = addN g x z) : y = z := by
  have := congrArg (fun t => addN g t (negN g x)) h
  rwa [addN_back v hy, addN_back v hz] at this
theorem add_cancel_r {x y z : Nat} (hy : y < ordN g) (hz : z < ordN g) (h : addN g y x = addN g z x) : y = z := by
  rw [addN_comm g y x, addN_comm g z x] at h
  exact add_cancel v hy hz h
theorem add_perm (x y z : Nat) : addN g (addN g x y) z = addN g (addN g x z) y := by
  rw [addN_assoc g v.each, addN_comm g y z, ← addN_assoc g v.each]
theorem pop_shift {a : Nat} (ha : a < 2 ^ ordN g) (x : Nat) : popN (shiftN g a x) = popN a := by
  have hs := shiftN_lt v a x
  refine Nat.le_antisymm (pop_inj (fun z => addN g z (negN g x)) (set_i64 v hs) (set_i64 v ha) (fun z hz => ?_) fun y z hy hz h => ?_) (pop_inj (fun y => addN g x y) (set_i64 v ha) (set_i64 v hs) (fun y hy => (shift_bit v ha x _).2 ⟨y, hy, rfl⟩) fun y z hy hz h => ?_)
  · obtain ⟨y, hy, rfl⟩ := (shift_bit v ha x z).1 hz
    show a.testBit (addN g (addN g x y) (negN g x)) = true
    rw [addN_back v (bit_lt ha hy)]
    exact hy
  · exact add_cancel_r v (bit_lt hs hy) (bit_lt hs hz) h
  · exact add_cancel v (bit_lt ha hy) (bit_lt ha hz) h
end
def binB : Nat → Nat → Nat
  | _, 0 => 1
  | 0, _ + 1 => 0
  | n + 1, k + 1 => binB n k + binB n (k + 1)
theorem bin_zero (n : Nat) : binB n 0 = 1 := by cases n <;> rfl
theorem bin_succ (n k : Nat) : binB (n + 1) (k + 1) = binB n k + binB n (k + 1) := rfl
theorem bin_none : ∀ n k, n < k → binB n k = 0
  | 0, 0, h => by omega
  | 0, k + 1, _ => rfl
  | n + 1, 0, h => by omega
  | n + 1, k + 1, h => by rw [bin_succ, bin_none n k (by omega), bin_none n (k + 1) (by omega)]
theorem bin_self : ∀ n, binB n n = 1
  | 0 => rfl
  | n + 1 => by rw [bin_succ, bin_self n, bin_none n (n + 1) (by omega)]
theorem bin_mul : ∀ n k, (k + 1) * binB (n + 1) (k + 1) = (n + 1) * binB n k
  | 0, 0 => rfl
  | 0, k + 1 => by rw [bin_succ, show binB 0 (k + 1) = 0 from rfl, show binB 0 (k + 1 + 1) = 0 from rfl, Nat.add_zero, Nat.mul_zero, Nat.mul_zero]
  | n + 1, 0 => by
    have h := bin_mul n 0
    rw [bin_zero, Nat.zero_add, Nat.one_mul, Nat.mul_one] at h
    rw [bin_succ, bin_zero, Nat.zero_add, h]
    omega
  | n + 1, k + 1 => by
    have h1 := bin_mul n k
    have h2 := bin_mul n (k + 1)
    rw [bin_succ (n + 1) (k + 1), Nat.mul_add, h2, show k + 1 + 1 = (k + 1) + 1 from rfl, Nat.add_mul (k + 1) 1, h1, Nat.one_mul, bin_succ n k]
    rw [Nat.add_mul (n + 1) 1, Nat.one_mul, Nat.mul_add]
    omega
structure PrB (p : Nat) : Prop where
  two : 2 ≤ p
  only : ∀ d, d ∣ p → d = 1 ∨ d = p
theorem PrB.cop {p k : Nat} (h : PrB p) (hk : ¬ p ∣ k) : Nat.Coprime p k := by
  rcases h.only (Nat.gcd p k) (Nat.gcd_dvd_left p k) with e | e
  · exact e
  · exact absurd (by have := Nat.gcd_dvd_right p k; rwa [e] at this) hk
theorem PrB.bin {p k : Nat} (h : PrB p) (h0 : 0 < k) (h1 : k < p) : p ∣ binB p k := by
  obtain ⟨q, rfl⟩ : ∃ q, p = q + 1 := ⟨p - 1, by omega⟩
  obtain ⟨j, rfl⟩ : ∃ j, k = j + 1 := ⟨k - 1, by omega⟩
  have e := bin_mul q j
  have hd : q + 1 ∣ (j + 1) * binB (q + 1) (j + 1) := ⟨_, e⟩
  exact (h.cop fun hk => by have := Nat.le_of_dvd (by omega) hk; omega).dvd_of_dvd_mul_left hd
theorem PrB.pow {p a : Nat} (h : PrB p) (ha : ¬ p ∣ a) : ∀ n, ¬ p ∣ a ^ n
  | 0, hd => by
    rw [Nat.pow_zero] at hd
    have := Nat.le_of_dvd (by decide) hd
    have := h.two
    omega
  | n + 1, hd => by
    rw [Nat.pow_succ] at hd
    exact ha ((h.cop (h.pow ha n)).dvd_of_dvd_mul_left hd)
theorem prime_of : ∀ (n : Nat), 2 ≤ n → ∃ p m, PrB p ∧ n = p * m := by
  intro n
  induction n using Nat.strongRecOn with
  | _ n ih =>
    intro h2
    by_cases hp : ∀ d, d ∣ n → d = 1 ∨ d = n
    · exact ⟨n, 1, ⟨h2, hp⟩, (Nat.mul_one n).symm⟩
    · have hex : ∃ d, d ∣ n ∧ d ≠ 1 ∧ d ≠ n := by
        refine Classical.byContradiction fun hn => hp fun d hd => ?_
        by_cases h1 : d = 1
        · exact .inl h1
        · by_cases h3 : d = n
          · exact .inr h3
          · exact absurd ⟨d, hd, h1, h3⟩ hn
      obtain ⟨d, hd, h1, h3⟩ := hex
      have hle := Nat.le_of_dvd (by omega) hd
      have h0 : d ≠ 0 := fun e => by
        subst e
        obtain ⟨c, hc⟩ := hd
        omega
      obtain ⟨p, m, hpr, e⟩ := ih d (by omega) (by omega)
      obtain ⟨c, hc⟩ := hd
      exact ⟨p, m * c, hpr, by rw [hc, e, Nat.mul_assoc]⟩
def powB (c : Nat → Nat → Nat) : Nat → Nat → Nat → Nat
  | 0, i, j => c i j
  | n + 1, i, j => powB c n (i + 1) j + powB c n i (j + 1)
theorem sum_first (F : Nat → Nat) (n : Nat) : ((List.range (n + 1)).map F).sum = F 0 + ((List.range n).map fun k => F (k + 1)).sum := by
  rw [List.range_succ_eq_map, List.map_cons, List.sum_cons, List.map_map]
  rfl
theorem pow_eq (c : Nat → Nat → Nat) : ∀ n i j, powB c n i j = ((List.range (n + 1)).map fun k => binB n k * c (i + k) (j + (n - k))).sum
  | 0, i, j => by
    show c i j = _
    simp [bin_zero]
  | n + 1, i, j => by
    show powB c n (i + 1) j + powB c n i (j + 1) = _
    rw [pow_eq c n (i + 1) j, pow_eq c n i (j + 1), sum_first (fun k => binB (n + 1) k * c (i + k) (j + (n + 1 - k))) (n + 1), sum_first (fun k => binB n k * c (i + k) (j + 1 + (n - k))) n]
    have e1 : ((List.range (n + 1)).map fun k => binB (n + 1) (k + 1) * c (i + (k + 1)) (j + (n + 1 - (k + 1)))).sum = ((List.range (n + 1)).map fun k => binB n k * c (i + 1 + k) (j + (n - k))).sum + ((List.range (n + 1)).map fun k => binB n (k + 1) * c (i + (k + 1)) (j + (n + 1 - (k + 1)))).sum := by
      rw [← sumM_add]
      refine sumM_congr fun k hk => ?_
      rw [bin_succ, Nat.add_mul, show i + 1 + k = i + (k + 1) by omega, show n - k = n + 1 - (k + 1) by omega]
    have e2 : ((List.range (n + 1)).map fun k => binB n (k + 1) * c (i + (k + 1)) (j + (n + 1 - (k + 1)))).sum = ((List.range n).map fun k => binB n (k + 1) * c (i + (k + 1)) (j + 1 + (n - (k + 1)))).sum := by
      rw [sum_range_succ, bin_none n (n + 1) (by omega), Nat.zero_mul, Nat.add_zero]
      refine sumM_congr fun k hk => ?_
      have := List.mem_range.1 hk
      rw [show j + (n + 1 - (k + 1)) = j + 1 + (n - (k + 1)) by omega]
    rw [e1, e2, bin_zero, bin_zero, show j + 1 + (n - 0) = j + (n + 1 - 0) by omega]
    omega
theorem sumM_dvd {α : Type} {p : Nat} {F : α → Nat} : ∀ {l : List α}, (∀ x ∈ l, p ∣ F x) → p ∣ (l.map F).sum
  | [], _ => ⟨0, rfl⟩
  | x :: l, h => by
    rw [List.map_cons, List.sum_cons]
    exact Nat.dvd_add (h x (by simp)) (sumM_dvd fun y hy => h y (by simp [hy]))
theorem pow_prime (c : Nat → Nat → Nat) {p : Nat} (h : PrB p) : powB c p 0 0 % p = (c p 0 + c 0 p) % p := by
  obtain ⟨q, rfl⟩ : ∃ q, p = q + 1 := ⟨p - 1, by have := h.two; omega⟩
  rw [pow_eq, sum_first, sum_range_succ, bin_zero, bin_self, Nat.one_mul, Nat.one_mul, Nat.zero_add, Nat.zero_add, Nat.zero_add, Nat.sub_zero, Nat.sub_self]
  obtain ⟨m, hm⟩ := sumM_dvd (p := q + 1) (F := fun k => binB (q + 1) (k + 1) * c (0 + (k + 1)) (0 + (q + 1 - (k + 1)))) (l := List.range q) fun k hk => by
    have := List.mem_range.1 hk
    exact Nat.dvd_trans (h.bin (by omega) (by omega)) ⟨_, rfl⟩
  rw [hm, show c 0 (q + 1) + ((q + 1) * m + c (q + 1) 0) = c (q + 1) 0 + c 0 (q + 1) + (q + 1) * m by omega, Nat.add_mul_mod_self_left]
def itB (U : (Nat → Nat) → Nat → Nat) : Nat → (Nat → Nat) → Nat → Nat
  | 0, f => f
  | n + 1, f => itB U n (U f)
def shB (g : List Nat) (a : Nat) (f : Nat → Nat) : Nat → Nat := fun z => f (addN g z (negN g a))
def tB (g A : List Nat) (f : Nat → Nat) : Nat → Nat := fun z => (A.map fun a => f (addN g z (negN g a))).sum
theorem it_out (U : (Nat → Nat) → Nat → Nat) : ∀ n f, U (itB U n f) = itB U (n + 1) f
  | 0, f => rfl
  | n + 1, f => it_out U n (U f)
theorem it_comm (U V : (Nat → Nat) → Nat → Nat) (h : ∀ f, U (V f) = V (U f)) : ∀ n f, V (itB U n f) = itB U n (V f)
  | 0, f => rfl
  | n + 1, f => by
    show V (itB U n (U f)) = itB U n (U (V f))
    rw [it_comm U V h n, h]
theorem it_add (U : (Nat → Nat) → Nat → Nat) (h : ∀ f k, U (fun z => f z + k z) = fun z => U f z + U k z) : ∀ n f k, itB U n (fun z => f z + k z) = fun z => itB U n f z + itB U n k z
  | 0, f, k => rfl
  | n + 1, f, k => by
    show itB U n (U fun z => f z + k z) = fun z => itB U n (U f) z + itB U n (U k) z
    rw [h, it_add U h n]
theorem tB_cons (g A : List Nat) (a : Nat) (f : Nat → Nat) : tB g (a :: A) f = fun z => tB g A f z + shB g a f z := by
  funext z
  unfold tB shB
  rw [List.map_cons, List.sum_cons, Nat.add_comm]
theorem tB_add (g A : List Nat) (f k : Nat → Nat) : tB g A (fun z => f z + k z) = fun z => tB g A f z + tB g A k z := by
  funext z
  unfold tB
  rw [sumM_add]
section
variable {g : List Nat} (v : VG g)
include v
theorem sh_t (A : List Nat) (a : Nat) (f : Nat → Nat) : tB g A (shB g a f) = shB g a (tB g A f) := by
  funext z
  unfold tB shB
  refine sumM_congr fun b _ => ?_
  rw [add_perm v]
theorem it_two (A : List Nat) (a : Nat) (f : Nat → Nat) (z : Nat) : ∀ n i j, itB (tB g (a :: A)) n (itB (tB g A) i (itB (shB g a) j f)) z = powB (fun i j => itB (tB g A) i (itB (shB g a) j f) z) n i j
  | 0, i, j => rfl
  | n + 1, i, j => by
    show itB (tB g (a :: A)) n (tB g (a :: A) (itB (tB g A) i (itB (shB g a) j f))) z = powB _ n (i + 1) j + powB _ n i (j + 1)
    rw [tB_cons, it_add _ (tB_add g (a :: A)), it_out (tB g A), it_comm (tB g A) (shB g a) (sh_t v A a), it_out (shB g a)]
    show _ + _ = _
    rw [it_two A a f z n (i + 1) j, it_two A a f z n i (j + 1)]
theorem it_prime {p : Nat} (hp : PrB p) (f : Nat → Nat) (z : Nat) : ∀ A : List Nat, itB (tB g A) p f z % p = ((A.map fun a => itB (shB g a) p f z).sum) % p
  | [] => by
    obtain ⟨q, rfl⟩ : ∃ q, p = q + 1 := ⟨p - 1, by have := hp.two; omega⟩
    have h0 : tB g [] f = fun _ => 0 := rfl
    have : ∀ n, itB (tB g []) n (fun _ => 0) = fun _ => 0 := by
      intro n
      induction n with
      | zero => rfl
      | succ n ih => exact ih
    show itB (tB g []) q (tB g [] f) z % (q + 1) = 0 % (q + 1)
    rw [h0, this]
  | a :: A => by
    have e := it_two v A a f z p 0 0
    have e' : itB (tB g (a :: A)) p f z = powB (fun i j => itB (tB g A) i (itB (shB g a) j f) z) p 0 0 := e
    rw [e', pow_prime _ hp, List.map_cons, List.sum_cons]
    show (itB (tB g A) p f z + itB (shB g a) p f z) % p = _
    rw [Nat.add_mod, it_prime hp f z A, ← Nat.add_mod, Nat.add_comm]
def bkB (g : List Nat) (a : Nat) : Nat → Nat → Nat
  | 0, z => z
  | n + 1, z => addN g (bkB g a n z) (negN g a)
omit v in
theorem it_sh (a : Nat) (z : Nat) : ∀ n (f : Nat → Nat), itB (shB g a) n f z = f (bkB g a n z)
  | 0, f => rfl
  | n + 1, f => it_sh a z n (shB g a f)
theorem bk_lt {a z : Nat} (hz : z < ordN g) : ∀ n, bkB g a n z < ordN g
  | 0 => hz
  | n + 1 => addN_lt v.each _ _
theorem bk_iter {a z : Nat} (hz : z < ordN g) : ∀ n, addN g (iterN g a n) (bkB g a n z) = z
  | 0 => addN_zero g z v.each hz
  | n + 1 => by
    show addN g (addN g (iterN g a n) a) (addN g (bkB g a n z) (negN g a)) = z
    rw [addN_assoc g v.each, addN_forth v (bk_lt v hz n)]
    exact bk_iter hz n
theorem it_const {A : List Nat} {c : Nat} : ∀ (n : Nat) (f : Nat → Nat), (∀ z, z < ordN g → f z = c) → ∀ z, z < ordN g → itB (tB g A) n f z = c * A.length ^ n
  | 0, f, hf, z, hz => by rw [Nat.pow_zero, Nat.mul_one]; exact hf z hz
  | n + 1, f, hf, z, hz => by
    show itB (tB g A) n (tB g A f) z = _
    have key : ∀ A : List Nat, ∀ w, tB g A f w = c * A.length := by
      intro A w
      induction A with
      | nil => rfl
      | cons a A ih =>
        rw [tB_cons, List.length_cons, Nat.mul_add, Nat.mul_one, ← ih]
        show tB g A f w + f (addN g w (negN g a)) = _
        rw [hf _ (addN_lt v.each _ _)]
    rw [it_const (c := c * A.length) n (tB g A f) (fun w _ => key A w) z hz, Nat.pow_succ, Nat.mul_assoc, Nat.mul_comm A.length]
structure TilB (g : List Nat) (a b : Nat) : Prop where
  la : a < 2 ^ ordN g
  lb : b < 2 ^ ordN g
  full : ∀ z, z < ordN g → (sumN g a b).testBit z = true
  size : popN a * popN b = ordN g
omit v in
theorem all_one {α : Type} {F : α → Nat} : ∀ {l : List α}, (∀ x ∈ l, 1 ≤ F x) → (l.map F).sum = l.length → ∀ x ∈ l, F x = 1
  | [], _, _, x, hx => by cases hx
  | y :: l, h1, h2, x, hx => by
    rw [List.map_cons, List.sum_cons, List.length_cons] at h2
    have hy := h1 y (by simp)
    have hl := sumM_ge (l := l) (F := F) (M := 1) fun z hz => h1 z (by simp [hz])
    rcases List.mem_cons.1 hx with rfl | hx
    · omega
    · exact all_one (l := l) (fun z hz => h1 z (by simp [hz])) (by omega) x hx
theorem cnt_total (a b : Nat) : ((List.range (ordN g)).map fun s => cnt2 g (elems a) (elems b) s).sum = popN a * popN b := by
  have h := table_pairs v (elems a) (elems b) (fun _ => 1)
  have e : ((List.range (ordN g)).map fun s => cnt2 g (elems a) (elems b) s * 1).sum = ((List.range (ordN g)).map fun s => cnt2 g (elems a) (elems b) s).sum := sumM_congr fun s _ => Nat.mul_one _
  have e1 : ∀ l : List Nat, (l.map fun _ => 1).sum = l.length := fun l => by
    induction l with
    | nil => rfl
    | cons x l ih => rw [List.map_cons, List.sum_cons, ih, List.length_cons]; omega
  rw [← e, h, e1]
  have e2 : ∀ l : List Nat, (l.map fun _ => (elems b).length).sum = l.length * (elems b).length := fun l => by
    induction l with
    | nil => simp
    | cons x l ih => rw [List.map_cons, List.sum_cons, ih, List.length_cons, Nat.add_mul]; omega
  rw [e2, elems_pop, elems_pop]
theorem cnt_ge {a b : Nat} (ha : a < 2 ^ ordN g) (hb : b < 2 ^ ordN g) {z : Nat} (hz : (sumN g a b).testBit z = true) : 1 ≤ cnt2 g (elems a) (elems b) z := by
  obtain ⟨x, y, hx, hy, rfl⟩ := (sum_bit v ha hb z).1 hz
  have h1 : 1 ≤ cnt1 g x (elems b) (addN g x y) := List.countP_pos_iff.2 ⟨y, (mem_elems (set_i64 v hb)).2 hy, decide_eq_true rfl⟩
  have : ∀ l : List Nat, x ∈ l → cnt1 g x (elems b) (addN g x y) ≤ (l.map fun x' => cnt1 g x' (elems b) (addN g x y)).sum := by
    intro l
    induction l with
    | nil => intro h; cases h
    | cons w l ih =>
      intro h
      rw [List.map_cons, List.sum_cons]
      rcases List.mem_cons.1 h with rfl | h
      · omega
      · have := ih h; omega
  have h2 := this (elems a) ((mem_elems (set_i64 v ha)).2 hx)
  unfold cnt2
  omega
theorem cnt_t {a b : Nat} (hb : b < 2 ^ ordN g) {z : Nat} (hz : z < ordN g) : tB g (elems a) (fun w => if b.testBit w then 1 else 0) z = cnt2 g (elems a) (elems b) z := by
  unfold tB cnt2
  refine sumM_congr fun x _ => ?_
  rw [cnt1_test v hb hz]
theorem pop_all {s : Nat} (hs : s < 2 ^ ordN g) (h : ∀ z, z < ordN g → s.testBit z = true) : popN s = ordN g := by
  have h24 := v.ord
  obtain ⟨h1, h2⟩ := pop_list (List.range (ordN g)) List.nodup_range fun x hx => by have := List.mem_range.1 hx; omega
  have e : s = (List.range (ordN g)).foldr (fun x o => 2 ^ x ||| o) 0 := sbN_eq (fun z hz => (h2 z).2 (List.mem_range.2 (bit_lt hs hz))) fun z hz => h z (List.mem_range.1 ((h2 z).1 hz))
  rw [e, h1, List.length_range]
abbrev dlN (g : List Nat) (n a : Nat) : Nat := dilN g (n : Int) (elems a)
theorem dl_bit {a : Nat} (ha : a < 2 ^ ordN g) (n z : Nat) : (dlN g n a).testBit z = true ↔ ∃ x, a.testBit x = true ∧ iterN g x n = z := by
  have e : dlN g n a = orAll (fun x => 2 ^ mulN g x (n : Int)) (elems a) := rfl
  rw [e, orAll_test, List.any_eq_true]
  have em : ∀ x, mulN g x (n : Int) = iterN g x n := fun x => by
    unfold mulN
    rw [if_neg (by omega), Int.toNat_natCast]
  simp only [pow_test, decide_eq_true_eq, em]
  constructor
  · rintro ⟨x, hx, h⟩; exact ⟨x, (mem_elems (set_i64 v ha)).1 hx, h⟩
  · rintro ⟨x, hx, h⟩; exact ⟨x, (mem_elems (set_i64 v ha)).2 hx, h⟩
theorem dl_lt (n a : Nat) : dlN g n a < 2 ^ ordN g := dilN_lt v _ _
omit v in
theorem pop_image {s : Nat} (l : List Nat) (f : Nat → Nat) (hs : s < 9223372036854775808) (h : ∀ z, s.testBit z = true → ∃ x ∈ l, f x = z) : popN s ≤ l.length := by
  induction l generalizing s with
  | nil =>
    have : s = 0 := by
      apply Nat.eq_of_testBit_eq
      intro z
      rw [Nat.zero_testBit]
      cases e : s.testBit z with
      | false => rfl
      | true => obtain ⟨x, hx, _⟩ := h z e; cases hx
    rw [this]
    exact Nat.le_of_eq (pcn_zero 63)
  | cons x l ih =>
    have h1 := pop_split s (2 ^ f x)
    have hd : dfN s (2 ^ f x) < 9223372036854775808 := by
      unfold dfN
      exact Nat.xor_lt_two_pow (n := 63) hs (Nat.lt_of_le_of_lt Nat.and_le_left hs)
    have h2 := ih hd fun z hz => by
      rw [df_test, Bool.and_eq_true, Bool.not_eq_true', pow_test, decide_eq_false_iff_not] at hz
      obtain ⟨y, hy, e⟩ := h z hz.1
      rcases List.mem_cons.1 hy with rfl | hy
      · exact absurd e hz.2
      · exact ⟨y, hy, e⟩
    have h3 : popN (s &&& 2 ^ f x) ≤ 1 := by
      by_cases hb : s.testBit (f x) = true
      · have := pop_mono (a := s &&& 2 ^ f x) (b := 2 ^ f x) fun z hz => by
          rw [Nat.testBit_and, Bool.and_eq_true] at hz
          exact hz.2
        rwa [pop_pow (bit_lt (show s < 2 ^ 63 from hs) hb)] at this
      · have e : s &&& 2 ^ f x = 0 := by
          apply Nat.eq_of_testBit_eq
          intro z
          rw [Nat.testBit_and, pow_test, Nat.zero_testBit]
          by_cases e : f x = z
          · subst e
            cases hq : s.testBit (f x) with
            | false => rfl
            | true => exact absurd hq hb
          · rw [decide_eq_false e, Bool.and_false]
        rw [e]
        exact Nat.le_trans (Nat.le_of_eq (pcn_zero 63)) (by decide)
    rw [List.length_cons]
    omega
theorem dl_pop {a : Nat} (ha : a < 2 ^ ordN g) (n : Nat) : popN (dlN g n a) ≤ popN a := by
  have := pop_image (s := dlN g n a) (elems a) (fun x => iterN g x n) (set_i64 v (dl_lt v n a)) fun z hz => by
    obtain ⟨x, hx, e⟩ := (dl_bit v ha n z).1 hz
    exact ⟨x, (mem_elems (set_i64 v ha)).2 hx, e⟩
  rwa [elems_pop] at this
theorem sum_le {a b : Nat} (ha : a < 2 ^ ordN g) (hb : b < 2 ^ ordN g) : popN (sumN g a b) ≤ popN a * popN b := by
  rw [← cnt_total v a b, ← elems_pop]
  have e : (elems (sumN g a b)).length = ((elems (sumN g a b)).map fun _ => 1).sum := by
    generalize elems (sumN g a b) = l
    induction l with
    | nil => rfl
    | cons x l ih => rw [List.map_cons, List.sum_cons, ← ih, List.length_cons]; omega
  have hsub : ∀ (l : List Nat) (F : Nat → Nat) (q : Nat → Bool), (∀ x ∈ l, q x = true → 1 ≤ F x) → (l.filter q).length ≤ (l.map F).sum := by
    intro l F q h
    induction l with
    | nil => exact Nat.le_refl _
    | cons x l ih =>
      have h1 := ih fun y hy => h y (by simp [hy])
      rw [List.map_cons, List.sum_cons, List.filter_cons]
      split
      · rename_i hq
        have := h x (by simp) hq
        rw [List.length_cons]
        omega
      · omega
  have hl := sumN_lt v a b
  have h63 : (elems (sumN g a b)).length = ((List.range (ordN g)).filter fun x => (sumN g a b).testBit x).length := by
    rw [elems_pop]
    have := filter_len (ordN g) (sumN g a b)
    rw [this]
    exact pcn_small (ordN g) 63 _ hl (by have := v.ord; omega)
  rw [h63]
  exact hsub _ _ _ fun x _ hq => cnt_ge v ha hb hq
theorem til_prime {a b p : Nat} (t : TilB g a b) (hp : PrB p) (ho : ¬ p ∣ ordN g) : TilB g (dlN g p a) b ∧ popN (dlN g p a) = popN a := by
  have hA : ¬ p ∣ (elems a).length := fun h => ho (by rw [← t.size, ← elems_pop]; exact Nat.dvd_trans h ⟨_, rfl⟩)
  have hone : ∀ z, z < ordN g → cnt2 g (elems a) (elems b) z = 1 := fun z hz =>
    all_one (l := List.range (ordN g)) (fun s hs => cnt_ge v t.la t.lb (t.full s (List.mem_range.1 hs))) (by rw [cnt_total v, t.size, List.length_range]) z (List.mem_range.2 hz)
  have hfull : ∀ z, z < ordN g → (sumN g (dlN g p a) b).testBit z = true := fun z hz => by
    have e1 := it_prime v hp (fun w => if b.testBit w then 1 else 0) z (elems a)
    obtain ⟨q, rfl⟩ : ∃ q, p = q + 1 := ⟨p - 1, by have := hp.two; omega⟩
    have e2 : itB (tB g (elems a)) (q + 1) (fun w => if b.testBit w then 1 else 0) z = 1 * (elems a).length ^ q :=
      it_const v q _ (fun w hw => by rw [cnt_t v t.lb hw, hone w hw]) z hz
    rw [e2, Nat.one_mul] at e1
    have hne : ((elems a).map fun x => itB (shB g x) (q + 1) (fun w => if b.testBit w then 1 else 0) z).sum ≠ 0 := fun h0 => by
      rw [h0, Nat.zero_mod] at e1
      exact hp.pow hA q (Nat.dvd_of_mod_eq_zero e1)
    have hex : ∃ x ∈ elems a, b.testBit (bkB g x (q + 1) z) = true := by
      refine Classical.byContradiction fun hn => hne ?_
      refine (sumM_congr (G := fun _ => 0) fun x hx => ?_).trans (sumM_zero (elems a))
      rw [it_sh]
      cases hb : b.testBit (bkB g x (q + 1) z) with
      | false => rw [if_neg (by decide)]
      | true => exact absurd ⟨x, hx, hb⟩ hn
    obtain ⟨x, hx, hb⟩ := hex
    exact (sum_bit v (dl_lt v _ a) t.lb z).2 ⟨iterN g x (q + 1), bkB g x (q + 1) z, (dl_bit v t.la _ _).2 ⟨x, (mem_elems (set_i64 v t.la)).1 hx, rfl⟩, hb, bk_iter v hz (q + 1)⟩
  have hall := pop_all v (sumN_lt v (dlN g p a) b) hfull
  have hle := sum_le v (dl_lt v p a) t.lb
  have hpop := dl_pop v t.la p
  have hmul : popN (dlN g p a) * popN b ≤ popN a * popN b := Nat.mul_le_mul_right _ hpop
  have hsz := t.size
  have o1 := ordN_pos v.each
  have hb0 : 0 < popN b := by
    rcases Nat.eq_zero_or_pos (popN b) with h | h
    · rw [h, Nat.mul_zero] at hsz; omega
    · exact h
  have heq : popN (dlN g p a) * popN b = popN a * popN b := by omega
  have hpe : popN (dlN g p a) = popN a := Nat.eq_of_mul_eq_mul_right hb0 heq
  exact ⟨⟨dl_lt v p a, t.lb, hfull, by rw [heq, hsz]⟩, hpe⟩
theorem iterN_add (x i : Nat) : ∀ j, iterN g x (i + j) = addN g (iterN g x i) (iterN g x j)
  | 0 => by
    show iterN g x i = addN g (iterN g x i) 0
    rw [addN_comm, addN_zero g _ v.each (iterN_lt v x i)]
  | j + 1 => by
    show addN g (iterN g x (i + j)) x = addN g (iterN g x i) (addN g (iterN g x j) x)
    rw [iterN_add x i j, addN_assoc g v.each]
theorem iterN_mul (x m : Nat) : ∀ p, iterN g (iterN g x m) p = iterN g x (p * m)
  | 0 => by rw [Nat.zero_mul]; rfl
  | p + 1 => by
    show addN g (iterN g (iterN g x m) p) (iterN g x m) = _
    rw [iterN_mul x m p, Nat.add_mul, Nat.one_mul, iterN_add v]
theorem til_dilate {b : Nat} : ∀ (n a : Nat), 1 ≤ n → TilB g a b → (∀ q, 2 ≤ q → q ∣ n → ¬ q ∣ ordN g) → TilB g (dlN g n a) b ∧ popN (dlN g n a) = popN a := by
  intro n
  induction n using Nat.strongRecOn with
  | _ n ih =>
    intro a h1 t hq
    by_cases h2 : n = 1
    · subst h2
      have e : dlN g 1 a = a := sbN_eq (fun z hz => by
        obtain ⟨x, hx, rfl⟩ := (dl_bit v t.la 1 z).1 hz
        rw [show iterN g x 1 = addN g 0 x from rfl, addN_zero g x v.each (bit_lt t.la hx)]
        exact hx) fun z hz => (dl_bit v t.la 1 z).2 ⟨z, hz, addN_zero g z v.each (bit_lt t.la hz)⟩
      rw [e]
      exact ⟨t, rfl⟩
    · obtain ⟨p, m, hp, rfl⟩ := prime_of n (by omega)
      have hm0 : 1 ≤ m := by
        rcases Nat.eq_zero_or_pos m with h | h
        · subst h; omega
        · exact h
      have hp2 := hp.two
      have hlt : m < p * m := by
        have := Nat.mul_le_mul_right m hp2
        omega
      obtain ⟨t1, e1⟩ := ih m hlt a hm0 t fun q h1 h2 => hq q h1 (Nat.dvd_trans h2 ⟨p, Nat.mul_comm p m⟩)
      obtain ⟨t2, e2⟩ := til_prime v t1 hp (hq p hp2 ⟨m, rfl⟩)
      have e : dlN g (p * m) a = dlN g p (dlN g m a) := sbN_eq (fun z hz => by
        obtain ⟨x, hx, rfl⟩ := (dl_bit v t.la _ z).1 hz
        exact (dl_bit v (dl_lt v m a) p _).2 ⟨iterN g x m, (dl_bit v t.la m _).2 ⟨x, hx, rfl⟩, iterN_mul v x m p⟩) fun z hz => by
        obtain ⟨y, hy, rfl⟩ := (dl_bit v (dl_lt v m a) p z).1 hz
        obtain ⟨x, hx, rfl⟩ := (dl_bit v t.la m y).1 hy
        exact (dl_bit v t.la _ _).2 ⟨x, hx, (iterN_mul v x m p).symm⟩
      rw [e]
      exact ⟨t2, by rw [e2, e1]⟩
end
theorem l3Set_ok {x0 : List Int} {c : List Sc × Int × Int} (hc : Cur x0 c) (G : List Int) (hG : G.length ≤ lim) : ∃ r c', f_s_l3Set_io (ints G) c.1 c.2.1 c.2.2 = some (r, c') ∧ Cur x0 c' := by
  have hO := ordG_range G
  have hif : (if ordG G > 1 then ordG G else 1) ≤ 256 := by split <;> omega
  have hif0 : decide ((if ordG G > 1 then ordG G else 1) < 0) = false := decide_eq_false (by split <;> omega)
  obtain ⟨n, c1, e1, h1, hn0, hn1, _⟩ := l1Below_ok hc 6 (by decide)
  obtain ⟨n, rfl⟩ : ∃ k : Nat, n = k := ⟨n.toNat, by omega⟩
  have hn : n < 6 := by have := hn1 (by decide); omega
  have key := loop_ex (rd := f_s_l3Set_io_r0 (if ordG G > 1 then ordG G else 1)) (fun m s => ∃ (d : List Sc × Int × Int) (a : Int), s = (d.1, d.2.1, d.2.2, a, (m : Int)) ∧ Cur x0 d ∧ m < 6)
    (fun r => ∃ (d : List Sc × Int × Int) (a : Int), r = (d.1, d.2.1, d.2.2, a) ∧ Cur x0 d) (fun m s hs => by
      obtain ⟨d, a, rfl, hd, hm⟩ := hs
      obtain ⟨y, d1, f1, g1, hy, _⟩ := l1Below_ok hd (if ordG G > 1 then ordG G else 1) hif
      have hpos : decide (((m + 1 : Nat) : Int) > 0) = true := decide_eq_true (by omega)
      have hw : w64 (((m + 1 : Nat) : Int) - 1) = (m : Int) := by rw [show ((m + 1 : Nat) : Int) - 1 = (m : Int) by omega]; exact w64_cast (by omega)
      have hy0 : decide (y < 0) = false := decide_eq_false (by omega)
      simp only [f_s_l3Set_io_r0, f_s_l3Set_io_k0, hpos, br_true, f1, bo_some, hy0, br_false, hw]
      exact ⟨_, rfl, d1, _, rfl, g1, by omega⟩)
    (fun s hs => by
      obtain ⟨d, a, rfl, hd, hm⟩ := hs
      have hpos : decide (((0 : Nat) : Int) > 0) = false := by decide
      simp only [f_s_l3Set_io_r0, f_s_l3Set_io_k0, hpos, br_false]
      exact ⟨_, rfl, d, a, rfl, hd⟩) n (c1.1, c1.2.1, c1.2.2, 0, (n : Int)) ⟨c1, 0, rfl, h1, hn⟩
  obtain ⟨r, ek, d, a, rfl, hd⟩ := key
  obtain ⟨q, d1, f1, g1, _⟩ := l1Below_ok hd 20 (by decide)
  obtain ⟨k, d2, f2, g2, _⟩ := l1PickInt_ok g1 [-1, 16777216, 9223372036854775807] (by decide) (by decide)
  have f2' : f_s_l1PickInt_io [(Sc.n .i64 (-1)), (Sc.n .i64 16777216), (Sc.n .i64 9223372036854775807)] d1.1 d1.2.1 d1.2.2 = _ := f2
  simp only [f_s_l3Set_io, f_s_l3Set_io_k, s_OrderOf_eq G hG, bo_some, e1, ek, bl1_one, f1, f2', hif0, br_false]
  cases (q == 0) with
  | true => exact ⟨_, _, rfl, ⟨g1.row, g1.low, g1.len⟩⟩
  | false =>
    cases (q == 1) with
    | true => exact ⟨_, _, rfl, ⟨g2.row, g2.low, g2.len⟩⟩
    | false => exact ⟨_, _, rfl, ⟨g1.row, g1.low, g1.len⟩⟩
theorem loop_ex2 {S A B : Type} {rd : S → Option (Ro S A B)} (P : Nat → S → Prop) (Q : A → Prop) (step : ∀ n s, P (n + 1) s → (∃ s', rd s = some (.again s') ∧ P n s') ∨ ∃ a, rd s = some (.one a) ∧ Q a)
    (last : ∀ s, P 0 s → ∃ a, rd s = some (.one a) ∧ Q a) : ∀ n s, P n s → ∃ a, loopL rd s = some (.one a) ∧ Q a
  | 0, s, h => by
    obtain ⟨a, e, q⟩ := last s h
    exact ⟨a, loopL_one e, q⟩
  | n + 1, s, h => by
    rcases step n s h with ⟨s', e, h'⟩ | ⟨a, e, q⟩
    · obtain ⟨a, e2, q⟩ := loop_ex2 P Q step last n s' h'
      exact ⟨a, by rw [loopL_again e, e2], q⟩
    · exact ⟨a, loopL_one e, q⟩
theorem l5Put_ok (l : List Nat) (n : Nat) (hl : l.length ≤ 100000) : ∃ r, f_s_l5Put (ints (natsI l)) (n : Int) = some (ints (natsI r)) ∧ r.length ≤ l.length + 1 ∧ 1 ≤ r.length ∧ ∀ x ∈ r, x ∈ l ∨ x = n := by
  have hw : ∀ m, 1 ≤ m → m ≤ l.length → w64 ((m : Int) - 1) = ((m - 1 : Nat) : Int) := fun m h1 h2 => by
    rw [show (m : Int) - 1 = ((m - 1 : Nat) : Int) by omega]
    exact w64_cast (by omega)
  have key := loop_ex2 (rd := f_s_l5Put_r0 (ints (natsI l)) (n : Int)) (fun m s => s = (m : Int) ∧ m ≤ l.length) (fun e => ∃ m : Nat, e = (m : Int) ∧ m ≤ l.length) (fun m s hs => by
      obtain ⟨rfl, hm⟩ := hs
      have d : decide (((m + 1 : Nat) : Int) > 0) = true := decide_eq_true (by omega)
      simp only [f_s_l5Put_r0, f_s_l5Put_k0, d, BEq.rfl, br_true, hw (m + 1) (by omega) hm, ok_natsI (show m + 1 - 1 < l.length by omega), at_natsI]
      cases decide (((l.getD (m + 1 - 1) 0 : Nat) : Int) > (n : Int)) with
      | true => exact .inl ⟨_, rfl, by rw [Nat.add_sub_cancel], by omega⟩
      | false => exact .inr ⟨_, rfl, m + 1, rfl, hm⟩)
    (fun s hs => by
      obtain ⟨rfl, hm⟩ := hs
      have d : decide (((0 : Nat) : Int) > 0) = false := by decide
      simp only [f_s_l5Put_r0, f_s_l5Put_k0, d, show (false == true) = false from rfl, br_false]
      exact ⟨_, rfl, 0, rfl, by omega⟩) l.length (l.length : Int) ⟨rfl, Nat.le_refl _⟩
  obtain ⟨e, ek, m, rfl, hm⟩ := key
  have z0 : sliceA (ints (natsI l)) 0 (m : Int) = ints (natsI (l.take m)) := by simp [sliceA, ints, natsI]
  have z1 : sliceA (ints (natsI l)) (m : Int) (l.length : Int) = ints (natsI (l.drop m)) := by
    unfold sliceA
    rw [Int.toNat_natCast, Int.toNat_natCast, List.take_of_length_le (by rw [ints_length, natsI_length]; exact Nat.le_refl _)]
    simp [ints, natsI]
  have c1 : (decide (0 ≤ (0 : Int)) && (decide ((0 : Int) ≤ (m : Int)) && decide ((m : Int) ≤ (l.length : Int)))) = true := by
    simp only [Bool.and_eq_true, decide_eq_true_eq]; omega
  have c2 : (decide (0 ≤ (m : Int)) && (decide ((m : Int) ≤ (l.length : Int)) && decide ((l.length : Int) ≤ (l.length : Int)))) = true := by
    simp only [Bool.and_eq_true, decide_eq_true_eq]; omega
  have hlim : 1000000 ≤ lim := by decide
  have t1 : (l.take m).length ≤ l.length := by rw [List.length_take]; omega
  have t2 : (l.drop m).length ≤ l.length := by rw [List.length_drop]; omega
  have c3 : decide (([] : List Sc).length + (l.take m).length ≤ lim) = true := decide_eq_true (by rw [List.length_nil]; omega)
  have c4 : decide ((l.take m).length + [Sc.n .i64 (n : Int)].length ≤ lim) = true := decide_eq_true (by rw [List.length_singleton]; omega)
  have c5 : decide ((l.take m ++ [n]).length + (l.drop m).length ≤ lim) = true := decide_eq_true (by rw [List.length_append, List.length_singleton]; omega)
  have ea : ints (natsI (l.take m ++ [n])) ++ ints (natsI (l.drop m)) = ints (natsI (l.take m ++ [n] ++ l.drop m)) := by
    unfold ints natsI
    simp
  have new : ∃ r : List Nat, l.take m ++ [n] ++ l.drop m = r ∧ r.length ≤ l.length + 1 ∧ 1 ≤ r.length ∧ ∀ x ∈ r, x ∈ l ∨ x = n := by
    refine ⟨_, rfl, ?_, ?_, fun x hx => ?_⟩
    · rw [List.length_append, List.length_append, List.length_singleton, List.length_take, List.length_drop]; omega
    · rw [List.length_append, List.length_append, List.length_singleton]; omega
    · rcases List.mem_append.1 hx with hx | hx
      · rcases List.mem_append.1 hx with hx | hx
        · exact .inl (List.mem_of_mem_take hx)
        · exact .inr (List.mem_singleton.1 hx)
      · exact .inl (List.mem_of_mem_drop hx)
  obtain ⟨r, er, r1, r2, r3⟩ := new
  simp only [f_s_l5Put, f_s_l5Put_k, ints_length, natsI_length, ek, bl1_one, c1, z0, c3, List.nil_append, c4, c2, z1, ints_cast_snoc, c5, ea, er, br_true]
  by_cases h0 : m = 0
  · have d : decide ((m : Int) > 0) = false := decide_eq_false (by omega)
    simp only [d, show (false == true) = false from rfl, br_false]
    exact ⟨r, rfl, r1, r2, r3⟩
  · have d : decide ((m : Int) > 0) = true := decide_eq_true (by omega)
    simp only [d, BEq.rfl, br_true, hw m (by omega) hm, ok_natsI (show m - 1 < l.length by omega), at_natsI]
    cases (((l.getD (m - 1) 0 : Nat) : Int) == (n : Int)) with
    | true => exact ⟨l, rfl, by omega, by omega, fun x hx => .inl hx⟩
    | false => exact ⟨r, rfl, r1, r2, r3⟩
theorem get_memW {l : List Nat} {k : Nat} (h : k < l.length) : l.getD k 0 ∈ l := by simp [List.getD, List.getElem?_eq_getElem h]
theorem SubgroupsOf_ok (G : List Int) (h : G.length ≤ lim) : ∃ L b, f_s_SubgroupsOf (ints G) = some (ints L, b) ∧ L.length ≤ 20000 ∧ (b = true → 1 ≤ L.length) := by
  cases hg : isG G with
  | false =>
    refine ⟨[], false, ?_, by simp, fun h => by cases h⟩
    simp only [f_s_SubgroupsOf, f_s_SubgroupsOf_k, s_IsGroup_eq G h, hg, bo_some]
    rfl
  | true =>
    obtain ⟨g, rfl, v⟩ := nat_of_isG hg
    have h24 := v.ord
    have o1 := ordN_pos v.each
    -- the cyclic ones
    have k0 := loop_ex (rd := f_s_SubgroupsOf_r0 (ints (natsI g)) [] ((ordN g : Nat) : Int)) (fun m s => ∃ l : List Nat, s = (ints (natsI l), ((ordN g - m : Nat) : Int)) ∧ m ≤ ordN g ∧ l.length + m ≤ ordN g ∧ (m < ordN g → 1 ≤ l.length) ∧ ∀ x ∈ l, x < 2 ^ ordN g)
      (fun a => ∃ l : List Nat, a = ints (natsI l) ∧ l.length ≤ ordN g ∧ 1 ≤ l.length ∧ ∀ x ∈ l, x < 2 ^ ordN g) (fun m s hs => by
        obtain ⟨l, rfl, hm, hl, hne, hx⟩ := hs
        have hd : decide (((ordN g - (m + 1) : Nat) : Int) < ((ordN g : Nat) : Int)) = true := decide_eq_true (by omega)
        obtain ⟨c, ec, hc, _⟩ := s_close v (two_pow_lt (show ordN g - (m + 1) < ordN g by omega))
        obtain ⟨r, er, r1, r2, r3⟩ := l5Put_ok l c (by omega)
        have hw : w64 (((ordN g - (m + 1) : Nat) : Int) + 1) = ((ordN g - m : Nat) : Int) := by rw [w64_nat (by omega), show ordN g - (m + 1) + 1 = ordN g - m by omega]
        simp only [f_s_SubgroupsOf_r0, f_s_SubgroupsOf_k0, hd, br_true, neg_dec, br_false, shl1_nat (show ordN g - (m + 1) ≤ 62 by omega), ec, bo_some, er, hw]
        refine ⟨_, rfl, r, rfl, by omega, by omega, fun _ => r2, fun x hx' => ?_⟩
        rcases r3 x hx' with h1 | h1
        · exact hx x h1
        · rw [h1]; exact hc)
      (fun s hs => by
        obtain ⟨l, rfl, hm, hl, hne, hx⟩ := hs
        have hd : decide (((ordN g - 0 : Nat) : Int) < ((ordN g : Nat) : Int)) = false := decide_eq_false (by omega)
        simp only [f_s_SubgroupsOf_r0, f_s_SubgroupsOf_k0, hd, br_false]
        exact ⟨_, rfl, l, rfl, by omega, hne (by omega), hx⟩) (ordN g) (ints (natsI []), ((ordN g - ordN g : Nat) : Int)) ⟨[], rfl, Nat.le_refl _, by simp, fun h => by omega, fun x hx => by cases hx⟩
    obtain ⟨_, e0, cyc, rfl, hc1, hc2, hcx⟩ := k0
    have e0' : loopL (f_s_SubgroupsOf_r0 (ints (natsI g)) [] ((ordN g : Nat) : Int)) ([], 0) = some (.one (ints (natsI cyc))) := by rw [← e0, Nat.sub_self]; rfl
    -- a walk along the cyclic ones
    have inner : ∀ (i : Nat), i < cyc.length → ∀ (l : List Nat), l.length ≤ 90000 → (∀ x ∈ l, x < 2 ^ ordN g) → ∃ r : List Nat, loopL (f_s_SubgroupsOf_r4 (ints (natsI g)) (ints (natsI cyc)) (i : Int)) (ints (natsI l), 0) = some (.one (ints (natsI r))) ∧ r.length ≤ l.length + 25 ∧ 1 ≤ r.length ∧ ∀ x ∈ r, x < 2 ^ ordN g := by
      intro i hi l hl hx
      have k := loop_ex (rd := f_s_SubgroupsOf_r4 (ints (natsI g)) (ints (natsI cyc)) (i : Int)) (fun m s => ∃ q : List Nat, s = (ints (natsI q), ((i + 1 - m : Nat) : Int)) ∧ m ≤ i + 1 ∧ q.length + m ≤ l.length + (i + 1) ∧ (m < i + 1 → 1 ≤ q.length) ∧ ∀ x ∈ q, x < 2 ^ ordN g)
        (fun a => ∃ q : List Nat, a = ints (natsI q) ∧ q.length ≤ l.length + 25 ∧ 1 ≤ q.length ∧ ∀ x ∈ q, x < 2 ^ ordN g) (fun m s hs => by
          obtain ⟨q, rfl, hm, hq, hne, hx⟩ := hs
          have hd : decide (((i + 1 - (m + 1) : Nat) : Int) ≤ (i : Int)) = true := decide_eq_true (by omega)
          have a1 := hcx _ (get_memW (show i < cyc.length from hi))
          have a2 := hcx _ (get_memW (show i + 1 - (m + 1) < cyc.length by omega))
          obtain ⟨r, er, r1, r2, r3⟩ := l5Put_ok q (sumN g (cyc.getD (i + 1 - (m + 1)) 0) (cyc.getD i 0)) (by omega)
          have hw : w64 (((i + 1 - (m + 1) : Nat) : Int) + 1) = ((i + 1 - m : Nat) : Int) := by rw [w64_nat (by omega), show i + 1 - (m + 1) + 1 = i + 1 - m by omega]
          simp only [f_s_SubgroupsOf_r4, f_s_SubgroupsOf_k4, hd, br_true, ok_natsI hi, ok_natsI (show i + 1 - (m + 1) < cyc.length by omega), at_natsI, s_l4Sum_eq v a1 a2, bo_some, er, hw]
          refine ⟨_, rfl, r, rfl, by omega, by omega, fun _ => r2, fun x hx' => ?_⟩
          rcases r3 x hx' with h1 | h1
          · exact hx x h1
          · rw [h1]; exact sumN_lt v _ _)
        (fun s hs => by
          obtain ⟨q, rfl, hm, hq, hne, hx⟩ := hs
          have hd : decide (((i + 1 - 0 : Nat) : Int) ≤ (i : Int)) = false := decide_eq_false (by omega)
          simp only [f_s_SubgroupsOf_r4, f_s_SubgroupsOf_k4, hd, br_false]
          exact ⟨_, rfl, q, rfl, by omega, hne (by omega), hx⟩) (i + 1) (ints (natsI l), ((i + 1 - (i + 1) : Nat) : Int)) ⟨l, rfl, Nat.le_refl _, by omega, fun h => by omega, hx⟩
      obtain ⟨_, e, r, rfl, q1, q2, q3⟩ := k
      exact ⟨r, by rw [← e, Nat.sub_self]; rfl, q1, q2, q3⟩
    have k2 := loop_ex (rd := f_s_SubgroupsOf_r2 (ints (natsI g)) (ints (natsI cyc))) (fun m s => ∃ q : List Nat, s = (ints (natsI q), ((cyc.length - m : Nat) : Int)) ∧ m ≤ cyc.length ∧ q.length + 25 * m ≤ 25 * cyc.length ∧ (m < cyc.length → 1 ≤ q.length) ∧ ∀ x ∈ q, x < 2 ^ ordN g)
      (fun a => ∃ (q : List Nat) (z : Int), a = (ints (natsI q), z) ∧ q.length ≤ 600 ∧ 1 ≤ q.length ∧ ∀ x ∈ q, x < 2 ^ ordN g) (fun m s hs => by
        obtain ⟨q, rfl, hm, hq, hne, hx⟩ := hs
        have hd : decide (((cyc.length - (m + 1) : Nat) : Int) < (cyc.length : Int)) = true := decide_eq_true (by omega)
        obtain ⟨r, er, r1, r2, r3⟩ := inner (cyc.length - (m + 1)) (by omega) q (by omega) hx
        have hw : w64 (((cyc.length - (m + 1) : Nat) : Int) + 1) = ((cyc.length - m : Nat) : Int) := by rw [w64_nat (by omega), show cyc.length - (m + 1) + 1 = cyc.length - m by omega]
        simp only [f_s_SubgroupsOf_r2, f_s_SubgroupsOf_k2, ints_length, natsI_length, hd, br_true, er, bl1_one, hw]
        exact ⟨_, rfl, r, rfl, by omega, by omega, fun _ => r2, r3⟩)
      (fun s hs => by
        obtain ⟨q, rfl, hm, hq, hne, hx⟩ := hs
        have hd : decide (((cyc.length - 0 : Nat) : Int) < (cyc.length : Int)) = false := decide_eq_false (by omega)
        simp only [f_s_SubgroupsOf_r2, f_s_SubgroupsOf_k2, ints_length, natsI_length, hd, br_false]
        exact ⟨_, rfl, q, _, rfl, by omega, hne (by omega), hx⟩) cyc.length (ints (natsI []), ((cyc.length - cyc.length : Nat) : Int)) ⟨[], rfl, Nat.le_refl _, by simp, fun h => by omega, fun x hx => by cases hx⟩
    obtain ⟨_, e2, two, z2, rfl, ht1, ht2, htx⟩ := k2
    have e2' : loopL (f_s_SubgroupsOf_r2 (ints (natsI g)) (ints (natsI cyc))) ([], 0) = some (.one (ints (natsI two), z2)) := by rw [← e2, Nat.sub_self]; rfl
    have inner2 : ∀ (i : Nat), i < two.length → ∀ (l : List Nat), l.length ≤ 90000 → 1 ≤ l.length → (∀ x ∈ l, x < 2 ^ ordN g) → ∃ r : List Nat, loopL (f_s_SubgroupsOf_r8 (ints (natsI g)) (ints (natsI cyc)) (ints (natsI two)) (i : Int)) (ints (natsI l), 0) = some (.one (ints (natsI r))) ∧ r.length ≤ l.length + 25 ∧ 1 ≤ r.length ∧ ∀ x ∈ r, x < 2 ^ ordN g := by
      intro i hi l hl hl1 hx
      have k := loop_ex (rd := f_s_SubgroupsOf_r8 (ints (natsI g)) (ints (natsI cyc)) (ints (natsI two)) (i : Int)) (fun m s => ∃ q : List Nat, s = (ints (natsI q), ((cyc.length - m : Nat) : Int)) ∧ m ≤ cyc.length ∧ q.length + m ≤ l.length + cyc.length ∧ 1 ≤ q.length ∧ ∀ x ∈ q, x < 2 ^ ordN g)
        (fun a => ∃ q : List Nat, a = ints (natsI q) ∧ q.length ≤ l.length + 25 ∧ 1 ≤ q.length ∧ ∀ x ∈ q, x < 2 ^ ordN g) (fun m s hs => by
          obtain ⟨q, rfl, hm, hq, hne, hx⟩ := hs
          have hd : decide (((cyc.length - (m + 1) : Nat) : Int) < (cyc.length : Int)) = true := decide_eq_true (by omega)
          have a1 := htx _ (get_memW (show i < two.length from hi))
          have a2 := hcx _ (get_memW (show cyc.length - (m + 1) < cyc.length by omega))
          obtain ⟨r, er, r1, r2, r3⟩ := l5Put_ok q (sumN g (cyc.getD (cyc.length - (m + 1)) 0) (two.getD i 0)) (by omega)
          have hw : w64 (((cyc.length - (m + 1) : Nat) : Int) + 1) = ((cyc.length - m : Nat) : Int) := by rw [w64_nat (by omega), show cyc.length - (m + 1) + 1 = cyc.length - m by omega]
          simp only [f_s_SubgroupsOf_r8, f_s_SubgroupsOf_k8, ints_length, natsI_length, hd, br_true, ok_natsI hi, ok_natsI (show cyc.length - (m + 1) < cyc.length by omega), at_natsI, s_l4Sum_eq v a1 a2, bo_some, er, hw]
          refine ⟨_, rfl, r, rfl, by omega, by omega, r2, fun x hx' => ?_⟩
          rcases r3 x hx' with h1 | h1
          · exact hx x h1
          · rw [h1]; exact sumN_lt v _ _)
        (fun s hs => by
          obtain ⟨q, rfl, hm, hq, hne, hx⟩ := hs
          have hd : decide (((cyc.length - 0 : Nat) : Int) < (cyc.length : Int)) = false := decide_eq_false (by omega)
          simp only [f_s_SubgroupsOf_r8, f_s_SubgroupsOf_k8, ints_length, natsI_length, hd, br_false]
          exact ⟨_, rfl, q, rfl, by omega, hne, hx⟩) cyc.length (ints (natsI l), ((cyc.length - cyc.length : Nat) : Int)) ⟨l, rfl, Nat.le_refl _, by omega, hl1, hx⟩
      obtain ⟨_, e, r, rfl, q1, q2, q3⟩ := k
      exact ⟨r, by rw [← e, Nat.sub_self]; rfl, q1, q2, q3⟩
    have k6 := loop_ex (rd := f_s_SubgroupsOf_r6 (ints (natsI g)) (ints (natsI cyc)) (ints (natsI two))) (fun m s => ∃ q : List Nat, s = (ints (natsI q), ((two.length - m : Nat) : Int)) ∧ m ≤ two.length ∧ q.length + 25 * m ≤ 26 * two.length ∧ 1 ≤ q.length ∧ ∀ x ∈ q, x < 2 ^ ordN g)
      (fun a => ∃ (q : List Nat) (z : Int), a = (ints (natsI q), z) ∧ q.length ≤ 20000 ∧ 1 ≤ q.length) (fun m s hs => by
        obtain ⟨q, rfl, hm, hq, hne, hx⟩ := hs
        have hd : decide (((two.length - (m + 1) : Nat) : Int) < (two.length : Int)) = true := decide_eq_true (by omega)
        obtain ⟨r, er, r1, r2, r3⟩ := inner2 (two.length - (m + 1)) (by omega) q (by omega) hne hx
        have hw : w64 (((two.length - (m + 1) : Nat) : Int) + 1) = ((two.length - m : Nat) : Int) := by rw [w64_nat (by omega), show two.length - (m + 1) + 1 = two.length - m by omega]
        simp only [f_s_SubgroupsOf_r6, f_s_SubgroupsOf_k6, ints_length, natsI_length, hd, br_true, er, bl1_one, hw]
        exact ⟨_, rfl, r, rfl, by omega, by omega, r2, r3⟩)
      (fun s hs => by
        obtain ⟨q, rfl, hm, hq, hne, hx⟩ := hs
        have hd : decide (((two.length - 0 : Nat) : Int) < (two.length : Int)) = false := decide_eq_false (by omega)
        simp only [f_s_SubgroupsOf_r6, f_s_SubgroupsOf_k6, ints_length, natsI_length, hd, br_false]
        exact ⟨_, rfl, q, _, rfl, by omega, hne⟩) two.length (ints (natsI two), ((two.length - two.length : Nat) : Int)) ⟨two, rfl, Nat.le_refl _, by omega, ht2, htx⟩
    obtain ⟨_, e6, out, z6, rfl, hu1, hu2⟩ := k6
    have e6' : loopL (f_s_SubgroupsOf_r6 (ints (natsI g)) (ints (natsI cyc)) (ints (natsI two))) (ints (natsI two), 0) = some (.one (ints (natsI out), z6)) := by rw [← e6, Nat.sub_self]; rfl
    refine ⟨natsI out, true, ?_, by rw [natsI_length]; exact hu1, fun _ => by rw [natsI_length]; exact hu2⟩
    simp only [f_s_SubgroupsOf, f_s_SubgroupsOf_k, s_IsGroup_eq _ h, hg, bo_some, Bool.not_true, br_false, s_l2Order_eq _ h, prodW_nat g v.len v.each, e0', e2', e6', bl1_one]
theorem l1Below_big {x0 : List Int} {c : List Sc × Int × Int} (hc : Cur x0 c) (n : Int) : ∃ r c', f_s_l1Below_io n c.1 c.2.1 c.2.2 = some (r, c') ∧ Cur x0 c' ∧ 0 ≤ r ∧ (0 < n → n ≤ 1000000 → r < n) := by
  by_cases hn : n ≤ 256
  · obtain ⟨r, c', e, h', h0, h1, _⟩ := l1Below_ok hc n hn
    exact ⟨r, c', e, h', h0, fun h _ => h1 h⟩
  · obtain ⟨x, c1, e1, h1, hx⟩ := l1Byte_ok hc
    obtain ⟨y, c2, e2, h2, hy⟩ := l1Byte_ok h1
    obtain ⟨z, c3, e3, h3, hz⟩ := l1Byte_ok h2
    obtain ⟨w, c4, e4, h4, hw⟩ := l1Byte_ok h3
    have d0 : decide (n ≤ 0) = false := decide_eq_false (by omega)
    have d1 : decide (n ≤ 256) = false := decide_eq_false hn
    have hz0 : (n == 0) = false := beq_eq_false_iff_ne.2 (by omega)
    have w1 : w64 (x * 16777216) = x * 16777216 := w64_in (by omega) (by omega)
    have w2 : w64 (y * 65536) = y * 65536 := w64_in (by omega) (by omega)
    have w3 : w64 (z * 256) = z * 256 := w64_in (by omega) (by omega)
    have w4 : w64 (x * 16777216 + y * 65536) = x * 16777216 + y * 65536 := w64_in (by omega) (by omega)
    have w5 : w64 (x * 16777216 + y * 65536 + z * 256) = x * 16777216 + y * 65536 + z * 256 := w64_in (by omega) (by omega)
    have w6 : w64 (x * 16777216 + y * 65536 + z * 256 + w) = x * 16777216 + y * 65536 + z * 256 + w := w64_in (by omega) (by omega)
    simp only [f_s_l1Below_io, f_s_l1Below_io_k, d0, d1, br_false, e1, e2, e3, e4, bo_some, hz0, w1, w2, w3, w4, w5, w6]
    have hr := tmod_range (a := x * 16777216 + y * 65536 + z * 256 + w) (n := n) (by omega) (by omega)
    exact ⟨_, _, rfl, ⟨h4.row, h4.low, h4.len⟩, hr.1, fun _ _ => hr.2⟩
theorem l5Group_ok {x0 : List Int} {c : List Sc × Int × Int} (hc : Cur x0 c) : ∃ G x c', f_s_l5Group_io c.1 c.2.1 c.2.2 = some (ints G, x, c') ∧ Cur x0 c' ∧ G.length ≤ 4 := by
  obtain ⟨G, c1, e1, h1, hG⟩ := l2Any_ok hc
  have hGl : G.length ≤ lim := Nat.le_trans hG (by decide)
  obtain ⟨L, b, e2, hL, hb⟩ := SubgroupsOf_ok G hGl
  obtain ⟨a0, c0, f0, g0⟩ := l3Set_ok h1 G hGl
  cases b with
  | false =>
    simp only [f_s_l5Group_io, f_s_l5Group_io_k, f_s_l5Group_io_g4, f_s_l5Group_io_g4_k, e1, bo_some, e2, Bool.not_false, show (true == false) = false from rfl, br_false, f0]
    exact ⟨G, _, _, rfl, ⟨g0.row, g0.low, g0.len⟩, hG⟩
  | true =>
    obtain ⟨q, c2, e3, h2⟩ := l1Once_ok h1 5 (by decide)
    obtain ⟨a3, c3, f3, g3⟩ := l3Set_ok h2 G hGl
    have hL1 := hb rfl
    obtain ⟨r, c4, f4, g4, r0, r1⟩ := l1Below_big h2 (L.length : Int)
    obtain ⟨k, rfl⟩ : ∃ k : Nat, r = k := ⟨r.toNat, by omega⟩
    have hk : k < L.length := by have := r1 (by omega) (by omega); omega
    simp only [f_s_l5Group_io, f_s_l5Group_io_k, f_s_l5Group_io_g4, f_s_l5Group_io_g4_k, f_s_l5Group_io_g5, f_s_l5Group_io_g5_k, e1, bo_some, e2, Bool.not_true, BEq.rfl, br_true, e3, f3, ints_length, f4, ok_nat hk]
    cases q with
    | true => exact ⟨G, _, _, rfl, ⟨g3.row, g3.low, g3.len⟩, hG⟩
    | false => exact ⟨G, _, _, rfl, ⟨g4.row, g4.low, g4.len⟩, hG⟩
theorem VG.ordS {g : List Nat} (v : VG g) : prodW (natsI g) = (ordN g : Nat) := prodW_nat g v.len v.each
def fzN (u : Nat) : Nat := ((List.range 63).find? fun x => !u.testBit x).getD 0
theorem fz_spec {u n : Nat} (hn : n ≤ 24) (hu : u < 2 ^ n) (hne : u ≠ 2 ^ n - 1) : fzN u < n ∧ u.testBit (fzN u) = false ∧ ∀ y, y < fzN u → u.testBit y = true := by
  have hex : ∃ x, x < n ∧ u.testBit x = false := by
    false_or_by_contra
    rename_i hno
    apply hne
    apply Nat.eq_of_testBit_eq
    intro i
    rw [Nat.testBit_two_pow_sub_one]
    by_cases hi : i < n
    · rw [decide_eq_true hi]
      cases hb : u.testBit i with
      | true => rfl
      | false => exact absurd ⟨i, hi, hb⟩ hno
    · rw [decide_eq_false hi]
      exact Nat.testBit_lt_two_pow (Nat.lt_of_lt_of_le hu (Nat.pow_le_pow_right (by decide) (by omega)))
  obtain ⟨x, hx, hb⟩ := hex
  have hs : ((List.range 63).find? fun x => !u.testBit x).isSome = true := by
    rw [List.find?_isSome]
    exact ⟨x, List.mem_range.2 (by omega), by simp [hb]⟩
  obtain ⟨z, hz⟩ := Option.isSome_iff_exists.1 hs
  have e : fzN u = z := by unfold fzN; rw [hz]; rfl
  rw [e]
  rw [List.find?_range_eq_some] at hz
  obtain ⟨h1, h2, h3⟩ := hz
  refine ⟨?_, by simpa using h1, fun y hy => by simpa using h3 y hy⟩
  rcases Nat.lt_or_ge x z with h | h
  · have := h3 x h
    rw [hb] at this
    cases this
  · omega
def tilS (g : List Nat) (a : Nat) (F : Nat → Nat → List Nat) (u b l : Nat) : List Nat :=
  if shiftN g a (addN g (fzN u) (negN g l)) &&& u = 0 then F (u ||| shiftN g a (addN g (fzN u) (negN g l))) (b ||| 2 ^ addN g (fzN u) (negN g l)) else []
def tilN (g : List Nat) (a : Nat) : Nat → Nat → Nat → List Nat
  | 0, _, _ => []
  | n + 1, u, b => if u = 2 ^ ordN g - 1 then [b] else (elems a).flatMap fun l => tilS g a (tilN g a n) u b l
theorem grow_or {u s : Nat} (h0 : s &&& u = 0) (hs : s ≠ 0) : u < u ||| s := by
  have hle : u ≤ u ||| s := Nat.left_le_or
  rcases Nat.lt_or_ge u (u ||| s) with h | h
  · exact h
  · exfalso
    have he : u ||| s = u := by omega
    apply hs
    apply Nat.eq_of_testBit_eq
    intro i
    have h1 : (u ||| s).testBit i = u.testBit i := by rw [he]
    have h2 : (s &&& u).testBit i = (0 : Nat).testBit i := by rw [h0]
    rw [Nat.testBit_or] at h1
    rw [Nat.testBit_and] at h2
    rw [Nat.zero_testBit] at h2 ⊢
    cases hb : s.testBit i with
    | false => rfl
    | true => rw [hb] at h1 h2; rw [Bool.or_true] at h1; rw [← h1] at h2; cases h2
theorem shift_ne {g : List Nat} {a : Nat} (ha : a ≠ 0) (ha' : a < 9223372036854775808) (y : Nat) : shiftN g a y ≠ 0 := by
  intro h
  apply ha
  apply Nat.eq_of_testBit_eq
  intro i
  rw [Nat.zero_testBit]
  cases hb : a.testBit i with
  | false => rfl
  | true =>
    have := shiftN_test g a y (addN g y i)
    rw [h, Nat.zero_testBit] at this
    have h2 : ((elems a).any fun z => decide (addN g y z = addN g y i)) = true := List.any_eq_true.2 ⟨i, (mem_elems ha').2 hb, decide_eq_true rfl⟩
    rw [h2] at this
    cases this
theorem take_more (A B out : List Nat) (m : Nat) : (out ++ A.take (m - out.length)) ++ B.take (m - (out ++ A.take (m - out.length)).length) = out ++ (A ++ B).take (m - out.length) := by
  rw [List.take_append, List.append_assoc, List.length_append, List.length_take]
  congr 3
  omega
theorem zdec (n : Nat) : ((n : Int) == 0) = decide (n = 0) := eq_nat_decM n 0
theorem flat_cons {E : List Nat} {k : Nat} (F : Nat → List Nat) (hk : k < E.length) : (E.drop k).flatMap F = F (E.getD k 0) ++ (E.drop (k + 1)).flatMap F := by
  rw [List.drop_eq_getElem_cons hk, List.flatMap_cons]
  simp [List.getD, List.getElem?_eq_getElem hk]
theorem l20_le : ∀ n a, Le (f_s_l20Search_n n a) (f_s_l20Search_n (n + 1) a)
  | 0, _ => Le.no
  | n + 1, a => by
    have ih := l20_le n
    simp only [f_s_l20Search_n, f_s_l20Search_k]
    refine Le.br Le.same (Le.bl1 (Le.loop fun s => ?_) fun e => Le.bo Le.same fun r => Le.bl1 (Le.loop fun s => ?_) fun e => Le.same)
    · simp only [f_s_l20Search_r0, f_s_l20Search_k0]
      exact Le.same
    · simp only [f_s_l20Search_r2, f_s_l20Search_k2]
      exact Le.br (Le.br (Le.br (Le.br (Le.bo Le.same fun r => Le.bo Le.same fun r => Le.bo Le.same fun r => Le.br (Le.br Le.same (Le.bo (ih _) fun r => Le.same)) Le.same) Le.same) Le.same) Le.same) Le.same
theorem tiles_le : ∀ n a, Le (f_i_tiles_1_n n a) (f_i_tiles_1_n (n + 1) a)
  | 0, _ => Le.no
  | n + 1, a => by
    have ih := tiles_le n
    simp only [f_i_tiles_1_n, f_i_tiles_1_k]
    refine Le.bo Le.same fun r => Le.br Le.same (Le.bl1 (Le.loop fun s => ?_) fun e => Le.bo Le.same fun r => Le.bl1 (Le.loop fun s => ?_) fun e => Le.same)
    · simp only [f_i_tiles_1_r0, f_i_tiles_1_k0]
      exact Le.same
    · simp only [f_i_tiles_1_r2, f_i_tiles_1_k2]
      exact Le.br (Le.br (Le.br (Le.bo Le.same fun r => Le.bo Le.same fun r => Le.br (Le.br (Le.br Le.same (Le.bo (ih _) fun r => Le.same)) Le.same) Le.same) Le.same) Le.same) Le.same
section
variable {g : List Nat} (v : VG g)
include v
theorem y_lt (u l : Nat) : addN g (fzN u) (negN g l) < ordN g := addN_lt v.each _ _
theorem and_test {s u : Nat} (hs : s < 2 ^ ordN g) (hu : u < 2 ^ ordN g) : (and64 (s : Int) (u : Int) == 0) = decide (s &&& u = 0) := by
  rw [and64_nat (set_i64 v hs) (set_i64 v hu), zdec]
theorem s_til_loop {a u b m n : Nat} (ha : a < 2 ^ ordN g) (ha0 : a ≠ 0) (hu : u < 2 ^ ordN g) (hb : b < 2 ^ ordN g) (hne : u ≠ 2 ^ ordN g - 1) (hm : m ≤ 1000)
    (ih : ∀ (u' b' m' : Nat), u < u' → u' < 2 ^ ordN g → b' < 2 ^ ordN g → 1 ≤ m' → m' ≤ 1000 → f_s_l20Search_n n (ints (natsI g), (a : Int), ((2 ^ ordN g - 1 : Nat) : Int), (u' : Int), (b' : Int), (m' : Int)) = some (ints (natsI ((tilN g a n u' b').take m')))) :
    ∀ (d k : Nat) (out : List Nat), k + d = (elems a).length → out.length ≤ m →
      loopL (f_s_l20Search_r2 (f_s_l20Search_n n) (a : Int) ((2 ^ ordN g - 1 : Nat) : Int) (u : Int) (b : Int) (m : Int) (ints (natsI g)) ((fzN u : Nat) : Int)) (ints (natsI out), ints (natsI (elems a)), (k : Int)) =
        some (.one (ints (natsI (out ++ (((elems a).drop k).flatMap fun l => tilS g a (tilN g a n) u b l).take (m - out.length)))))
  | 0, k, out, hk, ho => by
    have e : (elems a).drop k = [] := List.drop_eq_nil_of_le (by omega)
    rw [show k = (elems a).length by omega] at e ⊢
    rw [e]
    refine loopL_one ?_
    simp only [f_s_l20Search_r2, f_s_l20Search_k2, ints_length, natsI_length, lt_dec_self, br_eq]
    simp
  | d + 1, k, out, hk, ho => by
    have h24 := v.ord
    have hkl : k < (elems a).length := by omega
    have hel := elems_at ha hkl
    have h63 := elems_len a
    obtain ⟨f1, f2, f3⟩ := fz_spec h24 hu hne
    rw [flat_cons _ hkl]
    by_cases hlt : out.length < m
    · have hy := y_lt v u ((elems a).getD k 0)
      have hs := shiftN_lt v a (addN g (fzN u) (negN g ((elems a).getD k 0)))
      by_cases hz : shiftN g a (addN g (fzN u) (negN g ((elems a).getD k 0))) &&& u = 0
      · have hgr := grow_or hz (shift_ne ha0 (set_i64 v ha) _)
        have hih := ih (u ||| shiftN g a (addN g (fzN u) (negN g ((elems a).getD k 0)))) (b ||| 2 ^ addN g (fzN u) (negN g ((elems a).getD k 0))) (m - out.length) hgr (or_lt hu hs) (or_lt hb (two_pow_lt hy)) (by omega) (by omega)
        have hw : w64 ((m : Int) - (out.length : Int)) = ((m - out.length : Nat) : Int) := by rw [show (m : Int) - (out.length : Int) = ((m - out.length : Nat) : Int) by omega]; exact w64_cast (by omega)
        have et : tilS g a (tilN g a n) u b ((elems a).getD k 0) = tilN g a n (u ||| shiftN g a (addN g (fzN u) (negN g ((elems a).getD k 0)))) (b ||| 2 ^ addN g (fzN u) (negN g ((elems a).getD k 0))) := if_pos hz
        have cl : decide (out.length + ((tilN g a n (u ||| shiftN g a (addN g (fzN u) (negN g ((elems a).getD k 0)))) (b ||| 2 ^ addN g (fzN u) (negN g ((elems a).getD k 0)))).take (m - out.length)).length ≤ lim) = true := by
          rw [List.length_take]
          exact decide_eq_true (Nat.le_trans (show _ ≤ 2000 by omega) (by decide))
        have ap : ∀ A B : List Nat, ints (natsI A) ++ ints (natsI B) = ints (natsI (A ++ B)) := fun A B => by simp only [ints, natsI, List.map_append]
        rw [loopL_again (s' := (ints (natsI (out ++ (tilS g a (tilN g a n) u b ((elems a).getD k 0)).take (m - out.length))), ints (natsI (elems a)), ((k + 1 : Nat) : Int))) (by
          simp only [f_s_l20Search_r2, f_s_l20Search_k2, ints_length, natsI_length, lt_dec hkl, lt_dec hlt, in_nat hkl, Int.toNat_natCast, kAt_ints, atN_natsI, br_true, BEq.rfl, s_l2Negate_eq v (by omega : (elems a).getD k 0 < 4611686018427387904), bo_some,
            s_l2Add_eq v (by omega : fzN u < 4611686018427387904) (Nat.lt_trans (negN_lt v.each _) (by omega) : negN g ((elems a).getD k 0) < 4611686018427387904), s_l3Shift_eq v ha hy, and_test v hs hu, decide_eq_true hz, neg_dec, br_false, or_or v hu hs, or_pow v hb hy, hw, hih, cl, ap, et, w64_nat (by omega : k < 9223372036854775807)])]
        rw [s_til_loop ha ha0 hu hb hne hm ih d (k + 1) _ (by omega) (by rw [List.length_append, List.length_take]; omega), take_more]
      · have et : tilS g a (tilN g a n) u b ((elems a).getD k 0) = [] := if_neg hz
        rw [loopL_again (s' := (ints (natsI out), ints (natsI (elems a)), ((k + 1 : Nat) : Int))) (by
          simp only [f_s_l20Search_r2, f_s_l20Search_k2, ints_length, natsI_length, lt_dec hkl, lt_dec hlt, in_nat hkl, Int.toNat_natCast, kAt_ints, atN_natsI, br_true, BEq.rfl, s_l2Negate_eq v (by omega : (elems a).getD k 0 < 4611686018427387904), bo_some,
            s_l2Add_eq v (by omega : fzN u < 4611686018427387904) (Nat.lt_trans (negN_lt v.each _) (by omega) : negN g ((elems a).getD k 0) < 4611686018427387904), s_l3Shift_eq v ha hy, and_test v hs hu, decide_eq_false hz, br_false, w64_nat (by omega : k < 9223372036854775807)])]
        rw [s_til_loop ha ha0 hu hb hne hm ih d (k + 1) _ (by omega) ho, et, List.nil_append]
    · have e : m - out.length = 0 := by omega
      have hf : decide ((out.length : Int) < (m : Int)) = false := decide_eq_false (by omega)
      rw [e, List.take_zero, List.append_nil]
      refine loopL_one ?_
      simp only [f_s_l20Search_r2, f_s_l20Search_k2, ints_length, natsI_length, lt_dec hkl, hf, br_true, br_false, BEq.rfl]
theorem s_l20_fuel {a : Nat} (ha : a < 2 ^ ordN g) (ha0 : a ≠ 0) : ∀ (n u b m : Nat), u < 2 ^ ordN g → b < 2 ^ ordN g → 2 ^ ordN g ≤ n + u → 1 ≤ m → m ≤ 1000 →
    f_s_l20Search_n n (ints (natsI g), (a : Int), ((2 ^ ordN g - 1 : Nat) : Int), (u : Int), (b : Int), (m : Int)) = some (ints (natsI ((tilN g a n u b).take m)))
  | 0, u, b, m, hu, hb, hn, h1, h2 => by omega
  | n + 1, u, b, m, hu, hb, hn, h1, h2 => by
    have h24 := v.ord
    simp only [f_s_l20Search_n, f_s_l20Search_k]
    by_cases hf : u = 2 ^ ordN g - 1
    · have e : (((u : Nat) : Int) == ((2 ^ ordN g - 1 : Nat) : Int)) = true := by rw [eq_nat_decM, decide_eq_true hf]
      have et : tilN g a (n + 1) u b = [b] := if_pos hf
      rw [e, br_true, et, List.take_of_length_le (by simpa using h1)]
      rfl
    · have e : (((u : Nat) : Int) == ((2 ^ ordN g - 1 : Nat) : Int)) = false := by rw [eq_nat_decM, decide_eq_false hf]
      obtain ⟨f1, f2, f3⟩ := fz_spec h24 hu hf
      have k0 := loop_count (rd := f_s_l20Search_r0 (f_s_l20Search_n n) (a : Int) ((2 ^ ordN g - 1 : Nat) : Int) (u : Int) (b : Int) (m : Int) (ints (natsI g))) (fun k => (k : Int)) (fzN u) (a := ((fzN u : Nat) : Int)) (fun k hk => by
        simp only [f_s_l20Search_r0, f_s_l20Search_k0, neg_dec, br_false, bit_test (set_i64 v hu), f3 k hk, br_true, w64_nat (by omega : k < 9223372036854775807)]) (by
        simp only [f_s_l20Search_r0, f_s_l20Search_k0, neg_dec, br_false, bit_test (set_i64 v hu), f2]) 0 (Nat.zero_le _)
      have k0 : loopL (f_s_l20Search_r0 (f_s_l20Search_n n) (a : Int) ((2 ^ ordN g - 1 : Nat) : Int) (u : Int) (b : Int) (m : Int) (ints (natsI g))) 0 = some (.one ((fzN u : Nat) : Int)) := k0
      have k2 := s_til_loop v ha ha0 hu hb hf h2 (fun u' b' m' h1 h2 h3 h4 h5 => s_l20_fuel ha ha0 n u' b' m' h2 h3 (by omega) h4 h5) (elems a).length 0 [] (by omega) (by simp)
      have k2 : loopL (f_s_l20Search_r2 (f_s_l20Search_n n) (a : Int) ((2 ^ ordN g - 1 : Nat) : Int) (u : Int) (b : Int) (m : Int) (ints (natsI g)) ((fzN u : Nat) : Int)) ([], ints (natsI (elems a)), 0) = _ := k2
      have et : tilN g a (n + 1) u b = (elems a).flatMap fun l => tilS g a (tilN g a n) u b l := if_neg hf
      simp only [e, br_false, k0, bl1_one, s_l3List_eq (set_i64 v ha), bo_some, k2]
      rw [et, List.drop_zero, List.length_nil, Nat.sub_zero, List.nil_append]
theorem i_minus_eq {x y : Nat} (hx : x < ordN g) (hy : y < ordN g) : f_i_Group_minus (ints (natsI g)) (x : Int) (y : Int) = some ((addN g x (negN g y) : Nat) : Int) := by
  have h24 := v.ord
  simp only [f_i_Group_minus, f_i_Group_minus_k, i_negate_eq v (by omega : y < 4611686018427387904), bo_some, i_add_eq v (by omega : x < 4611686018427387904) (Nat.lt_trans (negN_lt v.each _) (by omega) : negN g y < 4611686018427387904)]
theorem i_full_eq : f_i_FullSet (ints (natsI g)) = some ((2 ^ ordN g - 1 : Nat) : Int) := by
  simp only [f_i_FullSet, f_i_FullSet_k, i_IsGroup_eq _ v.lim, i_OrderOf_eq _ v.lim, v.isG, v.ordG, bo_some, Bool.not_true, br_false, neg_dec, full_ord v]
theorem i_til_loop {a u b m n : Nat} (ha : a < 2 ^ ordN g) (ha0 : a ≠ 0) (hu : u < 2 ^ ordN g) (hb : b < 2 ^ ordN g) (hne : u ≠ 2 ^ ordN g - 1) (hm : m ≤ 1000)
    (ih : ∀ (u' b' : Nat) (out : List Nat), u < u' → u' < 2 ^ ordN g → b' < 2 ^ ordN g → out.length < m → f_i_tiles_1_n n ((b' : Int), (u' : Int), ints (natsI g), (a : Int), (m : Int), ints (natsI out), ints (natsI g), (a : Int), (m : Int)) = some (ints (natsI (out ++ (tilN g a n u' b').take (m - out.length))), ints (natsI g), (a : Int), (m : Int))) :
    ∀ (d k : Nat) (out : List Nat), k + d = (elems a).length → out.length ≤ m →
      loopL (f_i_tiles_1_r2 (f_i_tiles_1_n n) (b : Int) (u : Int) (ints (natsI g)) (a : Int) (m : Int) ((fzN u : Nat) : Int) ((elems a).length : Int)) (ints (natsI out), ints (natsI g), (a : Int), (m : Int), ints (natsI (elems a)), (k : Int)) =
        some (.one (ints (natsI (out ++ (((elems a).drop k).flatMap fun l => tilS g a (tilN g a n) u b l).take (m - out.length))), ints (natsI g), (a : Int), (m : Int)))
  | 0, k, out, hk, ho => by
    have e : (elems a).drop k = [] := List.drop_eq_nil_of_le (by omega)
    rw [show k = (elems a).length by omega] at e ⊢
    rw [e]
    refine loopL_one ?_
    simp only [f_i_tiles_1_r2, f_i_tiles_1_k2, lt_dec_self, br_false]
    simp
  | d + 1, k, out, hk, ho => by
    have h24 := v.ord
    have hkl : k < (elems a).length := by omega
    have hel := elems_at ha hkl
    have h63 := elems_len a
    obtain ⟨f1, f2, f3⟩ := fz_spec h24 hu hne
    have hy := y_lt v u ((elems a).getD k 0)
    have hs := shiftN_lt v a (addN g (fzN u) (negN g ((elems a).getD k 0)))
    rw [flat_cons _ hkl]
    by_cases hz : shiftN g a (addN g (fzN u) (negN g ((elems a).getD k 0))) &&& u = 0
    · by_cases hlt : out.length < m
      · have hgr := grow_or hz (shift_ne ha0 (set_i64 v ha) _)
        have hih := ih (u ||| shiftN g a (addN g (fzN u) (negN g ((elems a).getD k 0)))) (b ||| 2 ^ addN g (fzN u) (negN g ((elems a).getD k 0))) out hgr (or_lt hu hs) (or_lt hb (two_pow_lt hy)) hlt
        have et : tilS g a (tilN g a n) u b ((elems a).getD k 0) = tilN g a n (u ||| shiftN g a (addN g (fzN u) (negN g ((elems a).getD k 0)))) (b ||| 2 ^ addN g (fzN u) (negN g ((elems a).getD k 0))) := if_pos hz
        rw [loopL_again (s' := (ints (natsI (out ++ (tilS g a (tilN g a n) u b ((elems a).getD k 0)).take (m - out.length))), ints (natsI g), (a : Int), (m : Int), ints (natsI (elems a)), ((k + 1 : Nat) : Int))) (by
          simp only [f_i_tiles_1_r2, f_i_tiles_1_k2, ints_length, natsI_length, lt_dec hkl, lt_dec hlt, in_nat hkl, Int.toNat_natCast, kAt_ints, atN_natsI, br_true, BEq.rfl, i_minus_eq v f1 hel, bo_some, i_shift_eq v ha hy, and_test v hs hu, decide_eq_true hz, neg_dec, br_false, or_or v hu hs, or_pow v hb hy, hih, et, w64_nat (by omega : k < 9223372036854775807)])]
        rw [i_til_loop ha ha0 hu hb hne hm ih d (k + 1) _ (by omega) (by rw [List.length_append, List.length_take]; omega), take_more]
      · have e : m - out.length = 0 := by omega
        have hf : decide ((out.length : Int) < (m : Int)) = false := decide_eq_false (by omega)
        rw [loopL_again (s' := (ints (natsI out), ints (natsI g), (a : Int), (m : Int), ints (natsI (elems a)), ((k + 1 : Nat) : Int))) (by
          simp only [f_i_tiles_1_r2, f_i_tiles_1_k2, ints_length, natsI_length, lt_dec hkl, hf, in_nat hkl, Int.toNat_natCast, kAt_ints, atN_natsI, br_true, BEq.rfl, i_minus_eq v f1 hel, bo_some, i_shift_eq v ha hy, and_test v hs hu, decide_eq_true hz, br_false, w64_nat (by omega : k < 9223372036854775807)])]
        rw [i_til_loop ha ha0 hu hb hne hm ih d (k + 1) _ (by omega) ho, e, List.take_zero, List.take_zero]
    · have et : tilS g a (tilN g a n) u b ((elems a).getD k 0) = [] := if_neg hz
      rw [loopL_again (s' := (ints (natsI out), ints (natsI g), (a : Int), (m : Int), ints (natsI (elems a)), ((k + 1 : Nat) : Int))) (by
        have bf : (false == true) = false := rfl
        simp only [f_i_tiles_1_r2, f_i_tiles_1_k2, ints_length, natsI_length, lt_dec hkl, in_nat hkl, Int.toNat_natCast, kAt_ints, atN_natsI, br_true, i_minus_eq v f1 hel, bo_some, i_shift_eq v ha hy, and_test v hs hu, decide_eq_false hz, bf, br_false, w64_nat (by omega : k < 9223372036854775807)])]
      rw [i_til_loop ha ha0 hu hb hne hm ih d (k + 1) _ (by omega) ho, et, List.nil_append]
theorem i_tiles_fuel {a : Nat} (ha : a < 2 ^ ordN g) (ha0 : a ≠ 0) {m : Nat} (hm : m ≤ 1000) : ∀ (n u b : Nat) (out : List Nat), u < 2 ^ ordN g → b < 2 ^ ordN g → 2 ^ ordN g ≤ n + u → out.length < m →
    f_i_tiles_1_n n ((b : Int), (u : Int), ints (natsI g), (a : Int), (m : Int), ints (natsI out), ints (natsI g), (a : Int), (m : Int)) = some (ints (natsI (out ++ (tilN g a n u b).take (m - out.length))), ints (natsI g), (a : Int), (m : Int))
  | 0, u, b, out, hu, hb, hn, h1 => by omega
  | n + 1, u, b, out, hu, hb, hn, h1 => by
    have h24 := v.ord
    simp only [f_i_tiles_1_n, f_i_tiles_1_k, i_full_eq v, bo_some]
    by_cases hf : u = 2 ^ ordN g - 1
    · have e : (((u : Nat) : Int) == ((2 ^ ordN g - 1 : Nat) : Int)) = true := by rw [eq_nat_decM, decide_eq_true hf]
      have et : tilN g a (n + 1) u b = [b] := if_pos hf
      have cl : decide ((ints (natsI out)).length + [Sc.n .i64 (b : Int)].length ≤ lim) = true := by
        rw [ints_length, natsI_length]
        exact decide_eq_true (Nat.le_trans (show out.length + 1 ≤ 1000 by omega) (by decide))
      rw [e, br_true, et, List.take_of_length_le (by simp; omega), cl, br_true, ints_cast_snoc]
    · have e : (((u : Nat) : Int) == ((2 ^ ordN g - 1 : Nat) : Int)) = false := by rw [eq_nat_decM, decide_eq_false hf]
      obtain ⟨f1, f2, f3⟩ := fz_spec h24 hu hf
      have k0 := loop_count (rd := f_i_tiles_1_r0 (f_i_tiles_1_n n) (b : Int) (u : Int) (ints (natsI g)) (a : Int) (m : Int)) (fun k => (ints (natsI out), ints (natsI g), (a : Int), (m : Int), (k : Int))) (fzN u) (a := (ints (natsI out), ints (natsI g), (a : Int), (m : Int), ((fzN u : Nat) : Int))) (fun k hk => by
        simp only [f_i_tiles_1_r0, f_i_tiles_1_k0, i_in_eq (set_i64 v hu), bo_some, f3 k hk, br_true, w64_nat (by omega : k < 9223372036854775807)]) (by
        simp only [f_i_tiles_1_r0, f_i_tiles_1_k0, i_in_eq (set_i64 v hu), bo_some, f2, br_false]) 0 (Nat.zero_le _)
      have k0 : loopL (f_i_tiles_1_r0 (f_i_tiles_1_n n) (b : Int) (u : Int) (ints (natsI g)) (a : Int) (m : Int)) (ints (natsI out), ints (natsI g), (a : Int), (m : Int), 0) = _ := k0
      have k2 := i_til_loop v ha ha0 hu hb hf hm (fun u' b' out h1 h2 h3 h4 => i_tiles_fuel ha ha0 hm n u' b' out h2 h3 (by omega) h4) (elems a).length 0 out (by omega) (by omega)
      have k2 : loopL (f_i_tiles_1_r2 (f_i_tiles_1_n n) (b : Int) (u : Int) (ints (natsI g)) (a : Int) (m : Int) ((fzN u : Nat) : Int) ((elems a).length : Int)) (ints (natsI out), ints (natsI g), (a : Int), (m : Int), ints (natsI (elems a)), 0) = _ := k2
      have et : tilN g a (n + 1) u b = (elems a).flatMap fun l => tilS g a (tilN g a n) u b l := if_neg hf
      simp only [e, br_false, k0, bl1_one, i_members_eq (set_i64 v ha), bo_some, ints_length, natsI_length, k2]
      rw [et, List.drop_zero]
end
def tilesN (g : List Nat) (a : Nat) : List Nat := tilN g a (2 ^ ordN g) a 1
theorem s_tiles_all {g : List Nat} (v : VG g) {a m : Nat} (ha : a < 2 ^ ordN g) (ha0 : a ≠ 0) (h1 : 1 ≤ m) (h2 : m ≤ 1000) : f_s_l20Search (ints (natsI g)) (a : Int) ((2 ^ ordN g - 1 : Nat) : Int) (a : Int) 1 (m : Int) = some (ints (natsI ((tilesN g a).take m))) := by
  have h0 := ordN_pos v.each
  exact limF_le l20_le (s_l20_fuel v ha ha0 (2 ^ ordN g) a 1 m ha (Nat.one_lt_two_pow (by omega)) (by omega) h1 h2)
theorem i_tiles_all {g : List Nat} (v : VG g) {a m : Nat} (ha : a < 2 ^ ordN g) (ha0 : a ≠ 0) (h1 : 1 ≤ m) (h2 : m ≤ 1000) : f_i_tiles (ints (natsI g)) (a : Int) (m : Int) = some (ints (natsI ((tilesN g a).take m))) := by
  have h0 := ordN_pos v.each
  have := limF_le tiles_le (i_tiles_fuel v ha ha0 h2 (2 ^ ordN g) a 1 [] ha (Nat.one_lt_two_pow (by omega)) (by omega) (by rw [List.length_nil]; omega))
  have : f_i_tiles_1 1 (a : Int) (ints (natsI g)) (a : Int) (m : Int) [] (ints (natsI g)) (a : Int) (m : Int) = _ := this
  simp only [f_i_tiles, f_i_tiles_k, this, bo_some]
  rw [List.nil_append, List.length_nil, Nat.sub_zero]
  rfl
theorem FindTile_both (G : List Int) (a : Int) (h : G.length ≤ lim) : ∃ r, f_s_FindTile (ints G) a = some r ∧ f_i_FindTile (ints G) a = some r := by
  simp only [f_s_FindTile, f_s_FindTile_k, f_i_FindTile, f_i_FindTile_k, s_IsSet_eq G a h, i_IsSet_eq G a h, bo_some]
  cases hs : setG G a with
  | false => exact ⟨_, rfl, rfl⟩
  | true =>
    obtain ⟨g, n, rfl, v, rfl, hn⟩ := nat_of_set hs
    rw [zdec]
    by_cases h0 : n = 0
    · rw [decide_eq_true h0]; exact ⟨_, rfl, rfl⟩
    · have e1 := s_tiles_all v hn h0 (m := 1) (by decide) (by decide)
      have e2 := i_tiles_all v hn h0 (m := 1) (by decide) (by decide)
      rw [show ((1 : Nat) : Int) = 1 from rfl] at e1 e2
      simp only [decide_eq_false h0, s_l2Order_eq _ h, v.ordS, bo_some, neg_dec, full_ord v, e1, e2]
      have : ((tilesN g n).take 1) = [] ∨ ∃ x, (tilesN g n).take 1 = [x] := by
        cases tilesN g n with
        | nil => exact .inl rfl
        | cons x r => exact .inr ⟨x, rfl⟩
      rcases this with e | ⟨x, e⟩
      · rw [e]; exact ⟨_, rfl, rfl⟩
      · rw [e]; exact ⟨_, rfl, rfl⟩
def insN (x : Nat) (l : List Nat) : List Nat := l.takeWhile (fun y => decide (y ≤ x)) ++ x :: l.dropWhile (fun y => decide (y ≤ x))
def insAll (l : List Nat) : List Nat := l.foldl (fun o x => insN x o) []
theorem ins_perm (x : Nat) (l : List Nat) : (insN x l).Perm (x :: l) := by
  unfold insN
  refine List.perm_middle.trans (List.Perm.cons x ?_)
  rw [List.takeWhile_append_dropWhile]
theorem insAll_perm_aux : ∀ (l o : List Nat), (l.foldl (fun o x => insN x o) o).Perm (o ++ l)
  | [], o => by simp
  | x :: l, o => by
    refine (insAll_perm_aux l (insN x o)).trans ?_
    refine ((ins_perm x o).append_right l).trans ?_
    exact List.perm_middle.symm
theorem insAll_perm (l : List Nat) : (insAll l).Perm l := insAll_perm_aux l []
theorem ins_sorted {x : Nat} : ∀ {l : List Nat}, l.Pairwise (· ≤ ·) → (insN x l).Pairwise (· ≤ ·)
  | [], _ => by simp [insN]
  | y :: l, h => by
    obtain ⟨h1, h2⟩ := List.pairwise_cons.1 h
    unfold insN
    by_cases hy : y ≤ x
    · rw [List.takeWhile_cons_of_pos (by simpa using hy), List.dropWhile_cons_of_pos (by simpa using hy), List.cons_append]
      refine List.pairwise_cons.2 ⟨fun z hz => ?_, ins_sorted h2⟩
      have := (ins_perm x l).subset hz
      rcases List.mem_cons.1 this with rfl | hz
      · exact hy
      · exact h1 z hz
    · rw [List.takeWhile_cons_of_neg (by simpa using hy), List.dropWhile_cons_of_neg (by simpa using hy), List.nil_append]
      refine List.pairwise_cons.2 ⟨fun z hz => ?_, h⟩
      rcases List.mem_cons.1 hz with rfl | hz
      · omega
      · have := h1 z hz; omega
theorem insAll_sorted_aux : ∀ (l o : List Nat), o.Pairwise (· ≤ ·) → (l.foldl (fun o x => insN x o) o).Pairwise (· ≤ ·)
  | [], o, h => h
  | x :: l, o, h => insAll_sorted_aux l _ (ins_sorted h)
theorem insAll_sorted (l : List Nat) : (insAll l).Pairwise (· ≤ ·) := insAll_sorted_aux l [] List.Pairwise.nil
theorem sort_nat (l : List Nat) : sortZ (natsI l) = natsI (insAll l) := by
  refine List.Perm.eq_of_pairwise (le := fun a b => decide (a ≤ b) = true) (fun a b _ _ h1 h2 => ?_) ?_ ?_ ?_
  · have h1 := of_decide_eq_true h1
    have h2 := of_decide_eq_true h2
    omega
  · exact List.pairwise_mergeSort (fun a b c h1 h2 => by simp only [decide_eq_true_eq] at *; omega) (fun a b => by simp only [Bool.or_eq_true, decide_eq_true_eq]; omega) _
  · unfold natsI
    rw [List.pairwise_map]
    refine (insAll_sorted l).imp fun h => ?_
    exact decide_eq_true (by omega)
  · unfold sortZ
    refine (List.mergeSort_perm _ _).trans ?_
    unfold natsI
    exact ((insAll_perm l).symm).map _
theorem nums_ints (zs : List Int) : nums (ints zs) = zs ∧ allI (ints zs) = true := by
  constructor
  · unfold nums ints
    rw [List.map_map]
    conv => rhs; rw [← List.map_id zs]
    rfl
  · unfold allI ints
    rw [List.all_map, List.all_eq_true]
    intro x _
    rfl
theorem sortSc_nat {l : List Nat} (h : l.length ≤ lim) : sortSc (ints (natsI l)) = some (ints (natsI (insAll l))) := by
  unfold sortSc
  rw [(nums_ints _).1, (nums_ints _).2, ints_length, natsI_length, decide_eq_true h, sort_nat]
  rfl
theorem ins_split {x : Nat} {l : List Nat} (h : l.Pairwise (· ≤ ·)) : ∃ t d, l = t ++ d ∧ insN x l = t ++ x :: d ∧ (∀ y ∈ t, y ≤ x) ∧ ∀ y ∈ d, x < y := by
  refine ⟨l.takeWhile (fun y => decide (y ≤ x)), l.dropWhile (fun y => decide (y ≤ x)), List.takeWhile_append_dropWhile.symm, rfl, fun y hy => ?_, ?_⟩
  · have := List.all_takeWhile (p := fun y => decide (y ≤ x)) (l := l)
    exact of_decide_eq_true (List.all_eq_true.1 this y hy)
  · induction l with
    | nil => intro y hy; cases hy
    | cons z l ih =>
      obtain ⟨h1, h2⟩ := List.pairwise_cons.1 h
      by_cases hz : z ≤ x
      · rw [List.dropWhile_cons_of_pos (by simpa using hz)]
        exact ih h2
      · rw [List.dropWhile_cons_of_neg (by simpa using hz)]
        intro y hy
        rcases List.mem_cons.1 hy with rfl | hy
        · omega
        · have := h1 y hy; omega
theorem getD_mem {l : List Nat} {k : Nat} (h : k < l.length) : l.getD k 0 ∈ l := by simp [List.getD, List.getElem?_eq_getElem h]
theorem s_l5Put_eq {x : Nat} {l : List Nat} (h : l.Pairwise (· ≤ ·)) (hx : x ∉ l) (hlen : l.length ≤ 1000) : f_s_l5Put (ints (natsI l)) (x : Int) = some (ints (natsI (insN x l))) := by
  obtain ⟨t, d, e, ei, ht, hd⟩ := ins_split (x := x) h
  have hl : l.length = t.length + d.length := by rw [e, List.length_append]
  have hw : ∀ k : Nat, 1 ≤ k → k ≤ l.length → w64 ((k : Int) - 1) = ((k - 1 : Nat) : Int) := fun k h1 h2 => by
    rw [show (k : Int) - 1 = ((k - 1 : Nat) : Int) by omega]
    exact w64_cast (by omega)
  have key := loop_count (rd := f_s_l5Put_r0 (ints (natsI l)) (x : Int)) (fun j => ((l.length - j : Nat) : Int)) d.length (a := ((t.length : Nat) : Int)) (fun j hj => by
    have d0 : decide (((l.length - j : Nat) : Int) > 0) = true := decide_eq_true (by omega)
    have hat : l.getD (l.length - j - 1) 0 ∈ d := by
      rw [e]
      have : (t ++ d).getD ((t ++ d).length - j - 1) 0 = d.getD (d.length - j - 1) 0 := by
        simp only [List.getD, List.length_append]
        rw [List.getElem?_append_right (by omega), show t.length + d.length - j - 1 - t.length = d.length - j - 1 by omega]
      rw [this]
      exact getD_mem (by omega)
    have dg : decide (((l.getD (l.length - j - 1) 0 : Nat) : Int) > (x : Int)) = true := decide_eq_true (by have := hd _ hat; omega)
    simp only [f_s_l5Put_r0, f_s_l5Put_k0, d0, BEq.rfl, br_true, hw (l.length - j) (by omega) (by omega), ok_natsI (show l.length - j - 1 < l.length by omega), at_natsI, dg]
    rw [show l.length - (j + 1) = l.length - j - 1 by omega]) (by
    rw [show l.length - d.length = t.length by omega]
    by_cases h0 : t.length = 0
    · have d0 : decide (((t.length : Nat) : Int) > 0) = false := decide_eq_false (by omega)
      have bf : (false == true) = false := rfl
      simp only [f_s_l5Put_r0, f_s_l5Put_k0, d0, bf, br_false]
    · have d0 : decide (((t.length : Nat) : Int) > 0) = true := decide_eq_true (by omega)
      have hat : l.getD (t.length - 1) 0 ∈ t := by
        rw [e]
        have : (t ++ d).getD (t.length - 1) 0 = t.getD (t.length - 1) 0 := by
          simp only [List.getD]
          rw [List.getElem?_append_left (by omega)]
        rw [this]
        exact getD_mem (by omega)
      have dg : decide (((l.getD (t.length - 1) 0 : Nat) : Int) > (x : Int)) = false := decide_eq_false (by have := ht _ hat; omega)
      simp only [f_s_l5Put_r0, f_s_l5Put_k0, d0, BEq.rfl, br_true, hw t.length (by omega) (by omega), ok_natsI (show t.length - 1 < l.length by omega), at_natsI, dg, br_false]) 0 (Nat.zero_le _)
  simp only [Nat.sub_zero] at key
  have z0 : sliceA (ints (natsI l)) 0 ((t.length : Nat) : Int) = ints (natsI t) := by
    rw [e]
    simp [sliceA, ints, natsI]
  have z1 : sliceA (ints (natsI l)) ((t.length : Nat) : Int) (l.length : Int) = ints (natsI d) := by
    unfold sliceA
    rw [Int.toNat_natCast, Int.toNat_natCast, List.take_of_length_le (by rw [ints_length, natsI_length]; exact Nat.le_refl _), e]
    simp [ints, natsI]
  have c1 : (decide (0 ≤ (0 : Int)) && (decide ((0 : Int) ≤ ((t.length : Nat) : Int)) && decide (((t.length : Nat) : Int) ≤ (l.length : Int)))) = true := by
    simp only [Bool.and_eq_true, decide_eq_true_eq]; omega
  have c2 : (decide (0 ≤ ((t.length : Nat) : Int)) && (decide (((t.length : Nat) : Int) ≤ (l.length : Int)) && decide ((l.length : Int) ≤ (l.length : Int)))) = true := by
    simp only [Bool.and_eq_true, decide_eq_true_eq]; omega
  have c3 : decide (([] : List Sc).length + t.length ≤ lim) = true := by
    rw [List.length_nil, Nat.zero_add]
    exact decide_eq_true (Nat.le_trans (show t.length ≤ 1000 by omega) (by decide))
  have c4 : decide (t.length + [Sc.n .i64 (x : Int)].length ≤ lim) = true := by
    rw [List.length_singleton]
    exact decide_eq_true (Nat.le_trans (show t.length + 1 ≤ 1001 by omega) (by decide))
  have c5 : decide ((t ++ [x]).length + d.length ≤ lim) = true := by
    rw [List.length_append, List.length_singleton]
    exact decide_eq_true (Nat.le_trans (show t.length + 1 + d.length ≤ 1001 by omega) (by decide))
  have ap : ∀ A B : List Nat, ints (natsI A) ++ ints (natsI B) = ints (natsI (A ++ B)) := fun A B => by simp only [ints, natsI, List.map_append]
  have fin : t ++ [x] ++ d = insN x l := by rw [ei, List.append_assoc]; rfl
  simp only [f_s_l5Put, f_s_l5Put_k, ints_length, natsI_length, key, bl1_one]
  by_cases h0 : t.length = 0
  · have d0 : decide (((t.length : Nat) : Int) > 0) = false := decide_eq_false (by omega)
    have bf : (false == true) = false := rfl
    simp only [d0, bf, br_false, c1, c2, br_true, z0, z1, ints_length, natsI_length, c3, List.nil_append, c4, ints_cast_snoc, c5, ap, fin]
  · have d0 : decide (((t.length : Nat) : Int) > 0) = true := decide_eq_true (by omega)
    have hat : l.getD (t.length - 1) 0 ∈ l := getD_mem (by omega)
    have de : (((l.getD (t.length - 1) 0 : Nat) : Int) == (x : Int)) = false := by
      rw [eq_nat_decM]
      exact decide_eq_false fun h => hx (by rw [← h]; exact hat)
    simp only [d0, BEq.rfl, br_true, hw t.length (by omega) (by omega), ok_natsI (show t.length - 1 < l.length by omega), at_natsI, de, br_false, c1, c2, z0, z1, ints_length, natsI_length, c3, List.nil_append, c4, ints_cast_snoc, c5, ap, fin]
section
variable {g : List Nat} {a : Nat}
theorem and_or_zero {x u s : Nat} (h : x &&& (u ||| s) = 0) : x &&& u = 0 := by
  apply Nat.eq_of_testBit_eq
  intro i
  have hi : (x &&& (u ||| s)).testBit i = (0 : Nat).testBit i := by rw [h]
  rw [Nat.testBit_and, Nat.testBit_or, Nat.zero_testBit] at hi
  rw [Nat.testBit_and, Nat.zero_testBit]
  cases hx : x.testBit i <;> cases hu : u.testBit i <;> simp_all
theorem til_step {n u b m : Nat} (h : m ∈ tilN g a (n + 1) u b) (hf : u ≠ 2 ^ ordN g - 1) : ∃ l ∈ elems a, shiftN g a (addN g (fzN u) (negN g l)) &&& u = 0 ∧ m ∈ tilN g a n (u ||| shiftN g a (addN g (fzN u) (negN g l))) (b ||| 2 ^ addN g (fzN u) (negN g l)) := by
  unfold tilN at h
  rw [if_neg hf] at h
  obtain ⟨l, hl, hm⟩ := List.mem_flatMap.1 h
  unfold tilS at hm
  split at hm
  · rename_i hz
    exact ⟨l, hl, hz, hm⟩
  · cases hm
theorem til_sub : ∀ (n u b m : Nat), m ∈ tilN g a n u b → ∀ i, b.testBit i = true → m.testBit i = true
  | 0, _, _, m, h, _, _ => by cases h
  | n + 1, u, b, m, h, i, hi => by
    by_cases hf : u = 2 ^ ordN g - 1
    · unfold tilN at h
      rw [if_pos hf] at h
      rw [List.mem_singleton.1 h]
      exact hi
    · obtain ⟨l, _, _, hm⟩ := til_step h hf
      exact til_sub n _ _ m hm i (by rw [Nat.testBit_or, hi]; rfl)
theorem til_dis : ∀ (n u b m : Nat), m ∈ tilN g a n u b → ∀ y, m.testBit y = true → b.testBit y = false → shiftN g a y &&& u = 0
  | 0, _, _, m, h, _, _, _ => by cases h
  | n + 1, u, b, m, h, y, hy, hb => by
    by_cases hf : u = 2 ^ ordN g - 1
    · unfold tilN at h
      rw [if_pos hf] at h
      rw [List.mem_singleton.1 h, hb] at hy
      cases hy
    · obtain ⟨l, _, hz, hm⟩ := til_step h hf
      cases hc : (b ||| 2 ^ addN g (fzN u) (negN g l)).testBit y with
      | true =>
        rw [Nat.testBit_or, hb, Bool.false_or, pow_test] at hc
        rw [← of_decide_eq_true hc]
        exact hz
      | false => exact and_or_zero (til_dis n _ _ m hm y hy hc)
theorem nodup_all (v : VG g) (ha : a < 2 ^ ordN g) : ∀ (n u b : Nat), u < 2 ^ ordN g → (∀ y, b.testBit y = true → ∀ i, (shiftN g a y).testBit i = true → u.testBit i = true) → (tilN g a n u b).Nodup
  | 0, _, _, _, _ => List.Pairwise.nil
  | n + 1, u, b, hu, hI => by
    by_cases hf : u = 2 ^ ordN g - 1
    · unfold tilN
      rw [if_pos hf]
      simp
    · obtain ⟨f1, f2, f3⟩ := fz_spec v.ord hu hf
      have ha' := set_i64 v ha
      -- the least number that is not reached is reached by each shift
      have he : ∀ l ∈ elems a, (shiftN g a (addN g (fzN u) (negN g l))).testBit (fzN u) = true := fun l hl => by
        rw [shiftN_test, List.any_eq_true]
        refine ⟨l, hl, decide_eq_true ?_⟩
        rw [addN_assoc g v.each, addN_comm g (negN g l), addN_neg g v.each, addN_comm, addN_zero g _ v.each f1]
      unfold tilN
      rw [if_neg hf]
      unfold List.Nodup
      rw [List.pairwise_flatMap]
      constructor
      · intro l hl
        unfold tilS
        split
        · refine nodup_all v ha n _ _ (or_lt hu (shiftN_lt v a _)) fun y hy i hi => ?_
          rw [Nat.testBit_or, Bool.or_eq_true] at hy ⊢
          rcases hy with hy | hy
          · exact .inl (hI y hy i hi)
          · rw [pow_test] at hy
            rw [of_decide_eq_true hy]
            exact .inr hi
        · exact List.Pairwise.nil
      · refine List.Pairwise.imp_of_mem (R := (· < ·)) (fun {l1 l2} h1 h2 hlt m1 hm1 m2 hm2 hmm => ?_) (List.Pairwise.filter _ List.pairwise_lt_range)
        subst hmm
        unfold tilS at hm1 hm2
        split at hm1
        · split at hm2
          · have t1 := til_sub _ _ _ _ hm2 (addN g (fzN u) (negN g l2)) (by rw [Nat.testBit_or, pow_test, decide_eq_true rfl, Bool.or_true])
            cases hc : (b ||| 2 ^ addN g (fzN u) (negN g l1)).testBit (addN g (fzN u) (negN g l2)) with
            | false =>
              have hd := til_dis _ _ _ _ hm1 _ t1 hc
              have hb : (shiftN g a (addN g (fzN u) (negN g l2)) &&& (u ||| shiftN g a (addN g (fzN u) (negN g l1)))).testBit (fzN u) = true := by
                rw [Nat.testBit_and, Nat.testBit_or, he l2 h2, he l1 h1, Bool.or_true]
                rfl
              rw [hd, Nat.zero_testBit] at hb
              cases hb
            | true =>
              rw [Nat.testBit_or, Bool.or_eq_true] at hc
              rcases hc with hc | hc
              · have := hI _ hc (fzN u) (he l2 h2)
                rw [f2] at this
                cases this
              · rw [pow_test] at hc
                have hc := of_decide_eq_true hc
                have key : ∀ l ∈ elems a, addN g (negN g (addN g (fzN u) (negN g l))) (fzN u) = l := fun l hl => by
                  have hl' := elems_lt ha hl
                  have e1 : fzN u = addN g (addN g (fzN u) (negN g l)) l := by
                    rw [addN_assoc g v.each, addN_comm g (negN g l), addN_neg g v.each, addN_comm, addN_zero g _ v.each f1]
                  have e2 := congrArg (addN g (negN g (addN g (fzN u) (negN g l)))) e1
                  exact e2.trans (by rw [← addN_assoc g v.each, addN_comm g (negN g _), addN_neg g v.each, addN_zero g _ v.each hl'])
                have k1 := key l1 h1
                have k2 := key l2 h2
                rw [hc, k2] at k1
                omega
          · cases hm2
        · cases hm1
theorem tiles_nodup (v : VG g) (ha : a < 2 ^ ordN g) : (tilesN g a).Nodup := by
  refine nodup_all v ha _ _ _ ha fun y hy i hi => ?_
  have : y = 0 := by
    have h : (1 : Nat).testBit y = true := hy
    rw [show (1 : Nat) = 2 ^ 0 from rfl, pow_test] at h
    exact (of_decide_eq_true h).symm
  subst this
  rwa [shiftN_zero v ha] at hi
end
theorem s_put_loop : ∀ (L : List Nat), L.Nodup → L.length ≤ 1000 → loopL f_s_TilesOf_r0 ([], ints (natsI L), 0) = some (.one (ints (natsI (insAll L)))) := by
  intro L hn hlen
  have pre : ∀ k, k ≤ L.length → ((L.take k).foldl (fun o x => insN x o) []).Perm (L.take k) := fun k _ => insAll_perm (L.take k)
  have step : ∀ k, k < L.length → (L.take (k + 1)).foldl (fun o x => insN x o) [] = insN (L.getD k 0) ((L.take k).foldl (fun o x => insN x o) []) := by
    intro k hk
    rw [List.take_succ_eq_append_getElem hk, List.foldl_append]
    simp [List.getD, List.getElem?_eq_getElem hk]
  have key := loop_count (rd := f_s_TilesOf_r0) (fun k => (ints (natsI ((L.take k).foldl (fun o x => insN x o) [])), ints (natsI L), (k : Int))) L.length (a := ints (natsI ((L.take L.length).foldl (fun o x => insN x o) []))) (fun k hk => by
    have hp := pre k (by omega)
    have hfresh : L.getD k 0 ∉ (L.take k).foldl (fun o x => insN x o) [] := fun hm => by
      have hm := hp.subset hm
      have hs : (L.take (k + 1)).Nodup := hn.sublist (List.take_sublist _ _)
      rw [List.take_succ_eq_append_getElem hk] at hs
      have := (List.nodup_append.1 hs).2.2 _ hm _ (List.mem_singleton_self _)
      apply this
      simp [List.getD, List.getElem?_eq_getElem hk]
    have hl : ((L.take k).foldl (fun o x => insN x o) []).length ≤ 1000 := by rw [hp.length_eq, List.length_take]; omega
    have hput := s_l5Put_eq (l := (L.take k).foldl (fun o x => insN x o) []) (insAll_sorted (L.take k)) hfresh hl
    simp only [f_s_TilesOf_r0, f_s_TilesOf_k0, ints_length, natsI_length, lt_dec hk, br_true, in_nat hk, Int.toNat_natCast, kAt_ints, atN_natsI, hput, bo_some, step k hk, w64_nat (by omega : k < 9223372036854775807)]) (by
    simp only [f_s_TilesOf_r0, f_s_TilesOf_k0, ints_length, natsI_length, lt_dec_self, br_false]) 0 (Nat.zero_le _)
  rw [List.take_length] at key
  exact key
section
variable {g : List Nat} (v : VG g)
include v
omit v in
theorem pop_one : popN 1 = 1 := by decide +kernel
theorem sum_more {a b : Nat} (ha : a < 2 ^ ordN g) (hb : b < 2 ^ ordN g) {y : Nat} (hy : y < ordN g) : sumN g a (b ||| 2 ^ y) = sumN g a b ||| shiftN g a y := by
  have hp : 2 ^ y < 2 ^ ordN g := two_pow_lt hy
  refine sbN_eq (fun z hz => ?_) fun z hz => ?_
  · obtain ⟨p, q, h1, h2, rfl⟩ := (sum_bit v ha (or_lt hb hp) z).1 hz
    rw [Nat.testBit_or, Bool.or_eq_true] at h2 ⊢
    rcases h2 with h2 | h2
    · exact .inl ((sum_bit v ha hb _).2 ⟨p, q, h1, h2, rfl⟩)
    · rw [pow_test, decide_eq_true_eq] at h2
      subst h2
      exact .inr ((shift_bit v ha _ _).2 ⟨p, h1, addN_comm g _ _⟩)
  · rw [Nat.testBit_or, Bool.or_eq_true] at hz
    rcases hz with hz | hz
    · obtain ⟨p, q, h1, h2, rfl⟩ := (sum_bit v ha hb z).1 hz
      exact (sum_bit v ha (or_lt hb hp) _).2 ⟨p, q, h1, by rw [Nat.testBit_or, h2]; rfl, rfl⟩
    · obtain ⟨p, h1, rfl⟩ := (shift_bit v ha y z).1 hz
      exact (sum_bit v ha (or_lt hb hp) _).2 ⟨p, y, h1, by rw [Nat.testBit_or, pow_test, decide_eq_true rfl, Bool.or_true], addN_comm g _ _⟩
theorem til_good {a : Nat} (ha : a < 2 ^ ordN g) (ha0 : a ≠ 0) : ∀ (n u b m : Nat), b < 2 ^ ordN g → u = sumN g a b → popN u = popN a * popN b → m ∈ tilN g a n u b → m < 2 ^ ordN g ∧ sumN g a m = 2 ^ ordN g - 1 ∧ popN (sumN g a m) = popN a * popN m := by
  intro n
  induction n with
  | zero => intro u b m _ _ _ hm; cases hm
  | succ n ih =>
    intro u b m hb hu hp hm
    by_cases hf : u = 2 ^ ordN g - 1
    · unfold tilN at hm
      rw [if_pos hf] at hm
      rw [List.mem_singleton.1 hm, ← hu]
      exact ⟨hb, hf, hp⟩
    · obtain ⟨l, hl, hz, hm⟩ := til_step hm hf
      have hy := y_lt v u l
      generalize addN g (fzN u) (negN g l) = y at hz hm hy
      have hdis : ∀ z, u.testBit z = true → (shiftN g a y).testBit z = true → False := fun z h1 h2 => by
        have h3 : (shiftN g a y &&& u).testBit z = true := by rw [Nat.testBit_and, h1, h2]; rfl
        rw [hz, Nat.zero_testBit] at h3
        cases h3
      have hyb : b.testBit y = false := by
        cases e : b.testBit y with
        | false => rfl
        | true =>
          refine absurd (?_ : shiftN g a y = 0) (shift_ne ha0 (set_i64 v ha) y)
          apply Nat.eq_of_testBit_eq
          intro z
          rw [Nat.zero_testBit]
          cases e2 : (shiftN g a y).testBit z with
          | false => rfl
          | true =>
            obtain ⟨p, h1, h2⟩ := (shift_bit v ha y z).1 e2
            exact (hdis z (by rw [hu]; exact (sum_bit v ha hb z).2 ⟨p, y, h1, e, by rw [addN_comm]; exact h2⟩) e2).elim
      refine ih (u ||| shiftN g a y) (b ||| 2 ^ y) m (or_lt hb (two_pow_lt hy)) (by rw [sum_more v ha hb hy, hu]) ?_ hm
      have h24 := v.ord
      rw [pop_or_dis hdis, pop_shift v ha, hp, pop_or_dis fun z h1 h2 => by
        rw [pow_test, decide_eq_true_eq] at h2
        subst h2
        rw [hyb] at h1
        cases h1]
      rw [pop_pow (show y < 63 by omega), Nat.mul_add, Nat.mul_one]
omit v in
theorem full_iff {s : Nat} (hs : s < 2 ^ ordN g) : s = 2 ^ ordN g - 1 ↔ ∀ z, z < ordN g → s.testBit z = true := by
  constructor
  · rintro rfl z hz
    rw [Nat.testBit_two_pow_sub_one, decide_eq_true hz]
  · intro h
    refine sbN_eq (fun z hz => ?_) fun z hz => ?_
    · rw [Nat.testBit_two_pow_sub_one, decide_eq_true (bit_lt hs hz)]
    · rw [Nat.testBit_two_pow_sub_one, decide_eq_true_eq] at hz
      exact h z hz
theorem til_tile {a m : Nat} (ha : a < 2 ^ ordN g) (ha0 : a ≠ 0) (hm : m ∈ tilesN g a) : TilB g a m ∧ m.testBit 0 = true := by
  have h1 := one_lt2 v
  have e : a = sumN g a 1 := sbN_eq (fun z hz => (sum_bit v ha h1 z).2 ⟨z, 0, hz, by decide, by rw [addN_comm]; exact addN_zero g z v.each (bit_lt ha hz)⟩) fun z hz => by
    obtain ⟨p, q, h2, h3, rfl⟩ := (sum_bit v ha h1 z).1 hz
    rw [one_test q h3, addN_comm, addN_zero g p v.each (bit_lt ha h2)]
    exact h2
  obtain ⟨h2, h3, h4⟩ := til_good v ha ha0 _ a 1 m h1 e (by rw [pop_one, Nat.mul_one]) hm
  have hs := sumN_lt v a m
  have hfull := (full_iff hs).1 h3
  exact ⟨⟨ha, h2, hfull, by rw [← h4]; exact pop_all v hs hfull⟩, til_sub _ _ _ _ hm 0 (by decide)⟩
omit v in
theorem TilB.swap {g : List Nat} {a b : Nat} (t : TilB g a b) : TilB g b a := ⟨t.lb, t.la, fun z hz => by rw [sumN_comm]; exact t.full z hz, by rw [Nat.mul_comm]; exact t.size⟩
theorem TilB.direct {a b : Nat} (t : TilB g a b) : directG (natsI g) (a : Int) (b : Int) = true := by
  unfold directG
  have hp := pop_all v (sumN_lt v a b) t.full
  rw [set_ofW v t.la, set_ofW v t.lb, toNat_natsI, Int.toNat_natCast, Int.toNat_natCast, decide_eq_true (show popN (sumN g a b) = popN a * popN b by rw [hp, t.size])]
  rfl
end
theorem IsTiling_more (G : List Int) (a b : Int) (h : G.length ≤ lim) : ∃ r, f_s_IsTiling (ints G) a b = some r ∧ f_i_IsTiling (ints G) a b = some r ∧ (r = true → ∃ g n m, G = natsI g ∧ VG g ∧ a = ((n : Nat) : Int) ∧ b = ((m : Nat) : Int) ∧ TilB g n m) := by
  simp only [f_s_IsTiling, f_s_IsTiling_k, f_i_IsTiling, f_i_IsTiling_k, s_IsDirect_eq G a b h, i_IsDirect_eq G a b h, bo_some]
  cases hd : directG G a b with
  | false => exact ⟨false, rfl, rfl, fun h => by cases h⟩
  | true =>
    obtain ⟨g, n, m, rfl, v, rfl, hn, rfl, hm⟩ := directG_sets hd
    have hs := sumN_lt v n m
    refine ⟨decide (sumN g n m = 2 ^ ordN g - 1), ?_, ?_, fun hr => ⟨g, n, m, rfl, v, rfl, rfl, hn, hm, ?_, ?_⟩⟩
    · simp only [s_l2Order_eq _ h, prodW_nat g v.len v.each, s_l4Sum_eq v hn hm, bo_some, neg_dec, sumN_comm g m n, full_ord v, BEq.rfl, br_true, br_false, eq_nat_decM]
    · simp only [f_i_FullSet, f_i_FullSet_k, i_IsGroup_eq _ h, i_OrderOf_eq _ h, v.isG, v.ordG, i_sum_eq v hn hm, bo_some, neg_dec, Bool.not_true, br_false, full_ord v, BEq.rfl, br_true, eq_nat_decM]
    · exact (full_iff hs).1 (of_decide_eq_true hr)
    · have hp := pop_all v hs ((full_iff hs).1 (of_decide_eq_true hr))
      unfold directG at hd
      simp only [Bool.and_eq_true, toNat_natsI, Int.toNat_natCast, decide_eq_true_eq] at hd
      rw [← hd.2.2, hp]
theorem Tiling_yes {g : List Nat} (v : VG g) {a b : Nat} (t : TilB g a b) : f_i_IsTiling (ints (natsI g)) (a : Int) (b : Int) = some true := by
  have hs := sumN_lt v a b
  have hf := (full_iff hs).2 t.full
  simp only [f_i_IsTiling, f_i_IsTiling_k, i_IsDirect_eq _ _ _ v.lim, t.direct v, bo_some, BEq.rfl, br_true, f_i_FullSet, f_i_FullSet_k, i_IsGroup_eq _ v.lim, i_OrderOf_eq _ v.lim, v.isG, v.ordG, i_sum_eq v t.la t.lb, neg_dec, Bool.not_true, br_false, full_ord v, eq_nat_decM, decide_eq_true hf]
theorem insAll_mem {x : Nat} {l : List Nat} : x ∈ insAll l ↔ x ∈ l := (insAll_perm l).mem_iff
theorem tiles_more (G : List Int) (a : Int) (h : G.length ≤ lim) :
    (f_s_TilesOf (ints G) a = some ([], false) ∧ f_i_TilesOf (ints G) a = some ([], false) ∧ f_s_FindTile (ints G) a = some (0, false) ∧ f_i_FindTile (ints G) a = some (0, false) ∧ f_s_SplitsOf (ints G) a = some (-1) ∧ f_i_SplitsOf (ints G) a = some (-1)) ∨
    ∃ (g : List Nat) (n : Nat) (L : List Nat) (x : Int) (k : Int), G = natsI g ∧ VG g ∧ a = (n : Int) ∧ n < 2 ^ ordN g ∧ n ≠ 0 ∧ (∀ m ∈ L, m ∈ tilesN g n) ∧ L.length ≤ 200 ∧ f_s_TilesOf (ints G) a = some (ints (natsI L), true) ∧ f_i_TilesOf (ints G) a = some (ints (natsI L), true) ∧
      f_s_FindTile (ints G) a = some (x, decide (0 < L.length)) ∧ f_i_FindTile (ints G) a = some (x, decide (0 < L.length)) ∧ f_s_SplitsOf (ints G) a = some k ∧ f_i_SplitsOf (ints G) a = some k := by
  have zero : ∀ (hz : setG G a = false ∨ (setG G a = true ∧ (a == 0) = true)), f_s_TilesOf (ints G) a = some ([], false) ∧ f_i_TilesOf (ints G) a = some ([], false) ∧ f_s_FindTile (ints G) a = some (0, false) ∧ f_i_FindTile (ints G) a = some (0, false) ∧ f_s_SplitsOf (ints G) a = some (-1) ∧ f_i_SplitsOf (ints G) a = some (-1) := fun hz => by
    have t1 : f_s_TilesOf (ints G) a = some ([], false) := by
      simp only [f_s_TilesOf, f_s_TilesOf_k, s_IsSet_eq G a h, bo_some]
      rcases hz with hz | ⟨hz, h0⟩
      · rw [hz]; rfl
      · rw [hz, h0]; rfl
    have t2 : f_i_TilesOf (ints G) a = some ([], false) := by
      simp only [f_i_TilesOf, f_i_TilesOf_k, i_IsSet_eq G a h, bo_some]
      rcases hz with hz | ⟨hz, h0⟩
      · rw [hz]; rfl
      · rw [hz, h0]; rfl
    refine ⟨t1, t2, ?_, ?_, ?_, ?_⟩
    · simp only [f_s_FindTile, f_s_FindTile_k, s_IsSet_eq G a h, bo_some]
      rcases hz with hz | ⟨hz, h0⟩
      · rw [hz]; rfl
      · rw [hz, h0]; rfl
    · simp only [f_i_FindTile, f_i_FindTile_k, i_IsSet_eq G a h, bo_some]
      rcases hz with hz | ⟨hz, h0⟩
      · rw [hz]; rfl
      · rw [hz, h0]; rfl
    · simp only [f_s_SplitsOf, f_s_SplitsOf_k, t1, bo_some]; rfl
    · simp only [f_i_SplitsOf, f_i_SplitsOf_k, t2, bo_some]; rfl
  cases hs : setG G a with
  | false => exact .inl (zero (.inl hs))
  | true =>
    obtain ⟨g, n, rfl, v, rfl, hn⟩ := nat_of_set hs
    by_cases h0 : n = 0
    · exact .inl (zero (.inr ⟨hs, by rw [h0]; rfl⟩))
    · have zf : ((n : Int) == 0) = false := beq_eq_false_iff_ne.2 (by omega)
      have e1 := s_tiles_all v hn h0 (m := 200) (by decide) (by decide)
      have e2 := i_tiles_all v hn h0 (m := 200) (by decide) (by decide)
      have e3 := s_tiles_all v hn h0 (m := 1) (by decide) (by decide)
      have e4 := i_tiles_all v hn h0 (m := 1) (by decide) (by decide)
      rw [show ((200 : Nat) : Int) = 200 from rfl] at e1 e2
      rw [show ((1 : Nat) : Int) = 1 from rfl] at e3 e4
      have hlen : ((tilesN g n).take 200).length ≤ 200 := by rw [List.length_take]; omega
      have hl := s_put_loop ((tilesN g n).take 200) ((tiles_nodup v hn).sublist (List.take_sublist _ _)) (by omega)
      have hsort : f_slices_Sort (ints (natsI ((tilesN g n).take 200))) = some (ints (natsI (insAll ((tilesN g n).take 200)))) := sortSc_nat (Nat.le_trans hlen (by decide))
      have t1 : f_s_TilesOf (ints (natsI g)) (n : Int) = some (ints (natsI (insAll ((tilesN g n).take 200))), true) := by
        simp only [f_s_TilesOf, f_s_TilesOf_k, s_IsSet_eq _ _ h, hs, zf, s_l2Order_eq _ h, v.ordS, bo_some, neg_dec, full_ord v, e1, hl, bl1_one]
        rfl
      have t2 : f_i_TilesOf (ints (natsI g)) (n : Int) = some (ints (natsI (insAll ((tilesN g n).take 200))), true) := by
        simp only [f_i_TilesOf, f_i_TilesOf_k, i_IsSet_eq _ _ h, hs, zf, bo_some, e2, hsort]
        rfl
      have hx : ∃ x : Int, f_s_FindTile (ints (natsI g)) (n : Int) = some (x, decide (0 < (insAll ((tilesN g n).take 200)).length)) ∧ f_i_FindTile (ints (natsI g)) (n : Int) = some (x, decide (0 < (insAll ((tilesN g n).take 200)).length)) := by
        rw [(insAll_perm _).length_eq]
        simp only [f_s_FindTile, f_s_FindTile_k, f_i_FindTile, f_i_FindTile_k, s_IsSet_eq _ _ h, i_IsSet_eq _ _ h, hs, zf, s_l2Order_eq _ h, v.ordS, bo_some, neg_dec, full_ord v, e3, e4]
        cases tilesN g n with
        | nil => exact ⟨_, rfl, rfl⟩
        | cons y r => exact ⟨_, rfl, rfl⟩
      obtain ⟨x, x1, x2⟩ := hx
      refine .inr ⟨g, n, insAll ((tilesN g n).take 200), x, ((insAll ((tilesN g n).take 200)).length : Int), rfl, v, rfl, hn, h0, fun m hm => List.mem_of_mem_take (insAll_mem.1 hm), by rw [(insAll_perm _).length_eq]; exact hlen, t1, t2, x1, x2, ?_, ?_⟩
      · simp only [f_s_SplitsOf, f_s_SplitsOf_k, t1, bo_some, ints_length, natsI_length]; rfl
      · simp only [f_i_SplitsOf, f_i_SplitsOf_k, t2, bo_some, ints_length, natsI_length]; rfl
theorem Replace_yes {g : List Nat} (v : VG g) {a b n : Nat} (t : TilB g a b) (h1 : 1 ≤ n) (h2 : n ≤ 100) (hq : ∀ q, 2 ≤ q → q ∣ n → ¬ q ∣ ordN g) : f_i_ReplaceFactor (ints (natsI g)) (a : Int) (b : Int) (n : Int) = some true := by
  obtain ⟨t2, e⟩ := til_dilate v n a h1 t hq
  have hd : f_i_DilateSet (ints (natsI g)) (a : Int) (n : Int) = some ((dlN g n a : Nat) : Int) := by
    have hin : inB (n : Int) (-100) 100 = true := by simp [inB]; omega
    have ha' := set_i64 v t.la
    simp only [f_i_DilateSet, f_i_DilateSet_k, i_IsSet_eq _ _ v.lim, set_ofW v t.la, i_within_eq, hin, bo_some, BEq.rfl, Bool.not_true, br_true, br_false, i_members_eq ha', ints_length, natsI_length, i_dil_loop v (show -100 ≤ (n : Int) ∧ (n : Int) ≤ 100 by omega) (fun x hx => elems_lt t.la hx) (elems_len a), bl1_one]
  have h0 : decide (((dlN g n a : Nat) : Int) ≥ 0) = true := decide_eq_true (by omega)
  simp only [f_i_ReplaceFactor, f_i_ReplaceFactor_k, Tiling_yes v t, hd, bo_some, BEq.rfl, br_true, h0, i_bits_eq (set_i64 v t2.la), i_bits_eq (set_i64 v t.la), e, Tiling_yes v t2]
theorem s_IsSubgroup_any (G : List Int) (x : Int) (h : G.length ≤ lim) : ∃ b, f_s_IsSubgroup (ints G) x = some b ∧ (b = true → ∃ g a, G = natsI g ∧ VG g ∧ x = ((a : Nat) : Int) ∧ Subg g a) := by
  cases hs : setG G x with
  | false =>
    refine ⟨false, ?_, fun h => by cases h⟩
    simp only [f_s_IsSubgroup, f_s_IsSubgroup_k, s_IsSet_eq _ _ h, hs, bo_some]; rfl
  | true =>
    obtain ⟨g, a, rfl, v, rfl, ha⟩ := nat_of_set hs
    obtain ⟨b, e1, h1⟩ := s_IsSubgroup_eq v ha hs
    exact ⟨b, e1, fun hb => ⟨g, a, rfl, v, rfl, h1.1 hb⟩⟩
theorem cos_len_lim2 {g : List Nat} {h : Nat} (v : VG g) (s : Subg g h) {k : Nat} (hk : k ≤ ordN g) (y : Int) : decide ((cosN g h k).1.length + [Sc.n .i64 y].length ≤ lim) = true := by
  have h1 := (cos_ok v s k hk).len
  have h2 := v.ord
  exact decide_eq_true (by rw [List.length_singleton]; exact Nat.le_trans (show (cosN g h k).1.length + 1 ≤ 25 by omega) (by decide))
theorem s_Cosets_only {g : List Nat} {h : Nat} (v : VG g) (s : Subg g h) : f_s_CosetsOf (ints (natsI g)) (h : Int) = some (ints (natsI (cosN g h (ordN g)).1), true) := by
  have h24 := v.ord
  obtain ⟨b1, e1, q1⟩ := s_IsSubgroup_eq v s.lt (set_ofW v s.lt)
  rw [q1.2 s] at e1
  have key := loop_count (rd := f_s_CosetsOf_r0 (h : Int) (ints (natsI g))) (fun k => (ints (natsI (cosN g h k).1), (((cosN g h k).2 : Nat) : Int), (k : Int))) (ordN g) (a := ints (natsI (cosN g h (ordN g)).1)) (fun k hk => by
    have ok := cos_ok v s k (by omega)
    have hl2 := cos_len_lim2 v s (show k ≤ ordN g by omega) ((shiftN g h k : Nat) : Int)
    have hb := and_one_zero (a := (cosN g h k).2 >>> k) (Nat.lt_of_le_of_lt (Nat.shiftRight_le _ _) (set_i64 v ok.lt))
    have ht : ((cosN g h k).2 >>> k).testBit 0 = (cosN g h k).2.testBit k := by rw [Nat.testBit_shiftRight, Nat.add_zero]
    rw [ht] at hb
    simp only [f_s_CosetsOf_r0, f_s_CosetsOf_k0, s_l2Order_eq _ v.lim, prodW_nat g v.len v.each, bo_some, lt_dec hk, br_true, neg_dec, br_false, shr64_nat (set_i64 v ok.lt), hb, s_l3Shift_eq v s.lt hk, ints_length, natsI_length, hl2, or_or v ok.lt (shiftN_lt v h k), w64_nat (show k < 9223372036854775807 by omega), ints_cast_snoc, cosN_succ]
    unfold cosF
    cases (cosN g h k).2.testBit k <;> rfl) (by
    simp only [f_s_CosetsOf_r0, f_s_CosetsOf_k0, s_l2Order_eq _ v.lim, prodW_nat g v.len v.each, bo_some, lt_dec_self, br_false]) 0 (Nat.zero_le _)
  have key' : loopL (f_s_CosetsOf_r0 (h : Int) (ints (natsI g))) ([], 0, 0) = _ := key
  simp only [f_s_CosetsOf, f_s_CosetsOf_k, e1, bo_some, Bool.not_true, br_false, key', bl1_one]
theorem l20Pair_ok {x0 : List Int} {c : List Sc × Int × Int} (h : Cur x0 c) : ∃ G a b c', f_s_l20Pair_io c.1 c.2.1 c.2.2 = some (ints G, a, b, c') ∧ Cur x0 c' ∧ G.length ≤ 4 := by
  obtain ⟨G, x, c1, e1, h1, hG⟩ := l5Group_ok h
  have hGl : G.length ≤ lim := Nat.le_trans hG (by decide)
  obtain ⟨bb, s1, s3⟩ := s_IsSubgroup_any G x hGl
  -- the second road
  have road : ∀ {d : List Sc × Int × Int}, Cur x0 d → ∃ G' a b c', (bo (f_s_l3Set_io (ints G) d.1 d.2.1 d.2.2) (0, [], 0, 0) fun r20 =>
      bo (f_s_FindTile (ints G) r20.1) (0, false) fun r21 =>
      br (r21.2)
        (some (ints G, r20.1, r21.1, r20.2.1, r20.2.2.1, r20.2.2.2))
        (bo (f_s_l20Pair_io_g15 r20.2.1 r20.2.2.1 r20.2.2.2 [] (ints G) r20.1) ([], 0, 0, 0) fun g22 =>
        some (ints G, r20.1, g22.2.2.2, g22.1, g22.2.1, g22.2.2.1))) = some (ints G', a, b, c') ∧ Cur x0 c' ∧ G'.length ≤ 4 := fun {d} hd => by
    obtain ⟨a, d1, f1, g1⟩ := l3Set_ok hd G hGl
    obtain ⟨⟨y, fd⟩, t1, _⟩ := FindTile_both G a hGl
    obtain ⟨b, d2, f2, g2⟩ := l3Set_ok g1 G hGl
    simp only [f1, bo_some, t1, f_s_l20Pair_io_g15, f_s_l20Pair_io_g15_k, f2]
    cases fd with
    | true => exact ⟨G, a, y, _, rfl, ⟨g1.row, g1.low, g1.len⟩, hG⟩
    | false => exact ⟨G, a, b, _, rfl, ⟨g2.row, g2.low, g2.len⟩, hG⟩
  simp only [f_s_l20Pair_io, f_s_l20Pair_io_k, e1, bo_some, s1]
  have ff : (false == true) = false := rfl
  cases bb with
  | false =>
    simp only [ff, br_false]
    exact road h1
  | true =>
    obtain ⟨q, c2, e2, h2⟩ := l1Once_ok h1 2 (by decide)
    rw [show (true == true) = true from rfl, br_true, e2, bo_some]
    cases q with
    | false =>
      rw [br_false]
      exact road h2
    | true =>
      obtain ⟨g, hh, rfl, v, rfl, s⟩ := s3 rfl
      have h24 := v.ord
      have k1 := s_Cosets_only v s
      have ok := cos_ok v s (ordN g) (Nat.le_refl _)
      have key := loop_ex (rd := f_s_l20Pair_io_r0 (hh : Int)) (fun m s => ∃ (d : List Sc × Int × Int) (b : Nat), s = (d.1, d.2.1, d.2.2, [], ints (natsI g), ints (natsI (cosN g hh (ordN g)).1), (b : Int), (((cosN g hh (ordN g)).1.length - m : Nat) : Int)) ∧ Cur x0 d ∧ b < 2 ^ ordN g ∧ m ≤ (cosN g hh (ordN g)).1.length)
        (fun e => ∃ (d : List Sc × Int × Int) (b : Nat), e = (d.1, d.2.1, d.2.2, [], ints (natsI g), (b : Int)) ∧ Cur x0 d) (fun m st hs => by
          obtain ⟨d, b, rfl, hd, hb, hm⟩ := hs
          have hk : (cosN g hh (ordN g)).1.length - (m + 1) < (cosN g hh (ordN g)).1.length := by omega
          have hlt : decide ((((cosN g hh (ordN g)).1.length - (m + 1) : Nat) : Int) < ((cosN g hh (ordN g)).1.length : Int)) = true := decide_eq_true (by omega)
          have hc := cos_each_lt v s hk
          have hmem : (cosN g hh (ordN g)).1.getD ((cosN g hh (ordN g)).1.length - (m + 1)) 0 ∈ (cosN g hh (ordN g)).1 := by simp [List.getD, List.getElem?_eq_getElem hk]
          obtain ⟨y, hy, ey⟩ := ok.each _ hmem
          have hyb := coset_self v s hy
          rw [← ey] at hyb
          have hye := (mem_elems (set_i64 v hc)).2 hyb
          have hw : w64 ((((cosN g hh (ordN g)).1.length - (m + 1) : Nat) : Int) + 1) = (((cosN g hh (ordN g)).1.length - m : Nat) : Int) := by
            have := ok.len
            rw [w64_nat (by omega), show (cosN g hh (ordN g)).1.length - (m + 1) + 1 = (cosN g hh (ordN g)).1.length - m by omega]
          have hel := elems_len ((cosN g hh (ordN g)).1.getD ((cosN g hh (ordN g)).1.length - (m + 1)) 0)
          have hpos : 0 < (elems ((cosN g hh (ordN g)).1.getD ((cosN g hh (ordN g)).1.length - (m + 1)) 0)).length := List.length_pos_of_mem hye
          obtain ⟨r, d1, f1, g1, r0, r1, _⟩ := l1Below_ok hd ((elems ((cosN g hh (ordN g)).1.getD ((cosN g hh (ordN g)).1.length - (m + 1)) 0)).length : Int) (by omega)
          obtain ⟨i, rfl⟩ : ∃ i : Nat, r = i := ⟨r.toNat, by omega⟩
          have hi : i < (elems ((cosN g hh (ordN g)).1.getD ((cosN g hh (ordN g)).1.length - (m + 1)) 0)).length := by have := r1 (by omega); omega
          have hil := elems_at hc hi
          refine ⟨(d1.1, d1.2.1, d1.2.2, [], ints (natsI g), ints (natsI (cosN g hh (ordN g)).1), ((b ||| 2 ^ (elems ((cosN g hh (ordN g)).1.getD ((cosN g hh (ordN g)).1.length - (m + 1)) 0)).getD i 0 : Nat) : Int), (((cosN g hh (ordN g)).1.length - m : Nat) : Int)), ?_, d1, _, rfl, g1, or_lt hb (two_pow_lt hil), by omega⟩
          simp only [f_s_l20Pair_io_r0, f_s_l20Pair_io_k0, ints_length, natsI_length, hlt, br_true, in_nat hk, Int.toNat_natCast, kAt_ints, atN_natsI, s_l3List_eq (set_i64 v hc), bo_some, f1, in_nat hi, neg_dec, br_false, or_pow v hb hil, hw])
        (fun st hs => by
          obtain ⟨d, b, rfl, hd, hb, hm⟩ := hs
          have hlt : decide ((((cosN g hh (ordN g)).1.length - 0 : Nat) : Int) < ((cosN g hh (ordN g)).1.length : Int)) = false := decide_eq_false (by omega)
          simp only [f_s_l20Pair_io_r0, f_s_l20Pair_io_k0, ints_length, natsI_length, hlt, br_false]
          exact ⟨_, rfl, d, b, rfl, hd⟩) (cosN g hh (ordN g)).1.length (c2.1, c2.2.1, c2.2.2, [], ints (natsI g), ints (natsI (cosN g hh (ordN g)).1), ((0 : Nat) : Int), (((cosN g hh (ordN g)).1.length - (cosN g hh (ordN g)).1.length : Nat) : Int)) ⟨c2, 0, rfl, h2, Nat.two_pow_pos _, Nat.le_refl _⟩
      obtain ⟨e, ek, d, b, rfl, hd⟩ := key
      have ek' : loopL (f_s_l20Pair_io_r0 (hh : Int)) (c2.1, c2.2.1, c2.2.2, [], ints (natsI g), ints (natsI (cosN g hh (ordN g)).1), 0, 0) = some (.one (d.1, d.2.1, d.2.2, [], ints (natsI g), (b : Int))) := by rw [← ek, Nat.sub_self]; rfl
      rw [br_true, k1, bo_some, ek', bl1_one]
      exact ⟨natsI g, _, _, d, rfl, hd, hG⟩
end Go.Proofs.Ytgbjlmhokkhiaaa
