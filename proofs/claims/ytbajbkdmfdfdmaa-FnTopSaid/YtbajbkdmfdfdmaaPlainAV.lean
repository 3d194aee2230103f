/-
  PlainAV: subgroups, their cosets, what they fill.
-/
import Derived.Test.YtbajbkdmfdfdmaaPlainP
import Derived.Test.YtbajbkdmfdfdmaaPlainV
import Derived.Test.YtbajbkdmfdfdmaaPlainO
set_option linter.unusedVariables false
set_option linter.unusedSimpArgs false
namespace Go.Proofs.Ytbajbkdmfdfdmaa
open Go Ev

theorem andNot_nat {a b : Nat} (ha : a < 4611686018427387904) (hb : b < 4611686018427387904) : ∃ n : Nat, andNot64 (a : Int) (b : Int) = (n : Int) ∧ n ≤ a ∧ ∀ i, n.testBit i = (a.testBit i && !b.testBit i) := by
  refine ⟨(BitVec.ofInt 64 (a : Int) &&& ~~~ BitVec.ofInt 64 (b : Int)).toNat, ?_, ?_, fun i => ?_⟩
  · show IntKind.i64.wrap ((BitVec.ofInt 64 (a : Int) &&& ~~~ BitVec.ofInt 64 (b : Int)).toNat : Int) = _
    refine wrap_cast ?_
    rw [BitVec.toNat_and, ofInt_cast (by omega)]
    exact Nat.lt_of_le_of_lt Nat.and_le_left (by omega)
  · rw [BitVec.toNat_and, ofInt_cast (by omega)]
    exact Nat.and_le_left
  · rw [BitVec.testBit_toNat, BitVec.getLsbD_and, BitVec.getLsbD_not, ← BitVec.testBit_toNat, ← BitVec.testBit_toNat, ofInt_cast (by omega), ofInt_cast (by omega)]
    by_cases hi : i < 64
    · simp [hi]
    · have : a.testBit i = false := Nat.testBit_lt_two_pow (Nat.lt_of_lt_of_le ha (Nat.le_trans (show 4611686018427387904 ≤ 2 ^ 64 by decide) (Nat.pow_le_pow_right (by decide) (by omega))))
      rw [this]
      simp
/-! ### Parts of sets -/
def sbN (a b : Nat) : Prop := ∀ z, a.testBit z = true → b.testBit z = true
theorem sbN_eq {a b : Nat} (h1 : sbN a b) (h2 : sbN b a) : a = b := by
  apply Nat.eq_of_testBit_eq
  intro z
  rw [Bool.eq_iff_iff]
  exact ⟨h1 z, h2 z⟩
theorem sbN_and {a b : Nat} : sbN a b ↔ a &&& b = a := by
  constructor
  · intro h
    apply Nat.eq_of_testBit_eq
    intro z
    rw [Nat.testBit_and]
    cases ha : a.testBit z with
    | false => rfl
    | true => rw [h z ha]; rfl
  · intro h z hz
    rw [← h, Nat.testBit_and] at hz
    exact (Bool.and_eq_true _ _ ▸ hz).2
theorem bit_lt {a n z : Nat} (h : a < 2 ^ n) (hz : a.testBit z = true) : z < n := by
  rcases Nat.lt_or_ge z n with h1 | h1
  · exact h1
  · rw [Nat.testBit_lt_two_pow (Nat.lt_of_lt_of_le h (Nat.pow_le_pow_right (by decide) h1))] at hz
    cases hz
theorem sum_bit {g : List Nat} (v : VG g) {a b : Nat} (ha : a < 2 ^ ordN g) (hb : b < 2 ^ ordN g) (z : Nat) : (sumN g a b).testBit z = true ↔ ∃ x y, a.testBit x = true ∧ b.testBit y = true ∧ addN g x y = z := by
  rw [sumN_test]
  constructor
  · rintro ⟨x, hx, y, hy, h⟩
    exact ⟨x, y, (mem_elems (set_i64 v ha)).1 hx, (mem_elems (set_i64 v hb)).1 hy, h⟩
  · rintro ⟨x, y, hx, hy, h⟩
    exact ⟨x, (mem_elems (set_i64 v ha)).2 hx, y, (mem_elems (set_i64 v hb)).2 hy, h⟩
theorem shift_bit {g : List Nat} (v : VG g) {a : Nat} (ha : a < 2 ^ ordN g) (x z : Nat) : (shiftN g a x).testBit z = true ↔ ∃ y, a.testBit y = true ∧ addN g x y = z := by
  rw [shiftN_test, List.any_eq_true]
  constructor
  · rintro ⟨y, hy, h⟩
    exact ⟨y, (mem_elems (set_i64 v ha)).1 hy, of_decide_eq_true h⟩
  · rintro ⟨y, hy, h⟩
    exact ⟨y, (mem_elems (set_i64 v ha)).2 hy, decide_eq_true h⟩
/-! ### Subgroups -/
structure Subg (g : List Nat) (h : Nat) : Prop where
  lt : h < 2 ^ ordN g
  zero : h.testBit 0 = true
  add : ∀ x y, h.testBit x = true → h.testBit y = true → h.testBit (addN g x y) = true
theorem neg_of_zero {g : List Nat} (v : VG g) {x w : Nat} (hw : w < ordN g) (h : addN g x w = 0) : w = negN g x := by
  have h1 : addN g (addN g x w) (negN g x) = w := by
    rw [addN_comm g x w, addN_assoc g v.each, addN_neg g v.each, addN_comm, addN_zero g w v.each hw]
  rw [h, addN_zero g _ v.each (negN_lt v.each x)] at h1
  exact h1.symm
theorem Subg.neg {g : List Nat} {h : Nat} (v : VG g) (s : Subg g h) {x : Nat} (hx : h.testBit x = true) : h.testBit (negN g x) = true := by
  have hxl := bit_lt s.lt hx
  have hit : ∀ k, h.testBit (iterN g x (k + 1)) = true := by
    intro k
    induction k with
    | zero =>
      rw [show iterN g x (0 + 1) = addN g 0 x from rfl, addN_zero g x v.each hxl]
      exact hx
    | succ k ih => exact s.add _ _ ih hx
  have o1 := ordN_pos v.each
  by_cases h1 : ordN g = 1
  · have hx0 : negN g x = 0 := by have := negN_lt v.each x; omega
    rw [hx0]
    exact s.zero
  · have e := iterN_ord v x
    have e2 : addN g (iterN g x (ordN g - 2 + 1)) x = 0 := by
      have : iterN g x (ordN g - 2 + 1 + 1) = 0 := by rw [show ordN g - 2 + 1 + 1 = ordN g by omega]; exact e
      exact this
    rw [addN_comm] at e2
    have := neg_of_zero v (iterN_lt v x (ordN g - 2 + 1)) e2
    rw [← this]
    exact hit _
/-! ### What a set generates -/
def nxS (g : List Nat) (a o : Nat) : Nat := o ||| sumN g a o
def nxI (g : List Nat) (a o : Nat) : Nat := (o ||| sumN g o a) ||| sumN g o (orAll (fun y => 2 ^ negN g y) (elems a))
def oppV (g : List Nat) (b : Nat) : Nat := orAll (fun y => 2 ^ negN g y) (elems b)
theorem oppV_lt {g : List Nat} (v : VG g) (b : Nat) : oppV g b < 2 ^ ordN g := orFold_lt (Nat.two_pow_pos _) fun y _ => two_pow_lt (negN_lt v.each y)
theorem opp_bit {g : List Nat} (v : VG g) {b : Nat} (hb : b < 2 ^ ordN g) (z : Nat) : (oppV g b).testBit z = true ↔ ∃ y, b.testBit y = true ∧ negN g y = z := by
  unfold oppV
  rw [orAll_test, List.any_eq_true]
  simp only [pow_test]
  constructor
  · rintro ⟨y, hy, h⟩
    exact ⟨y, (mem_elems (set_i64 v hb)).1 hy, of_decide_eq_true h⟩
  · rintro ⟨y, hy, h⟩
    exact ⟨y, (mem_elems (set_i64 v hb)).2 hy, decide_eq_true h⟩
theorem or_grow {o t : Nat} (h : ¬ (o ||| t) = o) : o < o ||| t := by
  have : o ≤ o ||| t := Nat.left_le_or
  omega
theorem one_test (z : Nat) : (1 : Nat).testBit z = true → z = 0 := by
  intro h
  cases z with
  | zero => rfl
  | succ z => rw [Nat.testBit_succ] at h; simp at h
theorem s_close_loop {g : List Nat} (v : VG g) {a : Nat} (ha : a < 2 ^ ordN g) : ∀ (d o : Nat), o < 2 ^ ordN g → 2 ^ ordN g ≤ d + o → ∃ c : Nat, loopL (f_s_l5Closure_r0 (a : Int) (ints (natsI g))) ((o : Int), ((nxS g a o : Nat) : Int)) = some (.one (c : Int)) ∧ c < 2 ^ ordN g ∧ sbN o c ∧ nxS g a c = c ∧
    ∀ S, sbN o S → (∀ x y, S.testBit x = true → a.testBit y = true → S.testBit (addN g x y) = true) → sbN c S
  | 0, o, h1, h2 => by omega
  | d + 1, o, h1, h2 => by
    have hn : nxS g a o < 2 ^ ordN g := or_lt h1 (sumN_lt v a o)
    by_cases he : nxS g a o = o
    · refine ⟨o, loopL_one ?_, h1, fun z h => h, he, fun S hS _ => hS⟩
      have e : (((nxS g a o : Nat) : Int) != (o : Int)) = false := by rw [he]; exact bne_self_eq_false _
      simp only [f_s_l5Closure_r0, f_s_l5Closure_k0, e, br_false]
    · have hgrow := or_grow (t := sumN g a o) he
      have e : (((nxS g a o : Nat) : Int) != (o : Int)) = true := bne_iff_ne.2 (by omega)
      obtain ⟨c, hc, q1, q2, q3, q4⟩ := s_close_loop v ha d (nxS g a o) hn (by unfold nxS at *; omega)
      have hsub : sbN o (nxS g a o) := fun z h => by unfold nxS; rw [Nat.testBit_or, h]; rfl
      refine ⟨c, ?_, q1, fun z h => q2 z (hsub z h), q3, fun S hS hadd => q4 S (fun z h => ?_) hadd⟩
      · rw [loopL_again (s' := (((nxS g a o : Nat) : Int), ((nxS g a (nxS g a o) : Nat) : Int))) (by
          simp only [f_s_l5Closure_r0, f_s_l5Closure_k0, e, br_true, s_l4Sum_eq v hn ha, bo_some, or_or v hn (sumN_lt v a (nxS g a o))]
          rfl)]
        exact hc
      · unfold nxS at h
        rw [Nat.testBit_or, Bool.or_eq_true] at h
        rcases h with h | h
        · exact hS z h
        · obtain ⟨x, y, hx, hy, rfl⟩ := (sum_bit v ha h1 z).1 h
          rw [addN_comm]
          exact hadd y x (hS y hy) hx
theorem one_lt2 {g : List Nat} (v : VG g) : 1 < 2 ^ ordN g := by
  have := Nat.pow_le_pow_right (n := 2) (by decide) (ordN_pos v.each)
  omega
theorem s_close {g : List Nat} (v : VG g) {a : Nat} (ha : a < 2 ^ ordN g) : ∃ c : Nat, f_s_l5Closure (ints (natsI g)) (a : Int) = some (c : Int) ∧ c < 2 ^ ordN g ∧ (c = a ↔ Subg g a) := by
  have h1 := one_lt2 v
  obtain ⟨c, hc, q1, q2, q3, q4⟩ := s_close_loop v ha (2 ^ ordN g) 1 h1 (by omega)
  have e1 := s_l4Sum_eq v h1 ha
  have e1' : f_s_l4Sum (ints (natsI g)) 1 (a : Int) = some ((sumN g a 1 : Nat) : Int) := e1
  have e2 := or_or v h1 (sumN_lt v a 1)
  have e2' : or64 1 ((sumN g a 1 : Nat) : Int) = ((nxS g a 1 : Nat) : Int) := e2
  have hc' : loopL (f_s_l5Closure_r0 (a : Int) (ints (natsI g))) (1, ((nxS g a 1 : Nat) : Int)) = some (.one (c : Int)) := hc
  have c0 : c.testBit 0 = true := q2 0 (by decide)
  have hcl : ∀ x y, c.testBit x = true → a.testBit y = true → c.testBit (addN g x y) = true := fun x y hx hy => by
    rw [← q3]
    unfold nxS
    rw [Nat.testBit_or, (sum_bit v ha q1 _).2 ⟨y, x, hy, hx, addN_comm g y x⟩, Bool.or_true]
  refine ⟨c, by simp only [f_s_l5Closure, f_s_l5Closure_k, e1', bo_some, e2', hc', bl1_one], q1, fun e => ?_, fun s => ?_⟩
  · subst e
    exact ⟨q1, c0, hcl⟩
  · refine sbN_eq (q4 a (fun z h => by rw [one_test z h]; exact s.zero) s.add) fun y hy => ?_
    have := hcl 0 y c0 hy
    rwa [addN_zero g y v.each (bit_lt ha hy)] at this
theorem s_IsSubgroup_eq {g : List Nat} (v : VG g) {a : Nat} (ha : a < 2 ^ ordN g) (hs : setG (natsI g) (a : Int) = true) : ∃ b, f_s_IsSubgroup (ints (natsI g)) (a : Int) = some b ∧ (b = true ↔ Subg g a) := by
  obtain ⟨c, hc, q, hi⟩ := s_close v ha
  refine ⟨((c : Int) == (a : Int)), ?_, ?_⟩
  · simp only [f_s_IsSubgroup, f_s_IsSubgroup_k, s_IsSet_eq _ _ v.lim, hs, bo_some, BEq.rfl, br_true, hc]
  · rw [← hi, beq_iff_eq]
    omega
theorem i_oppV_eq {g : List Nat} (v : VG g) {b : Nat} (hb : b < 2 ^ ordN g) : f_i_Group_opposite (ints (natsI g)) (b : Int) = some ((oppV g b : Nat) : Int) := by
  have h24 := v.ord
  have hbl := elems_len b
  have key := loop_foldN (rd := f_i_Group_opposite_r0 (ints (natsI g)) ((elems b).length : Int)) (elems b) (fun (t : Nat) i => ((t : Int), ints (natsI (elems b)), i)) (fun o y => o ||| 2 ^ negN g y) (fun t => (t : Int)) (fun t => t < 2 ^ ordN g) 0 (Nat.two_pow_pos _) (fun k t hk ht => by
    have hy := elems_at hb hk
    simp only [f_i_Group_opposite_r0, f_i_Group_opposite_k0, ints_length, natsI_length, lt_dec hk, in_nat hk, Int.toNat_natCast, kAt_ints, atN_natsI, br_true, i_negate_eq v (show (elems b).getD k 0 < 4611686018427387904 by omega), bo_some, neg_dec, br_false, or_pow v ht (negN_lt v.each ((elems b).getD k 0)), w64_nat (show k < 9223372036854775807 by omega)])
    (fun k t hk ht => or_lt ht (two_pow_lt (negN_lt v.each _)))
    (fun t ht => by simp only [f_i_Group_opposite_r0, f_i_Group_opposite_k0, lt_dec_self, br_false])
  have key1 : loopL (f_i_Group_opposite_r0 (ints (natsI g)) ((elems b).length : Int)) (0, ints (natsI (elems b)), 0) = some (.one ((oppV g b : Nat) : Int)) := key.1
  simp only [f_i_Group_opposite, f_i_Group_opposite_k, i_members_eq (set_i64 v hb), bo_some, ints_length, natsI_length, key1, bl1_one]
theorem i_gen_loop {g : List Nat} (v : VG g) {a : Nat} (ha : a < 2 ^ ordN g) : ∀ (d o : Nat), o < 2 ^ ordN g → 2 ^ ordN g ≤ d + o → ∃ c : Nat, loopL (f_i_Group_generated_r0 (a : Int) (ints (natsI g))) (o : Int) = some (.one (c : Int)) ∧ c < 2 ^ ordN g ∧ sbN o c ∧ nxI g a c = c ∧
    ∀ S, sbN o S → (∀ x y, S.testBit x = true → a.testBit y = true → S.testBit (addN g x y) = true) → (∀ x y, S.testBit x = true → a.testBit y = true → S.testBit (addN g x (negN g y)) = true) → sbN c S
  | 0, o, h1, h2 => by omega
  | d + 1, o, h1, h2 => by
    have ho := oppV_lt v a
    have s1 := sumN_lt v o a
    have s2 := sumN_lt v o (oppV g a)
    have hm : o ||| sumN g o a < 2 ^ ordN g := or_lt h1 s1
    have hn : nxI g a o < 2 ^ ordN g := or_lt hm s2
    have er : or64 (or64 (o : Int) ((sumN g o a : Nat) : Int)) ((sumN g o (oppV g a) : Nat) : Int) = ((nxI g a o : Nat) : Int) := by
      rw [or_or v h1 s1, or_or v hm s2]
      rfl
    by_cases he : nxI g a o = o
    · refine ⟨o, loopL_one ?_, h1, fun z h => h, he, fun S hS _ _ => hS⟩
      have e : (((nxI g a o : Nat) : Int) == (o : Int)) = true := by rw [he]; exact beq_self_eq_true _
      simp only [f_i_Group_generated_r0, f_i_Group_generated_k0, i_sum_eq v h1 ha, i_oppV_eq v ha, i_sum_eq v h1 ho, bo_some, er, e, br_true]
    · have hle : o ≤ nxI g a o := Nat.le_trans Nat.left_le_or Nat.left_le_or
      have e : (((nxI g a o : Nat) : Int) == (o : Int)) = false := beq_eq_false_iff_ne.2 (by omega)
      obtain ⟨c, hc, q1, q2, q3, q4⟩ := i_gen_loop v ha d (nxI g a o) hn (by omega)
      have hsub : sbN o (nxI g a o) := fun z h => by unfold nxI; rw [Nat.testBit_or, Nat.testBit_or, h]; rfl
      refine ⟨c, ?_, q1, fun z h => q2 z (hsub z h), q3, fun S hS hadd hneg => q4 S (fun z h => ?_) hadd hneg⟩
      · rw [loopL_again (s' := ((nxI g a o : Nat) : Int)) (by
          simp only [f_i_Group_generated_r0, f_i_Group_generated_k0, i_sum_eq v h1 ha, i_oppV_eq v ha, i_sum_eq v h1 ho, bo_some, er, e, br_false])]
        exact hc
      · unfold nxI at h
        rw [Nat.testBit_or, Nat.testBit_or, Bool.or_eq_true, Bool.or_eq_true] at h
        rcases h with (h | h) | h
        · exact hS z h
        · obtain ⟨x, y, hx, hy, rfl⟩ := (sum_bit v h1 ha z).1 h
          exact hadd x y (hS x hx) hy
        · obtain ⟨x, y, hx, hy, rfl⟩ := (sum_bit v h1 ho z).1 h
          obtain ⟨w, hw, rfl⟩ := (opp_bit v ha y).1 hy
          exact hneg x w (hS x hx) hw
theorem i_gen {g : List Nat} (v : VG g) {a : Nat} (ha : a < 2 ^ ordN g) : ∃ c : Nat, f_i_Group_generated (ints (natsI g)) (a : Int) = some (c : Int) ∧ c < 2 ^ ordN g ∧ (c = a ↔ Subg g a) := by
  have h1 := one_lt2 v
  obtain ⟨c, hc, q1, q2, q3, q4⟩ := i_gen_loop v ha (2 ^ ordN g) 1 h1 (by omega)
  have hc' : loopL (f_i_Group_generated_r0 (a : Int) (ints (natsI g))) 1 = some (.one (c : Int)) := hc
  have c0 : c.testBit 0 = true := q2 0 (by decide)
  have hcl : ∀ x y, c.testBit x = true → a.testBit y = true → c.testBit (addN g x y) = true := fun x y hx hy => by
    rw [← q3]
    unfold nxI
    rw [Nat.testBit_or, Nat.testBit_or, (sum_bit v q1 ha _).2 ⟨x, y, hx, hy, rfl⟩, Bool.or_true, Bool.true_or]
  refine ⟨c, by simp only [f_i_Group_generated, f_i_Group_generated_k, hc', bl1_one], q1, fun e => ?_, fun s => ?_⟩
  · subst e
    exact ⟨q1, c0, hcl⟩
  · refine sbN_eq (q4 a (fun z h => by rw [one_test z h]; exact s.zero) s.add (fun x y hx hy => s.add _ _ hx (s.neg v hy))) fun y hy => ?_
    have := hcl 0 y c0 hy
    rwa [addN_zero g y v.each (bit_lt ha hy)] at this
theorem i_IsSubgroup_eq {g : List Nat} (v : VG g) {a : Nat} (ha : a < 2 ^ ordN g) (hs : setG (natsI g) (a : Int) = true) : ∃ b, f_i_IsSubgroup (ints (natsI g)) (a : Int) = some b ∧ (b = true ↔ Subg g a) := by
  obtain ⟨c, hc, q, hi⟩ := i_gen v ha
  refine ⟨((c : Int) == (a : Int)), ?_, ?_⟩
  · simp only [f_i_IsSubgroup, f_i_IsSubgroup_k, i_IsSet_eq _ _ v.lim, hs, bo_some, BEq.rfl, br_true, hc]
  · rw [← hi, beq_iff_eq]
    omega
theorem IsSubgroup_both (G : List Int) (x : Int) (h : G.length ≤ lim) : ∃ b, f_s_IsSubgroup (ints G) x = some b ∧ f_i_IsSubgroup (ints G) x = some b ∧ (b = true → ∃ g a, G = natsI g ∧ VG g ∧ x = ((a : Nat) : Int) ∧ Subg g a) := by
  cases hs : setG G x with
  | false =>
    refine ⟨false, ?_, ?_, fun h => by cases h⟩
    · simp only [f_s_IsSubgroup, f_s_IsSubgroup_k, s_IsSet_eq _ _ h, hs, bo_some]; rfl
    · simp only [f_i_IsSubgroup, f_i_IsSubgroup_k, i_IsSet_eq _ _ h, hs, bo_some]; rfl
  | true =>
    obtain ⟨g, a, rfl, v, rfl, ha⟩ := nat_of_set hs
    obtain ⟨b, e1, h1⟩ := s_IsSubgroup_eq v ha hs
    obtain ⟨b', e2, h2⟩ := i_IsSubgroup_eq v ha hs
    have : b = b' := by rw [Bool.eq_iff_iff, h1, h2]
    subst this
    exact ⟨b, e1, e2, fun hb => ⟨g, a, rfl, v, rfl, h1.1 hb⟩⟩
/-! ### Cosets -/
theorem coset_self {g : List Nat} {h : Nat} (v : VG g) (s : Subg g h) {x : Nat} (hx : x < ordN g) : (shiftN g h x).testBit x = true := by
  rw [shift_bit v s.lt]
  exact ⟨0, s.zero, by rw [addN_comm]; exact addN_zero g x v.each hx⟩
theorem addN_undo {g : List Nat} (v : VG g) {x y : Nat} (hx : x < ordN g) : addN g (addN g x y) (negN g y) = x := by
  rw [addN_assoc g v.each, addN_neg g v.each, addN_comm, addN_zero g x v.each hx]
theorem coset_eq {g : List Nat} {h : Nat} (v : VG g) (s : Subg g h) {x z : Nat} (hx : x < ordN g) (hz : (shiftN g h x).testBit z = true) : shiftN g h z = shiftN g h x := by
  obtain ⟨y0, hy0, rfl⟩ := (shift_bit v s.lt x z).1 hz
  refine sbN_eq (fun w hw => ?_) fun w hw => ?_
  · obtain ⟨y, hy, rfl⟩ := (shift_bit v s.lt _ w).1 hw
    exact (shift_bit v s.lt x _).2 ⟨addN g y0 y, s.add _ _ hy0 hy, (addN_assoc g v.each x y0 y).symm⟩
  · obtain ⟨y, hy, rfl⟩ := (shift_bit v s.lt _ w).1 hw
    refine (shift_bit v s.lt _ _).2 ⟨addN g (negN g y0) y, s.add _ _ (s.neg v hy0) hy, ?_⟩
    rw [← addN_assoc g v.each, addN_undo v hx]
def cosF (g : List Nat) (h : Nat) (t : List Nat × Nat) (x : Nat) : List Nat × Nat := if t.2.testBit x then t else (t.1 ++ [shiftN g h x], t.2 ||| shiftN g h x)
def cosN (g : List Nat) (h k : Nat) : List Nat × Nat := (List.range k).foldl (cosF g h) ([], 0)
theorem cosN_succ (g : List Nat) (h k : Nat) : cosN g h (k + 1) = cosF g h (cosN g h k) k := by
  unfold cosN
  rw [List.range_succ, List.foldl_append]
  rfl
/-- Bits of two sets without a common one. -/
theorem pcn_or : ∀ (n a b : Nat), (∀ z, ¬ (a.testBit z = true ∧ b.testBit z = true)) → pcn n (a ||| b) = pcn n a + pcn n b
  | 0, _, _, _ => rfl
  | n + 1, a, b, h => by
    have ih := pcn_or n (a / 2) (b / 2) (fun z hz => h (z + 1) (by rw [Nat.testBit_succ, Nat.testBit_succ]; exact hz))
    have e1 : (a ||| b) / 2 = (a / 2) ||| (b / 2) := by
      apply Nat.eq_of_testBit_eq
      intro z
      rw [Nat.testBit_or, ← Nat.testBit_succ, ← Nat.testBit_succ, ← Nat.testBit_succ, Nat.testBit_or]
    have e2 : (a ||| b) % 2 = a % 2 + b % 2 := by
      have h0 := h 0
      have t1 : (a ||| b).testBit 0 = (a.testBit 0 || b.testBit 0) := Nat.testBit_or _ _ _
      simp only [Nat.testBit_zero] at h0 t1
      rcases Nat.mod_two_eq_zero_or_one a with ha | ha <;> rcases Nat.mod_two_eq_zero_or_one b with hb | hb <;> rcases Nat.mod_two_eq_zero_or_one (a ||| b) with hc | hc <;> simp [ha, hb, hc] at h0 t1 ⊢
    show (a ||| b) % 2 + pcn n ((a ||| b) / 2) = (a % 2 + pcn n (a / 2)) + (b % 2 + pcn n (b / 2))
    rw [e1, e2, ih]
    omega
structure CosOk (g : List Nat) (h k : Nat) : Prop where
  lt : (cosN g h k).2 < 2 ^ ordN g
  len : (cosN g h k).1.length ≤ k
  each : ∀ c ∈ (cosN g h k).1, ∃ x, x < ordN g ∧ c = shiftN g h x
  all : ∀ z, (cosN g h k).2.testBit z = true ↔ ∃ c ∈ (cosN g h k).1, c.testBit z = true
  seen : ∀ x, x < k → (cosN g h k).2.testBit x = true
  pop : ∀ a, ((cosN g h k).1.map fun c => popN (c &&& a)).sum = popN ((cosN g h k).2 &&& a)
theorem cos_ok {g : List Nat} {h : Nat} (v : VG g) (s : Subg g h) : ∀ k, k ≤ ordN g → CosOk g h k
  | 0, _ => by
    refine ⟨Nat.two_pow_pos _, Nat.le_refl _, fun c hc => by simp [cosN] at hc, fun z => by simp [cosN], fun x hx => by omega, fun a => ?_⟩
    have e : (cosN g h 0).2 = 0 := rfl
    have e2 : (cosN g h 0).1 = [] := rfl
    rw [e, e2, Nat.zero_and]
    exact (pcn_zero 63).symm
  | k + 1, hk => by
    have ih := cos_ok v s k (by omega)
    have hkl : k < ordN g := by omega
    cases hb : (cosN g h k).2.testBit k with
    | true =>
      have e : cosN g h (k + 1) = cosN g h k := by rw [cosN_succ]; unfold cosF; rw [hb]; rfl
      refine ⟨by rw [e]; exact ih.lt, by rw [e]; have := ih.len; omega, by rw [e]; exact ih.each, by rw [e]; exact ih.all, fun x hx => ?_, by rw [e]; exact ih.pop⟩
      rw [e]
      rcases Nat.lt_or_ge x k with h1 | h1
      · exact ih.seen x h1
      · rw [show x = k by omega]; exact hb
    | false =>
      have e : cosN g h (k + 1) = ((cosN g h k).1 ++ [shiftN g h k], (cosN g h k).2 ||| shiftN g h k) := by rw [cosN_succ]; unfold cosF; rw [hb]; rfl
      have hdis : ∀ z, ¬ ((cosN g h k).2.testBit z = true ∧ (shiftN g h k).testBit z = true) := by
        rintro z ⟨h1, h2⟩
        obtain ⟨c, hc, hz⟩ := (ih.all z).1 h1
        obtain ⟨x, hx, rfl⟩ := ih.each c hc
        have e1 := coset_eq v s hkl h2
        have e2 := coset_eq v s hx hz
        have : (shiftN g h x).testBit k = true := by rw [← e2, e1]; exact coset_self v s hkl
        rw [(ih.all k).2 ⟨_, hc, this⟩] at hb
        cases hb
      refine ⟨?_, ?_, fun c hc => ?_, fun z => ?_, fun x hx => ?_, fun a => ?_⟩
      · rw [e]; exact or_lt ih.lt (shiftN_lt v h k)
      · rw [e, List.length_append, List.length_singleton]; have := ih.len; omega
      · rw [e] at hc
        rcases List.mem_append.1 hc with hc | hc
        · exact ih.each c hc
        · exact ⟨k, hkl, List.mem_singleton.1 hc⟩
      · rw [e]
        show ((cosN g h k).2 ||| shiftN g h k).testBit z = true ↔ ∃ c ∈ (cosN g h k).1 ++ [shiftN g h k], c.testBit z = true
        rw [Nat.testBit_or, Bool.or_eq_true, ih.all z]
        constructor
        · rintro (⟨c, hc, hz⟩ | hz)
          · exact ⟨c, List.mem_append.2 (.inl hc), hz⟩
          · exact ⟨_, List.mem_append.2 (.inr (List.mem_singleton.2 rfl)), hz⟩
        · rintro ⟨c, hc, hz⟩
          rcases List.mem_append.1 hc with hc | hc
          · exact .inl ⟨c, hc, hz⟩
          · rw [List.mem_singleton.1 hc] at hz; exact .inr hz
      · rw [e]
        show ((cosN g h k).2 ||| shiftN g h k).testBit x = true
        rw [Nat.testBit_or]
        rcases Nat.lt_or_ge x k with h1 | h1
        · rw [ih.seen x h1]; rfl
        · rw [show x = k by omega, coset_self v s hkl, Bool.or_true]
      · rw [e]
        show (((cosN g h k).1 ++ [shiftN g h k]).map fun c => popN (c &&& a)).sum = popN (((cosN g h k).2 ||| shiftN g h k) &&& a)
        rw [List.map_append, List.sum_append, ih.pop a, Nat.and_or_distrib_right]
        unfold popN
        rw [pcn_or 63 _ _ (fun z hz => by
          simp only [Nat.testBit_and, Bool.and_eq_true] at hz
          exact hdis z ⟨hz.1.1, hz.2.1⟩)]
        simp
theorem cos_len_lim {g : List Nat} {h : Nat} (v : VG g) (s : Subg g h) {k : Nat} (hk : k ≤ ordN g) (y : Int) : decide ((cosN g h k).1.length + [Sc.n .i64 y].length ≤ lim) = true := by
  have h1 := (cos_ok v s k hk).len
  have h2 := v.ord
  exact decide_eq_true (by rw [List.length_singleton]; exact Nat.le_trans (show (cosN g h k).1.length + 1 ≤ 25 by omega) (by decide))
end Go.Proofs.Ytbajbkdmfdfdmaa
