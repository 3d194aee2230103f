/-
  PlainBI: how many elements sets have: unions, shifts, parts; the bound of Kneser.
-/
import Derived.Test.YtbajbkdmfdfdmaaPlainAR
import Derived.Test.YtbajbkdmfdfdmaaPlainAW
set_option linter.unusedVariables false
set_option linter.unusedSimpArgs false
namespace Go.Proofs.Ytbajbkdmfdfdmaa
open Go Ev

/-! ### Parts -/
def dfN (a b : Nat) : Nat := a ^^^ (a &&& b)
theorem df_test (a b z : Nat) : (dfN a b).testBit z = (a.testBit z && !b.testBit z) := by
  unfold dfN
  rw [Nat.testBit_xor, Nat.testBit_and]
  cases a.testBit z <;> cases b.testBit z <;> rfl
theorem pop_or_dis {a b : Nat} (h : ∀ z, a.testBit z = true → b.testBit z = true → False) : popN (a ||| b) = popN a + popN b :=
  pcn_or 63 a b fun z hz => h z hz.1 hz.2
theorem pop_split (a b : Nat) : popN a = popN (dfN a b) + popN (a &&& b) := by
  rw [← pop_or_dis (a := dfN a b) (b := a &&& b) fun z h1 h2 => by
    rw [df_test] at h1
    rw [Nat.testBit_and] at h2
    revert h1 h2
    cases a.testBit z <;> cases b.testBit z <;> simp]
  congr 1
  apply Nat.eq_of_testBit_eq
  intro z
  rw [Nat.testBit_or, df_test, Nat.testBit_and]
  cases a.testBit z <;> cases b.testBit z <;> rfl
theorem pop_union (a b : Nat) : popN (a ||| b) + popN (a &&& b) = popN a + popN b := by
  have e : a ||| b = dfN a b ||| b := by
    apply Nat.eq_of_testBit_eq
    intro z
    rw [Nat.testBit_or, Nat.testBit_or, df_test]
    cases a.testBit z <;> cases b.testBit z <;> rfl
  have h1 := pop_or_dis (a := dfN a b) (b := b) fun z h1 h2 => by
    rw [df_test, h2] at h1
    revert h1
    cases a.testBit z <;> simp
  have h2 := pop_split a b
  rw [e, h1]
  omega
theorem pop_mono {a b : Nat} (h : sbN a b) : popN a ≤ popN b := by
  have h1 := pop_split b a
  have h2 := sbN_and.1 h
  rw [Nat.and_comm b a, h2] at h1
  omega
theorem pop_df {a b : Nat} (h : sbN b a) : popN a = popN (dfN a b) + popN b := by
  have h1 := pop_split a b
  have h2 := sbN_and.1 h
  rw [Nat.and_comm a b, h2] at h1
  exact h1
theorem pop_eq_of {a b : Nat} (h : sbN a b) (hb : b < 9223372036854775808) (hle : popN b ≤ popN a) : a = b := by
  have h1 := pop_df h
  have h2 : popN (dfN b a) = 0 := by omega
  have h3 : dfN b a < 2 ^ 63 := by
    unfold dfN
    exact Nat.xor_lt_two_pow hb (Nat.lt_of_le_of_lt Nat.and_le_left hb)
  have h4 := pcn_none 63 _ h3 h2
  refine sbN_eq h fun z hz => ?_
  have h5 := df_test b a z
  rw [h4, Nat.zero_testBit, hz, Bool.true_and] at h5
  cases ha : a.testBit z with
  | true => rfl
  | false => rw [ha] at h5; cases h5
theorem pop_pow {x : Nat} (h : x < 63) : popN (2 ^ x) = 1 := by
  have hd : (List.range 63).all (fun x => Nat.beq (popN (2 ^ x)) 1) = true := by decide +kernel
  exact Nat.eq_of_beq_eq_true (List.all_eq_true.1 hd x (List.mem_range.2 h))
theorem pop_list : ∀ (l : List Nat), l.Nodup → (∀ x ∈ l, x < 63) → popN (l.foldr (fun x o => 2 ^ x ||| o) 0) = l.length ∧ ∀ z, (l.foldr (fun x o => 2 ^ x ||| o) 0).testBit z = true ↔ z ∈ l
  | [], _, _ => by
    refine ⟨pcn_zero 63, fun z => by simp⟩
  | x :: l, hn, hl => by
    obtain ⟨hx, hn⟩ := List.nodup_cons.1 hn
    obtain ⟨h1, h2⟩ := pop_list l hn fun y hy => hl y (by simp [hy])
    refine ⟨?_, fun z => ?_⟩
    · rw [List.foldr_cons, pop_or_dis fun z h3 h4 => by
        rw [pow_test, decide_eq_true_eq] at h3
        subst h3
        exact hx ((h2 _).1 h4)]
      rw [h1, pop_pow (hl x (by simp)), List.length_cons]
      omega
    · rw [List.foldr_cons, Nat.testBit_or, Bool.or_eq_true, h2, pow_test, decide_eq_true_eq, List.mem_cons]
      constructor
      · rintro (h | h)
        · exact .inl h.symm
        · exact .inr h
      · rintro (h | h)
        · exact .inl h.symm
        · exact .inr h
theorem elems_sorted (a : Nat) : (elems a).Pairwise (· < ·) := List.Pairwise.filter _ List.pairwise_lt_range
theorem pop_inj {a b : Nat} (f : Nat → Nat) (ha : a < 9223372036854775808) (hb : b < 9223372036854775808) (hf : ∀ x, a.testBit x = true → b.testBit (f x) = true) (hi : ∀ x y, a.testBit x = true → a.testBit y = true → f x = f y → x = y) : popN a ≤ popN b := by
  have hn : ((elems a).map f).Nodup := by
    unfold List.Nodup
    rw [List.pairwise_map]
    refine List.Pairwise.imp_of_mem (R := (· < ·)) (fun {x y} hx hy hlt e => ?_) (elems_sorted a)
    have := hi x y ((mem_elems ha).1 hx) ((mem_elems ha).1 hy) e
    omega
  have hm : ∀ z ∈ (elems a).map f, b.testBit z = true := fun z hz => by
    obtain ⟨x, hx, rfl⟩ := List.mem_map.1 hz
    exact hf x ((mem_elems ha).1 hx)
  obtain ⟨h1, h2⟩ := pop_list ((elems a).map f) hn fun z hz => bit_lt (show b < 2 ^ 63 from hb) (hm z hz)
  rw [List.length_map, elems_pop] at h1
  rw [← h1]
  exact pop_mono fun z hz => hm z ((h2 z).1 hz)
/-- A set given by a test. -/
def mkB : Nat → (Nat → Bool) → Nat
  | 0, _ => 0
  | n + 1, p => mkB n p ||| (if p n then 2 ^ n else 0)
theorem mkB_test (p : Nat → Bool) (z : Nat) : ∀ n, (mkB n p).testBit z = (decide (z < n) && p z)
  | 0 => by simp [mkB]
  | n + 1 => by
    unfold mkB
    rw [Nat.testBit_or, mkB_test p z n]
    by_cases h : z = n
    · subst h
      cases hp : p z with
      | true => simp [Nat.testBit_two_pow]
      | false => simp
    · have h1 : decide (z < n + 1) = decide (z < n) := by rw [decide_eq_decide]; omega
      rw [h1]
      cases hp : p n with
      | true => rw [if_pos rfl, pow_test, decide_eq_false (show ¬ n = z from fun e => h e.symm), Bool.or_false]
      | false => rw [if_neg (by decide), Nat.zero_testBit, Bool.or_false]
theorem mkB_lt (p : Nat → Bool) : ∀ n, mkB n p < 2 ^ n
  | 0 => Nat.one_pos
  | n + 1 => by
    unfold mkB
    have h1 := mkB_lt p n
    have h2 : 2 ^ n < 2 ^ (n + 1) := two_pow_lt (Nat.lt_succ_self n)
    refine Nat.or_lt_two_pow (Nat.lt_trans h1 h2) ?_
    split
    · exact h2
    · exact Nat.two_pow_pos _
/-! ### Shifts -/
section
variable {g : List Nat} (v : VG g)
include v
theorem add_cancel {x y z : Nat} (hy : y < ordN g) (hz : z < ordN g) (h : addN g x y = addN g x z) : y = z := by
  have := congrArg (fun t => addN g t (negN g x)) h
  rwa [addN_back v hy, addN_back v hz] at this
theorem add_cancel_r {x y z : Nat} (hy : y < ordN g) (hz : z < ordN g) (h : addN g y x = addN g z x) : y = z := by
  rw [addN_comm g y x, addN_comm g z x] at h
  exact add_cancel v hy hz h
theorem add_perm (x y z : Nat) : addN g (addN g x y) z = addN g (addN g x z) y := by
  rw [addN_assoc g v.each, addN_comm g y z, ← addN_assoc g v.each]
theorem pop_shift {a : Nat} (ha : a < 2 ^ ordN g) (x : Nat) : popN (shiftN g a x) = popN a := by
  have hs := shiftN_lt v a x
  refine Nat.le_antisymm (pop_inj (fun z => addN g z (negN g x)) (set_i64 v hs) (set_i64 v ha) (fun z hz => ?_) fun y z hy hz h => ?_) (pop_inj (fun y => addN g x y) (set_i64 v ha) (set_i64 v hs) (fun y hy => (shift_bit v ha x _).2 ⟨y, hy, rfl⟩) fun y z hy hz h => ?_)
  · obtain ⟨y, hy, rfl⟩ := (shift_bit v ha x z).1 hz
    show a.testBit (addN g (addN g x y) (negN g x)) = true
    rw [addN_back v (bit_lt ha hy)]
    exact hy
  · exact add_cancel_r v (bit_lt hs hy) (bit_lt hs hz) h
  · exact add_cancel v (bit_lt ha hy) (bit_lt ha hz) h
/-- The stabilizer. -/
abbrev stN (g : List Nat) (a : Nat) : Nat := stabN g a (ordN g)
theorem keeps_back {a : Nat} (ha : a < 2 ^ ordN g) {x y : Nat} (hx : x < ordN g) (hy : (stN g a).testBit y = true) (h : a.testBit (addN g x y) = true) : a.testBit x = true := by
  have s := stab_sub v ha
  have := stab_keeps v ha h (s.neg v hy)
  rwa [addN_undo v hx] at this
/-! ### The union of two sets -/
/-- Those of a set that lead from c into another, and those that do not. -/
def parT (g : List Nat) (h a c : Nat) : Nat := mkB (ordN g) fun x => h.testBit x && a.testBit (addN g c x)
def parF (g : List Nat) (h a c : Nat) : Nat := mkB (ordN g) fun x => h.testBit x && !a.testBit (addN g c x)
omit v in
theorem parT_lt (g : List Nat) (h a c : Nat) : parT g h a c < 2 ^ ordN g := mkB_lt _ _
omit v in
theorem parF_lt (g : List Nat) (h a c : Nat) : parF g h a c < 2 ^ ordN g := mkB_lt _ _
omit v in
theorem parT_test {g : List Nat} {h a c z : Nat} (hh : h < 2 ^ ordN g) : (parT g h a c).testBit z = true ↔ h.testBit z = true ∧ a.testBit (addN g c z) = true := by
  unfold parT
  rw [mkB_test, Bool.and_eq_true, Bool.and_eq_true, decide_eq_true_eq]
  exact ⟨fun h => h.2, fun h => ⟨bit_lt hh h.1, h⟩⟩
omit v in
theorem parF_test {g : List Nat} {h a c z : Nat} (hh : h < 2 ^ ordN g) : (parF g h a c).testBit z = true ↔ h.testBit z = true ∧ a.testBit (addN g c z) = false := by
  unfold parF
  rw [mkB_test, Bool.and_eq_true, Bool.and_eq_true, decide_eq_true_eq, Bool.not_eq_true']
  exact ⟨fun h => h.2, fun h => ⟨bit_lt hh h.1, h⟩⟩
omit v in
theorem par_pop {g : List Nat} {h : Nat} (hh : h < 2 ^ ordN g) (a c : Nat) : popN h = popN (parT g h a c) + popN (parF g h a c) := by
  rw [← pop_or_dis (a := parT g h a c) (b := parF g h a c) fun z p q => by
    have := ((parT_test hh).1 p).2
    rw [((parF_test hh).1 q).2] at this
    cases this]
  congr 1
  apply Nat.eq_of_testBit_eq
  intro z
  rw [Bool.eq_iff_iff, Nat.testBit_or, Bool.or_eq_true, parT_test hh, parF_test hh]
  constructor
  · intro h
    cases e : a.testBit (addN g c z) with
    | true => exact .inl ⟨h, rfl⟩
    | false => exact .inr ⟨h, rfl⟩
  · rintro (h | h) <;> exact h.1
omit v in
theorem df_lt63 {a b : Nat} (ha : a < 9223372036854775808) : dfN a b < 9223372036854775808 := by
  unfold dfN
  exact Nat.xor_lt_two_pow (n := 63) ha (Nat.lt_of_le_of_lt Nat.and_le_left ha)
theorem both_keep {c1 c2 : Nat} (h1 : c1 < 2 ^ ordN g) (h2 : c2 < 2 ^ ordN g) : popN (stN g c1 &&& stN g c2) ≤ popN (stN g (c1 ||| c2)) := by
  have hC := or_lt (g := g) h1 h2
  refine pop_mono fun x hx => ?_
  rw [Nat.testBit_and, Bool.and_eq_true] at hx
  obtain ⟨x1, x2⟩ := hx
  have y1 := (stab_bit c1 x _).1 x1
  have y2 := ((stab_bit c2 x _).1 x2).2
  refine (stab_bit _ x _).2 ⟨y1.1, ?_⟩
  apply Nat.eq_of_testBit_eq
  intro z
  rw [Bool.eq_iff_iff, shift_bit v hC]
  constructor
  · rintro ⟨y, hy, rfl⟩
    rw [Nat.testBit_or, Bool.or_eq_true] at hy ⊢
    rcases hy with hy | hy
    · left; rw [addN_comm]; exact stab_keeps v h1 hy x1
    · right; rw [addN_comm]; exact stab_keeps v h2 hy x2
  · intro hz
    rw [Nat.testBit_or, Bool.or_eq_true] at hz
    rcases hz with hz | hz
    · rw [← y1.2] at hz
      obtain ⟨y, hy, rfl⟩ := (shift_bit v h1 x z).1 hz
      exact ⟨y, by rw [Nat.testBit_or, hy]; rfl, rfl⟩
    · rw [← y2] at hz
      obtain ⟨y, hy, rfl⟩ := (shift_bit v h2 x z).1 hz
      exact ⟨y, by rw [Nat.testBit_or, hy, Bool.or_true], rfl⟩
omit v in
theorem in_df {c1 c2 z : Nat} (a : c1.testBit z = true) (b : c2.testBit z = false) : (dfN (c1 ||| c2) c2).testBit z = true := by rw [df_test, Nat.testBit_or, a, b]; rfl
omit v in
theorem in_df' {c1 c2 z : Nat} (a : c2.testBit z = true) (b : c1.testBit z = false) : (dfN (c1 ||| c2) c1).testBit z = true := by rw [df_test, Nat.testBit_or, a, b]; rfl
theorem not_from {c2 c : Nat} (h2 : c2 < 2 ^ ordN g) (hcl : c < ordN g) (hc2 : c2.testBit c = false) {h : Nat} (hh : (stN g c2).testBit h = true) : c2.testBit (addN g c h) = false := by
  cases e : c2.testBit (addN g c h) with
  | false => rfl
  | true => rw [keeps_back v h2 hcl hh e] at hc2; cases hc2
/-- Within the first, not in the second. -/
theorem uni_fst {c1 c2 c : Nat} (h1 : c1 < 2 ^ ordN g) (h2 : c2 < 2 ^ ordN g) (hc1 : c1.testBit c = true) (hc2 : c2.testBit c = false) :
    popN (parT g (stN g c2) c1 c) + popN (parF g (stN g c1) c2 c) ≤ popN (dfN (c1 ||| c2) c2) + popN (stN g c1 &&& stN g c2) := by
  have s1 := stab_sub v h1
  have s2 := stab_sub v h2
  have hcl := bit_lt h1 hc1
  have lP := parT_lt g (stN g c2) c1 c
  have lS := parF_lt g (stN g c1) c2 c
  have u1 := pop_union (parT g (stN g c2) c1 c) (parF g (stN g c1) c2 c)
  have u2 : popN (parT g (stN g c2) c1 c &&& parF g (stN g c1) c2 c) ≤ popN (stN g c1 &&& stN g c2) := pop_mono fun z hz => by
    rw [Nat.testBit_and, Bool.and_eq_true] at hz
    rw [Nat.testBit_and, ((parT_test s2.lt).1 hz.1).1, ((parF_test s1.lt).1 hz.2).1]
    rfl
  have u3 : popN (parT g (stN g c2) c1 c ||| parF g (stN g c1) c2 c) ≤ popN (dfN (c1 ||| c2) c2) := by
    have lO := or_lt lP lS
    refine pop_inj (fun h => addN g c h) (set_i64 v lO) (df_lt63 (set_i64 v (or_lt h1 h2))) (fun h hh => ?_) fun x y hx hy e => add_cancel v (bit_lt lO hx) (bit_lt lO hy) e
    rw [Nat.testBit_or, Bool.or_eq_true] at hh
    rcases hh with hh | hh
    · obtain ⟨q1, q2⟩ := (parT_test s2.lt).1 hh
      exact in_df q2 (not_from v h2 hcl hc2 q1)
    · obtain ⟨q1, q2⟩ := (parF_test s1.lt).1 hh
      exact in_df (stab_keeps v h1 hc1 q1) q2
  omega
theorem diff_one {c k1 k2 h z : Nat} (hz : z < ordN g) (hh : h < ordN g) (e : addN g (addN g c k1) h = z) : addN g z (negN g (addN g (addN g c k1) k2)) = addN g h (negN g k2) := by
  refine add_cancel_r v (x := addN g (addN g c k1) k2) (addN_lt v.each _ _) (addN_lt v.each _ _) ?_
  rw [addN_assoc g v.each z, addN_comm g (negN g _), addN_neg g v.each, addN_comm g z 0, addN_zero g z v.each hz, ← e]
  rw [addN_comm g (addN g h (negN g k2)), addN_assoc g v.each (addN g c k1) k2]
  congr 1
  rw [addN_comm, addN_assoc g v.each, addN_comm g (negN g k2), addN_neg g v.each, addN_comm, addN_zero g h v.each hh]
/-- Within the second, not in the first. -/
theorem uni_snd {c1 c2 c k1 k2 : Nat} (h1 : c1 < 2 ^ ordN g) (h2 : c2 < 2 ^ ordN g) (hk2 : (stN g c2).testBit k2 = true) (nk2 : c1.testBit (addN g c k2) = false) (hk1 : (stN g c1).testBit k1 = true) (nk1 : c2.testBit (addN g c k1) = true) :
    popN (parF g (stN g c2) c1 c) + popN (parT g (stN g c1) c2 c) ≤ popN (dfN (c1 ||| c2) c1) + popN (stN g c1 &&& stN g c2) := by
  have s1 := stab_sub v h1
  have s2 := stab_sub v h2
  have lR := parF_lt g (stN g c2) c1 c
  have lQ := parT_lt g (stN g c1) c2 c
  have b1 := pop_shift v lR (addN g c k1)
  have b2 := pop_shift v lQ (addN g c k2)
  have w1 := pop_union (shiftN g (parF g (stN g c2) c1 c) (addN g c k1)) (shiftN g (parT g (stN g c1) c2 c) (addN g c k2))
  have lsR := shiftN_lt v (parF g (stN g c2) c1 c) (addN g c k1)
  have w3 : popN (shiftN g (parF g (stN g c2) c1 c) (addN g c k1) ||| shiftN g (parT g (stN g c1) c2 c) (addN g c k2)) ≤ popN (dfN (c1 ||| c2) c1) := pop_mono fun z hz => by
    rw [Nat.testBit_or, Bool.or_eq_true] at hz
    rcases hz with hz | hz
    · obtain ⟨h, hh, rfl⟩ := (shift_bit v lR _ z).1 hz
      obtain ⟨q1, q2⟩ := (parF_test s2.lt).1 hh
      refine in_df' (stab_keeps v h2 nk1 q1) ?_
      cases e : c1.testBit (addN g (addN g c k1) h) with
      | false => rfl
      | true =>
        rw [add_perm v] at e
        rw [keeps_back v h1 (addN_lt v.each _ _) hk1 e] at q2
        cases q2
    · obtain ⟨h, hh, rfl⟩ := (shift_bit v lQ _ z).1 hz
      obtain ⟨q1, q2⟩ := (parT_test s1.lt).1 hh
      refine in_df' ?_ ?_
      · rw [add_perm v]
        exact stab_keeps v h2 q2 hk2
      · cases e : c1.testBit (addN g (addN g c k2) h) with
        | false => rfl
        | true =>
          rw [keeps_back v h1 (addN_lt v.each _ _) q1 e] at nk2
          cases nk2
  have w2 : popN (shiftN g (parF g (stN g c2) c1 c) (addN g c k1) &&& shiftN g (parT g (stN g c1) c2 c) (addN g c k2)) ≤ popN (stN g c1 &&& stN g c2) := by
    have lA : shiftN g (parF g (stN g c2) c1 c) (addN g c k1) &&& shiftN g (parT g (stN g c1) c2 c) (addN g c k2) < 2 ^ ordN g := Nat.lt_of_le_of_lt Nat.and_le_left lsR
    have lB : stN g c1 &&& stN g c2 < 2 ^ ordN g := Nat.lt_of_le_of_lt Nat.and_le_left s1.lt
    refine pop_inj (fun z => addN g z (negN g (addN g (addN g c k1) k2))) (set_i64 v lA) (set_i64 v lB) (fun z hz => ?_) fun x y hx hy e => add_cancel_r v (bit_lt lA hx) (bit_lt lA hy) e
    rw [Nat.testBit_and, Bool.and_eq_true] at hz
    obtain ⟨z1, z2⟩ := hz
    have hzl := bit_lt lsR z1
    obtain ⟨h, hh, ez1⟩ := (shift_bit v lR _ z).1 z1
    obtain ⟨h', hh', ez2⟩ := (shift_bit v lQ _ z).1 z2
    obtain ⟨q1, _⟩ := (parF_test s2.lt).1 hh
    obtain ⟨r1, _⟩ := (parT_test s1.lt).1 hh'
    have f1 := diff_one v (k2 := k2) hzl (bit_lt s2.lt q1) ez1
    have f2 := diff_one v (k2 := k1) hzl (bit_lt s1.lt r1) ez2
    rw [add_perm v c k2 k1] at f2
    show (stN g c1 &&& stN g c2).testBit (addN g z (negN g (addN g (addN g c k1) k2))) = true
    rw [Nat.testBit_and, Bool.and_eq_true]
    exact ⟨by rw [f2]; exact s1.add _ _ r1 (s1.neg v hk1), by rw [f1]; exact s2.add _ _ q1 (s2.neg v hk2)⟩
  omega
theorem union_one {c1 c2 c : Nat} (h1 : c1 < 2 ^ ordN g) (h2 : c2 < 2 ^ ordN g) (hc1 : c1.testBit c = true) (hc2 : c2.testBit c = false) (hle : popN (stN g c2) ≤ popN (stN g c1)) :
    popN c1 + popN (stN g c1) ≤ popN (c1 ||| c2) + popN (stN g (c1 ||| c2)) ∨ popN c2 + popN (stN g c2) ≤ popN (c1 ||| c2) + popN (stN g (c1 ||| c2)) := by
  have s1 := stab_sub v h1
  have s2 := stab_sub v h2
  have hcl := bit_lt h1 hc1
  have hL := both_keep v h1 h2
  have dl := df_lt63 (b := c2) (set_i64 v (or_lt h1 h2))
  have d2 : popN (c1 ||| c2) = popN (dfN (c1 ||| c2) c2) + popN c2 := pop_df fun z hz => by rw [Nat.testBit_or, hz, Bool.or_true]
  have d1 : popN (c1 ||| c2) = popN (dfN (c1 ||| c2) c1) + popN c1 := pop_df fun z hz => by rw [Nat.testBit_or, hz, Bool.true_or]
  by_cases hP : ∀ h, (stN g c2).testBit h = true → c1.testBit (addN g c h) = true
  · right
    have := pop_inj (a := stN g c2) (b := dfN (c1 ||| c2) c2) (fun h => addN g c h) (set_i64 v s2.lt) dl (fun h hh => in_df (hP h hh) (not_from v h2 hcl hc2 hh)) fun x y hx hy e => add_cancel v (bit_lt s2.lt hx) (bit_lt s2.lt hy) e
    omega
  · by_cases hQ : ∀ h, (stN g c1).testBit h = true → c2.testBit (addN g c h) = false
    · right
      have := pop_inj (a := stN g c1) (b := dfN (c1 ||| c2) c2) (fun h => addN g c h) (set_i64 v s1.lt) dl (fun h hh => in_df (stab_keeps v h1 hc1 hh) (hQ h hh)) fun x y hx hy e => add_cancel v (bit_lt s1.lt hx) (bit_lt s1.lt hy) e
      omega
    · have hP' : ∃ h, (stN g c2).testBit h = true ∧ c1.testBit (addN g c h) = false := by
        refine Classical.byContradiction fun hn => hP fun h hh => ?_
        cases e : c1.testBit (addN g c h) with
        | true => rfl
        | false => exact absurd ⟨h, hh, e⟩ hn
      have hQ' : ∃ h, (stN g c1).testBit h = true ∧ c2.testBit (addN g c h) = true := by
        refine Classical.byContradiction fun hn => hQ fun h hh => ?_
        cases e : c2.testBit (addN g c h) with
        | false => rfl
        | true => exact absurd ⟨h, hh, e⟩ hn
      obtain ⟨k2, hk2, nk2⟩ := hP'
      obtain ⟨k1, hk1, nk1⟩ := hQ'
      have e2 : popN (stN g c2) = popN (parT g (stN g c2) c1 c) + popN (parF g (stN g c2) c1 c) := par_pop s2.lt c1 c
      have e1 : popN (stN g c1) = popN (parT g (stN g c1) c2 c) + popN (parF g (stN g c1) c2 c) := par_pop s1.lt c2 c
      have u := uni_fst v h1 h2 hc1 hc2
      have w := uni_snd v h1 h2 hk2 nk2 hk1 nk1
      omega
omit v in
theorem or_of_sub {a b : Nat} (h : sbN a b) : a ||| b = b := sbN_eq (fun z hz => by
  rw [Nat.testBit_or, Bool.or_eq_true] at hz
  rcases hz with hz | hz
  · exact h z hz
  · exact hz) fun z hz => by rw [Nat.testBit_or, hz, Bool.or_true]
omit v in
theorem not_sub {a b : Nat} (h : ¬ sbN a b) : ∃ c, a.testBit c = true ∧ b.testBit c = false := by
  refine Classical.byContradiction fun hn => h fun z hz => ?_
  cases e : b.testBit z with
  | true => rfl
  | false => exact absurd ⟨z, hz, e⟩ hn
theorem union_good {c1 c2 M : Nat} (h1 : c1 < 2 ^ ordN g) (h2 : c2 < 2 ^ ordN g) (g1 : M ≤ popN c1 + popN (stN g c1)) (g2 : M ≤ popN c2 + popN (stN g c2)) : M ≤ popN (c1 ||| c2) + popN (stN g (c1 ||| c2)) := by
  by_cases s12 : sbN c1 c2
  · rw [or_of_sub s12]; exact g2
  · by_cases s21 : sbN c2 c1
    · rw [Nat.or_comm, or_of_sub s21]; exact g1
    · obtain ⟨c, hc1, hc2⟩ := not_sub s12
      obtain ⟨d, hd1, hd2⟩ := not_sub s21
      rcases Nat.le_total (popN (stN g c2)) (popN (stN g c1)) with hle | hle
      · rcases union_one v h1 h2 hc1 hc2 hle with h | h <;> omega
      · have := union_one v h2 h1 hd1 hd2 hle
        rw [Nat.or_comm c2 c1] at this
        rcases this with h | h <;> omega
/-! ### A part of the sum around each element -/
theorem around_full {a b x0 y0 : Nat} (ha : a < 2 ^ ordN g) (hb : b < 2 ^ ordN g) (hx : a.testBit x0 = true) (hy : b.testBit y0 = true)
    (hall : ∀ w y, a.testBit w = true → b.testBit y = true → a.testBit (addN g y (addN g w (negN g y0))) = true) :
    ∃ c, c < 2 ^ ordN g ∧ c.testBit (addN g x0 y0) = true ∧ sbN c (sumN g a b) ∧ popN a + popN b ≤ popN c + popN (stN g c) := by
  have hst : ∀ y, b.testBit y = true → (stN g a).testBit (addN g y (negN g y0)) = true := fun y hy1 => by
    refine (stab_bit a _ _).2 ⟨addN_lt v.each _ _, ?_⟩
    refine pop_eq_of (fun z hz => ?_) (set_i64 v ha) (by rw [pop_shift v ha]; exact Nat.le_refl _)
    obtain ⟨w, hw, rfl⟩ := (shift_bit v ha _ z).1 hz
    have := hall w y hw hy1
    rw [addN_assoc g v.each, addN_comm g (negN g y0) w]
    exact this
  have hS := stab_sub v ha
  have hbs : popN b ≤ popN (stN g a) := pop_inj (fun y => addN g y (negN g y0)) (set_i64 v hb) (set_i64 v hS.lt) hst fun x y h1 h2 e => add_cancel_r v (bit_lt hb h1) (bit_lt hb h2) e
  have hss : popN (stN g a) ≤ popN (stN g (shiftN g a y0)) := pop_mono fun x h1 => by
    obtain ⟨h2, h3⟩ := (stab_bit a x _).1 h1
    refine (stab_bit _ x _).2 ⟨h2, ?_⟩
    rw [shift_add v ha, addN_comm g y0 x, ← shift_add v ha, h3]
  refine ⟨shiftN g a y0, shiftN_lt v a y0, (shift_bit v ha _ _).2 ⟨x0, hx, addN_comm g y0 x0⟩, fun z hz => ?_, by rw [pop_shift v ha]; omega⟩
  obtain ⟨w, hw, rfl⟩ := (shift_bit v ha _ z).1 hz
  exact (sum_bit v ha hb _).2 ⟨w, y0, hw, hy, addN_comm g w y0⟩
/-- Those of b that e leads into a. -/
def trB (g : List Nat) (a b e : Nat) : Nat := mkB (ordN g) fun y => b.testBit y && a.testBit (addN g y e)
omit v in
theorem trB_test {g : List Nat} {a b e z : Nat} (hb : b < 2 ^ ordN g) : (trB g a b e).testBit z = true ↔ b.testBit z = true ∧ a.testBit (addN g z e) = true := by
  unfold trB
  rw [mkB_test, Bool.and_eq_true, Bool.and_eq_true, decide_eq_true_eq]
  exact ⟨fun h => h.2, fun h => ⟨bit_lt hb h.1, h⟩⟩
theorem tr_pop {a b e : Nat} (ha : a < 2 ^ ordN g) (hb : b < 2 ^ ordN g) : popN a + popN b ≤ popN (a ||| shiftN g b e) + popN (trB g a b e) := by
  have lb := mkB_lt (fun y => b.testBit y && a.testBit (addN g y e)) (ordN g)
  have lb : trB g a b e < 2 ^ ordN g := lb
  have u1 := pop_union a (shiftN g b e)
  rw [pop_shift v hb] at u1
  have l1 : a &&& shiftN g b e < 2 ^ ordN g := Nat.lt_of_le_of_lt Nat.and_le_left ha
  have u2 : popN (a &&& shiftN g b e) ≤ popN (trB g a b e) := by
    refine pop_inj (fun z => addN g z (negN g e)) (set_i64 v l1) (set_i64 v lb) (fun z hz => ?_) fun x y h1 h2 h3 => add_cancel_r v (bit_lt l1 h1) (bit_lt l1 h2) h3
    rw [Nat.testBit_and, Bool.and_eq_true] at hz
    obtain ⟨z1, z2⟩ := hz
    obtain ⟨y, hy2, rfl⟩ := (shift_bit v hb e z).1 z2
    show (trB g a b e).testBit (addN g (addN g e y) (negN g e)) = true
    rw [addN_back v (bit_lt hb hy2)]
    exact (trB_test hb).2 ⟨hy2, by rw [addN_comm]; exact z1⟩
  omega
theorem tr_sum {a b e : Nat} (ha : a < 2 ^ ordN g) (hb : b < 2 ^ ordN g) : sbN (sumN g (a ||| shiftN g b e) (trB g a b e)) (sumN g a b) := fun z hz => by
  have lb : trB g a b e < 2 ^ ordN g := mkB_lt _ _
  obtain ⟨p, q, hp, hq, rfl⟩ := (sum_bit v (or_lt ha (shiftN_lt v b e)) lb z).1 hz
  obtain ⟨q1, q2⟩ := (trB_test hb).1 hq
  rw [Nat.testBit_or, Bool.or_eq_true] at hp
  rcases hp with hp | hp
  · exact (sum_bit v ha hb _).2 ⟨p, q, hp, q1, rfl⟩
  · obtain ⟨r, hr, rfl⟩ := (shift_bit v hb e p).1 hp
    refine (sum_bit v ha hb _).2 ⟨addN g q e, r, q2, hr, ?_⟩
    rw [addN_comm g q e, add_perm v]
theorem around_step {a b x0 y0 n : Nat} (ha : a < 2 ^ ordN g) (hb : b < 2 ^ ordN g) (hx : a.testBit x0 = true) (hy : b.testBit y0 = true) (hn : popN b ≤ n + 1)
    (ih : ∀ a' b', a' < 2 ^ ordN g → b' < 2 ^ ordN g → a'.testBit x0 = true → b'.testBit y0 = true → popN b' ≤ n → ∃ c, c < 2 ^ ordN g ∧ c.testBit (addN g x0 y0) = true ∧ sbN c (sumN g a' b') ∧ popN a' + popN b' ≤ popN c + popN (stN g c)) :
    ∃ c, c < 2 ^ ordN g ∧ c.testBit (addN g x0 y0) = true ∧ sbN c (sumN g a b) ∧ popN a + popN b ≤ popN c + popN (stN g c) := by
  by_cases hall : ∀ w y, a.testBit w = true → b.testBit y = true → a.testBit (addN g y (addN g w (negN g y0))) = true
  · exact around_full v ha hb hx hy hall
  · have hex : ∃ w y, a.testBit w = true ∧ b.testBit y = true ∧ a.testBit (addN g y (addN g w (negN g y0))) = false := by
      refine Classical.byContradiction fun hno => hall fun w y h1 h2 => ?_
      cases e : a.testBit (addN g y (addN g w (negN g y0))) with
      | true => rfl
      | false => exact absurd ⟨w, y, h1, h2, e⟩ hno
    obtain ⟨w, y1, hw, hy1, hno⟩ := hex
    have e0 : addN g y0 (addN g w (negN g y0)) = w := by
      rw [addN_comm g y0, addN_assoc g v.each, addN_comm g (negN g y0), addN_neg g v.each, addN_comm, addN_zero g w v.each (bit_lt ha hw)]
    have hy0 : a.testBit (addN g y0 (addN g w (negN g y0))) = true := by rw [e0]; exact hw
    generalize addN g w (negN g y0) = e at hno hy0
    have lb : trB g a b e < 2 ^ ordN g := mkB_lt _ _
    have s1 : sbN (trB g a b e) b := fun z hz => ((trB_test hb).1 hz).1
    have lt' : popN (trB g a b e) < popN b := by
      rcases Nat.lt_or_ge (popN (trB g a b e)) (popN b) with h | h
      · exact h
      · have e1 := pop_eq_of s1 (set_i64 v hb) h
        have h2 : (trB g a b e).testBit y1 = true := by rw [e1]; exact hy1
        have := ((trB_test hb).1 h2).2
        rw [hno] at this
        cases this
    have hxa : (a ||| shiftN g b e).testBit x0 = true := by rw [Nat.testBit_or, hx]; rfl
    obtain ⟨c, c1, c2, c3, c4⟩ := ih (a ||| shiftN g b e) (trB g a b e) (or_lt ha (shiftN_lt v b _)) lb hxa ((trB_test hb).2 ⟨hy, hy0⟩) (by omega)
    have hp := tr_pop v (e := e) ha hb
    exact ⟨c, c1, c2, fun z hz => tr_sum v ha hb z (c3 z hz), by omega⟩
theorem around (x0 y0 : Nat) (n : Nat) : ∀ (a b : Nat), a < 2 ^ ordN g → b < 2 ^ ordN g → a.testBit x0 = true → b.testBit y0 = true → popN b ≤ n →
    ∃ c, c < 2 ^ ordN g ∧ c.testBit (addN g x0 y0) = true ∧ sbN c (sumN g a b) ∧ popN a + popN b ≤ popN c + popN (stN g c) := by
  induction n with
  | zero =>
    intro a b ha hb hx hy hn
    have h0 := pcn_none 63 b (set_i64 v hb) (Nat.le_zero.1 hn)
    rw [h0, Nat.zero_testBit] at hy
    cases hy
  | succ n ih => exact fun a b ha hb hx hy hn => around_step v ha hb hx hy hn ih
theorem around_all {a b : Nat} (ha : a < 2 ^ ordN g) (hb : b < 2 ^ ordN g) : ∀ (l : List Nat), l ≠ [] → (∀ z ∈ l, (sumN g a b).testBit z = true) →
    ∃ c, c < 2 ^ ordN g ∧ (∀ z ∈ l, c.testBit z = true) ∧ sbN c (sumN g a b) ∧ popN a + popN b ≤ popN c + popN (stN g c)
  | [], h, _ => absurd rfl h
  | z :: l, _, hl => by
    obtain ⟨x, y, hx, hy, rfl⟩ := (sum_bit v ha hb z).1 (hl z (by simp))
    obtain ⟨c, c1, c2, c3, c4⟩ := around v x y (popN b) a b ha hb hx hy (Nat.le_refl _)
    by_cases h0 : l = []
    · subst h0
      refine ⟨c, c1, fun w hw => ?_, c3, c4⟩
      rw [List.mem_singleton.1 hw]
      exact c2
    · obtain ⟨d, d1, d2, d3, d4⟩ := around_all ha hb l h0 fun w hw => hl w (by simp [hw])
      refine ⟨c ||| d, or_lt c1 d1, fun w hw => ?_, fun w hw => ?_, union_good v c1 d1 c4 d4⟩
      · rw [Nat.testBit_or, Bool.or_eq_true]
        rcases List.mem_cons.1 hw with rfl | hw
        · exact .inl c2
        · exact .inr (d2 w hw)
      · rw [Nat.testBit_or, Bool.or_eq_true] at hw
        rcases hw with hw | hw
        · exact c3 w hw
        · exact d3 w hw
theorem kneser_weak {a b x y : Nat} (ha : a < 2 ^ ordN g) (hb : b < 2 ^ ordN g) (hx : a.testBit x = true) (hy : b.testBit y = true) : popN a + popN b ≤ popN (sumN g a b) + popN (stN g (sumN g a b)) := by
  have hs := sumN_lt v a b
  have hm : addN g x y ∈ elems (sumN g a b) := (mem_elems (set_i64 v hs)).2 ((sum_bit v ha hb _).2 ⟨x, y, hx, hy, rfl⟩)
  obtain ⟨c, c1, c2, c3, c4⟩ := around_all v ha hb (elems (sumN g a b)) (fun h => by rw [h] at hm; cases hm) fun z hz => (mem_elems (set_i64 v hs)).1 hz
  have e : c = sumN g a b := sbN_eq c3 fun z hz => c2 z ((mem_elems (set_i64 v hs)).2 hz)
  rw [e] at c4
  exact c4
theorem sum_filled {a b : Nat} (ha : a < 2 ^ ordN g) (hb : b < 2 ^ ordN g) : sumN g (sumN g a (stN g (sumN g a b))) (sumN g b (stN g (sumN g a b))) = sumN g a b := by
  have hs := sumN_lt v a b
  have s := stab_sub v hs
  have l1 := sumN_lt v a (stN g (sumN g a b))
  have l2 := sumN_lt v b (stN g (sumN g a b))
  refine sbN_eq (fun z hz => ?_) fun z hz => ?_
  · obtain ⟨p, q, hp, hq, rfl⟩ := (sum_bit v l1 l2 z).1 hz
    obtain ⟨x, h, hx, hh, rfl⟩ := (sum_bit v ha s.lt p).1 hp
    obtain ⟨y, k, hy, hk, rfl⟩ := (sum_bit v hb s.lt q).1 hq
    have e : addN g (addN g x h) (addN g y k) = addN g (addN g x y) (addN g h k) := by
      rw [addN_assoc g v.each, addN_assoc g v.each, ← addN_assoc g v.each h y k, addN_comm g h y, addN_assoc g v.each y h k]
    rw [e]
    exact stab_keeps v hs ((sum_bit v ha hb _).2 ⟨x, y, hx, hy, rfl⟩) (s.add _ _ hh hk)
  · obtain ⟨x, y, hx, hy, rfl⟩ := (sum_bit v ha hb z).1 hz
    exact (sum_bit v l1 l2 _).2 ⟨x, y, fill_up v s ha x hx, fill_up v s hb y hy, rfl⟩
theorem kneser {a b x y : Nat} (ha : a < 2 ^ ordN g) (hb : b < 2 ^ ordN g) (hx : a.testBit x = true) (hy : b.testBit y = true) :
    popN (sumN g a (stN g (sumN g a b))) + popN (sumN g b (stN g (sumN g a b))) ≤ popN (sumN g a b) + popN (stN g (sumN g a b)) := by
  have s := stab_sub v (sumN_lt v a b)
  have := kneser_weak v (sumN_lt v a (stN g (sumN g a b))) (sumN_lt v b (stN g (sumN g a b))) (fill_up v s ha x hx) (fill_up v s hb y hy)
  rwa [sum_filled v ha hb] at this
end
end Go.Proofs.Ytbajbkdmfdfdmaa
