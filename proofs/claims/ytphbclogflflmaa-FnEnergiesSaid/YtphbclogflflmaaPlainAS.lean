/-
  PlainAS: QuadruplesOf, TripleCount, CorrelationOf, ConvolveTables.
-/
import Derived.Test.YtphbclogflflmaaPlainAR
import Derived.Test.YtphbclogflflmaaPlainO
set_option linter.unusedVariables false
set_option linter.unusedSimpArgs false
namespace Go.Proofs.Ytphbclogflflmaa
open Go Ev

theorem set_of {g : List Nat} (v : VG g) {a : Nat} (ha : a < 2 ^ ordN g) : setG (natsI g) (a : Int) = true := by
  unfold setG
  rw [v.isG, v.ordG, shl_ord v, decide_eq_true (show (a : Int) ≥ 0 by omega), decide_eq_true (show (a : Int) < ((2 ^ ordN g : Nat) : Int) by omega)]
  rfl
theorem bit_val {a k : Nat} (ha : a < 9223372036854775808) : and64 (shr64 (a : Int) (k : Int)) 1 = (((if a.testBit k then 1 else 0 : Nat)) : Int) := by
  have h := bit_test (a := a) (k := k) ha
  rw [shr64_nat ha, show (1 : Int) = ((1 : Nat) : Int) from rfl, and64_nat (Nat.lt_of_le_of_lt (Nat.shiftRight_le a k) ha) (by decide)] at h ⊢
  have e : (a >>> k) &&& 1 = (a >>> k) % 2 := Nat.and_one_is_mod _
  rw [e] at h ⊢
  have h2 := Nat.mod_lt (a >>> k) (show 0 < 2 by decide)
  cases hb : a.testBit k with
  | true =>
    rw [hb] at h
    have h := eq_of_beq h
    rw [h]; rfl
  | false =>
    rw [hb] at h
    have : ¬ (a >>> k) % 2 = 1 := fun e => by rw [e] at h; exact absurd h (by decide)
    have e0 : (a >>> k) % 2 = 0 := by omega
    rw [e0]; rfl
theorem sum_take (F : Nat → Nat) (l : List Nat) {k : Nat} (hk : k < l.length) : ((l.take (k + 1)).map F).sum = ((l.take k).map F).sum + F (l.getD k 0) := by
  rw [take_snoc l hk, List.map_append, List.sum_append]
  simp
theorem sum_take_le (F : Nat → Nat) (M : Nat) (l : List Nat) (k : Nat) (hl : l.length ≤ 63) (h : ∀ x, F x ≤ M) : ((l.take k).map F).sum ≤ 63 * M := by
  have h1 := sumM_le (l := l.take k) (F := F) (M := M) fun x _ => h x
  have h2 : (l.take k).length ≤ 63 := by rw [List.length_take]; omega
  exact Nat.le_trans h1 (Nat.mul_le_mul_right _ h2)
/-! ### QuadruplesOf -/
def yesQ (g : List Nat) (a x y z : Nat) : Nat := if a.testBit (addN g (addN g x y) (negN g z)) then 1 else 0
theorem c3_sum (g : List Nat) (a x y : Nat) : c3N g a x y = ((elems a).map (yesQ g a x y)).sum := countP_sum _ _
theorem yes_le (g : List Nat) (a x y z : Nat) : yesQ g a x y z ≤ 1 := by unfold yesQ; split <;> omega
theorem c3_63 (g : List Nat) (a x y : Nat) : c3N g a x y ≤ 63 := Nat.le_trans (c3_le g a x y) (popN_le a)
theorem c2_63 (g : List Nat) (a x : Nat) : ((elems a).map fun y => c3N g a x y).sum ≤ 3969 := by
  have := sum_take_le (fun y => c3N g a x y) 63 (elems a) (elems a).length (elems_len a) (c3_63 g a x)
  rwa [List.take_length] at this
theorem i_q3 {g : List Nat} (v : VG g) {a x y : Nat} (ha : a < 2 ^ ordN g) (hx : x < ordN g) (hy : y < ordN g) (t18 t19 t25 t26 : Int) (t17 t24 : List Sc) {n : Nat} (hn : n ≤ 1000000) :
    loopL (f_i_QuadruplesOf_r4 (a : Int) (ints (natsI g)) (x : Int) (y : Int) t18 t19 t25 t26 ((elems a).length : Int)) ((n : Int), t17, t24, ints (natsI (elems a)), 0) = some (.one (((n + c3N g a x y : Nat) : Int), t17, t24)) := by
  have h24 := v.ord
  have hal := elems_len a
  have key := loop_count (rd := f_i_QuadruplesOf_r4 (a : Int) (ints (natsI g)) (x : Int) (y : Int) t18 t19 t25 t26 ((elems a).length : Int)) (fun k => (((n + (((elems a).take k).map (yesQ g a x y)).sum : Nat) : Int), t17, t24, ints (natsI (elems a)), (k : Int))) (elems a).length
    (a := (((n + (((elems a).take (elems a).length).map (yesQ g a x y)).sum : Nat) : Int), t17, t24)) (fun k hk => by
      have hz := elems_at ha hk
      have hxy := addN_lt v.each x y
      have hnz := negN_lt v.each ((elems a).getD k 0)
      have hd := addN_lt v.each (addN g x y) (negN g ((elems a).getD k 0))
      have hs := sum_take_le (yesQ g a x y) 1 (elems a) k hal (yes_le g a x y)
      simp only [f_i_QuadruplesOf_r4, f_i_QuadruplesOf_k4, ints_length, natsI_length, lt_dec hk, in_nat hk, Int.toNat_natCast, kAt_ints, atN_natsI, br_true, i_add_eq v (show x < 4611686018427387904 by omega) (show y < 4611686018427387904 by omega), bo_some, f_i_Group_minus, f_i_Group_minus_k,
        i_negate_eq v (show (elems a).getD k 0 < 4611686018427387904 by omega), i_add_eq v (show addN g x y < 4611686018427387904 by omega) (show negN g ((elems a).getD k 0) < 4611686018427387904 by omega), i_in_eq (set_i64 v ha), sum_take _ _ hk, w64_nat (show k < 9223372036854775807 by omega)]
      cases hb : a.testBit (addN g (addN g x y) (negN g ((elems a).getD k 0))) with
      | true =>
        have e : yesQ g a x y ((elems a).getD k 0) = 1 := by unfold yesQ; rw [hb]; rfl
        rw [e, br_true, w64_nat (by omega)]
        rfl
      | false =>
        have e : yesQ g a x y ((elems a).getD k 0) = 0 := by unfold yesQ; rw [hb]; rfl
        rw [e, br_false]
        rfl) (by
      simp only [f_i_QuadruplesOf_r4, f_i_QuadruplesOf_k4, lt_dec_self, br_false]) 0 (Nat.zero_le _)
  rw [List.take_length, ← c3_sum] at key
  exact key
theorem i_q2 {g : List Nat} (v : VG g) {a x : Nat} (ha : a < 2 ^ ordN g) (hx : x < ordN g) (t18 t19 : Int) (t17 : List Sc) {n : Nat} (hn : n ≤ 300000) :
    loopL (f_i_QuadruplesOf_r2 (a : Int) (ints (natsI g)) (x : Int) t18 t19 ((elems a).length : Int)) ((n : Int), t17, ints (natsI (elems a)), 0) = some (.one (((n + ((elems a).map fun y => c3N g a x y).sum : Nat) : Int), t17, ints (natsI (elems a)), ((elems a).length : Int))) := by
  have hal := elems_len a
  have key := loop_count (rd := f_i_QuadruplesOf_r2 (a : Int) (ints (natsI g)) (x : Int) t18 t19 ((elems a).length : Int)) (fun k => (((n + (((elems a).take k).map fun y => c3N g a x y).sum : Nat) : Int), t17, ints (natsI (elems a)), (k : Int))) (elems a).length
    (a := (((n + (((elems a).take (elems a).length).map fun y => c3N g a x y).sum : Nat) : Int), t17, ints (natsI (elems a)), ((elems a).length : Int))) (fun k hk => by
      have hs := sum_take_le (fun y => c3N g a x y) 63 (elems a) k hal (c3_63 g a x)
      simp only [f_i_QuadruplesOf_r2, f_i_QuadruplesOf_k2, ints_length, natsI_length, lt_dec hk, in_nat hk, Int.toNat_natCast, kAt_ints, atN_natsI, br_true, i_members_eq (set_i64 v ha), bo_some, i_q3 v ha hx (elems_at ha hk) _ _ _ _ _ _ (show n + (((elems a).take k).map fun y => c3N g a x y).sum ≤ 1000000 by omega), bl1_one, sum_take _ _ hk, w64_nat (show k < 9223372036854775807 by omega), Nat.add_assoc]) (by
      simp only [f_i_QuadruplesOf_r2, f_i_QuadruplesOf_k2, lt_dec_self, br_false]) 0 (Nat.zero_le _)
  rw [List.take_length] at key
  exact key
theorem i_Quad_eq {g : List Nat} (v : VG g) {a : Nat} (ha : a < 2 ^ ordN g) : f_i_QuadruplesOf (ints (natsI g)) (a : Int) = some ((quadN g a : Nat) : Int) := by
  have hal := elems_len a
  have key := loop_count (rd := f_i_QuadruplesOf_r0 (a : Int) (ints (natsI g)) ((elems a).length : Int)) (fun k => (((((elems a).take k).map fun x => ((elems a).map fun y => c3N g a x y).sum).sum : Nat), ints (natsI (elems a)), (k : Int))) (elems a).length
    (a := (((((elems a).take (elems a).length).map fun x => ((elems a).map fun y => c3N g a x y).sum).sum : Nat), ints (natsI (elems a)), ((elems a).length : Int))) (fun k hk => by
      have hs := sum_take_le (fun x => ((elems a).map fun y => c3N g a x y).sum) 3969 (elems a) k hal (c2_63 g a)
      simp only [f_i_QuadruplesOf_r0, f_i_QuadruplesOf_k0, ints_length, natsI_length, lt_dec hk, in_nat hk, Int.toNat_natCast, kAt_ints, atN_natsI, br_true, i_members_eq (set_i64 v ha), bo_some, i_q2 v ha (elems_at ha hk) _ _ _ (show (((elems a).take k).map fun x => ((elems a).map fun y => c3N g a x y).sum).sum ≤ 300000 by omega), bl1_one, sum_take _ _ hk, w64_nat (show k < 9223372036854775807 by omega)]) (by
      simp only [f_i_QuadruplesOf_r0, f_i_QuadruplesOf_k0, lt_dec_self, br_false]) 0 (Nat.zero_le _)
  rw [List.take_length] at key
  have key' : loopL (f_i_QuadruplesOf_r0 (a : Int) (ints (natsI g)) ((elems a).length : Int)) (0, ints (natsI (elems a)), 0) = some (.one (((quadN g a : Nat) : Int), ints (natsI (elems a)), ((elems a).length : Int))) := key
  simp only [f_i_QuadruplesOf, f_i_QuadruplesOf_k, i_IsSet_eq _ _ v.lim, set_of v ha, bo_some, Bool.not_true, br_false, i_members_eq (set_i64 v ha), ints_length, natsI_length, key', bl1_one]
theorem s_q3 {g : List Nat} (v : VG g) {a i j : Nat} (ha : a < 2 ^ ordN g) (hi : i < (elems a).length) (hj : j < (elems a).length) {n : Nat} (hn : n ≤ 1000000) :
    loopL (f_s_QuadruplesOf_r4 (a : Int) (ints (natsI g)) (i : Int) (j : Int)) (ints (natsI (elems a)), (n : Int), 0) = some (.one (ints (natsI (elems a)), ((n + c3N g a ((elems a).getD i 0) ((elems a).getD j 0) : Nat) : Int))) := by
  have h24 := v.ord
  have hal := elems_len a
  have hx := elems_at ha hi
  have hy := elems_at ha hj
  have key := loop_count (rd := f_s_QuadruplesOf_r4 (a : Int) (ints (natsI g)) (i : Int) (j : Int)) (fun k => (ints (natsI (elems a)), ((n + (((elems a).take k).map (yesQ g a ((elems a).getD i 0) ((elems a).getD j 0))).sum : Nat) : Int), (k : Int))) (elems a).length
    (a := (ints (natsI (elems a)), ((n + (((elems a).take (elems a).length).map (yesQ g a ((elems a).getD i 0) ((elems a).getD j 0))).sum : Nat) : Int))) (fun k hk => by
      have hz := elems_at ha hk
      have hxy := addN_lt v.each ((elems a).getD i 0) ((elems a).getD j 0)
      have hnz := negN_lt v.each ((elems a).getD k 0)
      have hd := addN_lt v.each (addN g ((elems a).getD i 0) ((elems a).getD j 0)) (negN g ((elems a).getD k 0))
      have hs := sum_take_le (yesQ g a ((elems a).getD i 0) ((elems a).getD j 0)) 1 (elems a) k hal (yes_le g a _ _)
      have hy1 := yes_le g a ((elems a).getD i 0) ((elems a).getD j 0) ((elems a).getD k 0)
      have ew : w64 (((n + (((elems a).take k).map (yesQ g a ((elems a).getD i 0) ((elems a).getD j 0))).sum : Nat) : Int) + ((yesQ g a ((elems a).getD i 0) ((elems a).getD j 0) ((elems a).getD k 0) : Nat) : Int)) = ((n + ((((elems a).take k).map (yesQ g a ((elems a).getD i 0) ((elems a).getD j 0))).sum + yesQ g a ((elems a).getD i 0) ((elems a).getD j 0) ((elems a).getD k 0)) : Nat) : Int) := by
        rw [← Int.natCast_add, w64_cast (by omega), Nat.add_assoc]
      have eb := bit_val (a := a) (k := addN g (addN g ((elems a).getD i 0) ((elems a).getD j 0)) (negN g ((elems a).getD k 0))) (set_i64 v ha)
      have eb' : and64 (shr64 (a : Int) ((addN g (addN g ((elems a).getD i 0) ((elems a).getD j 0)) (negN g ((elems a).getD k 0)) : Nat) : Int)) 1 = ((yesQ g a ((elems a).getD i 0) ((elems a).getD j 0) ((elems a).getD k 0) : Nat) : Int) := eb
      simp only [f_s_QuadruplesOf_r4, f_s_QuadruplesOf_k4, ints_length, natsI_length, lt_dec hk, in_nat hi, in_nat hj, in_nat hk, Int.toNat_natCast, kAt_ints, atN_natsI, br_true, s_l2Add_eq v (show (elems a).getD i 0 < 4611686018427387904 by omega) (show (elems a).getD j 0 < 4611686018427387904 by omega), bo_some,
        s_l2Negate_eq v (show (elems a).getD k 0 < 4611686018427387904 by omega), s_l2Add_eq v (show addN g ((elems a).getD i 0) ((elems a).getD j 0) < 4611686018427387904 by omega) (show negN g ((elems a).getD k 0) < 4611686018427387904 by omega), neg_dec, br_false, eb', ew, sum_take _ _ hk, w64_nat (show k < 9223372036854775807 by omega)]) (by
      simp only [f_s_QuadruplesOf_r4, f_s_QuadruplesOf_k4, ints_length, natsI_length, lt_dec_self, br_false]) 0 (Nat.zero_le _)
  rw [List.take_length, ← c3_sum] at key
  exact key
theorem s_q2 {g : List Nat} (v : VG g) {a i : Nat} (ha : a < 2 ^ ordN g) (hi : i < (elems a).length) {n : Nat} (hn : n ≤ 300000) :
    loopL (f_s_QuadruplesOf_r2 (a : Int) (ints (natsI g)) (i : Int)) (ints (natsI (elems a)), (n : Int), 0) = some (.one (ints (natsI (elems a)), ((n + ((elems a).map fun y => c3N g a ((elems a).getD i 0) y).sum : Nat) : Int), ((elems a).length : Int))) := by
  have hal := elems_len a
  have key := loop_count (rd := f_s_QuadruplesOf_r2 (a : Int) (ints (natsI g)) (i : Int)) (fun k => (ints (natsI (elems a)), ((n + (((elems a).take k).map fun y => c3N g a ((elems a).getD i 0) y).sum : Nat) : Int), (k : Int))) (elems a).length
    (a := (ints (natsI (elems a)), ((n + (((elems a).take (elems a).length).map fun y => c3N g a ((elems a).getD i 0) y).sum : Nat) : Int), ((elems a).length : Int))) (fun k hk => by
      have hs := sum_take_le (fun y => c3N g a ((elems a).getD i 0) y) 63 (elems a) k hal (c3_63 g a _)
      simp only [f_s_QuadruplesOf_r2, f_s_QuadruplesOf_k2, ints_length, natsI_length, lt_dec hk, br_true, s_q3 v ha hi hk (show n + (((elems a).take k).map fun y => c3N g a ((elems a).getD i 0) y).sum ≤ 1000000 by omega), bl1_one, sum_take _ _ hk, w64_nat (show k < 9223372036854775807 by omega), Nat.add_assoc]) (by
      simp only [f_s_QuadruplesOf_r2, f_s_QuadruplesOf_k2, ints_length, natsI_length, lt_dec_self, br_false]) 0 (Nat.zero_le _)
  rw [List.take_length] at key
  exact key
theorem s_Quad_eq {g : List Nat} (v : VG g) {a : Nat} (ha : a < 2 ^ ordN g) : f_s_QuadruplesOf (ints (natsI g)) (a : Int) = some ((quadN g a : Nat) : Int) := by
  have hal := elems_len a
  have key := loop_count (rd := f_s_QuadruplesOf_r0 (a : Int) (ints (natsI g))) (fun k => (ints (natsI (elems a)), ((((elems a).take k).map fun x => ((elems a).map fun y => c3N g a x y).sum).sum : Nat), (k : Int))) (elems a).length
    (a := (ints (natsI (elems a)), ((((elems a).take (elems a).length).map fun x => ((elems a).map fun y => c3N g a x y).sum).sum : Nat), ((elems a).length : Int))) (fun k hk => by
      have hs := sum_take_le (fun x => ((elems a).map fun y => c3N g a x y).sum) 3969 (elems a) k hal (c2_63 g a)
      simp only [f_s_QuadruplesOf_r0, f_s_QuadruplesOf_k0, ints_length, natsI_length, lt_dec hk, br_true, s_q2 v ha hk (show (((elems a).take k).map fun x => ((elems a).map fun y => c3N g a x y).sum).sum ≤ 300000 by omega), bl1_one, sum_take _ _ hk, w64_nat (show k < 9223372036854775807 by omega)]) (by
      simp only [f_s_QuadruplesOf_r0, f_s_QuadruplesOf_k0, ints_length, natsI_length, lt_dec_self, br_false]) 0 (Nat.zero_le _)
  rw [List.take_length] at key
  have key' : loopL (f_s_QuadruplesOf_r0 (a : Int) (ints (natsI g))) (ints (natsI (elems a)), 0, 0) = some (.one (ints (natsI (elems a)), ((quadN g a : Nat) : Int), ((elems a).length : Int))) := key
  simp only [f_s_QuadruplesOf, f_s_QuadruplesOf_k, s_IsSet_eq _ _ v.lim, set_of v ha, bo_some, Bool.not_true, br_false, s_l3List_eq (set_i64 v ha), key', bl1_one]
/-! ### TripleCount -/
def tripF (c : Nat) (T : Nat → Nat) (z : Nat) : Nat := if c.testBit z then T z else 0
theorem tripF_le (c : Nat) (T : Nat → Nat) (hT : ∀ z, T z ≤ 3969) (z : Nat) : tripF c T z ≤ 3969 := by
  unfold tripF
  split
  · exact hT z
  · exact Nat.zero_le _
theorem trip_le (c : Nat) (T : Nat → Nat) (hT : ∀ z, T z ≤ 3969) (k : Nat) (hk : k ≤ 24) : ((List.range k).map (tripF c T)).sum ≤ 95256 := by
  have h := sumM_le (l := List.range k) (F := tripF c T) fun z _ => tripF_le c T hT z
  rw [List.length_range] at h
  have h2 : k * 3969 ≤ 24 * 3969 := Nat.mul_le_mul_right _ hk
  exact Nat.le_trans h h2
theorem s_Trip_loop {N c : Nat} (hN : N ≤ 24) (hc : c < 9223372036854775808) {T : Nat → Nat} (hT : ∀ z, T z ≤ 3969) : loopL (f_s_TripleCount_r0 (c : Int)) (ints (natsI (rowN N T)), 0, 0) = some (.one ((((List.range N).map (tripF c T)).sum : Nat) : Int)) := by
  have key := loop_count (rd := f_s_TripleCount_r0 (c : Int)) (fun k => (ints (natsI (rowN N T)), ((((List.range k).map (tripF c T)).sum : Nat) : Int), (k : Int))) N (a := ((((List.range N).map (tripF c T)).sum : Nat) : Int)) (fun k hk => by
    have h1 := trip_le c T hT k (by omega)
    have h2 := hT k
    simp only [f_s_TripleCount_r0, f_s_TripleCount_k0, natsI_row_len, lt_dec hk, neg_dec, br_false, bit_test hc, in_nat hk, Int.toNat_natCast, kAt_ints, atN_natsI, rowN_get hk, br_true, w64_nat (show k < 9223372036854775807 by omega), sum_range_succ]
    cases hb : c.testBit k with
    | true =>
      have e : tripF c T k = T k := by unfold tripF; rw [hb]; rfl
      rw [e, br_true, ← Int.natCast_add, w64_cast (by omega)]
    | false =>
      have e : tripF c T k = 0 := by unfold tripF; rw [hb]; rfl
      rw [e, br_false]; rfl) (by
    simp only [f_s_TripleCount_r0, f_s_TripleCount_k0, natsI_row_len, lt_dec_self, br_false]) 0 (Nat.zero_le _)
  exact key
theorem i_Trip_loop {N c : Nat} (hN : N ≤ 24) (hc : c < 9223372036854775808) {T : Nat → Nat} (hT : ∀ z, T z ≤ 3969) : loopL (f_i_TripleCount_r0 (c : Int) (N : Int)) (0, ints (natsI (rowN N T)), 0) = some (.one ((((List.range N).map (tripF c T)).sum : Nat) : Int)) := by
  have key := loop_count (rd := f_i_TripleCount_r0 (c : Int) (N : Int)) (fun k => (((((List.range k).map (tripF c T)).sum : Nat) : Int), ints (natsI (rowN N T)), (k : Int))) N (a := ((((List.range N).map (tripF c T)).sum : Nat) : Int)) (fun k hk => by
    have h1 := trip_le c T hT k (by omega)
    have h2 := hT k
    simp only [f_i_TripleCount_r0, f_i_TripleCount_k0, natsI_row_len, lt_dec hk, i_in_eq hc, bo_some, in_nat hk, Int.toNat_natCast, kAt_ints, atN_natsI, rowN_get hk, br_true, w64_nat (show k < 9223372036854775807 by omega), sum_range_succ]
    cases hb : c.testBit k with
    | true =>
      have e : tripF c T k = T k := by unfold tripF; rw [hb]; rfl
      rw [e, br_true, ← Int.natCast_add, w64_cast (by omega)]
    | false =>
      have e : tripF c T k = 0 := by unfold tripF; rw [hb]; rfl
      rw [e, br_false]; rfl) (by
    simp only [f_i_TripleCount_r0, f_i_TripleCount_k0, lt_dec_self, br_false]) 0 (Nat.zero_le _)
  exact key
def tripN (g : List Nat) (a b c : Nat) : Nat := ((List.range (ordN g)).map (tripF c (tabN g (elems a) (elems b)))).sum
theorem tripN_comm (g : List Nat) (a b c : Nat) : tripN g a b c = tripN g b a c := by
  unfold tripN
  refine sumM_congr fun z _ => ?_
  unfold tripF
  rw [tabN_eq, tabN_eq, cnt2_comm]
theorem Trip_yes {g : List Nat} (v : VG g) {a b c : Nat} (ha : a < 2 ^ ordN g) (hb : b < 2 ^ ordN g) (hc : c < 2 ^ ordN g) :
    f_s_TripleCount (ints (natsI g)) (a : Int) (b : Int) (c : Int) = some ((tripN g a b c : Nat) : Int) ∧ f_i_TripleCount (ints (natsI g)) (a : Int) (b : Int) (c : Int) = some ((tripN g a b c : Nat) : Int) := by
  have h24 := v.ord
  have o1 := ordN_pos v.each
  have hz : (((ordN g : Nat) : Int) == 0) = false := beq_eq_false_iff_ne.2 (by omega)
  have hT := tabN_small g a b
  have hsa := set_of v ha
  have hsb := set_of v hb
  have hsc := set_of v hc
  obtain ⟨g', a', b', e1, v', e2, e3, _, _, e4⟩ := (s_SumTable_eq (natsI g) (a : Int) (b : Int) v.lim).1 hsa hsb
  have eg : g = g' := by
    have := congrArg (List.map Int.toNat) e1
    rwa [toNat_natsI, toNat_natsI] at this
  have ea : a = a' := by omega
  have eb : b = b' := by omega
  subst eg; subst ea; subst eb
  constructor
  · simp only [f_s_TripleCount, f_s_TripleCount_k, e4, bo_some, natsI_row_len, hz, s_IsSet_eq _ _ v.lim, hsc, Bool.not_true, BEq.rfl, br_true, br_false, s_Trip_loop h24 (set_i64 v hc) hT, bl1_one]
    rfl
  · simp only [f_i_TripleCount, f_i_TripleCount_k, i_areSets3 _ _ _ _ v.lim, hsa, hsb, hsc, v.isG, Bool.and_true, bo_some, Bool.not_true, br_false, i_SumTable_eq v ha hb hsa hsb, natsI_row_len, i_Trip_loop h24 (set_i64 v hc) hT, bl1_one]
    rfl
theorem Trip_no (G : List Int) (x y z : Int) (h : G.length ≤ lim) (hn : setG G x = false ∨ setG G y = false ∨ setG G z = false) : f_s_TripleCount (ints G) x y z = some (-1) ∧ f_i_TripleCount (ints G) x y z = some (-1) := by
  have hS := s_SumTable_eq G x y h
  constructor
  · by_cases hx : setG G x = true
    · by_cases hy : setG G y = true
      · have hz : setG G z = false := by
          rcases hn with h1 | h1 | h1
          · rw [hx] at h1; cases h1
          · rw [hy] at h1; cases h1
          · exact h1
        obtain ⟨g, a, b, rfl, v, rfl, rfl, ha, hb, e1⟩ := hS.1 hx hy
        have o1 := ordN_pos v.each
        have hz0 : (((ordN g : Nat) : Int) == 0) = false := beq_eq_false_iff_ne.2 (by omega)
        simp only [f_s_TripleCount, f_s_TripleCount_k, e1, bo_some, natsI_row_len, hz0, s_IsSet_eq _ _ h, hz]
        rfl
      · have hy' : setG G y = false := by simpa using hy
        simp only [f_s_TripleCount, f_s_TripleCount_k, hS.2 (.inr hy'), bo_some]; rfl
    · have hx' : setG G x = false := by simpa using hx
      simp only [f_s_TripleCount, f_s_TripleCount_k, hS.2 (.inl hx'), bo_some]; rfl
  · have : (setG G x && setG G y && setG G z && isG G) = false := by
      rcases hn with h1 | h1 | h1 <;> rw [h1]
      · rfl
      · cases setG G x <;> rfl
      · cases setG G x <;> cases setG G y <;> rfl
    simp only [f_i_TripleCount, f_i_TripleCount_k, i_areSets3 _ _ _ _ h, this, bo_some]; rfl
/-! ### CorrelationOf -/
def oppN (g : List Nat) (b : Nat) : Nat := orAll (fun y => 2 ^ negN g y) (elems b)
theorem oppN_lt {g : List Nat} (v : VG g) (b : Nat) : oppN g b < 2 ^ ordN g := orFold_lt (Nat.two_pow_pos _) fun y _ => two_pow_lt (negN_lt v.each y)
theorem s_opp_eq {g : List Nat} (v : VG g) {b : Nat} (hb : b < 2 ^ ordN g) : f_s_l3Negate (ints (natsI g)) (b : Int) = some ((oppN g b : Nat) : Int) := by
  have h24 := v.ord
  have hbl := elems_len b
  have key := loop_foldN (rd := f_s_l3Negate_r0 (ints (natsI g))) (elems b) (fun (t : Nat) i => ((t : Int), ints (natsI (elems b)), i)) (fun o y => o ||| 2 ^ negN g y) (fun t => (t : Int)) (fun t => t < 2 ^ ordN g) 0 (Nat.two_pow_pos _) (fun k t hk ht => by
    have hy := elems_at hb hk
    simp only [f_s_l3Negate_r0, f_s_l3Negate_k0, ints_length, natsI_length, lt_dec hk, in_nat hk, Int.toNat_natCast, kAt_ints, atN_natsI, br_true, s_l2Negate_eq v (show (elems b).getD k 0 < 4611686018427387904 by omega), bo_some, neg_dec, br_false, or_pow v ht (negN_lt v.each ((elems b).getD k 0)), w64_nat (show k < 9223372036854775807 by omega)])
    (fun k t hk ht => or_lt ht (two_pow_lt (negN_lt v.each _)))
    (fun t ht => by simp only [f_s_l3Negate_r0, f_s_l3Negate_k0, ints_length, natsI_length, lt_dec_self, br_false])
  have key1 : loopL (f_s_l3Negate_r0 (ints (natsI g))) (0, ints (natsI (elems b)), 0) = some (.one ((oppN g b : Nat) : Int)) := key.1
  simp only [f_s_l3Negate, f_s_l3Negate_k, s_l3List_eq (set_i64 v hb), bo_some, key1, bl1_one]
theorem i_opp_eq {g : List Nat} (v : VG g) {b : Nat} (hb : b < 2 ^ ordN g) : f_i_Group_opposite (ints (natsI g)) (b : Int) = some ((oppN g b : Nat) : Int) := by
  have h24 := v.ord
  have hbl := elems_len b
  have key := loop_foldN (rd := f_i_Group_opposite_r0 (ints (natsI g)) ((elems b).length : Int)) (elems b) (fun (t : Nat) i => ((t : Int), ints (natsI (elems b)), i)) (fun o y => o ||| 2 ^ negN g y) (fun t => (t : Int)) (fun t => t < 2 ^ ordN g) 0 (Nat.two_pow_pos _) (fun k t hk ht => by
    have hy := elems_at hb hk
    simp only [f_i_Group_opposite_r0, f_i_Group_opposite_k0, ints_length, natsI_length, lt_dec hk, in_nat hk, Int.toNat_natCast, kAt_ints, atN_natsI, br_true, i_negate_eq v (show (elems b).getD k 0 < 4611686018427387904 by omega), bo_some, neg_dec, br_false, or_pow v ht (negN_lt v.each ((elems b).getD k 0)), w64_nat (show k < 9223372036854775807 by omega)])
    (fun k t hk ht => or_lt ht (two_pow_lt (negN_lt v.each _)))
    (fun t ht => by simp only [f_i_Group_opposite_r0, f_i_Group_opposite_k0, lt_dec_self, br_false])
  have key1 : loopL (f_i_Group_opposite_r0 (ints (natsI g)) ((elems b).length : Int)) (0, ints (natsI (elems b)), 0) = some (.one ((oppN g b : Nat) : Int)) := key.1
  simp only [f_i_Group_opposite, f_i_Group_opposite_k, i_members_eq (set_i64 v hb), bo_some, ints_length, natsI_length, key1, bl1_one]
theorem s_SumTable_yes {g : List Nat} (v : VG g) {a b : Nat} (ha : a < 2 ^ ordN g) (hb : b < 2 ^ ordN g) : f_s_SumTable (ints (natsI g)) (a : Int) (b : Int) = some (ints (natsI (rowN (ordN g) (tabN g (elems a) (elems b))))) := by
  obtain ⟨g', a', b', e1, v', e2, e3, _, _, e4⟩ := (s_SumTable_eq (natsI g) (a : Int) (b : Int) v.lim).1 (set_of v ha) (set_of v hb)
  have eg : g = g' := by
    have := congrArg (List.map Int.toNat) e1
    rwa [toNat_natsI, toNat_natsI] at this
  have ea : a = a' := by omega
  have eb : b = b' := by omega
  subst eg; subst ea; subst eb
  exact e4
theorem CorrelationOf_both (G : List Int) (x y : Int) (h : G.length ≤ lim) : ∃ R, f_s_CorrelationOf (ints G) x y = some (ints R) ∧ f_i_CorrelationOf (ints G) x y = some (ints R) ∧ R.length ≤ 24 := by
  by_cases hx : setG G x = true
  · by_cases hy : setG G y = true
    · obtain ⟨g, a, b, rfl, v, rfl, rfl, ha, hb⟩ := two_sets hx hy
      have hob := oppN_lt v b
      refine ⟨natsI (rowN (ordN g) (tabN g (elems a) (elems (oppN g b)))), ?_, ?_, ?_⟩
      · simp only [f_s_CorrelationOf, f_s_CorrelationOf_k, s_IsSet_eq _ _ h, hx, hy, bo_some, Bool.not_true, BEq.rfl, br_true, br_false, s_opp_eq v hb, s_SumTable_yes v ha hob]
      · simp only [f_i_CorrelationOf, f_i_CorrelationOf_k, i_areSets2 _ _ _ h, hx, hy, v.isG, Bool.and_true, bo_some, Bool.not_true, br_false, i_opp_eq v hb, i_SumTable_eq v ha hob hx (set_of v hob)]
      · rw [natsI_length, rowN_length]; exact v.ord
    · have hy' : setG G y = false := by simpa using hy
      refine ⟨[], ?_, ?_, by simp⟩
      · simp only [f_s_CorrelationOf, f_s_CorrelationOf_k, s_IsSet_eq _ _ h, hx, hy', bo_some]; rfl
      · simp only [f_i_CorrelationOf, f_i_CorrelationOf_k, i_areSets2 _ _ _ h, hy', Bool.and_false, Bool.false_and, bo_some]; rfl
  · have hx' : setG G x = false := by simpa using hx
    refine ⟨[], ?_, ?_, by simp⟩
    · simp only [f_s_CorrelationOf, f_s_CorrelationOf_k, s_IsSet_eq _ _ h, hx', bo_some]; rfl
    · simp only [f_i_CorrelationOf, f_i_CorrelationOf_k, i_areSets2 _ _ _ h, hx', Bool.false_and, bo_some]; rfl
end Go.Proofs.Ytphbclogflflmaa
