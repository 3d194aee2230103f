/-
  PlainAS: QuadruplesOf, TripleCount, CorrelationOf, ConvolveTables.
-/
import Derived.Test.YtbajbkdmfdfdmaaPlainAR
import Derived.Test.YtbajbkdmfdfdmaaPlainO
set_option linter.unusedVariables false
set_option linter.unusedSimpArgs false
namespace Go.Proofs.Ytbajbkdmfdfdmaa
open Go Ev

theorem set_of {g : List Nat} (v : VG g) {a : Nat} (ha : a < 2 ^ ordN g) : setG (natsI g) (a : Int) = true := by
  unfold setG
  rw [v.isG, v.ordG, shl_ord v, decide_eq_true (show (a : Int) ≥ 0 by omega), decide_eq_true (show (a : Int) < ((2 ^ ordN g : Nat) : Int) by omega)]
  rfl
theorem bit_val {a k : Nat} (ha : a < 9223372036854775808) : and64 (shr64 (a : Int) (k : Int)) 1 = (((if a.testBit k then 1 else 0 : Nat)) : Int) := by
  have h := bit_test (a := a) (k := k) ha
  rw [shr64_nat ha, show (1 : Int) = ((1 : Nat) : Int) from rfl, and64_nat (Nat.lt_of_le_of_lt (Nat.shiftRight_le a k) ha) (by decide)] at h ⊢
  have e : (a >>> k) &&& 1 = (a >>> k) % 2 := Nat.and_one_is_mod _
  rw [e] at h ⊢
  have h2 := Nat.mod_lt (a >>> k) (show 0 < 2 by decide)
  cases hb : a.testBit k with
  | true =>
    rw [hb] at h
    have h := eq_of_beq h
    rw [h]; rfl
  | false =>
    rw [hb] at h
    have : ¬ (a >>> k) % 2 = 1 := fun e => by rw [e] at h; exact absurd h (by decide)
    have e0 : (a >>> k) % 2 = 0 := by omega
    rw [e0]; rfl
theorem sum_take (F : Nat → Nat) (l : List Nat) {k : Nat} (hk : k < l.length) : ((l.take (k + 1)).map F).sum = ((l.take k).map F).sum + F (l.getD k 0) := by
  rw [take_snoc l hk, List.map_append, List.sum_append]
  simp
theorem sum_take_le (F : Nat → Nat) (M : Nat) (l : List Nat) (k : Nat) (hl : l.length ≤ 63) (h : ∀ x, F x ≤ M) : ((l.take k).map F).sum ≤ 63 * M := by
  have h1 := sumM_le (l := l.take k) (F := F) (M := M) fun x _ => h x
  have h2 : (l.take k).length ≤ 63 := by rw [List.length_take]; omega
  exact Nat.le_trans h1 (Nat.mul_le_mul_right _ h2)
/-! ### QuadruplesOf -/
def yesQ (g : List Nat) (a x y z : Nat) : Nat := if a.testBit (addN g (addN g x y) (negN g z)) then 1 else 0
theorem c3_sum (g : List Nat) (a x y : Nat) : c3N g a x y = ((elems a).map (yesQ g a x y)).sum := countP_sum _ _
theorem yes_le (g : List Nat) (a x y z : Nat) : yesQ g a x y z ≤ 1 := by unfold yesQ; split <;> omega
theorem c3_63 (g : List Nat) (a x y : Nat) : c3N g a x y ≤ 63 := Nat.le_trans (c3_le g a x y) (popN_le a)
theorem c2_63 (g : List Nat) (a x : Nat) : ((elems a).map fun y => c3N g a x y).sum ≤ 3969 := by
  have := sum_take_le (fun y => c3N g a x y) 63 (elems a) (elems a).length (elems_len a) (c3_63 g a x)
  rwa [List.take_length] at this
/-! ### TripleCount -/
def tripF (c : Nat) (T : Nat → Nat) (z : Nat) : Nat := if c.testBit z then T z else 0
theorem tripF_le (c : Nat) (T : Nat → Nat) (hT : ∀ z, T z ≤ 3969) (z : Nat) : tripF c T z ≤ 3969 := by
  unfold tripF
  split
  · exact hT z
  · exact Nat.zero_le _
theorem trip_le (c : Nat) (T : Nat → Nat) (hT : ∀ z, T z ≤ 3969) (k : Nat) (hk : k ≤ 24) : ((List.range k).map (tripF c T)).sum ≤ 95256 := by
  have h := sumM_le (l := List.range k) (F := tripF c T) fun z _ => tripF_le c T hT z
  rw [List.length_range] at h
  have h2 : k * 3969 ≤ 24 * 3969 := Nat.mul_le_mul_right _ hk
  exact Nat.le_trans h h2
def tripN (g : List Nat) (a b c : Nat) : Nat := ((List.range (ordN g)).map (tripF c (tabN g (elems a) (elems b)))).sum
theorem tripN_comm (g : List Nat) (a b c : Nat) : tripN g a b c = tripN g b a c := by
  unfold tripN
  refine sumM_congr fun z _ => ?_
  unfold tripF
  rw [tabN_eq, tabN_eq, cnt2_comm]
/-! ### CorrelationOf -/
def oppN (g : List Nat) (b : Nat) : Nat := orAll (fun y => 2 ^ negN g y) (elems b)
theorem oppN_lt {g : List Nat} (v : VG g) (b : Nat) : oppN g b < 2 ^ ordN g := orFold_lt (Nat.two_pow_pos _) fun y _ => two_pow_lt (negN_lt v.each y)
theorem i_opp_eq {g : List Nat} (v : VG g) {b : Nat} (hb : b < 2 ^ ordN g) : f_i_Group_opposite (ints (natsI g)) (b : Int) = some ((oppN g b : Nat) : Int) := by
  have h24 := v.ord
  have hbl := elems_len b
  have key := loop_foldN (rd := f_i_Group_opposite_r0 (ints (natsI g)) ((elems b).length : Int)) (elems b) (fun (t : Nat) i => ((t : Int), ints (natsI (elems b)), i)) (fun o y => o ||| 2 ^ negN g y) (fun t => (t : Int)) (fun t => t < 2 ^ ordN g) 0 (Nat.two_pow_pos _) (fun k t hk ht => by
    have hy := elems_at hb hk
    simp only [f_i_Group_opposite_r0, f_i_Group_opposite_k0, ints_length, natsI_length, lt_dec hk, in_nat hk, Int.toNat_natCast, kAt_ints, atN_natsI, br_true, i_negate_eq v (show (elems b).getD k 0 < 4611686018427387904 by omega), bo_some, neg_dec, br_false, or_pow v ht (negN_lt v.each ((elems b).getD k 0)), w64_nat (show k < 9223372036854775807 by omega)])
    (fun k t hk ht => or_lt ht (two_pow_lt (negN_lt v.each _)))
    (fun t ht => by simp only [f_i_Group_opposite_r0, f_i_Group_opposite_k0, lt_dec_self, br_false])
  have key1 : loopL (f_i_Group_opposite_r0 (ints (natsI g)) ((elems b).length : Int)) (0, ints (natsI (elems b)), 0) = some (.one ((oppN g b : Nat) : Int)) := key.1
  simp only [f_i_Group_opposite, f_i_Group_opposite_k, i_members_eq (set_i64 v hb), bo_some, ints_length, natsI_length, key1, bl1_one]
theorem s_SumTable_yes {g : List Nat} (v : VG g) {a b : Nat} (ha : a < 2 ^ ordN g) (hb : b < 2 ^ ordN g) : f_s_SumTable (ints (natsI g)) (a : Int) (b : Int) = some (ints (natsI (rowN (ordN g) (tabN g (elems a) (elems b))))) := by
  obtain ⟨g', a', b', e1, v', e2, e3, _, _, e4⟩ := (s_SumTable_eq (natsI g) (a : Int) (b : Int) v.lim).1 (set_of v ha) (set_of v hb)
  have eg : g = g' := by
    have := congrArg (List.map Int.toNat) e1
    rwa [toNat_natsI, toNat_natsI] at this
  have ea : a = a' := by omega
  have eb : b = b' := by omega
  subst eg; subst ea; subst eb
  exact e4
end Go.Proofs.Ytbajbkdmfdfdmaa
