/-
  PlainBK: FnTop: the energy by correlations, the least energy; the draws and the law.
-/
import Derived.Test.YtbajbkdmfdfdmaaPlainBJ
import Derived.Test.YtbajbkdmfdfdmaaPlainAX
import Derived.Test.YtbajbkdmfdfdmaaPlainAS
set_option linter.unusedVariables false
set_option linter.unusedSimpArgs false
namespace Go.Proofs.Ytbajbkdmfdfdmaa
open Go Ev

section
variable {g : List Nat} (v : VG g)
include v
/-! ### The energy by correlations -/
abbrev oneB (a z : Nat) : Nat := if a.testBit z then 1 else 0
theorem minus_iff {x u s : Nat} (hx : x < ordN g) (hu : u < ordN g) (hs : s < ordN g) : addN g s u = x ↔ addN g x (negN g u) = s := by
  constructor
  · rintro rfl
    exact addN_undo v hs
  · rintro rfl
    rw [addN_comm]
    exact addN_forth v hx
theorem rev_sum {a x : Nat} (ha : a < 2 ^ ordN g) (hx : x < ordN g) (H : Nat → Nat) : ((List.range (ordN g)).map fun s => oneB a (addN g x (negN g s)) * H s).sum = ((elems a).map fun u => H (addN g x (negN g u))).sum := by
  have e1 : ((List.range (ordN g)).map fun s => oneB a (addN g x (negN g s)) * H s).sum = ((List.range (ordN g)).map fun s => ((elems a).map fun u => (if addN g x (negN g u) = s then 1 else 0) * H s).sum).sum := by
    refine sumM_congr fun s hs => ?_
    have hs := List.mem_range.1 hs
    rw [sumM_mul]
    congr 1
    show (if a.testBit (addN g x (negN g s)) then 1 else 0) = _
    rw [← cnt1_test v ha hx]
    unfold cnt1
    rw [countP_sum]
    refine sumM_congr fun u hu => ?_
    have := minus_iff v hx (elems_lt ha hu) hs
    by_cases h : addN g s u = x
    · rw [decide_eq_true h, if_pos (this.1 h), if_pos rfl]
    · rw [decide_eq_false h, if_neg (fun e => h (this.2 e)), if_neg (by decide)]
  rw [e1, sumM_swap]
  refine sumM_congr fun u _ => ?_
  rw [sum_delta, if_pos (addN_lt v.each _ _)]
theorem opp_test {a : Nat} (ha : a < 2 ^ ordN g) {z : Nat} (hz : z < ordN g) : (oppN g a).testBit z = a.testBit (negN g z) := by
  have e := opp_bit v ha z
  have nn : ∀ y, y < ordN g → negN g (negN g y) = y := fun y hy => by
    have := neg_of_zero v (x := negN g y) (w := y) hy (by rw [addN_comm]; exact addN_neg g v.each y)
    exact this.symm
  rw [Bool.eq_iff_iff]
  have e' : (oppN g a).testBit z = true ↔ ∃ y, a.testBit y = true ∧ negN g y = z := e
  rw [e']
  constructor
  · rintro ⟨y, hy, rfl⟩
    rw [nn y (bit_lt ha hy)]
    exact hy
  · intro h
    exact ⟨negN g z, h, nn z hz⟩
theorem neg_minus {x s : Nat} (hx : x < ordN g) (hs : s < ordN g) : negN g (addN g s (negN g x)) = addN g x (negN g s) := by
  refine (neg_of_zero v (addN_lt v.each _ _) ?_).symm
  rw [addN_assoc g v.each, ← addN_assoc g v.each (negN g x) x, addN_comm g (negN g x) x, addN_neg g v.each, addN_zero g _ v.each (negN_lt v.each s), addN_neg g v.each]
theorem corr_eq {a : Nat} (ha : a < 2 ^ ordN g) {s : Nat} (hs : s < ordN g) : cnt2 g (elems a) (elems (oppN g a)) s = ((elems a).map fun x => oneB a (addN g x (negN g s))).sum := by
  unfold cnt2
  refine sumM_congr fun x hx => ?_
  have hxl := elems_lt ha hx
  rw [cnt1_test v (oppN_lt v a) hs, opp_test v ha (addN_lt v.each _ _), neg_minus v hxl hs]
theorem corr_energy {a b : Nat} (ha : a < 2 ^ ordN g) (hb : b < 2 ^ ordN g) : ((List.range (ordN g)).map fun s => tabN g (elems a) (elems (oppN g a)) s * tabN g (elems b) (elems (oppN g b)) s).sum = energyN g a b := by
  have eL : ((List.range (ordN g)).map fun s => tabN g (elems a) (elems (oppN g a)) s * tabN g (elems b) (elems (oppN g b)) s).sum = ((elems a).map fun x => ((elems b).map fun y => ((elems a).map fun u => oneB b (addN g y (negN g (addN g x (negN g u))))).sum).sum).sum := by
    have e1 : ((List.range (ordN g)).map fun s => tabN g (elems a) (elems (oppN g a)) s * tabN g (elems b) (elems (oppN g b)) s).sum = ((List.range (ordN g)).map fun s => ((elems a).map fun x => ((elems b).map fun y => oneB a (addN g x (negN g s)) * oneB b (addN g y (negN g s))).sum).sum).sum := by
      refine sumM_congr fun s hs => ?_
      have hs := List.mem_range.1 hs
      rw [tabN_eq, tabN_eq, corr_eq v ha hs, corr_eq v hb hs, ← sumM_mul]
      refine sumM_congr fun x _ => ?_
      rw [Nat.mul_comm, ← sumM_mul]
      refine sumM_congr fun y _ => Nat.mul_comm _ _
    rw [e1, sumM_swap]
    refine sumM_congr fun x hx => ?_
    rw [sumM_swap]
    refine sumM_congr fun y hy => ?_
    exact rev_sum v ha (elems_lt ha hx) fun s => oneB b (addN g y (negN g s))
  rw [eL]
  unfold energyN
  simp only [tabN_eq]
  rw [table_pairs v (elems a) (elems b) (cnt2 g (elems a) (elems b))]
  have eR : ((elems a).map fun x => ((elems b).map fun y => cnt2 g (elems a) (elems b) (addN g x y)).sum).sum = ((elems a).map fun x => ((elems b).map fun y => ((elems a).map fun u => oneB b (addN g (addN g x y) (negN g u))).sum).sum).sum := by
    refine sumM_congr fun x _ => sumM_congr fun y _ => ?_
    unfold cnt2
    refine sumM_congr fun u _ => ?_
    rw [cnt1_test v hb (addN_lt v.each x y)]
  rw [eR]
  -- the first and the third change places
  have e3 : ((elems a).map fun x => ((elems b).map fun y => ((elems a).map fun u => oneB b (addN g y (negN g (addN g x (negN g u))))).sum).sum).sum = ((elems b).map fun y => ((elems a).map fun x => ((elems a).map fun u => oneB b (addN g y (negN g (addN g x (negN g u))))).sum).sum).sum := sumM_swap _ _ _
  have e4 : ((elems a).map fun x => ((elems b).map fun y => ((elems a).map fun u => oneB b (addN g (addN g x y) (negN g u))).sum).sum).sum = ((elems b).map fun y => ((elems a).map fun x => ((elems a).map fun u => oneB b (addN g (addN g x y) (negN g u))).sum).sum).sum := sumM_swap _ _ _
  rw [e3, e4]
  refine sumM_congr fun y hy => ?_
  rw [sumM_swap]
  refine sumM_congr fun u hu => sumM_congr fun x hx => ?_
  have hxl := elems_lt ha hx
  have hul := elems_lt ha hu
  show oneB b (addN g y (negN g (addN g x (negN g u)))) = oneB b (addN g (addN g u y) (negN g x))
  rw [neg_minus v hul hxl, ← addN_assoc g v.each, addN_comm g y u]
/-! ### The least energy -/
omit v in
theorem cs_two (x : Nat) : ∀ l : List Nat, 2 * x * l.sum ≤ l.countP (fun y => decide (0 < y)) * (x * x) + (l.map fun y => y * y).sum
  | [] => by simp
  | y :: l => by
    have ih := cs_two x l
    rw [List.sum_cons, List.map_cons, List.sum_cons, List.countP_cons]
    by_cases h : 0 < y
    · have h2 : 2 * x * y ≤ x * x + y * y := by
        rcases Nat.le_total x y with hle | hle
        · obtain ⟨d, rfl⟩ : ∃ d, y = x + d := ⟨y - x, by omega⟩
          have : (x + d) * (x + d) = x * x + 2 * x * d + d * d := by
            rw [Nat.add_mul, Nat.mul_add, Nat.mul_add, Nat.mul_comm d x, Nat.mul_assoc 2 x d]; omega
          have h3 : 2 * x * (x + d) = 2 * (x * x) + 2 * x * d := by rw [Nat.mul_add, Nat.mul_assoc 2 x x]
          omega
        · obtain ⟨d, rfl⟩ : ∃ d, x = y + d := ⟨x - y, by omega⟩
          have : (y + d) * (y + d) = y * y + 2 * (d * y) + d * d := by
            rw [Nat.add_mul, Nat.mul_add, Nat.mul_add, Nat.mul_comm y d]; omega
          have h3 : 2 * (y + d) * y = 2 * (y * y) + 2 * (d * y) := by rw [Nat.mul_assoc, Nat.add_mul, Nat.mul_add]
          omega
      rw [decide_eq_true h, if_pos rfl, Nat.mul_add, Nat.add_mul, Nat.one_mul]
      omega
    · have h0 : y = 0 := by omega
      subst h0
      rw [if_neg (by decide)]
      simpa using ih
omit v in
theorem cs_sum : ∀ l : List Nat, l.sum * l.sum ≤ l.countP (fun y => decide (0 < y)) * (l.map fun y => y * y).sum
  | [] => by simp
  | x :: l => by
    have ih := cs_sum l
    have h2 := cs_two x l
    rw [List.sum_cons, List.map_cons, List.sum_cons, List.countP_cons]
    by_cases h : 0 < x
    · rw [decide_eq_true h, if_pos rfl]
      generalize l.countP (fun y => decide (0 < y)) = n at *
      generalize (l.map fun y => y * y).sum = q at *
      generalize l.sum = s at *
      have e1 : (x + s) * (x + s) = x * x + 2 * x * s + s * s := by
        rw [Nat.add_mul, Nat.mul_add, Nat.mul_add, Nat.mul_comm s x, Nat.mul_assoc 2 x s]; omega
      have e2 : (n + 1) * (x * x + q) = n * (x * x) + n * q + (x * x + q) := by rw [Nat.add_mul, Nat.mul_add, Nat.one_mul]
      rw [e1, e2]
      omega
    · have h0 : x = 0 := by omega
      subst h0
      rw [if_neg (by decide)]
      simpa using ih
theorem tab_pos {a b : Nat} (ha : a < 2 ^ ordN g) (hb : b < 2 ^ ordN g) : (List.range (ordN g)).countP (fun s => decide (0 < tabN g (elems a) (elems b) s)) = popN (sumN g a b) := by
  have hl := sumN_lt v a b
  have h63 : popN (sumN g a b) = ((List.range (ordN g)).filter fun x => (sumN g a b).testBit x).length := by
    rw [filter_len]
    exact pcn_small (ordN g) 63 _ hl (by have := v.ord; omega)
  rw [h63, ← List.countP_eq_length_filter]
  apply List.countP_congr
  intro s hs
  have hs := List.mem_range.1 hs
  rw [← sumN_comm g b a, ← pop_sum v ha hb, popS_test, decide_eq_true hs, Bool.true_and]
  simp only [decide_eq_true_eq]
  omega
theorem energy_ge {a b : Nat} (ha : a < 2 ^ ordN g) (hb : b < 2 ^ ordN g) : (popN a * popN b) * (popN a * popN b) ≤ energyN g a b * popN (sumN g a b) := by
  have h := cs_sum ((List.range (ordN g)).map (tabN g (elems a) (elems b)))
  rw [List.countP_map, List.map_map] at h
  have e1 : ((List.range (ordN g)).map (tabN g (elems a) (elems b))).sum = popN a * popN b := by
    rw [← cnt_total v a b]
    exact sumM_congr fun s _ => tabN_eq g _ _ s
  have e2 : (List.range (ordN g)).countP ((fun y => decide (0 < y)) ∘ tabN g (elems a) (elems b)) = popN (sumN g a b) := tab_pos v ha hb
  have e3 : ((List.range (ordN g)).map ((fun y => y * y) ∘ tabN g (elems a) (elems b))).sum = energyN g a b := rfl
  rw [e1, e2, e3, Nat.mul_comm (popN (sumN g a b))] at h
  exact h
theorem energy_le (a b : Nat) : energyN g a b ≤ 400000000 := sq_le _ (tabN_small g a b) _ v.ord
end
/-! ### The draws -/
theorem l6Set_ok {x0 : List Int} {c : List Sc × Int × Int} (h : Cur x0 c) : ∃ G x c', f_s_l6Set_io c.1 c.2.1 c.2.2 = some (ints G, x, c') ∧ Cur x0 c' ∧ G.length ≤ 4 := by
  obtain ⟨G, x, c1, e1, h1, hG⟩ := l5Group_ok h
  have hGl : G.length ≤ lim := Nat.le_trans hG (by decide)
  obtain ⟨a, c2, e2, h2⟩ := l3Set_ok h1 G hGl
  obtain ⟨b, s1, _, s3⟩ := IsSubgroup_both G x hGl
  obtain ⟨q, c3, e3, h3⟩ := l1Once_ok h2 2 (by decide)
  simp only [f_s_l6Set_io, f_s_l6Set_io_k, e1, bo_some, e2, s_IsSet_eq G a hGl, s1, e3]
  cases hs : setG G a with
  | false => exact ⟨G, _, _, rfl, ⟨h2.row, h2.low, h2.len⟩, hG⟩
  | true =>
    cases b with
    | false => exact ⟨G, _, _, rfl, ⟨h2.row, h2.low, h2.len⟩, hG⟩
    | true =>
      obtain ⟨g, n, rfl, v, rfl, s⟩ := s3 rfl
      obtain ⟨g', m, eg, v', rfl, hm⟩ := nat_of_set hs
      have eg2 : g = g' := by
        have := congrArg (List.map Int.toNat) eg
        rwa [toNat_natsI, toNat_natsI] at this
      subst eg2
      simp only [s_l4Sum_eq v hm s.lt, bo_some]
      cases q with
      | true => exact ⟨natsI g, _, _, rfl, ⟨h3.row, h3.low, h3.len⟩, hG⟩
      | false => exact ⟨natsI g, _, _, rfl, ⟨h3.row, h3.low, h3.len⟩, hG⟩
theorem l9Two_ok {x0 : List Int} (hx : x0.length ≤ 1048576) : ∃ G a b, f_s_l9Two (bytesL x0) = some (ints G, a, b) ∧ G.length ≤ 4 := by
  obtain ⟨c, e, h⟩ := l1New_ok hx
  obtain ⟨G, x, c1, e1, h1, hG⟩ := l6Set_ok h
  obtain ⟨q, c2, e2, h2⟩ := l1Once_ok h1 3 (by decide)
  obtain ⟨y, c3, e3, h3⟩ := l3Set_ok h2 G (Nat.le_trans hG (by decide))
  simp only [f_s_l9Two, f_s_l9Two_k, f_s_l9Two_g5, f_s_l9Two_g5_k, e, bo_some, e1, e2, e3]
  cases q with
  | true => exact ⟨G, x, x, rfl, hG⟩
  | false => exact ⟨G, x, y, rfl, hG⟩
/-! ### The law -/
theorem i_areFull_nat {g : List Nat} (v : VG g) {a b : Nat} (ha : a < 2 ^ ordN g) (hb : b < 2 ^ ordN g) : f_i_areFull (ints (natsI g)) (a : Int) (b : Int) = some (decide (a ≠ 0) && decide (b ≠ 0)) := by
  simp only [f_i_areFull, f_i_areFull_k, i_areSets2 _ _ _ v.lim, set_of v ha, set_of v hb, v.isG, Bool.and_true, bo_some, BEq.rfl, br_true, ne_zero_dec]
  cases decide (a ≠ 0) <;> rfl
theorem i_Pair_nat {g : List Nat} (v : VG g) {a b : Nat} (ha : a < 2 ^ ordN g) (hb : b < 2 ^ ordN g) (h0 : a ≠ 0) (h1 : b ≠ 0) : f_i_KneserPair (ints (natsI g)) (a : Int) (b : Int) = some (((stN g (sumN g a b) : Nat) : Int), ((sumN g a (stN g (sumN g a b)) : Nat) : Int), ((sumN g b (stN g (sumN g a b)) : Nat) : Int), true) := by
  have hs := sumN_lt v a b
  have s := stab_sub v hs
  simp only [f_i_KneserPair, f_i_KneserPair_k, i_areFull_nat v ha hb, decide_eq_true h0, decide_eq_true h1, Bool.and_true, bo_some, Bool.not_true, br_false, i_sum_eq v ha hb, i_stab_eq v hs (set_of v hs), i_sum_eq v s.lt ha, i_sum_eq v s.lt hb, sumN_comm g (stabN g (sumN g a b) (ordN g))]
/-- The bound of a pair. -/
def knN (g : List Nat) (a b : Nat) : Nat := popN (sumN g a (stN g (sumN g a b))) + popN (sumN g b (stN g (sumN g a b))) - popN (stN g (sumN g a b))
theorem kn_w {g : List Nat} (v : VG g) {a b : Nat} (ha : a < 2 ^ ordN g) (hb : b < 2 ^ ordN g) (h0 : a ≠ 0) : w64 (w64 (((popN (sumN g a (stN g (sumN g a b))) : Nat) : Int) + ((popN (sumN g b (stN g (sumN g a b))) : Nat) : Int)) - ((popN (stN g (sumN g a b)) : Nat) : Int)) = ((knN g a b : Nat) : Int) := by
  have hs := sumN_lt v a b
  have s := stab_sub v hs
  have p1 := popN_le (sumN g a (stN g (sumN g a b)))
  have p2 := popN_le (sumN g b (stN g (sumN g a b)))
  have hx : ∃ x, a.testBit x = true := by
    refine Classical.byContradiction fun hn => h0 ?_
    apply Nat.eq_of_testBit_eq
    intro z
    rw [Nat.zero_testBit]
    cases e : a.testBit z with
    | false => rfl
    | true => exact absurd ⟨z, e⟩ hn
  obtain ⟨x, hx⟩ := hx
  have hle : popN (stN g (sumN g a b)) ≤ popN (sumN g a (stN g (sumN g a b))) := by
    refine pop_inj (fun h => addN g x h) (set_i64 v s.lt) (set_i64 v (sumN_lt v _ _)) (fun h hh => (sum_bit v ha s.lt _).2 ⟨x, h, hx, hh, rfl⟩) fun y z h1 h2 e => add_cancel v (bit_lt s.lt h1) (bit_lt s.lt h2) e
  unfold knN
  rw [← Int.natCast_add, w64_cast (by omega), ← Int.ofNat_sub (by omega), w64_cast (by omega)]
theorem i_Kneser_nat {g : List Nat} (v : VG g) {a b : Nat} (ha : a < 2 ^ ordN g) (hb : b < 2 ^ ordN g) (h0 : a ≠ 0) (h1 : b ≠ 0) : f_i_KneserBound (ints (natsI g)) (a : Int) (b : Int) = some ((knN g a b : Nat) : Int) := by
  have s := stab_sub v (sumN_lt v a b)
  have kw := kn_w v ha hb h0
  simp only [f_i_KneserBound, f_i_KneserBound_k, i_Pair_nat v ha hb h0 h1, bo_some, Bool.not_true, br_false, i_bits_eq (set_i64 v (sumN_lt v a (stN g (sumN g a b)))), i_bits_eq (set_i64 v (sumN_lt v b (stN g (sumN g a b)))), i_bits_eq (set_i64 v s.lt), kw]
theorem s_Kneser_nat {g : List Nat} (v : VG g) {a b : Nat} (ha : a < 2 ^ ordN g) (hb : b < 2 ^ ordN g) (h0 : a ≠ 0) (h1 : b ≠ 0) : f_s_KneserBound (ints (natsI g)) (a : Int) (b : Int) = some ((knN g a b : Nat) : Int) := by
  have hs := sumN_lt v a b
  have s := stab_sub v hs
  have kw := kn_w v ha hb h0
  have z0 : ((a : Int) == 0) = false := beq_eq_false_iff_ne.2 (by omega)
  have z1 : ((b : Int) == 0) = false := beq_eq_false_iff_ne.2 (by omega)
  simp only [f_s_KneserBound, f_s_KneserBound_k, s_IsSet_eq _ _ v.lim, set_of v ha, set_of v hb, bo_some, Bool.not_true, BEq.rfl, br_true, br_false, z0, z1, s_l4Sum_eq v ha hb, sumN_comm g b a, s_stab_eq v hs, s_l4Sum_eq v ha s.lt, s_l4Sum_eq v hb s.lt, sumN_comm g (stabN g (sumN g a b) (ordN g)),
    s_l3Bits_eq (set_i64 v (sumN_lt v a (stN g (sumN g a b)))), s_l3Bits_eq (set_i64 v (sumN_lt v b (stN g (sumN g a b)))), s_l3Bits_eq (set_i64 v s.lt), kw]
theorem FnTop_w27_nat {g : List Nat} (v : VG g) {a b : Nat} (ha : a < 2 ^ ordN g) (hb : b < 2 ^ ordN g) : f_l_FnTop_w27 (ints (natsI g)) (a : Int) (b : Int) ((sumN g a b : Nat) : Int) (ints (natsI (rowN (ordN g) (tabN g (elems a) (elems b))))) = some true := by
  have h24 := v.ord
  have key := loop_count (rd := f_l_FnTop_r2 (a : Int) (b : Int) ((sumN g a b : Nat) : Int)) (fun k => (ints (natsI g), ints (natsI (rowN (ordN g) (tabN g (elems a) (elems b)))), (k : Int))) (ordN g) (a := ints (natsI g)) (fun k hk => by
    have hh : hasG (natsI g) (k : Int) = true := (v.has _).2 ⟨k, rfl, hk⟩
    have cs : f_i_CountSums (ints (natsI g)) (a : Int) (b : Int) (k : Int) = some ((tabN g (elems a) (elems b) k : Nat) : Int) := by
      simp only [f_i_CountSums, f_i_CountSums_k, i_areSets2 _ _ _ v.lim, set_of v ha, set_of v hb, v.isG, Bool.and_true, bo_some, Bool.not_true, BEq.rfl, br_true, br_false, i_has_eq _ _ v.lim, hh, i_SumTable_eq v ha hb (set_of v ha) (set_of v hb), natsI_row_len, in_nat hk, Int.toNat_natCast, kAt_ints, atN_natsI, rowN_get hk]
    simp only [f_l_FnTop_r2, f_l_FnTop_k2, natsI_row_len, lt_dec hk, in_nat hk, Int.toNat_natCast, kAt_ints, atN_natsI, rowN_get hk, br_true, cs, bo_some, bne_self_eq_false, br_false, w64_nat (show k < 9223372036854775807 by omega)]) (by
    simp only [f_l_FnTop_r2, f_l_FnTop_k2, natsI_row_len, lt_dec_self, br_false]) 0 (Nat.zero_le _)
  have key' : loopL (f_l_FnTop_r2 (a : Int) (b : Int) ((sumN g a b : Nat) : Int)) (ints (natsI g), ints (natsI (rowN (ordN g) (tabN g (elems a) (elems b)))), 0) = _ := key
  simp only [f_l_FnTop_w27, f_l_FnTop_w27_k, key', bl_one, f_l_FnTop_w32, f_l_FnTop_w32_k, f_i_SumOfSets, f_i_SumOfSets_k, i_areSets2 _ _ _ v.lim, set_of v ha, set_of v hb, v.isG, Bool.and_true, bo_some, Bool.not_true, br_false, i_sum_eq v hb ha, sumN_comm g b a, BEq.rfl]
theorem corr_loop {g : List Nat} (v : VG g) {a b : Nat} (ha : a < 2 ^ ordN g) (hb : b < 2 ^ ordN g) (t4 t5 t6 : Int) (V0 T7 : List Sc) :
    loopL (f_l_FnTop_r0 t4 t5 t6) (V0, T7, ints (natsI (rowN (ordN g) (tabN g (elems a) (elems (oppN g a))))), ints (natsI (rowN (ordN g) (tabN g (elems b) (elems (oppN g b))))), 0, 0) = some (.one (V0, T7, ((energyN g a b : Nat) : Int))) := by
  have h24 := v.ord
  have small : ∀ k, k ≤ ordN g → ((List.range k).map fun s => tabN g (elems a) (elems (oppN g a)) s * tabN g (elems b) (elems (oppN g b)) s).sum ≤ 400000000 := fun k hk => by
    have h := sumM_le (l := List.range k) (F := fun s => tabN g (elems a) (elems (oppN g a)) s * tabN g (elems b) (elems (oppN g b)) s) (M := 3969 * 3969) fun z _ => Nat.mul_le_mul (tabN_small g a _ z) (tabN_small g b _ z)
    rw [List.length_range] at h
    have : k * (3969 * 3969) ≤ 24 * (3969 * 3969) := Nat.mul_le_mul_right _ (by omega)
    omega
  have key := loop_count (rd := f_l_FnTop_r0 t4 t5 t6) (fun k => (V0, T7, ints (natsI (rowN (ordN g) (tabN g (elems a) (elems (oppN g a))))), ints (natsI (rowN (ordN g) (tabN g (elems b) (elems (oppN g b))))), ((((List.range k).map fun s => tabN g (elems a) (elems (oppN g a)) s * tabN g (elems b) (elems (oppN g b)) s).sum : Nat) : Int), (k : Int))) (ordN g)
    (a := (V0, T7, ((((List.range (ordN g)).map fun s => tabN g (elems a) (elems (oppN g a)) s * tabN g (elems b) (elems (oppN g b)) s).sum : Nat) : Int))) (fun k hk => by
      have h1 := small k (by omega)
      have h2 := Nat.mul_le_mul (tabN_small g a (oppN g a) k) (tabN_small g b (oppN g b) k)
      have ew : w64 (((tabN g (elems a) (elems (oppN g a)) k : Nat) : Int) * ((tabN g (elems b) (elems (oppN g b)) k : Nat) : Int)) = ((tabN g (elems a) (elems (oppN g a)) k * tabN g (elems b) (elems (oppN g b)) k : Nat) : Int) := by rw [← Int.natCast_mul]; exact w64_cast (by omega)
      simp only [f_l_FnTop_r0, f_l_FnTop_k0, natsI_row_len, lt_dec hk, in_nat hk, Int.toNat_natCast, kAt_ints, atN_natsI, rowN_get hk, br_true, BEq.rfl, ew, ← Int.natCast_add, w64_cast (show ((List.range k).map fun s => tabN g (elems a) (elems (oppN g a)) s * tabN g (elems b) (elems (oppN g b)) s).sum + tabN g (elems a) (elems (oppN g a)) k * tabN g (elems b) (elems (oppN g b)) k < 9223372036854775808 by omega), sum_range_succ, w64_nat (show k < 9223372036854775807 by omega)]) (by
      have ff : (false == true) = false := rfl
      simp only [f_l_FnTop_r0, f_l_FnTop_k0, natsI_row_len, lt_dec_self, ff, br_false]) 0 (Nat.zero_le _)
  rw [corr_energy v ha hb] at key
  exact key
theorem FnTop_w11_nat {g : List Nat} (v : VG g) {a b : Nat} (ha : a < 2 ^ ordN g) (hb : b < 2 ^ ordN g) (h0 : a ≠ 0) (h1 : b ≠ 0) : f_l_FnTop_w11 (ints (natsI g)) (a : Int) (b : Int) ((sumN g a b : Nat) : Int) (ints (natsI (rowN (ordN g) (tabN g (elems a) (elems b))))) ((knN g a b : Nat) : Int) = some true := by
  have h24 := v.ord
  have hs := sumN_lt v a b
  have s := stab_sub v hs
  have bit : ∀ {c : Nat}, c ≠ 0 → ∃ x, c.testBit x = true := fun {c} h0 => by
    refine Classical.byContradiction fun hn => h0 ?_
    apply Nat.eq_of_testBit_eq
    intro z
    rw [Nat.zero_testBit]
    cases e : c.testBit z with
    | false => rfl
    | true => exact absurd ⟨z, e⟩ hn
  obtain ⟨x, hx⟩ := bit h0
  obtain ⟨y, hy⟩ := bit h1
  have kn := kneser v ha hb hx hy
  have kw := kneser_weak v ha hb hx hy
  have l1 := sumN_lt v a (stN g (sumN g a b))
  have l2 := sumN_lt v b (stN g (sumN g a b))
  have hle : knN g a b ≤ popN (sumN g a b) := by unfold knN; omega
  have cS : f_s_CountSet (ints (natsI g)) ((sumN g a b : Nat) : Int) = some ((popN (sumN g a b) : Nat) : Int) := by
    simp only [f_s_CountSet, f_s_CountSet_k, s_IsSet_eq _ _ v.lim, set_of v hs, bo_some, Bool.not_true, br_false, s_l3Bits_eq (set_i64 v hs)]
  have cA : f_s_CountSet (ints (natsI g)) (a : Int) = some ((popN a : Nat) : Int) := by
    simp only [f_s_CountSet, f_s_CountSet_k, s_IsSet_eq _ _ v.lim, set_of v ha, bo_some, Bool.not_true, br_false, s_l3Bits_eq (set_i64 v ha)]
  have cB : f_s_CountSet (ints (natsI g)) (b : Int) = some ((popN b : Nat) : Int) := by
    simp only [f_s_CountSet, f_s_CountSet_k, s_IsSet_eq _ _ v.lim, set_of v hb, bo_some, Bool.not_true, br_false, s_l3Bits_eq (set_i64 v hb)]
  obtain ⟨bb, sub1, sub2⟩ := i_IsSubgroup_eq v s.lt (set_of v s.lt)
  rw [sub2.2 s] at sub1
  have hsum : f_i_SumOfSets (ints (natsI g)) ((sumN g a (stN g (sumN g a b)) : Nat) : Int) ((sumN g b (stN g (sumN g a b)) : Nat) : Int) = some ((sumN g a b : Nat) : Int) := by
    simp only [f_i_SumOfSets, f_i_SumOfSets_k, i_areSets2 _ _ _ v.lim, set_of v l1, set_of v l2, v.isG, Bool.and_true, bo_some, Bool.not_true, br_false, i_sum_eq v l1 l2, sum_filled v ha hb]
  have htight : f_i_IsKneserTight (ints (natsI g)) (a : Int) (b : Int) = some (((popN (sumN g a b) : Nat) : Int) == ((knN g a b : Nat) : Int)) := by
    simp only [f_i_IsKneserTight, f_i_IsKneserTight_k, i_areFull_nat v ha hb, decide_eq_true h0, decide_eq_true h1, Bool.and_true, bo_some, BEq.rfl, br_true, i_sum_eq v ha hb, i_bits_eq (set_i64 v hs), i_Kneser_nat v ha hb h0 h1]
  have htot : (rowN (ordN g) (tabN g (elems a) (elems b))).sum = popN a * popN b := by
    unfold rowN
    rw [← cnt_total v a b]
    exact sumM_congr fun s _ => tabN_eq g _ _ s
  have pa := popN_le a
  have pb := popN_le b
  have pab : popN a * popN b ≤ 63 * 63 := Nat.mul_le_mul pa pb
  have tot := l_total_nat (rowN (ordN g) (tabN g (elems a) (elems b))) (by rw [rowN_length]; omega) (by rw [htot]; omega)
  rw [htot] at tot
  have wab : w64 (((popN a : Nat) : Int) * ((popN b : Nat) : Int)) = ((popN a * popN b : Nat) : Int) := by rw [← Int.natCast_mul]; exact w64_cast (by omega)
  have en : f_i_EnergyOf (ints (natsI g)) (a : Int) (b : Int) = some ((energyN g a b : Nat) : Int) := by
    simp only [f_i_EnergyOf, f_i_EnergyOf_k, i_areSets2 _ _ _ v.lim, set_of v ha, set_of v hb, v.isG, Bool.and_true, bo_some, Bool.not_true, br_false, i_SumTable_eq v ha hb (set_of v ha) (set_of v hb), natsI_row_len, i_Energy_loop h24 (tabN_small g a b), bl1_one]
    rfl
  have hE := energy_le v a b
  have pS := popN_le (sumN g a b)
  have hEP : energyN g a b * popN (sumN g a b) ≤ 400000000 * 63 := Nat.mul_le_mul hE pS
  have hTT : (popN a * popN b) * (popN a * popN b) ≤ 3969 * 3969 := Nat.mul_le_mul (by omega) (by omega)
  have we : w64 (((energyN g a b : Nat) : Int) * ((popN (sumN g a b) : Nat) : Int)) = ((energyN g a b * popN (sumN g a b) : Nat) : Int) := by rw [← Int.natCast_mul]; exact w64_cast (by omega)
  have wt : w64 (((popN a * popN b : Nat) : Int) * ((popN a * popN b : Nat) : Int)) = ((popN a * popN b * (popN a * popN b) : Nat) : Int) := by rw [← Int.natCast_mul]; exact w64_cast (by omega)
  have hge := energy_ge v ha hb
  have dE : decide (((energyN g a b * popN (sumN g a b) : Nat) : Int) < ((popN a * popN b * (popN a * popN b) : Nat) : Int)) = false := decide_eq_false (by omega)
  have dk : decide (((popN (sumN g a b) : Nat) : Int) < ((knN g a b : Nat) : Int)) = false := decide_eq_false (by omega)
  have d0 : decide (((knN g a b : Nat) : Int) ≥ 0) = true := decide_eq_true (by omega)
  have wp : w64 (w64 (((popN a : Nat) : Int) + ((popN b : Nat) : Int)) - 1) = ((popN a : Nat) : Int) + ((popN b : Nat) : Int) - 1 := by
    rw [w64_in (x := ((popN a : Nat) : Int) + ((popN b : Nat) : Int)) (by omega) (by omega), w64_in (by omega) (by omega)]
  have corA : f_i_CorrelationOf (ints (natsI g)) (a : Int) (a : Int) = some (ints (natsI (rowN (ordN g) (tabN g (elems a) (elems (oppN g a)))))) := by
    simp only [f_i_CorrelationOf, f_i_CorrelationOf_k, i_areSets2 _ _ _ v.lim, set_of v ha, v.isG, Bool.and_true, bo_some, Bool.not_true, br_false, i_opp_eq v ha, i_SumTable_eq v ha (oppN_lt v a) (set_of v ha) (set_of v (oppN_lt v a))]
  have corB : f_i_CorrelationOf (ints (natsI g)) (b : Int) (b : Int) = some (ints (natsI (rowN (ordN g) (tabN g (elems b) (elems (oppN g b)))))) := by
    simp only [f_i_CorrelationOf, f_i_CorrelationOf_k, i_areSets2 _ _ _ v.lim, set_of v hb, v.isG, Bool.and_true, bo_some, Bool.not_true, br_false, i_opp_eq v hb, i_SumTable_eq v hb (oppN_lt v b) (set_of v hb) (set_of v (oppN_lt v b))]
  have per : f_i_IsPeriodic (ints (natsI g)) ((sumN g a b : Nat) : Int) = some (decide (((popN (stN g (sumN g a b)) : Nat) : Int) > 1)) := by
    have hm := s.zero
    have po := pop_odd (set_i64 v s.lt) hm
    simp only [f_i_IsPeriodic, f_i_IsPeriodic_k, i_IsSet_eq _ _ v.lim, set_of v hs, BEq.rfl, br_true, i_stab_eq v hs (set_of v hs), bo_some, i_bits_eq (set_i64 v s.lt)]
  have w18 : f_l_FnTop_w18 (ints (natsI g)) (a : Int) (b : Int) ((sumN g a b : Nat) : Int) (ints (natsI (rowN (ordN g) (tabN g (elems a) (elems b))))) = some (.two (ints (natsI g), ints (natsI (rowN (ordN g) (tabN g (elems a) (elems b)))))) := by
    simp only [f_l_FnTop_w18, f_l_FnTop_w18_k, corA, corB, bo_some, corr_loop v ha hb, bl1_one, f_l_FnTop_w25, f_l_FnTop_w25_k, en, bne_self_eq_false, br_false, bl_two]
  have w16 : f_l_FnTop_w16 (ints (natsI g)) (a : Int) (b : Int) ((sumN g a b : Nat) : Int) (ints (natsI (rowN (ordN g) (tabN g (elems a) (elems b))))) ((popN (sumN g a b) : Nat) : Int) = some (.two (ints (natsI g), ints (natsI (rowN (ordN g) (tabN g (elems a) (elems b)))))) := by
    simp only [f_l_FnTop_w16, f_l_FnTop_w16_k, cA, cB, bo_some, wp, per, w18, bl_two]
    by_cases hp : ((popN (sumN g a b) : Nat) : Int) < ((popN a : Nat) : Int) + ((popN b : Nat) : Int) - 1
    · have d2 : decide (((popN (stN g (sumN g a b)) : Nat) : Int) > 1) = true := decide_eq_true (by omega)
      simp only [decide_eq_true hp, BEq.rfl, br_true, d2, Bool.not_true, br_false]
    · have ff : (false == true) = false := rfl
      simp only [decide_eq_false hp, ff, br_false]
  simp only [f_l_FnTop_w11, f_l_FnTop_w11_k, d0, br_true, i_Pair_nat v ha hb h0 h1, bo_some, f_l_FnTop_w14, f_l_FnTop_w14_k, f_l_FnTop_m14_0_k, f_l_FnTop_m14_1_k, f_l_FnTop_m14_2_k, f_l_FnTop_m14_3_k, f_l_FnTop_m14_4_k, f_l_FnTop_m14_5_k, cS, Bool.not_true, BEq.rfl, dk, sub1, i_stab_eq v hs (set_of v hs), bne_self_eq_false, hsum, htight, tot, cA, cB, wab, en, we, wt, dE, br_false, w16, bl_two, FnTop_w27_nat v ha hb]
theorem FnTop_plain (x0 : List Int) (w0 : x0.length ≤ maxLen) : f_l_FnTop (bytesL x0) = some true := by
  simp only [f_l_FnTop, f_l_FnTop_k, f_l_big, f_l_big_k, bytesL_len, bo_some]
  by_cases hbig : (x0.length : Int) > 1048576
  · rw [decide_eq_true hbig]
    rfl
  · rw [decide_eq_false hbig]
    have hx0 : x0.length ≤ 1048576 := by omega
    obtain ⟨G, x, y, e1, hG⟩ := l9Two_ok hx0
    have hGl : G.length ≤ lim := Nat.le_trans hG (by decide)
    have key : f_l_FnTop_w3 (bytesL x0) = some true := by
      by_cases hall : setG G x = true ∧ setG G y = true
      · obtain ⟨sx, sy⟩ := hall
        obtain ⟨g, a, b, rfl, v, rfl, rfl, ha, hb⟩ := two_sets sx sy
        have h24 := v.ord
        have q1 : f_i_SumOfSets (ints (natsI g)) (a : Int) (b : Int) = some ((sumN g a b : Nat) : Int) := by
          simp only [f_i_SumOfSets, f_i_SumOfSets_k, i_areSets2 _ _ _ v.lim, sx, sy, v.isG, Bool.and_true, bo_some, Bool.not_true, br_false, i_sum_eq v ha hb]
        have q2 : f_s_SumOfSets (ints (natsI g)) (a : Int) (b : Int) = some ((sumN g a b : Nat) : Int) := by
          simp only [f_s_SumOfSets, f_s_SumOfSets_k, s_IsSet_eq _ _ v.lim, sx, sy, bo_some, Bool.not_true, BEq.rfl, br_true, br_false, s_l4Sum_eq v ha hb, sumN_comm g b a]
        have sm := sameInts_self (natsI (rowN (ordN g) (tabN g (elems a) (elems b)))) (by rw [natsI_length, rowN_length]; exact Nat.le_trans h24 (by decide))
        have w8 : f_l_FnTop_w8 (ints (natsI g)) (a : Int) (b : Int) ((sumN g a b : Nat) : Int) (ints (natsI (rowN (ordN g) (tabN g (elems a) (elems b))))) = some true := by
          by_cases h0 : a ≠ 0 ∧ b ≠ 0
          · simp only [f_l_FnTop_w8, f_l_FnTop_w8_k, i_Kneser_nat v ha hb h0.1 h0.2, s_Kneser_nat v ha hb h0.1 h0.2, bo_some, bne_self_eq_false, br_false, FnTop_w11_nat v ha hb h0.1 h0.2]
          · have hf : (decide (a ≠ 0) && decide (b ≠ 0)) = false := by
              by_cases ha0 : a ≠ 0
              · have hb0 : ¬ b ≠ 0 := fun h => h0 ⟨ha0, h⟩
                rw [decide_eq_false hb0, Bool.and_false]
              · rw [decide_eq_false ha0, Bool.false_and]
            have k1 : f_i_KneserBound (ints (natsI g)) (a : Int) (b : Int) = some (-1) := by
              simp only [f_i_KneserBound, f_i_KneserBound_k, f_i_KneserPair, f_i_KneserPair_k, i_areFull_nat v ha hb, hf, bo_some, Bool.not_false, br_true]
            have k2 : f_s_KneserBound (ints (natsI g)) (a : Int) (b : Int) = some (-1) := by
              by_cases ha0 : a = 0
              · have z0 : ((a : Int) == 0) = true := by rw [ha0]; rfl
                simp only [f_s_KneserBound, f_s_KneserBound_k, s_IsSet_eq _ _ v.lim, sx, sy, bo_some, Bool.not_true, BEq.rfl, br_true, z0]
                rfl
              · have hb0 : b = 0 := Classical.byContradiction fun h => h0 ⟨ha0, h⟩
                have z0 : ((a : Int) == 0) = false := beq_eq_false_iff_ne.2 (by omega)
                have z1 : ((b : Int) == 0) = true := by rw [hb0]; rfl
                simp only [f_s_KneserBound, f_s_KneserBound_k, s_IsSet_eq _ _ v.lim, sx, sy, bo_some, Bool.not_true, BEq.rfl, br_true, z0, z1]
            have dm : decide ((-1 : Int) ≥ 0) = false := by decide
            simp only [f_l_FnTop_w8, f_l_FnTop_w8_k, k1, k2, bo_some, bne_self_eq_false, br_false, f_l_FnTop_w11, f_l_FnTop_w11_k, dm, FnTop_w27_nat v ha hb]
        simp only [f_l_FnTop_w3, f_l_FnTop_w3_k, f_s_DrawKneserBound, f_s_DrawKneserBound_k, e1, bo_some, q1, q2, i_SumTable_eq v ha hb sx sy, s_SumTable_yes v ha hb, sm, bne_self_eq_false, BEq.rfl, Bool.not_true, br_true, br_false, w8]
      · have hn : setG G x = false ∨ setG G y = false := by
          by_cases sx : setG G x = true
          · exact .inr (by cases hy : setG G y with
              | false => rfl
              | true => exact absurd ⟨sx, hy⟩ hall)
          · exact .inl (by simpa using sx)
        have hand : (setG G x && setG G y && isG G) = false := by
          rcases hn with h | h
          · rw [h]; rfl
          · rw [h, Bool.and_false]; rfl
        have hand2 : (setG G y && setG G x && isG G) = false := by
          rcases hn with h | h
          · rw [h, Bool.and_false]; rfl
          · rw [h]; rfl
        have q1 : f_i_SumOfSets (ints G) x y = some (-1) := by
          simp only [f_i_SumOfSets, f_i_SumOfSets_k, i_areSets2 _ _ _ hGl, hand, bo_some, Bool.not_false, br_true]
        have q1' : f_i_SumOfSets (ints G) y x = some (-1) := by
          simp only [f_i_SumOfSets, f_i_SumOfSets_k, i_areSets2 _ _ _ hGl, hand2, bo_some, Bool.not_false, br_true]
        have q2 : f_s_SumOfSets (ints G) x y = some (-1) := by
          simp only [f_s_SumOfSets, f_s_SumOfSets_k, s_IsSet_eq _ _ hGl, bo_some]
          rcases hn with h | h
          · rw [h]; rfl
          · rw [h]; cases setG G x <;> rfl
        have q3 : f_i_SumTable (ints G) x y = some [] := by
          simp only [f_i_SumTable, f_i_SumTable_k, i_areSets2 _ _ _ hGl, hand, bo_some, Bool.not_false, br_true]
        have q4 : f_s_SumTable (ints G) x y = some [] := (s_SumTable_eq G x y hGl).2 hn
        have k1 : f_i_KneserBound (ints G) x y = some (-1) := by
          have ff : (false == true) = false := rfl
          simp only [f_i_KneserBound, f_i_KneserBound_k, f_i_KneserPair, f_i_KneserPair_k, f_i_areFull, f_i_areFull_k, i_areSets2 _ _ _ hGl, hand, bo_some, ff, br_false, Bool.not_false, br_true]
        have k2 : f_s_KneserBound (ints G) x y = some (-1) := by
          simp only [f_s_KneserBound, f_s_KneserBound_k, s_IsSet_eq _ _ hGl, bo_some]
          rcases hn with h | h
          · rw [h]; rfl
          · rw [h]; cases setG G x <;> rfl
        have s0 : f_l_sameInts [] [] = some true := sameInts_self [] (by decide)
        have dm : decide ((-1 : Int) ≥ 0) = false := by decide
        have lp : loopL (f_l_FnTop_r2 x y (-1)) (ints G, [], 0) = some (.one (ints G)) := loopL_one (by
          have d : decide ((0 : Int) < (([] : List Sc).length : Int)) = false := by decide
          simp only [f_l_FnTop_r2, f_l_FnTop_k2, d, br_false])
        simp only [f_l_FnTop_w3, f_l_FnTop_w3_k, f_s_DrawKneserBound, f_s_DrawKneserBound_k, e1, bo_some, q1, q2, q3, q4, s0, bne_self_eq_false, BEq.rfl, Bool.not_true, br_true, br_false, f_l_FnTop_w8, f_l_FnTop_w8_k, k1, k2, f_l_FnTop_w11, f_l_FnTop_w11_k, dm, f_l_FnTop_w27, f_l_FnTop_w27_k, lp, bl_one, f_l_FnTop_w32, f_l_FnTop_w32_k, q1']
    rw [key]
    rfl
end Go.Proofs.Ytbajbkdmfdfdmaa
