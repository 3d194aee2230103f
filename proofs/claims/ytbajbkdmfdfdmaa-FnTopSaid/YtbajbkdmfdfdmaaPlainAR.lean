/-
  PlainAR: tables of sums: SumTable, EnergyOf, QuadruplesOf, PopularSums, TripleCount.
-/
import Derived.Test.YtbajbkdmfdfdmaaPlainK
import Derived.Test.YtbajbkdmfdfdmaaPlainV
import Derived.Test.YtbajbkdmfdfdmaaPlainH
set_option linter.unusedVariables false
set_option linter.unusedSimpArgs false
namespace Go.Proofs.Ytbajbkdmfdfdmaa
open Go Ev

/-! ### Sums over lists -/
theorem sumM_add {α : Type} (F G : α → Nat) : ∀ l : List α, (l.map fun x => F x + G x).sum = (l.map F).sum + (l.map G).sum
  | [] => rfl
  | x :: l => by rw [List.map_cons, List.sum_cons, sumM_add F G l, List.map_cons, List.map_cons, List.sum_cons, List.sum_cons]; omega
theorem sumM_zero {α : Type} : ∀ l : List α, (l.map fun _ => 0).sum = 0
  | [] => rfl
  | x :: l => by rw [List.map_cons, List.sum_cons, sumM_zero l]
theorem sumM_mul {α : Type} (F : α → Nat) (c : Nat) : ∀ l : List α, (l.map fun x => F x * c).sum = (l.map F).sum * c
  | [] => by simp
  | x :: l => by rw [List.map_cons, List.sum_cons, sumM_mul F c l, List.map_cons, List.sum_cons, Nat.add_mul]
theorem sumM_swap {α β : Type} (F : α → β → Nat) : ∀ (l : List α) (m : List β), (l.map fun x => (m.map fun y => F x y).sum).sum = (m.map fun y => (l.map fun x => F x y).sum).sum
  | [], m => by simp [sumM_zero]
  | x :: l, m => by
    rw [List.map_cons, List.sum_cons, sumM_swap F l m]
    have : (m.map fun y => ((x :: l).map fun x => F x y).sum) = m.map fun y => F x y + (l.map fun x => F x y).sum := by
      apply List.map_congr_left
      intro y _
      rw [List.map_cons, List.sum_cons]
    rw [this, sumM_add]
theorem sumM_congr {α : Type} {F G : α → Nat} {l : List α} (h : ∀ x ∈ l, F x = G x) : (l.map F).sum = (l.map G).sum := by rw [List.map_congr_left h]
theorem sumM_le {α : Type} {F : α → Nat} {M : Nat} : ∀ {l : List α}, (∀ x ∈ l, F x ≤ M) → (l.map F).sum ≤ l.length * M
  | [], _ => by simp
  | x :: l, h => by
    have h1 := h x (by simp)
    have h2 := sumM_le (l := l) fun y hy => h y (by simp [hy])
    rw [List.map_cons, List.sum_cons, List.length_cons, Nat.add_mul]
    omega
theorem sumM_ge {α : Type} {F : α → Nat} {M : Nat} : ∀ {l : List α}, (∀ x ∈ l, M ≤ F x) → l.length * M ≤ (l.map F).sum
  | [], _ => by simp
  | x :: l, h => by
    have h1 := h x (by simp)
    have h2 := sumM_ge (l := l) fun y hy => h y (by simp [hy])
    rw [List.map_cons, List.sum_cons, List.length_cons, Nat.add_mul]
    omega
theorem countP_sum {α : Type} (p : α → Bool) : ∀ l : List α, l.countP p = (l.map fun y => if p y then 1 else 0).sum
  | [] => rfl
  | x :: l => by
    rw [List.map_cons, List.sum_cons, ← countP_sum p l, List.countP_cons]
    omega
theorem sum_delta (F : Nat → Nat) (z : Nat) : ∀ n, ((List.range n).map fun s => (if z = s then 1 else 0) * F s).sum = if z < n then F z else 0
  | 0 => rfl
  | n + 1 => by
    rw [List.range_succ, List.map_append, List.sum_append, sum_delta F z n]
    simp only [List.map_cons, List.map_nil, List.sum_cons, List.sum_nil, Nat.add_zero]
    by_cases h : z = n
    · subst h; simp
    · rw [if_neg h]
      by_cases h2 : z < n
      · rw [if_pos h2, if_pos (by omega)]; omega
      · rw [if_neg h2, if_neg (by omega)]; omega
theorem range_one (q : Nat → Bool) (w : Nat) : ∀ n, (List.range n).countP (fun x => decide (x = w) && q x) = if decide (w < n) && q w then 1 else 0
  | 0 => by simp
  | n + 1 => by
    rw [List.range_succ, List.countP_append, range_one q w n, List.countP_singleton]
    by_cases h : n = w
    · subst h
      cases hq : q n <;> simp
    · have h1 : decide (n = w) = false := decide_eq_false h
      rw [h1]
      by_cases h2 : w < n
      · have h3 : w < n + 1 := by omega
        simp [h2, h3]
      · have h3 : ¬ w < n + 1 := by omega
        simp [h2, h3]
/-! ### Tables -/
def incN (g : List Nat) (x : Nat) (f : Nat → Nat) (y : Nat) : Nat → Nat := fun z => if z = addN g x y then f z + 1 else f z
def tabF (g B : List Nat) (f : Nat → Nat) (x : Nat) : Nat → Nat := B.foldl (incN g x) f
def tabN (g A B : List Nat) : Nat → Nat := A.foldl (tabF g B) fun _ => 0
def cnt1 (g : List Nat) (x : Nat) (B : List Nat) (z : Nat) : Nat := B.countP fun y => decide (addN g x y = z)
def cnt2 (g A B : List Nat) (z : Nat) : Nat := (A.map fun x => cnt1 g x B z).sum
theorem tabF_eq (g : List Nat) (x z : Nat) : ∀ (B : List Nat) (f : Nat → Nat), tabF g B f x z = f z + cnt1 g x B z
  | [], f => rfl
  | y :: B, f => by
    have ih := tabF_eq g x z B (incN g x f y)
    unfold tabF cnt1 at *
    rw [List.foldl_cons, ih, List.countP_cons]
    unfold incN
    by_cases h : z = addN g x y
    · have h' : decide (addN g x y = z) = true := decide_eq_true h.symm
      rw [if_pos h, h']
      simp
      omega
    · have h' : decide (addN g x y = z) = false := decide_eq_false fun e => h e.symm
      rw [if_neg h, h']
      simp
theorem tabX_eq (g B : List Nat) (z : Nat) : ∀ (A : List Nat) (f : Nat → Nat), A.foldl (tabF g B) f z = f z + cnt2 g A B z
  | [], f => rfl
  | x :: A, f => by
    rw [List.foldl_cons, tabX_eq g B z A, tabF_eq]
    unfold cnt2
    rw [List.map_cons, List.sum_cons]
    omega
theorem tabN_eq (g A B : List Nat) (z : Nat) : tabN g A B z = cnt2 g A B z := by
  unfold tabN
  rw [tabX_eq]
  omega
theorem cnt1_le (g : List Nat) (x : Nat) (B : List Nat) (z : Nat) : cnt1 g x B z ≤ B.length := List.countP_le_length
theorem cnt2_le (g A B : List Nat) (z : Nat) : cnt2 g A B z ≤ A.length * B.length := sumM_le fun x _ => cnt1_le g x B z
theorem cnt2_comm (g A B : List Nat) (z : Nat) : cnt2 g A B z = cnt2 g B A z := by
  unfold cnt2 cnt1
  simp only [countP_sum]
  rw [sumM_swap]
  refine sumM_congr fun y _ => sumM_congr fun x _ => ?_
  rw [addN_comm]
/-- A sum over the table is a sum over the pairs. -/
theorem table_pairs {g : List Nat} (v : VG g) (A B : List Nat) (F : Nat → Nat) : ((List.range (ordN g)).map fun s => cnt2 g A B s * F s).sum = (A.map fun x => (B.map fun y => F (addN g x y)).sum).sum := by
  have e1 : ((List.range (ordN g)).map fun s => cnt2 g A B s * F s).sum = ((List.range (ordN g)).map fun s => (A.map fun x => cnt1 g x B s * F s).sum).sum := by
    refine sumM_congr fun s _ => ?_
    unfold cnt2
    rw [sumM_mul]
  rw [e1, sumM_swap]
  refine sumM_congr fun x _ => ?_
  have e2 : ((List.range (ordN g)).map fun s => cnt1 g x B s * F s).sum = ((List.range (ordN g)).map fun s => (B.map fun y => (if addN g x y = s then 1 else 0) * F s).sum).sum := by
    refine sumM_congr fun s _ => ?_
    unfold cnt1
    rw [countP_sum, ← sumM_mul]
    refine sumM_congr fun y _ => ?_
    simp only [decide_eq_true_eq]
  rw [e2, sumM_swap]
  refine sumM_congr fun y _ => ?_
  rw [sum_delta F, if_pos (addN_lt v.each x y)]
/-! ### Differences -/
theorem addN_back {g : List Nat} (v : VG g) {z w : Nat} (hw : w < ordN g) : addN g (addN g z w) (negN g z) = w := by
  rw [addN_comm g z w, addN_assoc g v.each, addN_neg g v.each, addN_comm, addN_zero g w v.each hw]
theorem addN_forth {g : List Nat} (v : VG g) {z s : Nat} (hs : s < ordN g) : addN g z (addN g s (negN g z)) = s := by
  rw [addN_comm, addN_assoc g v.each, addN_comm g (negN g z), addN_neg g v.each, addN_comm, addN_zero g s v.each hs]
theorem cnt1_test {g : List Nat} (v : VG g) {a z s : Nat} (ha : a < 2 ^ ordN g) (hs : s < ordN g) : cnt1 g z (elems a) s = if a.testBit (addN g s (negN g z)) then 1 else 0 := by
  have hw := addN_lt v.each s (negN g z)
  have h24 := v.ord
  have e : cnt1 g z (elems a) s = (elems a).countP fun w => decide (w = addN g s (negN g z)) := by
    unfold cnt1
    apply List.countP_congr
    intro w hwm
    have hwl := elems_lt ha hwm
    simp only [decide_eq_true_eq]
    constructor
    · intro h; rw [← h, addN_back v hwl]
    · intro h; rw [h, addN_forth v hs]
  rw [e]
  unfold elems
  rw [List.countP_filter, range_one (fun x => a.testBit x) _ 63, decide_eq_true (show addN g s (negN g z) < 63 by omega), Bool.true_and]
/-! ### Energies -/
/-- How many terms with the third one taken away lie in the set. -/
def c3N (g : List Nat) (a x y : Nat) : Nat := (elems a).countP fun z => a.testBit (addN g (addN g x y) (negN g z))
def quadN (g : List Nat) (a : Nat) : Nat := ((elems a).map fun x => ((elems a).map fun y => c3N g a x y).sum).sum
def energyN (g : List Nat) (a b : Nat) : Nat := ((List.range (ordN g)).map fun s => tabN g (elems a) (elems b) s * tabN g (elems a) (elems b) s).sum
theorem quad_energy {g : List Nat} (v : VG g) {a : Nat} (ha : a < 2 ^ ordN g) : quadN g a = energyN g a a := by
  unfold energyN
  simp only [tabN_eq]
  rw [table_pairs v (elems a) (elems a) (cnt2 g (elems a) (elems a))]
  refine sumM_congr fun x _ => sumM_congr fun y _ => ?_
  unfold c3N cnt2
  rw [countP_sum]
  refine sumM_congr fun z _ => ?_
  rw [cnt1_test v ha (addN_lt v.each x y)]
theorem c3_le (g : List Nat) (a x y : Nat) : c3N g a x y ≤ popN a := by
  rw [← elems_pop]
  exact List.countP_le_length
theorem c3_pos {g : List Nat} (v : VG g) {a x y : Nat} (ha : a < 2 ^ ordN g) (hx : x ∈ elems a) (hy : y ∈ elems a) : 1 ≤ c3N g a x y := by
  refine List.countP_pos_iff.2 ⟨x, hx, ?_⟩
  show a.testBit (addN g (addN g x y) (negN g x)) = true
  rw [addN_back v (elems_lt ha hy)]
  exact (mem_elems (set_i64 v ha)).1 hy
theorem quad_ge {g : List Nat} (v : VG g) {a : Nat} (ha : a < 2 ^ ordN g) : popN a * popN a ≤ quadN g a := by
  have h := sumM_ge (l := elems a) (F := fun x => ((elems a).map fun y => c3N g a x y).sum) (M := (elems a).length) fun x hx => by
    have := sumM_ge (l := elems a) (F := fun y => c3N g a x y) (M := 1) fun y hy => c3_pos v ha hx hy
    rwa [Nat.mul_one] at this
  rwa [elems_pop] at h
theorem quad_le {g : List Nat} (a : Nat) : quadN g a ≤ popN a * popN a * popN a := by
  have h := sumM_le (l := elems a) (F := fun x => ((elems a).map fun y => c3N g a x y).sum) (M := popN a * popN a) fun x hx => by
    have := sumM_le (l := elems a) (F := fun y => c3N g a x y) (M := popN a) fun y hy => c3_le g a x y
    rwa [elems_pop] at this
  rw [elems_pop, ← Nat.mul_assoc] at h
  exact h
/-! ### The table's code -/
theorem inc_row {N : Nat} {g : List Nat} {f : Nat → Nat} {x y : Nat} (h : addN g x y < N) : (rowN N f).set (addN g x y) (f (addN g x y) + 1) = rowN N (incN g x f y) := by
  rw [rowN_set h]
  apply rowN_congr
  intro k _
  unfold incN
  by_cases e : k = addN g x y
  · rw [if_pos e, if_pos e, e]
  · rw [if_neg e, if_neg e]
theorem tab_take (g : List Nat) (x : Nat) (f : Nat → Nat) (B : List Nat) {k : Nat} (hk : k < B.length) : (B.take (k + 1)).foldl (incN g x) f = incN g x ((B.take k).foldl (incN g x) f) (B.getD k 0) := by
  rw [take_snoc B hk, List.foldl_append]
  rfl
theorem tab_take2 (g B : List Nat) (f : Nat → Nat) (A : List Nat) {k : Nat} (hk : k < A.length) : (A.take (k + 1)).foldl (tabF g B) f = tabF g B ((A.take k).foldl (tabF g B) f) (A.getD k 0) := by
  rw [take_snoc A hk, List.foldl_append]
  rfl
theorem tab_small (g A B : List Nat) (k z : Nat) (hA : A.length ≤ 63) (hB : B.length ≤ 63) : (A.take k).foldl (tabF g B) (fun _ => 0) z ≤ 3969 := by
  rw [tabX_eq]
  have h := cnt2_le g (A.take k) B z
  have h1 : (A.take k).length ≤ 63 := by rw [List.length_take]; omega
  have h2 := Nat.mul_le_mul h1 hB
  omega
theorem s_tab_inner {g : List Nat} (v : VG g) {a b i : Nat} (ha : a < 2 ^ ordN g) (hb : b < 2 ^ ordN g) (hi : i < (elems a).length) {f : Nat → Nat} (hf : ∀ z, f z ≤ 3969) :
    loopL (f_s_SumTable_r2 (ints (natsI g)) (i : Int)) (ints (natsI (rowN (ordN g) f)), ints (natsI (elems a)), ints (natsI (elems b)), 0) = some (.one (ints (natsI (rowN (ordN g) (tabF g (elems b) f ((elems a).getD i 0)))), ints (natsI (elems a)), ints (natsI (elems b)))) := by
  have h24 := v.ord
  have hx := elems_at ha hi
  have hbl := elems_len b
  have key := loop_count (rd := f_s_SumTable_r2 (ints (natsI g)) (i : Int)) (fun k => (ints (natsI (rowN (ordN g) (((elems b).take k).foldl (incN g ((elems a).getD i 0)) f))), ints (natsI (elems a)), ints (natsI (elems b)), (k : Int))) (elems b).length
    (a := (ints (natsI (rowN (ordN g) (((elems b).take (elems b).length).foldl (incN g ((elems a).getD i 0)) f))), ints (natsI (elems a)), ints (natsI (elems b)))) (fun k hk => by
      have hy := elems_at hb hk
      have hz := addN_lt v.each ((elems a).getD i 0) ((elems b).getD k 0)
      have hs : ((elems b).take k).foldl (incN g ((elems a).getD i 0)) f (addN g ((elems a).getD i 0) ((elems b).getD k 0)) ≤ 5000 := by
        have e := tabF_eq g ((elems a).getD i 0) (addN g ((elems a).getD i 0) ((elems b).getD k 0)) ((elems b).take k) f
        have h1 := cnt1_le g ((elems a).getD i 0) ((elems b).take k) (addN g ((elems a).getD i 0) ((elems b).getD k 0))
        have h2 : ((elems b).take k).length ≤ 63 := by rw [List.length_take]; omega
        have h3 := hf (addN g ((elems a).getD i 0) ((elems b).getD k 0))
        unfold tabF at e
        omega
      simp only [f_s_SumTable_r2, f_s_SumTable_k2, ints_length, natsI_length, lt_dec hk, in_nat hi, in_nat hk, Int.toNat_natCast, kAt_ints, atN_natsI, br_true, s_l2Add_eq v (show (elems a).getD i 0 < 4611686018427387904 by omega) (show (elems b).getD k 0 < 4611686018427387904 by omega), bo_some, rowN_length, in_nat hz, rowN_get hz,
        w64_nat (show ((elems b).take k).foldl (incN g ((elems a).getD i 0)) f (addN g ((elems a).getD i 0) ((elems b).getD k 0)) < 9223372036854775807 by omega), ints_natsI_set, inc_row hz, ← tab_take g _ f (elems b) hk, w64_nat (show k < 9223372036854775807 by omega)]) (by
      simp only [f_s_SumTable_r2, f_s_SumTable_k2, ints_length, natsI_length, lt_dec_self, br_false]) 0 (Nat.zero_le _)
  rw [List.take_length] at key
  exact key
theorem s_SumTable_eq (G : List Int) (x y : Int) (h : G.length ≤ lim) : (setG G x = true → setG G y = true → ∃ g a b, G = natsI g ∧ VG g ∧ x = ((a : Nat) : Int) ∧ y = ((b : Nat) : Int) ∧ a < 2 ^ ordN g ∧ b < 2 ^ ordN g ∧ f_s_SumTable (ints G) x y = some (ints (natsI (rowN (ordN g) (tabN g (elems a) (elems b)))))) ∧
    (setG G x = false ∨ setG G y = false → f_s_SumTable (ints G) x y = some []) := by
  constructor
  · intro hx hy
    obtain ⟨g, a, rfl, v, rfl, ha⟩ := nat_of_set hx
    obtain ⟨g', b, e, v', rfl, hb⟩ := nat_of_set hy
    have e : g = g' := by
      have : ∀ {a b : List Nat}, natsI a = natsI b → a = b := by
        intro a
        induction a with
        | nil => intro b e; cases b with
          | nil => rfl
          | cons y b => cases e
        | cons x a ih => intro b e; cases b with
          | nil => cases e
          | cons y b =>
            simp only [natsI, List.map_cons, List.cons.injEq] at e
            rw [Int.ofNat.inj e.1, ih e.2]
      exact this e
    subst e
    refine ⟨g, a, b, rfl, v, rfl, rfl, ha, hb, ?_⟩
    have h24 := v.ord
    have hal := elems_len a
    have hbl := elems_len b
    have key := loop_count (rd := f_s_SumTable_r0 (ints (natsI g))) (fun k => (ints (natsI (rowN (ordN g) (((elems a).take k).foldl (tabF g (elems b)) fun _ => 0))), ints (natsI (elems a)), ints (natsI (elems b)), (k : Int))) (elems a).length
      (a := (ints (natsI (rowN (ordN g) (((elems a).take (elems a).length).foldl (tabF g (elems b)) fun _ => 0))), ints (natsI (elems a)), ints (natsI (elems b)), ((elems a).length : Int))) (fun k hk => by
        have inner := s_tab_inner v ha hb hk (f := ((elems a).take k).foldl (tabF g (elems b)) fun _ => 0) (fun z => tab_small g (elems a) (elems b) k z hal hbl)
        simp only [f_s_SumTable_r0, f_s_SumTable_k0, ints_length, natsI_length, lt_dec hk, br_true, inner, bl1_one, ← tab_take2 g (elems b) (fun _ => 0) (elems a) hk, w64_nat (show k < 9223372036854775807 by omega)]) (by
        simp only [f_s_SumTable_r0, f_s_SumTable_k0, ints_length, natsI_length, lt_dec_self, br_false]) 0 (Nat.zero_le _)
    rw [List.take_length] at key
    have h0 : ints (natsI (rowN (ordN g) fun _ => 0)) = List.replicate (ordN g) (Sc.n .i64 0) := by
      unfold ints natsI rowN
      rw [List.map_map, List.map_map]
      rw [List.eq_replicate_iff]
      refine ⟨by simp, fun b hb => ?_⟩
      obtain ⟨k, _, rfl⟩ := List.mem_map.1 hb
      rfl
    have key' : loopL (f_s_SumTable_r0 (ints (natsI g))) (List.replicate (ordN g) (Sc.n .i64 0), ints (natsI (elems a)), ints (natsI (elems b)), 0) = some (.one (ints (natsI (rowN (ordN g) (tabN g (elems a) (elems b)))), ints (natsI (elems a)), ints (natsI (elems b)), ((elems a).length : Int))) := by rw [← h0]; exact key
    have e5 : (decide (0 ≤ ((ordN g : Nat) : Int)) && (decide (((ordN g : Nat) : Int) ≤ ((ordN g : Nat) : Int)) && decide (((ordN g : Nat) : Int) ≤ (lim : Int)))) = true := by
      have : ordN g ≤ lim := Nat.le_trans h24 (by decide)
      simp
      omega
    simp only [f_s_SumTable, f_s_SumTable_k, s_IsSet_eq _ _ h, hx, hy, bo_some, Bool.not_true, BEq.rfl, br_true, br_false, s_l2Order_eq _ h, prodW_nat g v.len v.each, e5, s_l3List_eq (set_i64 v ha), s_l3List_eq (set_i64 v hb), Int.toNat_natCast, key', bl1_one]
  · intro hh
    simp only [f_s_SumTable, f_s_SumTable_k, s_IsSet_eq _ _ h, bo_some]
    rcases hh with hh | hh
    · rw [hh]; rfl
    · rw [hh]
      cases setG G x <;> rfl
theorem rep_row (N : Nat) : ints (natsI (rowN N fun _ => 0)) = List.replicate N (Sc.n .i64 0) := by
  unfold ints natsI rowN
  rw [List.map_map, List.map_map, List.eq_replicate_iff]
  refine ⟨by simp, fun b hb => ?_⟩
  obtain ⟨k, _, rfl⟩ := List.mem_map.1 hb
  rfl
theorem i_areSets2 (G : List Int) (x y : Int) (h : G.length ≤ lim) : f_i_areSets (ints G) [Sc.n .i64 x, Sc.n .i64 y] = some (setG G x && setG G y && isG G) := by
  have := i_areSets_eq G [x, y] h (by show 2 ≤ lim; decide)
  rw [show [Sc.n .i64 x, Sc.n .i64 y] = ints [x, y] from rfl, this]
  simp only [List.any_cons, List.any_nil, Bool.or_false]
  cases setG G x <;> cases setG G y <;> rfl
theorem i_areSets3 (G : List Int) (x y z : Int) (h : G.length ≤ lim) : f_i_areSets (ints G) [Sc.n .i64 x, Sc.n .i64 y, Sc.n .i64 z] = some (setG G x && setG G y && setG G z && isG G) := by
  have := i_areSets_eq G [x, y, z] h (by show 3 ≤ lim; decide)
  rw [show [Sc.n .i64 x, Sc.n .i64 y, Sc.n .i64 z] = ints [x, y, z] from rfl, this]
  simp only [List.any_cons, List.any_nil, Bool.or_false]
  cases setG G x <;> cases setG G y <;> cases setG G z <;> rfl
theorem i_tab_inner {g : List Nat} (v : VG g) {a b i : Nat} (ha : a < 2 ^ ordN g) (hb : b < 2 ^ ordN g) (hi : i < (elems a).length) {f : Nat → Nat} (hf : ∀ z, f z ≤ 3969) (t24 t25 : Int) (t23 : List Sc) :
    loopL (f_i_SumTable_r2 (b : Int) (ints (natsI g)) (((elems a).getD i 0 : Nat) : Int) t24 t25 ((elems b).length : Int)) (ints (natsI (rowN (ordN g) f)), t23, ints (natsI (elems b)), 0) = some (.one (ints (natsI (rowN (ordN g) (tabF g (elems b) f ((elems a).getD i 0)))), t23)) := by
  have h24 := v.ord
  have hx := elems_at ha hi
  have hbl := elems_len b
  have key := loop_count (rd := f_i_SumTable_r2 (b : Int) (ints (natsI g)) (((elems a).getD i 0 : Nat) : Int) t24 t25 ((elems b).length : Int)) (fun k => (ints (natsI (rowN (ordN g) (((elems b).take k).foldl (incN g ((elems a).getD i 0)) f))), t23, ints (natsI (elems b)), (k : Int))) (elems b).length
    (a := (ints (natsI (rowN (ordN g) (((elems b).take (elems b).length).foldl (incN g ((elems a).getD i 0)) f))), t23)) (fun k hk => by
      have hy := elems_at hb hk
      have hz := addN_lt v.each ((elems a).getD i 0) ((elems b).getD k 0)
      have hs : ((elems b).take k).foldl (incN g ((elems a).getD i 0)) f (addN g ((elems a).getD i 0) ((elems b).getD k 0)) ≤ 5000 := by
        have e := tabF_eq g ((elems a).getD i 0) (addN g ((elems a).getD i 0) ((elems b).getD k 0)) ((elems b).take k) f
        have h1 := cnt1_le g ((elems a).getD i 0) ((elems b).take k) (addN g ((elems a).getD i 0) ((elems b).getD k 0))
        have h2 : ((elems b).take k).length ≤ 63 := by rw [List.length_take]; omega
        have h3 := hf (addN g ((elems a).getD i 0) ((elems b).getD k 0))
        unfold tabF at e
        omega
      simp only [f_i_SumTable_r2, f_i_SumTable_k2, ints_length, natsI_length, lt_dec hk, in_nat hk, Int.toNat_natCast, kAt_ints, atN_natsI, br_true, i_add_eq v (show (elems a).getD i 0 < 4611686018427387904 by omega) (show (elems b).getD k 0 < 4611686018427387904 by omega), bo_some, rowN_length, in_nat hz, rowN_get hz,
        w64_nat (show ((elems b).take k).foldl (incN g ((elems a).getD i 0)) f (addN g ((elems a).getD i 0) ((elems b).getD k 0)) < 9223372036854775807 by omega), ints_natsI_set, inc_row hz, ← tab_take g _ f (elems b) hk, w64_nat (show k < 9223372036854775807 by omega)]) (by
      simp only [f_i_SumTable_r2, f_i_SumTable_k2, lt_dec_self, br_false]) 0 (Nat.zero_le _)
  rw [List.take_length] at key
  exact key
theorem i_SumTable_eq {g : List Nat} (v : VG g) {a b : Nat} (ha : a < 2 ^ ordN g) (hb : b < 2 ^ ordN g) (hx : setG (natsI g) (a : Int) = true) (hy : setG (natsI g) (b : Int) = true) :
    f_i_SumTable (ints (natsI g)) (a : Int) (b : Int) = some (ints (natsI (rowN (ordN g) (tabN g (elems a) (elems b))))) := by
  have h24 := v.ord
  have hal := elems_len a
  have hbl := elems_len b
  have key := loop_count (rd := f_i_SumTable_r0 (b : Int) (ints (natsI g)) ((elems a).length : Int)) (fun k => (ints (natsI (rowN (ordN g) (((elems a).take k).foldl (tabF g (elems b)) fun _ => 0))), ints (natsI (elems a)), (k : Int))) (elems a).length
    (a := (ints (natsI (rowN (ordN g) (((elems a).take (elems a).length).foldl (tabF g (elems b)) fun _ => 0))), ints (natsI (elems a)), ((elems a).length : Int))) (fun k hk => by
      have inner := i_tab_inner v ha hb hk (f := ((elems a).take k).foldl (tabF g (elems b)) fun _ => 0) (fun z => tab_small g (elems a) (elems b) k z hal hbl) ((elems a).length : Int) (k : Int) (ints (natsI (elems a)))
      simp only [f_i_SumTable_r0, f_i_SumTable_k0, ints_length, natsI_length, lt_dec hk, in_nat hk, Int.toNat_natCast, kAt_ints, atN_natsI, br_true, i_members_eq (set_i64 v hb), bo_some, inner, bl1_one, ← tab_take2 g (elems b) (fun _ => 0) (elems a) hk, w64_nat (show k < 9223372036854775807 by omega)]) (by
      simp only [f_i_SumTable_r0, f_i_SumTable_k0, lt_dec_self, br_false]) 0 (Nat.zero_le _)
  rw [List.take_length] at key
  have key' : loopL (f_i_SumTable_r0 (b : Int) (ints (natsI g)) ((elems a).length : Int)) (List.replicate (ordN g) (Sc.n .i64 0), ints (natsI (elems a)), 0) = some (.one (ints (natsI (rowN (ordN g) (tabN g (elems a) (elems b)))), ints (natsI (elems a)), ((elems a).length : Int))) := by rw [← rep_row]; exact key
  have e5 : (decide (0 ≤ ((ordN g : Nat) : Int)) && (decide (((ordN g : Nat) : Int) ≤ ((ordN g : Nat) : Int)) && decide (((ordN g : Nat) : Int) ≤ (lim : Int)))) = true := by
    have : ordN g ≤ lim := Nat.le_trans h24 (by decide)
    simp
    omega
  simp only [f_i_SumTable, f_i_SumTable_k, i_areSets2 _ _ _ v.lim, hx, hy, v.isG, Bool.and_true, bo_some, Bool.not_true, br_true, br_false, i_OrderOf_eq _ v.lim, v.ordG, e5, i_members_eq (set_i64 v ha), ints_length, natsI_length, Int.toNat_natCast, key', bl1_one]
/-! ### EnergyOf -/
theorem sq_le (T : Nat → Nat) (hT : ∀ z, T z ≤ 3969) (k : Nat) (hk : k ≤ 24) : ((List.range k).map fun z => T z * T z).sum ≤ 400000000 := by
  have h := sumM_le (l := List.range k) (F := fun z => T z * T z) (M := 3969 * 3969) fun z _ => Nat.mul_le_mul (hT z) (hT z)
  rw [List.length_range] at h
  have : k * (3969 * 3969) ≤ 24 * (3969 * 3969) := Nat.mul_le_mul_right _ hk
  omega
theorem sum_range_succ (F : Nat → Nat) (k : Nat) : ((List.range (k + 1)).map F).sum = ((List.range k).map F).sum + F k := by
  rw [List.range_succ, List.map_append, List.sum_append]
  simp
theorem sq_step (T : Nat → Nat) (hT : ∀ z, T z ≤ 3969) {k : Nat} (hk : k < 24) : w64 (((((List.range k).map fun z => T z * T z).sum : Nat) : Int) + w64 (((T k : Nat) : Int) * ((T k : Nat) : Int))) = ((((List.range (k + 1)).map fun z => T z * T z).sum : Nat) : Int) := by
  have h1 := sq_le T hT k (by omega)
  have h2 := Nat.mul_le_mul (hT k) (hT k)
  have e1 : ((T k : Nat) : Int) * ((T k : Nat) : Int) = ((T k * T k : Nat) : Int) := by push_cast; rfl
  rw [sum_range_succ, e1, w64_cast (by omega), ← Int.natCast_add, w64_cast (by omega)]
theorem tabN_small (g : List Nat) (a b z : Nat) : tabN g (elems a) (elems b) z ≤ 3969 := by
  have := tab_small g (elems a) (elems b) (elems a).length z (elems_len a) (elems_len b)
  rwa [List.take_length] at this
theorem i_Energy_loop {N : Nat} (hN : N ≤ 24) {T : Nat → Nat} (hT : ∀ z, T z ≤ 3969) : loopL (f_i_EnergyOf_r0 (N : Int)) (0, ints (natsI (rowN N T)), 0) = some (.one ((((List.range N).map fun z => T z * T z).sum : Nat) : Int)) := by
  have key := loop_count (rd := f_i_EnergyOf_r0 (N : Int)) (fun k => (((((List.range k).map fun z => T z * T z).sum : Nat) : Int), ints (natsI (rowN N T)), (k : Int))) N (a := ((((List.range N).map fun z => T z * T z).sum : Nat) : Int)) (fun k hk => by
    simp only [f_i_EnergyOf_r0, f_i_EnergyOf_k0, natsI_row_len, lt_dec hk, in_nat hk, Int.toNat_natCast, kAt_ints, atN_natsI, rowN_get hk, br_true, sq_step T hT (show k < 24 by omega), w64_nat (show k < 9223372036854775807 by omega)]) (by
    simp only [f_i_EnergyOf_r0, f_i_EnergyOf_k0, lt_dec_self, br_false]) 0 (Nat.zero_le _)
  exact key
/-- Two sets of one group. -/
theorem two_sets {G : List Int} {x y : Int} (hx : setG G x = true) (hy : setG G y = true) : ∃ g a b, G = natsI g ∧ VG g ∧ x = ((a : Nat) : Int) ∧ y = ((b : Nat) : Int) ∧ a < 2 ^ ordN g ∧ b < 2 ^ ordN g := by
  obtain ⟨g, a, rfl, v, rfl, ha⟩ := nat_of_set hx
  obtain ⟨g', b, e, v', rfl, hb⟩ := nat_of_set hy
  have e2 : g = g' := by
    have := congrArg (List.map Int.toNat) e
    rwa [toNat_natsI, toNat_natsI] at this
  subst e2
  exact ⟨g, a, b, rfl, v, rfl, rfl, ha, hb⟩
/-! ### PopularSums -/
def popS (t : Int) (T : Nat → Nat) (k : Nat) : Nat := (List.range k).foldl (fun o z => if t ≤ ((T z : Nat) : Int) then o ||| 2 ^ z else o) 0
theorem popS_succ (t : Int) (T : Nat → Nat) (k : Nat) : popS t T (k + 1) = if t ≤ ((T k : Nat) : Int) then popS t T k ||| 2 ^ k else popS t T k := by
  unfold popS
  rw [List.range_succ, List.foldl_append]
  rfl
theorem popS_lt (t : Int) (T : Nat → Nat) : ∀ k, popS t T k < 2 ^ k
  | 0 => Nat.one_pos
  | k + 1 => by
    rw [popS_succ]
    have h := popS_lt t T k
    have h2 : 2 ^ k < 2 ^ (k + 1) := two_pow_lt (Nat.lt_succ_self k)
    split
    · exact Nat.or_lt_two_pow (Nat.lt_trans h h2) h2
    · exact Nat.lt_trans h h2
theorem popS_test (t : Int) (T : Nat → Nat) (i : Nat) : ∀ k, (popS t T k).testBit i = (decide (i < k) && decide (t ≤ ((T i : Nat) : Int)))
  | 0 => by simp [popS]
  | k + 1 => by
    rw [popS_succ]
    have ih := popS_test t T i k
    by_cases hc : t ≤ ((T k : Nat) : Int)
    · rw [if_pos hc, Nat.testBit_or, ih, pow_test]
      by_cases hk : k = i
      · subst hk
        simp [hc]
      · have h1 : decide (i < k + 1) = decide (i < k) := by
          by_cases h : i < k
          · rw [decide_eq_true h, decide_eq_true (by omega)]
          · rw [decide_eq_false h, decide_eq_false (by omega)]
        rw [h1, decide_eq_false hk, Bool.or_false]
    · rw [if_neg hc, ih]
      by_cases hk : k = i
      · subst hk
        simp [hc]
      · have h1 : decide (i < k + 1) = decide (i < k) := by
          by_cases h : i < k
          · rw [decide_eq_true h, decide_eq_true (by omega)]
          · rw [decide_eq_false h, decide_eq_false (by omega)]
        rw [h1]
theorem pop_step (t : Int) (T : Nat → Nat) {k : Nat} (hk : k < 24) (hc : t ≤ ((T k : Nat) : Int)) : or64 ((popS t T k : Nat) : Int) (shl64 1 (k : Int)) = ((popS t T (k + 1) : Nat) : Int) := by
  have h := popS_lt t T k
  have h2 : 2 ^ k < 2 ^ 24 := two_pow_lt hk
  rw [shl1_nat (by omega), or64_nat (by omega) (by omega), popS_succ, if_pos hc]
def popR (G : List Int) (x y t : Int) (r : Int) : Prop := (r = -1 ∧ (setG G x = false ∨ setG G y = false ∨ inB t 1 24 = false)) ∨
  ∃ g a b, G = natsI g ∧ VG g ∧ x = ((a : Nat) : Int) ∧ y = ((b : Nat) : Int) ∧ a < 2 ^ ordN g ∧ b < 2 ^ ordN g ∧ inB t 1 24 = true ∧ r = ((popS t (tabN g (elems a) (elems b)) (ordN g) : Nat) : Int)
theorem pop_sum {g : List Nat} (v : VG g) {a b : Nat} (ha : a < 2 ^ ordN g) (hb : b < 2 ^ ordN g) : popS 1 (tabN g (elems a) (elems b)) (ordN g) = sumN g b a := by
  apply Nat.eq_of_testBit_eq
  intro z
  rw [popS_test, Bool.eq_iff_iff, Bool.and_eq_true, decide_eq_true_eq, decide_eq_true_eq, tabN_eq]
  have hsum : (sumN g b a).testBit z = true ↔ ∃ x ∈ elems a, ∃ y ∈ elems b, addN g x y = z := by
    unfold sumN
    rw [orAll_test, List.any_eq_true]
    constructor
    · rintro ⟨y, hy, h⟩
      rw [shiftN_test, List.any_eq_true] at h
      obtain ⟨x, hx, h⟩ := h
      exact ⟨x, hx, y, hy, by rw [addN_comm]; exact of_decide_eq_true h⟩
    · rintro ⟨x, hx, y, hy, h⟩
      refine ⟨y, hy, ?_⟩
      rw [shiftN_test, List.any_eq_true]
      exact ⟨x, hx, decide_eq_true (by rw [addN_comm]; exact h)⟩
  rw [hsum]
  constructor
  · rintro ⟨hz, h1⟩
    have h1 : 1 ≤ cnt2 g (elems a) (elems b) z := by omega
    have : ¬ ∀ x ∈ elems a, cnt1 g x (elems b) z ≤ 0 := fun hh => by
      have := sumM_le hh
      unfold cnt2 at h1
      omega
    have hex : ∃ x ∈ elems a, 0 < cnt1 g x (elems b) z := by
      rcases Classical.em (∃ x ∈ elems a, 0 < cnt1 g x (elems b) z) with h | h
      · exact h
      · exact absurd (fun x hx => by
          rcases Nat.lt_or_ge 0 (cnt1 g x (elems b) z) with h2 | h2
          · exact absurd ⟨x, hx, h2⟩ h
          · exact h2) this
    obtain ⟨x, hx, hc⟩ := hex
    obtain ⟨y, hy, he⟩ := List.countP_pos_iff.1 hc
    exact ⟨x, hx, y, hy, of_decide_eq_true he⟩
  · rintro ⟨x, hx, y, hy, rfl⟩
    refine ⟨addN_lt v.each x y, ?_⟩
    have h1 : 1 ≤ cnt1 g x (elems b) (addN g x y) := List.countP_pos_iff.2 ⟨y, hy, decide_eq_true rfl⟩
    have h2 : cnt1 g x (elems b) (addN g x y) ≤ cnt2 g (elems a) (elems b) (addN g x y) := by
      unfold cnt2
      have : ∀ l : List Nat, x ∈ l → cnt1 g x (elems b) (addN g x y) ≤ (l.map fun x' => cnt1 g x' (elems b) (addN g x y)).sum := by
        intro l
        induction l with
        | nil => intro h; cases h
        | cons w l ih =>
          intro h
          rw [List.map_cons, List.sum_cons]
          rcases List.mem_cons.1 h with rfl | h
          · omega
          · have := ih h; omega
      exact this _ hx
    omega
end Go.Proofs.Ytbajbkdmfdfdmaa
