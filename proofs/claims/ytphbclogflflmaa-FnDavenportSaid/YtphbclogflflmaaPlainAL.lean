/-
  PlainAL: FnDavenport.
-/
import Derived.Test.YtphbclogflflmaaPlainX
import Derived.Test.YtphbclogflflmaaPlainL
import Derived.Test.YtphbclogflflmaaPlainN
import Derived.Test.YtphbclogflflmaaPlainT
import Derived.Test.YtphbclogflflmaaPlainO
import Derived.Test.YtphbclogflflmaaPlainAK
set_option linter.unusedVariables false
set_option linter.unusedSimpArgs false
namespace Go.Proofs.Ytphbclogflflmaa
open Go Ev

theorem sameInts_self (L : List Int) (h : L.length ≤ lim) : f_l_sameInts (ints L) (ints L) = some true := by
  have hl := lim_lt h
  have key := loop_count (rd := f_l_sameInts_r0 (ints L) (ints L)) (fun k => (k : Int)) L.length (a := ()) (fun k hk => by
    simp only [f_l_sameInts_r0, f_l_sameInts_k0, ints_length, lt_dec hk, ok_nat hk, br_true, bne_self_eq_false, br_false, w64_nat (by omega : k < 9223372036854775807)])
    (by simp only [f_l_sameInts_r0, f_l_sameInts_k0, ints_length, lt_dec_self, br_false]) 0 (Nat.zero_le _)
  simp only [f_l_sameInts, f_l_sameInts_k, bne_self_eq_false, br_false]
  rw [show ((0 : Int)) = ((0 : Nat) : Int) from rfl, key]
  rfl
/-! ### The order of an element -/
theorem totN_rep (g : List Nat) (x : Nat) : ∀ k, totN g (List.replicate k x) = iterN g x k
  | 0 => rfl
  | k + 1 => by rw [List.replicate_succ', totN_snoc, totN_rep g x k]; rfl
theorem iterN_one {g : List Nat} (v : VG g) {x : Nat} (hx : x < ordN g) : iterN g x 1 = x := addN_zero g x v.each hx
theorem i_OrderOfElement_eq {g : List Nat} (v : VG g) {x : Nat} (hx : x < ordN g) {n : Nat} (h1 : 1 ≤ n) (h2 : n ≤ 1000) (hz : iterN g x n = 0) (hne : ∀ k, 1 ≤ k → k < n → iterN g x k ≠ 0) :
    f_i_OrderOfElement (ints (natsI g)) (x : Int) = some (n : Int) := by
  have hh : hasG (natsI g) (x : Int) = true := (v.has _).2 ⟨x, rfl, hx⟩
  have o24 := v.ord
  have key := loop_count (rd := f_i_OrderOfElement_r0 (x : Int) (ints (natsI g))) (fun k => (((k + 1 : Nat) : Int), ((iterN g x (k + 1) : Nat) : Int))) (n - 1) (a := (n : Int)) (fun k hk => by
    have e := hne (k + 1) (by omega) (by omega)
    have e2 : (((iterN g x (k + 1) : Nat) : Int) != 0) = true := by rw [ne_zero_dec]; exact decide_eq_true e
    have hlt := iterN_lt v x (k + 1)
    simp only [f_i_OrderOfElement_r0, f_i_OrderOfElement_k0, e2, br_true, i_add_eq v (show iterN g x (k + 1) < 4611686018427387904 by omega) (show x < 4611686018427387904 by omega), bo_some, w64_nat (show k + 1 < 9223372036854775807 by omega)]
    rfl) (by
    have e2 : (((iterN g x n : Nat) : Int) != 0) = false := by rw [hz]; rfl
    have e3 : n - 1 + 1 = n := by omega
    simp only [e3]
    simp only [f_i_OrderOfElement_r0, f_i_OrderOfElement_k0, e2, br_false]) 0 (Nat.zero_le _)
  have key' : loopL (f_i_OrderOfElement_r0 (x : Int) (ints (natsI g))) (1, (x : Int)) = some (.one (n : Int)) := by
    rw [← key]
    simp only [Nat.zero_add, iterN_one v hx]
    rfl
  simp only [f_i_OrderOfElement, f_i_OrderOfElement_k, i_has_eq _ _ v.lim, hh, bo_some, Bool.not_true, br_false, key', bl1_one]
/-! ### Cyclic groups -/
/-- The sequences of which CyclicStructure tells the element. -/
structure Cyc (g l : List Nat) : Prop where
  seq : VS g l
  one : g.length = 1
  len : l.length + 1 = ordN g
  pos : 1 ≤ l.length
  free : (subsN g l).testBit 0 = false
  all : ∀ y ∈ l, y = l.getD 0 0
theorem cyc_order {g l : List Nat} (c : Cyc g l) : f_i_OrderOfElement (ints (natsI g)) ((l.getD 0 0 : Nat) : Int) = some ((ordN g : Nat) : Int) := by
  have v := c.seq.grp
  have hx := c.seq.at c.pos
  refine i_OrderOfElement_eq v hx (ordN_pos v.each) (Nat.le_trans v.ord (by decide)) (iterN_ord v _) (fun k h1 h2 h0 => ?_)
  have hrep : l = List.replicate l.length (l.getD 0 0) := List.eq_replicate_of_mem c.all
  have hs : (List.replicate k (l.getD 0 0)).Sublist l := by
    have : (List.replicate k (l.getD 0 0)).Sublist (List.replicate l.length (l.getD 0 0)) := (List.replicate_sublist_replicate _).2 (by have := c.len; omega)
    rwa [← hrep] at this
  have := (subs_sub v l c.seq.each 0).2 ⟨_, hs, by intro e; have := congrArg List.length e; simp at this; omega, by rw [totN_rep]; exact h0⟩
  rw [c.free] at this
  cases this
theorem CyclicStructure_more (G L : List Int) (h : G.length ≤ lim) (hL : L.length ≤ lim) : (f_s_CyclicStructure (ints G) (ints L) = some (0, false) ∧ f_i_CyclicStructure (ints G) (ints L) = some (0, false)) ∨
    ∃ g l, G = natsI g ∧ L = natsI l ∧ Cyc g l ∧ f_s_CyclicStructure (ints G) (ints L) = some (((l.getD 0 0 : Nat) : Int), true) ∧ f_i_CyclicStructure (ints G) (ints L) = some (((l.getD 0 0 : Nat) : Int), true) := by
  by_cases hs : isSeq G L = true
  · obtain ⟨g, l, rfl, rfl, v⟩ := nat_of_isSeq hs
    obtain ⟨z1, hb⟩ := s_l16Subsums_eq v.grp v.each v.lim
    have hb' : subsN g l < 9223372036854775808 := Nat.lt_trans (pow24 v.grp hb) (by decide)
    have z3 := i_in_eq (a := subsN g l) (k := 0) hb'
    rw [show ((0 : Nat) : Int) = 0 from rfl] at z3
    have e1 : f_s_IsZeroFree (ints (natsI g)) (ints (natsI l)) = some (!(subsN g l).testBit 0) := by
      simp only [f_s_IsZeroFree, f_s_IsZeroFree_k, s_IsSequence_eq _ _ h hL, hs, bo_some, z1, and_one_zero hb']
      rfl
    have e2 : f_i_IsZeroFree (ints (natsI g)) (ints (natsI l)) = some (!(subsN g l).testBit 0) := by
      simp only [f_i_IsZeroFree, f_i_IsZeroFree_k, i_IsSequence_eq _ _ h hL, hs, bo_some, (i_subsums_eq v.grp v.each v.lim).1, z3]
      rfl
    simp only [f_s_CyclicStructure, f_s_CyclicStructure_k, f_i_CyclicStructure, f_i_CyclicStructure_k, e1, e2, bo_some, s_l2Order_eq _ h, i_OrderOf_eq _ h, ints_length, natsI_length, v.grp.ordG, v.grp.ordS]
    cases hz : (subsN g l).testBit 0 with
    | true =>
      refine .inl ⟨rfl, ?_⟩
      cases ((g.length : Int) != 1) == false <;> rfl
    | false =>
      by_cases h1 : g.length = 1
      · have d1 : ((g.length : Int) != 1) = false := by rw [h1]; rfl
        have o24 := v.grp.ord
        have o1 := ordN_pos v.grp.each
        have ew : w64 (((ordN g : Nat) : Int) - 1) = ((ordN g - 1 : Nat) : Int) := by rw [show ((ordN g : Nat) : Int) - 1 = ((ordN g - 1 : Nat) : Int) by omega]; exact w64_cast (by omega)
        have o2 : 2 ≤ ordN g := by
          obtain ⟨p1, p2, p3⟩ := v.grp
          match g, h1, p2 with
          | [a], _, p2 =>
            have := p2 a (by simp)
            simp only [ordN, Nat.mul_one]
            omega
        by_cases hn : l.length = ordN g - 1
        · have d2 : ((l.length : Int) != ((ordN g - 1 : Nat) : Int)) = false := by rw [hn]; exact bne_self_eq_false _
          have hpos : 1 ≤ l.length := by omega
          have hz0 : (((l.length : Nat) : Int) == 0) = false := beq_eq_false_iff_ne.2 (by omega)
          have h0 : okAt (ints (natsI l)) 0 = true := ok_nat (k := 0) (by rw [natsI_length]; omega)
          have a0 : atI (ints (natsI l)) 0 = (natsI l).getD 0 0 := at_nat (natsI l) 0
          have a1 : (natsI l).getD 0 0 = ((l.getD 0 0 : Nat) : Int) := natsI_getD l 0
          have mm := multF_all ((natsI l).getD 0 0) (natsI l) hL
          rw [natsI_length] at mm
          simp only [d1, d2, ew, hz0, s_cyc_loop hL (show 1 ≤ (natsI l).length by rw [natsI_length]; omega), h0, a0, i_MultiplicityIn_eq _ _ hL, bo_some, mm]
          cases ha : (natsI l).all (fun y => decide (y = (natsI l).getD 0 0)) with
          | true =>
            refine .inr ⟨g, l, rfl, rfl, ⟨v, h1, by omega, hpos, hz, fun y hy => ?_⟩, by rw [← a1]; rfl, by rw [← a1]; rfl⟩
            have := List.all_eq_true.1 ha ((y : Nat) : Int) (List.mem_map.2 ⟨y, hy, rfl⟩)
            have := of_decide_eq_true this
            rw [a1] at this
            omega
          | false => exact .inl ⟨rfl, rfl⟩
        · have d2 : ((l.length : Int) != ((ordN g - 1 : Nat) : Int)) = true := bne_iff_ne.2 (by omega)
          refine .inl ?_
          simp only [d1, d2, ew]
          refine ⟨?_, rfl⟩
          cases (((l.length : Nat) : Int) == 0) == false <;> rfl
      · have d1 : ((g.length : Int) != 1) = true := bne_iff_ne.2 (by omega)
        refine .inl ?_
        simp only [d1]
        refine ⟨?_, rfl⟩
        cases (((l.length : Nat) : Int) == 0) == false <;> rfl
  · have hs' : isSeq G L = false := by simpa using hs
    obtain ⟨z, e1, e2, hz⟩ := IsZeroFree_seq G L h hL
    have hzf : z = false := by
      cases z with
      | false => rfl
      | true => exact absurd (hz rfl) hs
    subst hzf
    simp only [f_s_CyclicStructure, f_s_CyclicStructure_k, f_i_CyclicStructure, f_i_CyclicStructure_k, e1, e2, bo_some]
    refine .inl ⟨rfl, ?_⟩
    cases (((ints G).length : Int) != 1) == false <;> rfl
/-! ### The longest sequences, by the kernel -/
def chkLong (g : List Nat) : Bool := Nat.blt 9 (ordN g) || ((zfT g (2 ^ ordN g) [] 0 1).all (fun m => Nat.blt m.length (ordN g)) && (isSeq (natsI g) (natsI (longN g)) && (!(subsN g (longN g)).testBit 0 &&
  (Nat.beq ((longN g).length + 1) (sumD (outD stepS g.length g.length g)) && (!Nat.beq g.length 1 || (Nat.beq ((longN g).length + 1) (ordN g) && (longN g).all fun y => Nat.beq y ((longN g).getD 0 0)))))))
theorem chkLong_all : (allG.all chkLong) = true := by decide +kernel
structure LongOk (g : List Nat) : Prop where
  lens : ∀ m ∈ zfT g (2 ^ ordN g) [] 0 1, m.length < ordN g
  seq : isSeq (natsI g) (natsI (longN g)) = true
  free : (subsN g (longN g)).testBit 0 = false
  bound : (longN g).length + 1 = sumD (outD stepS g.length g.length g)
  cyc : g.length = 1 → (longN g).length + 1 = ordN g ∧ ∀ y ∈ longN g, y = (longN g).getD 0 0
theorem long_ok {g : List Nat} (v : VG g) (h9 : ordN g ≤ 9) : LongOk g := by
  have h := List.all_eq_true.1 chkLong_all g v.mem
  unfold chkLong at h
  have h9' : Nat.blt 9 (ordN g) = false := by
    cases hb : Nat.blt 9 (ordN g) with
    | false => rfl
    | true => have := Nat.blt_eq.mp hb; omega
  rw [h9', Bool.false_or] at h
  simp only [Bool.and_eq_true] at h
  obtain ⟨a, b, c, d, e⟩ := h
  refine ⟨fun m hm => ?_, b, by simpa using c, Nat.eq_of_beq_eq_true d, fun h1 => ?_⟩
  · exact Nat.blt_eq.mp (List.all_eq_true.1 a m hm)
  · rw [h1] at e
    have e' : (Nat.beq ((longN g).length + 1) (ordN g) && (longN g).all fun y => Nat.beq y ((longN g).getD 0 0)) = true := e
    simp only [Bool.and_eq_true] at e'
    exact ⟨Nat.eq_of_beq_eq_true e'.1, fun y hy => Nat.eq_of_beq_eq_true (List.all_eq_true.1 e'.2 y hy)⟩
theorem LongOk.le {g : List Nat} (o : LongOk g) (v : VG g) : (longN g).length < ordN g := by
  rcases fold_lb_mem (zfT g (2 ^ ordN g) [] 0 1) [] with h | h
  · unfold longN
    rw [h]
    exact ordN_pos v.each
  · exact o.lens _ h
theorem VS_of {g l : List Nat} (hs : isSeq (natsI g) (natsI l) = true) : VS g l := by
  obtain ⟨g', l', e1, e2, v⟩ := nat_of_isSeq hs
  have inj : ∀ {a b : List Nat}, natsI a = natsI b → a = b := by
    intro a
    induction a with
    | nil => intro b e; cases b with
      | nil => rfl
      | cons y b => cases e
    | cons x a ih => intro b e; cases b with
      | nil => cases e
      | cons y b =>
        simp only [natsI, List.map_cons, List.cons.injEq] at e
        rw [Int.ofNat.inj e.1, ih e.2]
  rw [inj e1, inj e2]
  exact v
theorem i_IsZeroFree_eq {g l : List Nat} (hs : isSeq (natsI g) (natsI l) = true) : f_i_IsZeroFree (ints (natsI g)) (ints (natsI l)) = some (!(subsN g l).testBit 0) := by
  have v := VS_of hs
  obtain ⟨z1, hb⟩ := i_subsums_eq v.grp v.each v.lim
  have hb' : subsN g l < 9223372036854775808 := Nat.lt_trans (pow24 v.grp hb) (by decide)
  have z3 := i_in_eq (a := subsN g l) (k := 0) hb'
  rw [show ((0 : Nat) : Int) = 0 from rfl] at z3
  simp only [f_i_IsZeroFree, f_i_IsZeroFree_k, i_IsSequence_eq _ _ v.grp.lim (show (natsI l).length ≤ lim by rw [natsI_length]; exact v.lim), hs, bo_some, z1, z3]
  rfl
theorem Longest_cases (G : List Int) (h : G.length ≤ lim) : (f_s_LongestZeroFree (ints G) = some ([], false) ∧ f_i_LongestZeroFree (ints G) = some ([], false)) ∨
    ∃ g, G = natsI g ∧ VG g ∧ LongOk g ∧ f_s_LongestZeroFree (ints G) = some (ints (natsI (longN g)), true) ∧ f_i_LongestZeroFree (ints G) = some (ints (natsI (longN g)), true) := by
  simp only [f_s_LongestZeroFree, f_s_LongestZeroFree_k, f_i_LongestZeroFree, f_i_LongestZeroFree_k, s_IsGroup_eq G h, i_IsGroup_eq G h, s_l2Order_eq G h, i_OrderOf_eq G h, bo_some]
  cases hg : isG G with
  | false => exact .inl ⟨rfl, rfl⟩
  | true =>
    obtain ⟨g, rfl, v⟩ := nat_of_isG hg
    rw [v.ordS, v.ordG]
    by_cases h9 : ((ordN g : Nat) : Int) > 9
    · rw [decide_eq_true h9]
      exact .inl ⟨rfl, rfl⟩
    · rw [decide_eq_false h9]
      have h1 := ordN_pos v.each
      have e1 := limF_le l17Longest_le (s_l17Longest_fuel v (2 ^ ordN g) [] 0 1 (Nat.two_pow_pos _) (by omega) h1 (Nat.le_refl _))
      have e2 := limF_le i_zfLongest_le (i_zfLongest_fuel v (2 ^ ordN g) [] 0 [] (Nat.two_pow_pos _) (by omega) h1 (Nat.le_refl _))
      have e1' : f_s_l17Longest (ints (natsI g)) [] 0 1 = some (ints (natsI (longN g))) := e1
      have e2' : f_i_zeroFree_LongestZeroFree_1 (ints (natsI g)) [] 0 [] = some (ints (natsI (longN g))) := e2
      refine .inr ⟨g, rfl, v, long_ok v (by omega), ?_, ?_⟩
      · simp only [e1', bo_some]; rfl
      · simp only [e2', bo_some]; rfl
theorem CountZero_cases (G : List Int) (n : Int) (h : G.length ≤ lim) : ∃ r, f_s_CountZeroFree (ints G) n = some r ∧ f_i_CountZeroFree (ints G) n = some r ∧ (r > 0 → n < ordG G) := by
  simp only [f_s_CountZeroFree, f_s_CountZeroFree_k, f_i_CountZeroFree, f_i_CountZeroFree_k, s_IsGroup_eq G h, i_IsGroup_eq G h, s_l2Order_eq G h, i_OrderOf_eq G h, s_l1In_eq, i_within_eq, bo_some]
  cases hg : isG G with
  | false => exact ⟨-1, rfl, rfl, fun h => absurd h (by decide)⟩
  | true =>
    obtain ⟨g, rfl, v⟩ := nat_of_isG hg
    rw [v.ordS, v.ordG]
    by_cases h9 : ((ordN g : Nat) : Int) > 9
    · rw [decide_eq_true h9]
      exact ⟨-1, rfl, rfl, fun h => absurd h (by decide)⟩
    · rw [decide_eq_false h9]
      cases hb : inB n 0 8 with
      | false => exact ⟨-1, rfl, rfl, fun h => absurd h (by decide)⟩
      | true =>
        have hn : 0 ≤ n ∧ n ≤ 8 := by simpa [inB] using hb
        obtain ⟨p, rfl⟩ : ∃ p : Nat, n = p := ⟨n.toNat, by omega⟩
        have h1 := ordN_pos v.each
        have e1 := limF_le l17Count_le (s_l17Count_fuel v (2 ^ ordN g) [] p 0 1 (Nat.two_pow_pos _) (by omega) h1 (by omega))
        have e2 := limF_le i_zfCount_le (i_zfCount_fuel v (p : Int) (2 ^ ordN g) [] 0 0 (Nat.two_pow_pos _) (by omega) h1 (Nat.le_refl _))
        rw [cntF_count p _ 0 (by decide), Int.zero_add] at e2
        have e1' : f_s_l17Count (ints (natsI g)) (p : Int) 0 1 = _ := e1
        have e2' : f_i_zeroFree_CountZeroFree_1 (ints (natsI g)) [] 0 (p : Int) 0 = _ := e2
        simp only [e1', e2', bo_some, List.length_nil, Nat.zero_add]
        refine ⟨_, rfl, rfl, fun hr => ?_⟩
        have hc : (zfT g (2 ^ ordN g) [] 0 1).countP (fun m => decide (m.length = p)) ≠ 0 := by
          intro e
          rw [e] at hr
          exact absurd hr (by decide)
        obtain ⟨m, hm, he⟩ := List.countP_pos_iff.1 (Nat.pos_of_ne_zero hc)
        have := (long_ok v (by omega)).lens m hm
        have he := of_decide_eq_true he
        omega
theorem FnDavenport_w20 {x0 : List Int} (hx : x0.length ≤ 1048576) : f_l_FnDavenport_w20 (bytesL x0) = some true := by
  obtain ⟨G, L, e1, hG, hL⟩ := DrawCyclicStructure_ok hx
  obtain ⟨E, e2, hE⟩ := DrawDavenportBound_ok hx
  have hGl : G.length ≤ lim := Nat.le_trans hG (by decide)
  have hLl : L.length ≤ lim := Nat.le_trans hL (by decide)
  have hEl : E.length ≤ lim := Nat.le_trans hE (by decide)
  obtain ⟨d, e3, e4⟩ := DavenportBound_both E hEl
  rcases CyclicStructure_more G L hGl hLl with ⟨f1, f2⟩ | ⟨g, l, rfl, rfl, c, f1, f2⟩
  · simp only [f_l_FnDavenport_w20, f_l_FnDavenport_w20_k, e1, e2, bo_some, f1, f2, e3, e4, BEq.rfl, br_true, Bool.not_false, show (true == false) = false from rfl, br_false]
  · simp only [f_l_FnDavenport_w20, f_l_FnDavenport_w20_k, e1, e2, bo_some, f1, f2, e3, e4, BEq.rfl, br_true, Bool.not_true, cyc_order c, s_OrderOf_eq _ hGl, c.seq.grp.ordG]
theorem FnDavenport_w16 {x0 : List Int} (hx : x0.length ≤ 1048576) : f_l_FnDavenport_w16 (bytesL x0) = some true := by
  obtain ⟨G, n, e1, hG, hn⟩ := DrawCountZeroFree_ok hx
  have hGl : G.length ≤ lim := Nat.le_trans hG (by decide)
  obtain ⟨r, e2, e3, hr⟩ := CountZero_cases G n hGl
  simp only [f_l_FnDavenport_w16, f_l_FnDavenport_w16_k, e1, e2, e3, bo_some, bne_self_eq_false, BEq.rfl, br_true, FnDavenport_w20 hx, s_OrderOf_eq _ hGl]
  by_cases hp : r > 0
  · have hlt := hr hp
    rw [decide_eq_true hp, decide_eq_false (show ¬ n ≥ ordG G by omega)]
    rfl
  · rw [decide_eq_false hp]
    rfl
theorem FnDavenport_plain (x0 : List Int) (w0 : x0.length ≤ maxLen) : f_l_FnDavenport (bytesL x0) = some true := by
  simp only [f_l_FnDavenport, f_l_FnDavenport_k, f_l_big, f_l_big_k, bytesL_len, bo_some]
  by_cases hb : (x0.length : Int) > 1048576
  · rw [decide_eq_true hb]
    rfl
  · rw [decide_eq_false hb]
    have hx : x0.length ≤ 1048576 := by omega
    obtain ⟨G, e1, hG⟩ := DrawLongestZeroFree_ok hx
    have hGl : G.length ≤ lim := Nat.le_trans hG (by decide)
    have key : f_l_FnDavenport_w3 (bytesL x0) = some true := by
      rcases Longest_cases G hGl with ⟨f1, f2⟩ | ⟨g, rfl, v, o, f1, f2⟩
      · obtain ⟨d, d1, d2⟩ := DavenportBound_both G hGl
        have c1 : f_s_DavenportConstant (ints G) = some (-1) := by
          simp only [f_s_DavenportConstant, f_s_DavenportConstant_k, f1, bo_some]
          rfl
        have c2 : f_i_DavenportConstant (ints G) = some (-1) := by
          simp only [f_i_DavenportConstant, f_i_DavenportConstant_k, f2, bo_some]
          rfl
        have s0 : f_l_sameInts [] [] = some true := sameInts_self [] (by decide)
        simp only [f_l_FnDavenport_w3, f_l_FnDavenport_w3_k, e1, f1, f2, d1, d2, c1, c2, s0, bo_some, BEq.rfl, Bool.not_true, br_true, bne_self_eq_false, br_false, f_l_FnDavenport_w10, f_l_FnDavenport_w10_k, f_l_FnDavenport_w12, f_l_FnDavenport_w12_k, FnDavenport_w16 hx, show (false == true) = false from rfl]
      · have hle := o.le v
        have o24 := v.ord
        have hall := List.all_eq_true.1 allD g v.mem
        simp only [Bool.and_eq_true] at hall
        have eS := Nat.eq_of_beq_eq_true hall.2.2
        have d1 := s_DavenportBound_eq v hall.1
        have d2 := i_DavenportBound_eq v hall.2.1
        rw [← eS] at d2
        rw [← o.bound] at d1 d2
        have ew : w64 (((longN g).length : Int) + 1) = (((longN g).length + 1 : Nat) : Int) := w64_nat (by omega)
        have c1 : f_s_DavenportConstant (ints (natsI g)) = some (((longN g).length + 1 : Nat) : Int) := by
          simp only [f_s_DavenportConstant, f_s_DavenportConstant_k, f1, bo_some, ints_length, natsI_length, ew]
          rfl
        have c2 : f_i_DavenportConstant (ints (natsI g)) = some (((longN g).length + 1 : Nat) : Int) := by
          simp only [f_i_DavenportConstant, f_i_DavenportConstant_k, f2, bo_some, ints_length, natsI_length, ew]
          rfl
        have hm : (natsI (longN g)).length ≤ lim := by rw [natsI_length]; exact Nat.le_trans (show (longN g).length ≤ 24 by omega) (by decide)
        have s0 := sameInts_self (natsI (longN g)) hm
        have z0 := i_IsZeroFree_eq o.seq
        rw [o.free] at z0
        have dgt : decide ((((longN g).length + 1 : Nat) : Int) > ((ordN g : Nat) : Int)) = false := decide_eq_false (by omega)
        have w12 : f_l_FnDavenport_w12 (ints (natsI g)) (bytesL x0) true (ints (natsI (longN g))) = some true := by
          by_cases h1 : g.length = 1
          · obtain ⟨p1, p2⟩ := o.cyc h1
            have o2 : 2 ≤ ordN g := by
              obtain ⟨q1, q2, q3⟩ := v
              match g, h1, q2 with
              | [a], _, q2 =>
                have := q2 a (by simp)
                simp only [ordN, Nat.mul_one]
                omega
            have c : Cyc g (longN g) := ⟨VS_of o.seq, h1, p1, by omega, o.free, p2⟩
            have hcy : f_i_CyclicStructure (ints (natsI g)) (ints (natsI (longN g))) = some ((((longN g).getD 0 0 : Nat) : Int), true) := by
              have hlen : (natsI (longN g)).length = (longN g).length := natsI_length _
              have mm := multF_all ((natsI (longN g)).getD 0 0) (natsI (longN g)) hm
              have ha : (natsI (longN g)).all (fun y => decide (y = (natsI (longN g)).getD 0 0)) = true := by
                rw [List.all_eq_true]
                intro y hy
                obtain ⟨z, hz, rfl⟩ := List.mem_map.1 hy
                rw [natsI_getD, p2 z hz]
                exact decide_eq_true rfl
              rw [ha, natsI_length, natsI_getD] at mm
              have g1 : ((((natsI g).length : Nat) : Int) != 1) = false := by rw [natsI_length, h1]; rfl
              have ew2 : w64 (((ordN g : Nat) : Int) - 1) = ((longN g).length : Int) := by rw [show ((ordN g : Nat) : Int) - 1 = ((longN g).length : Int) by omega]; exact w64_cast (by omega)
              have h0 : okAt (ints (natsI (longN g))) 0 = true := ok_nat (k := 0) (by rw [natsI_length]; omega)
              have a0 : atI (ints (natsI (longN g))) 0 = (natsI (longN g)).getD 0 0 := at_nat _ 0
              simp only [f_i_CyclicStructure, f_i_CyclicStructure_k, ints_length, natsI_length, h1, z0, bo_some, Bool.not_false, i_OrderOf_eq _ v.lim, v.ordG, ew2, bne_self_eq_false, BEq.rfl, br_true, h0, a0, natsI_getD, i_MultiplicityIn_eq _ _ hm, mm, Bool.not_true, br_false]
              rfl
            simp only [f_l_FnDavenport_w12, f_l_FnDavenport_w12_k, BEq.rfl, br_true, ints_length, natsI_length, h1, hcy, bo_some, Bool.not_true, cyc_order c, s_OrderOf_eq _ v.lim, v.ordG, bne_self_eq_false, br_false, FnDavenport_w16 hx]
            rfl
          · have d1 : ((g.length : Int) == 1) = false := beq_eq_false_iff_ne.2 (by omega)
            simp only [f_l_FnDavenport_w12, f_l_FnDavenport_w12_k, BEq.rfl, br_true, ints_length, natsI_length, d1, br_false, bo_some, FnDavenport_w16 hx]
        simp only [f_l_FnDavenport_w3, f_l_FnDavenport_w3_k, e1, f1, f2, d1, d2, c1, c2, s0, bo_some, BEq.rfl, Bool.not_true, Bool.not_false, br_true, bne_self_eq_false, br_false, f_l_FnDavenport_w10, f_l_FnDavenport_w10_k, z0, ints_length, natsI_length, ew, s_OrderOf_eq _ v.lim, v.ordG, dgt, w12]
    rw [key]
    rfl
end Go.Proofs.Ytphbclogflflmaa
