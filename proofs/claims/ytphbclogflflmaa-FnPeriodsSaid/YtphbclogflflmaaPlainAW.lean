/-
  PlainAW: FnPeriods.
-/
import Derived.Test.YtphbclogflflmaaPlainAV
import Derived.Test.YtphbclogflflmaaPlainAK
set_option linter.unusedVariables false
set_option linter.unusedSimpArgs false
namespace Go.Proofs.Ytphbclogflflmaa
open Go Ev

/-! ### The stabilizer -/
theorem stab_bit {g : List Nat} (a x : Nat) : ∀ k, ((stabN g a k).testBit x = true ↔ x < k ∧ shiftN g a x = a)
  | 0 => by simp [stabN]
  | k + 1 => by
    rw [stabN_succ]
    unfold stabF
    have ih := stab_bit (g := g) a x k
    by_cases h : shiftN g a k = a
    · rw [if_pos h, Nat.testBit_or, Bool.or_eq_true, ih, pow_test, decide_eq_true_eq]
      constructor
      · rintro (⟨h1, h2⟩ | rfl)
        · exact ⟨by omega, h2⟩
        · exact ⟨by omega, h⟩
      · rintro ⟨h1, h2⟩
        by_cases e : k = x
        · exact .inr e
        · exact .inl ⟨by omega, h2⟩
    · rw [if_neg h, ih]
      constructor
      · rintro ⟨h1, h2⟩; exact ⟨by omega, h2⟩
      · rintro ⟨h1, h2⟩
        refine ⟨?_, h2⟩
        rcases Nat.lt_or_ge x k with h3 | h3
        · exact h3
        · have : x = k := by omega
          subst this
          exact absurd h2 h
theorem shift_add {g : List Nat} (v : VG g) {a : Nat} (ha : a < 2 ^ ordN g) (x y : Nat) : shiftN g (shiftN g a x) y = shiftN g a (addN g x y) := by
  have hs := shiftN_lt v a x
  have e : ∀ u, addN g y (addN g x u) = addN g (addN g x y) u := fun u => by
    rw [← addN_assoc g v.each, addN_comm g y x]
  refine sbN_eq (fun z hz => ?_) fun z hz => ?_
  · obtain ⟨w, hw, rfl⟩ := (shift_bit v hs y z).1 hz
    obtain ⟨u, hu, rfl⟩ := (shift_bit v ha x w).1 hw
    exact (shift_bit v ha _ _).2 ⟨u, hu, (e u).symm⟩
  · obtain ⟨u, hu, rfl⟩ := (shift_bit v ha _ z).1 hz
    exact (shift_bit v hs y _).2 ⟨addN g x u, (shift_bit v ha x _).2 ⟨u, hu, rfl⟩, e u⟩
theorem stab_sub {g : List Nat} (v : VG g) {a : Nat} (ha : a < 2 ^ ordN g) : Subg g (stabN g a (ordN g)) := by
  refine ⟨stabN_lt v a _ (Nat.le_refl _), ?_, fun x y hx hy => ?_⟩
  · obtain ⟨m, hm⟩ : ∃ m, ordN g = m + 1 := ⟨ordN g - 1, by have := ordN_pos v.each; omega⟩
    rw [hm]
    exact stabN_zero v ha m
  · have hx := ((stab_bit a x _).1 hx).2
    have hy := ((stab_bit a y _).1 hy).2
    refine (stab_bit a _ _).2 ⟨addN_lt v.each x y, ?_⟩
    rw [← shift_add v ha, hx, hy]
theorem stab_keeps {g : List Nat} (v : VG g) {a : Nat} (ha : a < 2 ^ ordN g) {x y : Nat} (hx : a.testBit x = true) (hy : (stabN g a (ordN g)).testBit y = true) : a.testBit (addN g x y) = true := by
  have hy := ((stab_bit a y _).1 hy).2
  rw [← hy]
  exact (shift_bit v ha y _).2 ⟨x, hx, addN_comm g y x⟩
theorem fill_stab {g : List Nat} (v : VG g) {a : Nat} (ha : a < 2 ^ ordN g) : sumN g a (stabN g a (ordN g)) = a := by
  have s := stab_sub v ha
  refine sbN_eq (fun z hz => ?_) fun z hz => ?_
  · obtain ⟨x, y, hx, hy, rfl⟩ := (sum_bit v ha s.lt z).1 hz
    exact stab_keeps v ha hx hy
  · exact (sum_bit v ha s.lt z).2 ⟨z, 0, hz, s.zero, by rw [addN_comm]; exact addN_zero g z v.each (bit_lt ha hz)⟩
theorem fill_up {g : List Nat} {h : Nat} (v : VG g) (s : Subg g h) {a : Nat} (ha : a < 2 ^ ordN g) : sbN a (sumN g a h) := fun z hz =>
  (sum_bit v ha s.lt z).2 ⟨z, 0, hz, s.zero, by rw [addN_comm]; exact addN_zero g z v.each (bit_lt ha hz)⟩
theorem set_ofW {g : List Nat} (v : VG g) {a : Nat} (ha : a < 2 ^ ordN g) : setG (natsI g) (a : Int) = true := by
  unfold setG
  rw [v.isG, v.ordG, shl_ord v, decide_eq_true (show (a : Int) ≥ 0 by omega), decide_eq_true (show (a : Int) < ((2 ^ ordN g : Nat) : Int) by omega)]
  rfl
theorem two_setsW {G : List Int} {x y : Int} (hx : setG G x = true) (hy : setG G y = true) : ∃ g a b, G = natsI g ∧ VG g ∧ x = ((a : Nat) : Int) ∧ y = ((b : Nat) : Int) ∧ a < 2 ^ ordN g ∧ b < 2 ^ ordN g := by
  obtain ⟨g, a, rfl, v, rfl, ha⟩ := nat_of_set hx
  obtain ⟨g', b, e, v', rfl, hb⟩ := nat_of_set hy
  have e2 : g = g' := by
    have := congrArg (List.map Int.toNat) e
    rwa [toNat_natsI, toNat_natsI] at this
  subst e2
  exact ⟨g, a, b, rfl, v, rfl, rfl, ha, hb⟩
/-! ### CorePart -/
def corF (a o c : Nat) : Nat := if c &&& a = c then o ||| c else o
def corN (a : Nat) (L : List Nat) : Nat := L.foldl (corF a) 0
theorem cor_bit (a z : Nat) : ∀ (L : List Nat) (o : Nat), (L.foldl (corF a) o).testBit z = true ↔ o.testBit z = true ∨ ∃ c ∈ L, c &&& a = c ∧ c.testBit z = true
  | [], o => by simp
  | c :: L, o => by
    rw [List.foldl_cons, cor_bit a z L]
    unfold corF
    by_cases h : c &&& a = c
    · rw [if_pos h, Nat.testBit_or, Bool.or_eq_true]
      constructor
      · rintro ((h1 | h1) | ⟨d, hd, h2⟩)
        · exact .inl h1
        · exact .inr ⟨c, by simp, h, h1⟩
        · exact .inr ⟨d, by simp [hd], h2⟩
      · rintro (h1 | ⟨d, hd, h2, h3⟩)
        · exact .inl (.inl h1)
        · rcases List.mem_cons.1 hd with rfl | hd
          · exact .inl (.inr h3)
          · exact .inr ⟨d, hd, h2, h3⟩
    · rw [if_neg h]
      constructor
      · rintro (h1 | ⟨d, hd, h2⟩)
        · exact .inl h1
        · exact .inr ⟨d, by simp [hd], h2⟩
      · rintro (h1 | ⟨d, hd, h2, h3⟩)
        · exact .inl h1
        · rcases List.mem_cons.1 hd with rfl | hd
          · exact absurd h2 h
          · exact .inr ⟨d, hd, h2, h3⟩
theorem cor_sub (a : Nat) (L : List Nat) : sbN (corN a L) a := fun z hz => by
  rcases (cor_bit a z L 0).1 hz with h | ⟨c, _, h1, h2⟩
  · simp at h
  · exact (sbN_and.2 h1) z h2
theorem cor_lt {a n : Nat} {L : List Nat} (ha : a < 2 ^ n) : corN a L < 2 ^ n := by
  have h : corN a L &&& a = corN a L := sbN_and.1 (cor_sub a L)
  have h2 : corN a L ≤ a := by rw [← h]; exact Nat.and_le_right
  omega
theorem cor_stab {g : List Nat} (v : VG g) {a : Nat} (ha : a < 2 ^ ordN g) : corN a (cosN g (stabN g a (ordN g)) (ordN g)).1 = a := by
  have s := stab_sub v ha
  have ok := cos_ok v s (ordN g) (Nat.le_refl _)
  refine sbN_eq (cor_sub a _) fun z hz => (cor_bit a z _ 0).2 (.inr ?_)
  have hzl := bit_lt ha hz
  obtain ⟨c, hc, hcz⟩ := (ok.all z).1 (ok.seen z hzl)
  obtain ⟨x, hx, rfl⟩ := ok.each c hc
  have e := coset_eq v s hx hcz
  refine ⟨_, hc, sbN_and.1 fun w hw => ?_, hcz⟩
  rw [← e] at hw
  obtain ⟨y, hy, rfl⟩ := (shift_bit v s.lt z w).1 hw
  exact stab_keeps v ha hz hy
theorem cos_each_lt {g : List Nat} {h : Nat} (v : VG g) (s : Subg g h) {k : Nat} (hk : k < (cosN g h (ordN g)).1.length) : (cosN g h (ordN g)).1.getD k 0 < 2 ^ ordN g := by
  have ok := cos_ok v s (ordN g) (Nat.le_refl _)
  have hm : (cosN g h (ordN g)).1.getD k 0 ∈ (cosN g h (ordN g)).1 := by simp [List.getD, List.getElem?_eq_getElem hk]
  obtain ⟨x, _, e⟩ := ok.each _ hm
  rw [e]
  exact shiftN_lt v h x
theorem CorePart_yes {g : List Nat} {h a : Nat} (v : VG g) (s : Subg g h) (ha : a < 2 ^ ordN g) :
    f_s_CorePart (ints (natsI g)) (h : Int) (a : Int) = some ((corN a (cosN g h (ordN g)).1 : Nat) : Int) ∧ f_i_CorePart (ints (natsI g)) (h : Int) (a : Int) = some ((corN a (cosN g h (ordN g)).1 : Nat) : Int) := by
  have h24 := v.ord
  have ok := cos_ok v s (ordN g) (Nat.le_refl _)
  have hlen := ok.len
  obtain ⟨c1, c2⟩ := CosetsOf_yes v s
  have hs := set_ofW v ha
  have ha24 := pow24 v ha
  have step : ∀ k, k < (cosN g h (ordN g)).1.length → ((cosN g h (ordN g)).1.take (k + 1)).foldl (corF a) 0 = corF a (((cosN g h (ordN g)).1.take k).foldl (corF a) 0) ((cosN g h (ordN g)).1.getD k 0) := fun k hk => by
    rw [List.take_succ_eq_append_getElem hk, List.foldl_append]
    simp [List.getD, List.getElem?_eq_getElem hk]
  have hlt : ∀ k, ((cosN g h (ordN g)).1.take k).foldl (corF a) 0 < 2 ^ ordN g := fun k => cor_lt (L := (cosN g h (ordN g)).1.take k) ha
  constructor
  · have key := loop_count (rd := f_s_CorePart_r0 (a : Int)) (fun k => (ints (natsI (cosN g h (ordN g)).1), ((((cosN g h (ordN g)).1.take k).foldl (corF a) 0 : Nat) : Int), (k : Int))) (cosN g h (ordN g)).1.length (a := ((((cosN g h (ordN g)).1.take (cosN g h (ordN g)).1.length).foldl (corF a) 0 : Nat) : Int)) (fun k hk => by
      have hc := cos_each_lt v s hk
      have hc24 := pow24 v hc
      simp only [f_s_CorePart_r0, f_s_CorePart_k0, ints_length, natsI_length, lt_dec hk, in_nat hk, Int.toNat_natCast, kAt_ints, atN_natsI, br_true, and64_nat (show (cosN g h (ordN g)).1.getD k 0 < 9223372036854775808 by omega) (show a < 9223372036854775808 by omega), eq_nat_dec, or_or v (hlt k) hc, w64_nat (show k < 9223372036854775807 by omega), step k hk]
      unfold corF
      by_cases hcc : (cosN g h (ordN g)).1.getD k 0 &&& a = (cosN g h (ordN g)).1.getD k 0
      · rw [if_pos hcc, decide_eq_true hcc]; rfl
      · rw [if_neg hcc, decide_eq_false hcc]; rfl) (by
      simp only [f_s_CorePart_r0, f_s_CorePart_k0, ints_length, natsI_length, lt_dec_self, br_false]) 0 (Nat.zero_le _)
    rw [List.take_length] at key
    have key' : loopL (f_s_CorePart_r0 (a : Int)) (ints (natsI (cosN g h (ordN g)).1), 0, 0) = some (.one ((corN a (cosN g h (ordN g)).1 : Nat) : Int)) := key
    simp only [f_s_CorePart, f_s_CorePart_k, c1, bo_some, Bool.not_true, BEq.rfl, br_true, s_IsSet_eq _ _ v.lim, hs, br_false, key', bl1_one]
  · have key := loop_count (rd := f_i_CorePart_r0 (a : Int) ((cosN g h (ordN g)).1.length : Int)) (fun k => (ints (natsI (cosN g h (ordN g)).1), ((((cosN g h (ordN g)).1.take k).foldl (corF a) 0 : Nat) : Int), (k : Int))) (cosN g h (ordN g)).1.length (a := (ints (natsI (cosN g h (ordN g)).1), ((((cosN g h (ordN g)).1.take (cosN g h (ordN g)).1.length).foldl (corF a) 0 : Nat) : Int))) (fun k hk => by
      have hc := cos_each_lt v s hk
      have hc24 := pow24 v hc
      obtain ⟨n, en, hn, hb⟩ := andNot_nat (a := (cosN g h (ordN g)).1.getD k 0) (b := a) (by omega) (by omega)
      have ez : ((n : Int) == 0) = decide ((cosN g h (ordN g)).1.getD k 0 &&& a = (cosN g h (ordN g)).1.getD k 0) := by
        rw [Bool.eq_iff_iff, beq_iff_eq, decide_eq_true_eq]
        constructor
        · intro h0
          refine sbN_and.1 fun z hz => ?_
          have h1 := hb z
          have hn0 : n = 0 := by omega
          rw [hn0, Nat.zero_testBit, hz, Bool.true_and] at h1
          cases ha' : a.testBit z with
          | true => rfl
          | false => rw [ha'] at h1; cases h1
        · intro h0
          have : n = 0 := by
            apply Nat.eq_of_testBit_eq
            intro z
            rw [hb z, Nat.zero_testBit]
            cases hz : ((cosN g h (ordN g)).1.getD k 0).testBit z with
            | false => rfl
            | true => rw [(sbN_and.2 h0) z hz]; rfl
          omega
      simp only [f_i_CorePart_r0, f_i_CorePart_k0, ints_length, natsI_length, lt_dec hk, in_nat hk, Int.toNat_natCast, kAt_ints, atN_natsI, br_true, en, ez, or_or v (hlt k) hc, w64_nat (show k < 9223372036854775807 by omega), step k hk]
      unfold corF
      by_cases hcc : (cosN g h (ordN g)).1.getD k 0 &&& a = (cosN g h (ordN g)).1.getD k 0
      · rw [if_pos hcc, decide_eq_true hcc]; rfl
      · rw [if_neg hcc, decide_eq_false hcc]; rfl) (by
      simp only [f_i_CorePart_r0, f_i_CorePart_k0, lt_dec_self, br_false]) 0 (Nat.zero_le _)
    rw [List.take_length] at key
    have key' : loopL (f_i_CorePart_r0 (a : Int) ((cosN g h (ordN g)).1.length : Int)) (ints (natsI (cosN g h (ordN g)).1), 0, 0) = some (.one (ints (natsI (cosN g h (ordN g)).1), ((corN a (cosN g h (ordN g)).1 : Nat) : Int))) := key
    simp only [f_i_CorePart, f_i_CorePart_k, c2, bo_some, Bool.not_true, BEq.rfl, br_true, i_IsSet_eq _ _ v.lim, hs, br_false, ints_length, natsI_length, key', bl1_one]
/-! ### QuotientSet -/
def quoN (a : Nat) (L : List Nat) : List Nat := L.map fun c => popN (c &&& a)
theorem QuotientSet_yes {g : List Nat} {h a : Nat} (v : VG g) (s : Subg g h) (ha : a < 2 ^ ordN g) :
    f_s_QuotientSet (ints (natsI g)) (h : Int) (a : Int) = some (ints (natsI (quoN a (cosN g h (ordN g)).1)), true) ∧ f_i_QuotientSet (ints (natsI g)) (h : Int) (a : Int) = some (ints (natsI (quoN a (cosN g h (ordN g)).1)), true) := by
  have h24 := v.ord
  have ok := cos_ok v s (ordN g) (Nat.le_refl _)
  have hlen := ok.len
  obtain ⟨c1, c2⟩ := CosetsOf_yes v s
  have hs := set_ofW v ha
  have ha24 := pow24 v ha
  have step : ∀ k, k < (cosN g h (ordN g)).1.length → quoN a ((cosN g h (ordN g)).1.take (k + 1)) = quoN a ((cosN g h (ordN g)).1.take k) ++ [popN ((cosN g h (ordN g)).1.getD k 0 &&& a)] := fun k hk => by
    unfold quoN
    rw [List.take_succ_eq_append_getElem hk, List.map_append]
    simp [List.getD, List.getElem?_eq_getElem hk]
  have hl2 : ∀ k, k < (cosN g h (ordN g)).1.length → ∀ y : Int, decide ((quoN a ((cosN g h (ordN g)).1.take k)).length + [Sc.n .i64 y].length ≤ lim) = true := fun k hk y => by
    have : (quoN a ((cosN g h (ordN g)).1.take k)).length ≤ 24 := by unfold quoN; rw [List.length_map, List.length_take]; omega
    exact decide_eq_true (by rw [List.length_singleton]; exact Nat.le_trans (show (quoN a ((cosN g h (ordN g)).1.take k)).length + 1 ≤ 25 by omega) (by decide))
  constructor
  · have key := loop_count (rd := f_s_QuotientSet_r0 (a : Int)) (fun k => (ints (natsI (cosN g h (ordN g)).1), ints (natsI (quoN a ((cosN g h (ordN g)).1.take k))), (k : Int))) (cosN g h (ordN g)).1.length (a := ints (natsI (quoN a ((cosN g h (ordN g)).1.take (cosN g h (ordN g)).1.length)))) (fun k hk => by
      have hc := cos_each_lt v s hk
      have hc24 := pow24 v hc
      have hand : (cosN g h (ordN g)).1.getD k 0 &&& a < 9223372036854775808 := Nat.lt_of_le_of_lt Nat.and_le_left (by omega)
      simp only [f_s_QuotientSet_r0, f_s_QuotientSet_k0, ints_length, natsI_length, lt_dec hk, in_nat hk, Int.toNat_natCast, kAt_ints, atN_natsI, br_true, and64_nat (show (cosN g h (ordN g)).1.getD k 0 < 9223372036854775808 by omega) (show a < 9223372036854775808 by omega), s_l3Bits_eq hand, bo_some, hl2 k hk, w64_nat (show k < 9223372036854775807 by omega), ints_cast_snoc, step k hk]) (by
      simp only [f_s_QuotientSet_r0, f_s_QuotientSet_k0, ints_length, natsI_length, lt_dec_self, br_false]) 0 (Nat.zero_le _)
    rw [List.take_length] at key
    have key' : loopL (f_s_QuotientSet_r0 (a : Int)) (ints (natsI (cosN g h (ordN g)).1), [], 0) = some (.one (ints (natsI (quoN a (cosN g h (ordN g)).1)))) := key
    simp only [f_s_QuotientSet, f_s_QuotientSet_k, c1, bo_some, Bool.not_true, BEq.rfl, br_true, s_IsSet_eq _ _ v.lim, hs, br_false, key', bl1_one]
  · have key := loop_count (rd := f_i_QuotientSet_r0 (a : Int) ((cosN g h (ordN g)).1.length : Int)) (fun k => (ints (natsI (quoN a ((cosN g h (ordN g)).1.take k))), ints (natsI (cosN g h (ordN g)).1), (k : Int))) (cosN g h (ordN g)).1.length (a := (ints (natsI (quoN a ((cosN g h (ordN g)).1.take (cosN g h (ordN g)).1.length))), ints (natsI (cosN g h (ordN g)).1))) (fun k hk => by
      have hc := cos_each_lt v s hk
      have hc24 := pow24 v hc
      have hand : (cosN g h (ordN g)).1.getD k 0 &&& a < 9223372036854775808 := Nat.lt_of_le_of_lt Nat.and_le_left (by omega)
      simp only [f_i_QuotientSet_r0, f_i_QuotientSet_k0, ints_length, natsI_length, lt_dec hk, in_nat hk, Int.toNat_natCast, kAt_ints, atN_natsI, br_true, and64_nat (show (cosN g h (ordN g)).1.getD k 0 < 9223372036854775808 by omega) (show a < 9223372036854775808 by omega), i_bits_eq hand, bo_some, hl2 k hk, w64_nat (show k < 9223372036854775807 by omega), ints_cast_snoc, step k hk]) (by
      simp only [f_i_QuotientSet_r0, f_i_QuotientSet_k0, lt_dec_self, br_false]) 0 (Nat.zero_le _)
    rw [List.take_length] at key
    have key' : loopL (f_i_QuotientSet_r0 (a : Int) ((cosN g h (ordN g)).1.length : Int)) ([], ints (natsI (cosN g h (ordN g)).1), 0) = some (.one (ints (natsI (quoN a (cosN g h (ordN g)).1)), ints (natsI (cosN g h (ordN g)).1))) := key
    simp only [f_i_QuotientSet, f_i_QuotientSet_k, c2, bo_some, Bool.not_true, BEq.rfl, br_true, i_IsSet_eq _ _ v.lim, hs, br_false, ints_length, natsI_length, key', bl1_one]
theorem quo_sum {g : List Nat} {h a : Nat} (v : VG g) (s : Subg g h) (ha : a < 2 ^ ordN g) : (quoN a (cosN g h (ordN g)).1).sum = popN a := by
  have ok := cos_ok v s (ordN g) (Nat.le_refl _)
  have e := ok.pop a
  have e2 : (cosN g h (ordN g)).2 &&& a = a := by
    rw [Nat.and_comm]
    exact sbN_and.1 fun z hz => ok.seen z (bit_lt ha hz)
  rw [e2] at e
  exact e
theorem l_total_nat (l : List Nat) (hl : l.length ≤ 1000) (hs : l.sum ≤ 1000000) : f_l_total (ints (natsI l)) = some ((l.sum : Nat) : Int) := by
  have le : ∀ k, (l.take k).sum ≤ l.sum := fun k => by
    have h := congrArg List.sum (List.take_append_drop k l)
    rw [List.sum_append] at h
    omega
  have step : ∀ k, k < l.length → (l.take (k + 1)).sum = (l.take k).sum + l.getD k 0 := fun k hk => by
    rw [List.take_succ_eq_append_getElem hk, List.sum_append]
    simp [List.getD, List.getElem?_eq_getElem hk]
  have key := loop_count (rd := f_l_total_r0 (ints (natsI l))) (fun k => (((l.take k).sum : Nat), (k : Int))) l.length (a := (((l.take l.length).sum : Nat) : Int)) (fun k hk => by
    have h1 := le (k + 1)
    rw [step k hk] at h1
    simp only [f_l_total_r0, f_l_total_k0, ints_length, natsI_length, lt_dec hk, ok_natsI hk, at_natsI, br_true, w64_nat (show k < 9223372036854775807 by omega), ← Int.natCast_add, w64_cast (show (l.take k).sum + l.getD k 0 < 9223372036854775808 by omega), step k hk]) (by
    simp only [f_l_total_r0, f_l_total_k0, ints_length, natsI_length, lt_dec_self, br_false]) 0 (Nat.zero_le _)
  rw [List.take_length] at key
  have key' : loopL (f_l_total_r0 (ints (natsI l))) (0, 0) = some (.one ((l.sum : Nat) : Int)) := key
  simp only [f_l_total, f_l_total_k, key', bl1_one]
/-! ### PeriodsOf -/
theorem odd_less {s : Nat} (h0 : s.testBit 0 = true) : s % 2 = 1 := by
  rw [Nat.testBit_zero] at h0
  exact of_decide_eq_true h0
theorem pop_less {s : Nat} (h0 : s.testBit 0 = true) : popN s = popN (s - 1) + 1 := by
  have h1 := odd_less h0
  show s % 2 + pcn 62 (s / 2) = (s - 1) % 2 + pcn 62 ((s - 1) / 2) + 1
  have e : (s - 1) / 2 = s / 2 := by omega
  rw [e]
  omega
theorem PeriodsOf_yes {g : List Nat} {a : Nat} (v : VG g) (ha : a < 2 ^ ordN g) :
    f_s_PeriodsOf (ints (natsI g)) (a : Int) = some (ints (natsI (elems (stabN g a (ordN g) - 1)))) ∧ f_i_PeriodsOf (ints (natsI g)) (a : Int) = some (ints (natsI (elems (stabN g a (ordN g) - 1)))) := by
  have hs := set_ofW v ha
  have s := stab_sub v ha
  have s24 := pow24 v s.lt
  have h1 := odd_less s.zero
  constructor
  · have ew : w64 (((stabN g a (ordN g) : Nat) : Int) - 1) = ((stabN g a (ordN g) - 1 : Nat) : Int) := by rw [show ((stabN g a (ordN g) : Nat) : Int) - 1 = ((stabN g a (ordN g) - 1 : Nat) : Int) by omega]; exact w64_cast (by omega)
    simp only [f_s_PeriodsOf, f_s_PeriodsOf_k, s_IsSet_eq _ _ v.lim, hs, bo_some, Bool.not_true, br_false, s_stab_eq v ha, ew, s_l3List_eq (show stabN g a (ordN g) - 1 < 9223372036854775808 by omega)]
  · obtain ⟨n, en, _, hb⟩ := andNot_nat (a := stabN g a (ordN g)) (b := 1) (by omega) (by decide)
    have hn : n = stabN g a (ordN g) - 1 := by
      apply Nat.eq_of_testBit_eq
      intro z
      rw [hb z]
      cases z with
      | zero =>
        have e2 : (stabN g a (ordN g) - 1) % 2 = 0 := by omega
        rw [Nat.testBit_zero, Nat.testBit_zero, Nat.testBit_zero, e2]
        simp
      | succ z =>
        have e2 : (stabN g a (ordN g) - 1) / 2 = stabN g a (ordN g) / 2 := by omega
        rw [Nat.testBit_succ, Nat.testBit_succ, Nat.testBit_succ, e2]
        simp
    have en' : andNot64 ((stabN g a (ordN g) : Nat) : Int) 1 = (n : Int) := en
    rw [hn] at en'
    simp only [f_i_PeriodsOf, f_i_PeriodsOf_k, i_IsSet_eq _ _ v.lim, hs, bo_some, Bool.not_true, br_false, i_stab_eq v ha hs, en', i_members_eq (show stabN g a (ordN g) - 1 < 9223372036854775808 by omega)]
end Go.Proofs.Ytphbclogflflmaa
