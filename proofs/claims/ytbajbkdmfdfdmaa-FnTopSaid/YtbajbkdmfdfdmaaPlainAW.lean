/-
  PlainAW: FnPeriods.
-/
import Derived.Test.YtbajbkdmfdfdmaaPlainAV
import Derived.Test.YtbajbkdmfdfdmaaPlainAK
set_option linter.unusedVariables false
set_option linter.unusedSimpArgs false
namespace Go.Proofs.Ytbajbkdmfdfdmaa
open Go Ev

/-! ### The stabilizer -/
theorem stab_bit {g : List Nat} (a x : Nat) : ∀ k, ((stabN g a k).testBit x = true ↔ x < k ∧ shiftN g a x = a)
  | 0 => by simp [stabN]
  | k + 1 => by
    rw [stabN_succ]
    unfold stabF
    have ih := stab_bit (g := g) a x k
    by_cases h : shiftN g a k = a
    · rw [if_pos h, Nat.testBit_or, Bool.or_eq_true, ih, pow_test, decide_eq_true_eq]
      constructor
      · rintro (⟨h1, h2⟩ | rfl)
        · exact ⟨by omega, h2⟩
        · exact ⟨by omega, h⟩
      · rintro ⟨h1, h2⟩
        by_cases e : k = x
        · exact .inr e
        · exact .inl ⟨by omega, h2⟩
    · rw [if_neg h, ih]
      constructor
      · rintro ⟨h1, h2⟩; exact ⟨by omega, h2⟩
      · rintro ⟨h1, h2⟩
        refine ⟨?_, h2⟩
        rcases Nat.lt_or_ge x k with h3 | h3
        · exact h3
        · have : x = k := by omega
          subst this
          exact absurd h2 h
theorem shift_add {g : List Nat} (v : VG g) {a : Nat} (ha : a < 2 ^ ordN g) (x y : Nat) : shiftN g (shiftN g a x) y = shiftN g a (addN g x y) := by
  have hs := shiftN_lt v a x
  have e : ∀ u, addN g y (addN g x u) = addN g (addN g x y) u := fun u => by
    rw [← addN_assoc g v.each, addN_comm g y x]
  refine sbN_eq (fun z hz => ?_) fun z hz => ?_
  · obtain ⟨w, hw, rfl⟩ := (shift_bit v hs y z).1 hz
    obtain ⟨u, hu, rfl⟩ := (shift_bit v ha x w).1 hw
    exact (shift_bit v ha _ _).2 ⟨u, hu, (e u).symm⟩
  · obtain ⟨u, hu, rfl⟩ := (shift_bit v ha _ z).1 hz
    exact (shift_bit v hs y _).2 ⟨addN g x u, (shift_bit v ha x _).2 ⟨u, hu, rfl⟩, e u⟩
theorem stab_sub {g : List Nat} (v : VG g) {a : Nat} (ha : a < 2 ^ ordN g) : Subg g (stabN g a (ordN g)) := by
  refine ⟨stabN_lt v a _ (Nat.le_refl _), ?_, fun x y hx hy => ?_⟩
  · obtain ⟨m, hm⟩ : ∃ m, ordN g = m + 1 := ⟨ordN g - 1, by have := ordN_pos v.each; omega⟩
    rw [hm]
    exact stabN_zero v ha m
  · have hx := ((stab_bit a x _).1 hx).2
    have hy := ((stab_bit a y _).1 hy).2
    refine (stab_bit a _ _).2 ⟨addN_lt v.each x y, ?_⟩
    rw [← shift_add v ha, hx, hy]
theorem stab_keeps {g : List Nat} (v : VG g) {a : Nat} (ha : a < 2 ^ ordN g) {x y : Nat} (hx : a.testBit x = true) (hy : (stabN g a (ordN g)).testBit y = true) : a.testBit (addN g x y) = true := by
  have hy := ((stab_bit a y _).1 hy).2
  rw [← hy]
  exact (shift_bit v ha y _).2 ⟨x, hx, addN_comm g y x⟩
theorem fill_stab {g : List Nat} (v : VG g) {a : Nat} (ha : a < 2 ^ ordN g) : sumN g a (stabN g a (ordN g)) = a := by
  have s := stab_sub v ha
  refine sbN_eq (fun z hz => ?_) fun z hz => ?_
  · obtain ⟨x, y, hx, hy, rfl⟩ := (sum_bit v ha s.lt z).1 hz
    exact stab_keeps v ha hx hy
  · exact (sum_bit v ha s.lt z).2 ⟨z, 0, hz, s.zero, by rw [addN_comm]; exact addN_zero g z v.each (bit_lt ha hz)⟩
theorem fill_up {g : List Nat} {h : Nat} (v : VG g) (s : Subg g h) {a : Nat} (ha : a < 2 ^ ordN g) : sbN a (sumN g a h) := fun z hz =>
  (sum_bit v ha s.lt z).2 ⟨z, 0, hz, s.zero, by rw [addN_comm]; exact addN_zero g z v.each (bit_lt ha hz)⟩
theorem set_ofW {g : List Nat} (v : VG g) {a : Nat} (ha : a < 2 ^ ordN g) : setG (natsI g) (a : Int) = true := by
  unfold setG
  rw [v.isG, v.ordG, shl_ord v, decide_eq_true (show (a : Int) ≥ 0 by omega), decide_eq_true (show (a : Int) < ((2 ^ ordN g : Nat) : Int) by omega)]
  rfl
theorem two_setsW {G : List Int} {x y : Int} (hx : setG G x = true) (hy : setG G y = true) : ∃ g a b, G = natsI g ∧ VG g ∧ x = ((a : Nat) : Int) ∧ y = ((b : Nat) : Int) ∧ a < 2 ^ ordN g ∧ b < 2 ^ ordN g := by
  obtain ⟨g, a, rfl, v, rfl, ha⟩ := nat_of_set hx
  obtain ⟨g', b, e, v', rfl, hb⟩ := nat_of_set hy
  have e2 : g = g' := by
    have := congrArg (List.map Int.toNat) e
    rwa [toNat_natsI, toNat_natsI] at this
  subst e2
  exact ⟨g, a, b, rfl, v, rfl, rfl, ha, hb⟩
/-! ### CorePart -/
def corF (a o c : Nat) : Nat := if c &&& a = c then o ||| c else o
def corN (a : Nat) (L : List Nat) : Nat := L.foldl (corF a) 0
theorem cor_bit (a z : Nat) : ∀ (L : List Nat) (o : Nat), (L.foldl (corF a) o).testBit z = true ↔ o.testBit z = true ∨ ∃ c ∈ L, c &&& a = c ∧ c.testBit z = true
  | [], o => by simp
  | c :: L, o => by
    rw [List.foldl_cons, cor_bit a z L]
    unfold corF
    by_cases h : c &&& a = c
    · rw [if_pos h, Nat.testBit_or, Bool.or_eq_true]
      constructor
      · rintro ((h1 | h1) | ⟨d, hd, h2⟩)
        · exact .inl h1
        · exact .inr ⟨c, by simp, h, h1⟩
        · exact .inr ⟨d, by simp [hd], h2⟩
      · rintro (h1 | ⟨d, hd, h2, h3⟩)
        · exact .inl (.inl h1)
        · rcases List.mem_cons.1 hd with rfl | hd
          · exact .inl (.inr h3)
          · exact .inr ⟨d, hd, h2, h3⟩
    · rw [if_neg h]
      constructor
      · rintro (h1 | ⟨d, hd, h2⟩)
        · exact .inl h1
        · exact .inr ⟨d, by simp [hd], h2⟩
      · rintro (h1 | ⟨d, hd, h2, h3⟩)
        · exact .inl h1
        · rcases List.mem_cons.1 hd with rfl | hd
          · exact absurd h2 h
          · exact .inr ⟨d, hd, h2, h3⟩
theorem cor_sub (a : Nat) (L : List Nat) : sbN (corN a L) a := fun z hz => by
  rcases (cor_bit a z L 0).1 hz with h | ⟨c, _, h1, h2⟩
  · simp at h
  · exact (sbN_and.2 h1) z h2
theorem cor_lt {a n : Nat} {L : List Nat} (ha : a < 2 ^ n) : corN a L < 2 ^ n := by
  have h : corN a L &&& a = corN a L := sbN_and.1 (cor_sub a L)
  have h2 : corN a L ≤ a := by rw [← h]; exact Nat.and_le_right
  omega
theorem cor_stab {g : List Nat} (v : VG g) {a : Nat} (ha : a < 2 ^ ordN g) : corN a (cosN g (stabN g a (ordN g)) (ordN g)).1 = a := by
  have s := stab_sub v ha
  have ok := cos_ok v s (ordN g) (Nat.le_refl _)
  refine sbN_eq (cor_sub a _) fun z hz => (cor_bit a z _ 0).2 (.inr ?_)
  have hzl := bit_lt ha hz
  obtain ⟨c, hc, hcz⟩ := (ok.all z).1 (ok.seen z hzl)
  obtain ⟨x, hx, rfl⟩ := ok.each c hc
  have e := coset_eq v s hx hcz
  refine ⟨_, hc, sbN_and.1 fun w hw => ?_, hcz⟩
  rw [← e] at hw
  obtain ⟨y, hy, rfl⟩ := (shift_bit v s.lt z w).1 hw
  exact stab_keeps v ha hz hy
theorem cos_each_lt {g : List Nat} {h : Nat} (v : VG g) (s : Subg g h) {k : Nat} (hk : k < (cosN g h (ordN g)).1.length) : (cosN g h (ordN g)).1.getD k 0 < 2 ^ ordN g := by
  have ok := cos_ok v s (ordN g) (Nat.le_refl _)
  have hm : (cosN g h (ordN g)).1.getD k 0 ∈ (cosN g h (ordN g)).1 := by simp [List.getD, List.getElem?_eq_getElem hk]
  obtain ⟨x, _, e⟩ := ok.each _ hm
  rw [e]
  exact shiftN_lt v h x
/-! ### QuotientSet -/
def quoN (a : Nat) (L : List Nat) : List Nat := L.map fun c => popN (c &&& a)
theorem quo_sum {g : List Nat} {h a : Nat} (v : VG g) (s : Subg g h) (ha : a < 2 ^ ordN g) : (quoN a (cosN g h (ordN g)).1).sum = popN a := by
  have ok := cos_ok v s (ordN g) (Nat.le_refl _)
  have e := ok.pop a
  have e2 : (cosN g h (ordN g)).2 &&& a = a := by
    rw [Nat.and_comm]
    exact sbN_and.1 fun z hz => ok.seen z (bit_lt ha hz)
  rw [e2] at e
  exact e
theorem l_total_nat (l : List Nat) (hl : l.length ≤ 1000) (hs : l.sum ≤ 1000000) : f_l_total (ints (natsI l)) = some ((l.sum : Nat) : Int) := by
  have le : ∀ k, (l.take k).sum ≤ l.sum := fun k => by
    have h := congrArg List.sum (List.take_append_drop k l)
    rw [List.sum_append] at h
    omega
  have step : ∀ k, k < l.length → (l.take (k + 1)).sum = (l.take k).sum + l.getD k 0 := fun k hk => by
    rw [List.take_succ_eq_append_getElem hk, List.sum_append]
    simp [List.getD, List.getElem?_eq_getElem hk]
  have key := loop_count (rd := f_l_total_r0 (ints (natsI l))) (fun k => (((l.take k).sum : Nat), (k : Int))) l.length (a := (((l.take l.length).sum : Nat) : Int)) (fun k hk => by
    have h1 := le (k + 1)
    rw [step k hk] at h1
    simp only [f_l_total_r0, f_l_total_k0, ints_length, natsI_length, lt_dec hk, ok_natsI hk, at_natsI, br_true, w64_nat (show k < 9223372036854775807 by omega), ← Int.natCast_add, w64_cast (show (l.take k).sum + l.getD k 0 < 9223372036854775808 by omega), step k hk]) (by
    simp only [f_l_total_r0, f_l_total_k0, ints_length, natsI_length, lt_dec_self, br_false]) 0 (Nat.zero_le _)
  rw [List.take_length] at key
  have key' : loopL (f_l_total_r0 (ints (natsI l))) (0, 0) = some (.one ((l.sum : Nat) : Int)) := key
  simp only [f_l_total, f_l_total_k, key', bl1_one]
/-! ### PeriodsOf -/
theorem odd_less {s : Nat} (h0 : s.testBit 0 = true) : s % 2 = 1 := by
  rw [Nat.testBit_zero] at h0
  exact of_decide_eq_true h0
theorem pop_less {s : Nat} (h0 : s.testBit 0 = true) : popN s = popN (s - 1) + 1 := by
  have h1 := odd_less h0
  show s % 2 + pcn 62 (s / 2) = (s - 1) % 2 + pcn 62 ((s - 1) / 2) + 1
  have e : (s - 1) / 2 = s / 2 := by omega
  rw [e]
  omega
end Go.Proofs.Ytbajbkdmfdfdmaa
