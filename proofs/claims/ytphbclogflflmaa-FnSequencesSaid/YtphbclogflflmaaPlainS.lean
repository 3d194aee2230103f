/-
  PlainS: what the sums of a sequence's parts are, by codes.
-/
import Derived.Test.YtphbclogflflmaaPlainP
import Derived.Test.YtphbclogflflmaaPlainQ
set_option linter.unusedVariables false
set_option linter.unusedSimpArgs false
namespace Go.Proofs.Ytphbclogflflmaa
open Go Ev

theorem subN_succ (l : List Nat) (c n : Nat) : subN l c (n + 1) = if c.testBit n then subN l c n ++ [l.getD n 0] else subN l c n := by
  unfold subN
  rw [List.range_succ, List.filter_append]
  cases h : c.testBit n <;> simp [h]
theorem subN_add (l : List Nat) (c n : Nat) : subN l (2 ^ n + c) n = subN l c n := by
  unfold subN
  congr 1
  refine List.filter_congr fun i hi => ?_
  exact Nat.testBit_two_pow_add_gt (List.mem_range.1 hi) c
theorem totN_snoc (g l : List Nat) (x : Nat) : totN g (l ++ [x]) = addN g (totN g l) x := by
  unfold totN
  rw [List.foldl_append]
  rfl
theorem subsN_snoc (g l : List Nat) (x : Nat) : subsN g (l ++ [x]) = subF g (subsN g l) x := by
  unfold subsN
  rw [List.foldl_append]
  rfl
theorem subsN_lt {g : List Nat} (v : VG g) : ∀ (l : List Nat) (o : Nat), o < 2 ^ ordN g → (∀ x ∈ l, x < ordN g) → l.foldl (subF g) o < 2 ^ ordN g
  | [], o, ho, _ => ho
  | x :: l, o, ho, h => subsN_lt v l (subF g o x) (subF_lt v ho (h x (by simp))) fun y hy => h y (by simp [hy])
theorem subs_iff {g l : List Nat} (v : VS g l) (z : Nat) : ∀ j, j ≤ l.length → ((subsN g (l.take j)).testBit z = true ↔ ∃ c, 1 ≤ c ∧ c < 2 ^ j ∧ totN g (subN l c j) = z)
  | 0, _ => by
    constructor
    · intro h
      rw [List.take_zero] at h
      exact absurd h (by simp [subsN])
    · rintro ⟨c, h1, h2, _⟩
      omega
  | j + 1, hj => by
    have ih := fun y => subs_iff v y j (by omega)
    have hx : l.getD j 0 < ordN g := v.at hj
    have hlt : subsN g (l.take j) < 2 ^ ordN g := subsN_lt v.grp _ 0 (Nat.two_pow_pos _) fun y hy => v.each y (List.mem_of_mem_take hy)
    have htk : l.take (j + 1) = l.take j ++ [l.getD j 0] := by
      rw [List.take_succ_eq_append_getElem (by omega : j < l.length)]
      simp [List.getD, show j < l.length by omega]
    rw [htk, subsN_snoc]
    unfold subF
    rw [Nat.testBit_or, Nat.testBit_or, shiftN_test, pow_test]
    simp only [Bool.or_eq_true, List.any_eq_true, decide_eq_true_eq]
    constructor
    · rintro ((h | ⟨y, hy, hz⟩) | h)
      · obtain ⟨c, h1, h2, h3⟩ := (ih z).1 h
        refine ⟨c, h1, by rw [Nat.pow_succ]; omega, ?_⟩
        rw [subN_succ, Nat.testBit_lt_two_pow h2]
        exact h3
      · have hb := (mem_elems (set_i64 v.grp hlt)).1 hy
        obtain ⟨c, h1, h2, h3⟩ := (ih y).1 hb
        refine ⟨2 ^ j + c, by omega, by rw [Nat.pow_succ]; omega, ?_⟩
        rw [subN_succ, Nat.testBit_two_pow_add_eq, Nat.testBit_lt_two_pow h2]
        simp only [Bool.not_false, if_true]
        rw [subN_add, totN_snoc, h3, addN_comm]
        exact hz
      · refine ⟨2 ^ j, Nat.two_pow_pos _, by rw [Nat.pow_succ]; have := Nat.two_pow_pos j; omega, ?_⟩
        have e0 : subN l (2 ^ j) j = [] := by
          have := subN_add l 0 j
          rw [Nat.add_zero] at this
          rw [this]
          simp [subN]
        have eb : (2 ^ j).testBit j = true := by rw [pow_test]; simp
        rw [subN_succ]
        simp only [eb, if_true]
        rw [e0, totN_snoc]
        show addN g 0 (l.getD j 0) = z
        rw [addN_zero g _ v.grp.each hx]
        exact h
    · rintro ⟨c, h1, h2, h3⟩
      rw [Nat.pow_succ] at h2
      rcases Nat.lt_or_ge c (2 ^ j) with hc | hc
      · left; left
        refine (ih z).2 ⟨c, h1, hc, ?_⟩
        rw [subN_succ, Nat.testBit_lt_two_pow hc] at h3
        exact h3
      · obtain ⟨d, rfl⟩ : ∃ d, c = 2 ^ j + d := ⟨c - 2 ^ j, by omega⟩
        have hd : d < 2 ^ j := by omega
        rw [subN_succ, Nat.testBit_two_pow_add_eq, Nat.testBit_lt_two_pow hd] at h3
        simp only [Bool.not_false, if_true] at h3
        rw [subN_add, totN_snoc] at h3
        rcases Nat.eq_zero_or_pos d with h0 | h0
        · subst h0
          right
          have e0 : subN l 0 j = [] := by simp [subN]
          rw [e0] at h3
          have h3 : addN g 0 (l.getD j 0) = z := h3
          rw [addN_zero g _ v.grp.each hx] at h3
          exact h3
        · left; right
          refine ⟨totN g (subN l d j), (mem_elems (set_i64 v.grp hlt)).2 ((ih _).2 ⟨d, h0, hd, rfl⟩), ?_⟩
          rw [addN_comm]
          exact h3
end Go.Proofs.Ytphbclogflflmaa
