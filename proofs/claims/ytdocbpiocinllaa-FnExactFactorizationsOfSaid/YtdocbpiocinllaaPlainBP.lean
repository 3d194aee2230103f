/-
  PlainBP: terms taken out of a sequence (l19Minus); the factorizations of spec.
-/
import Derived.Test.YtdocbpiocinllaaPlainBO
import Derived.Test.YtdocbpiocinllaaPlainF
set_option linter.unusedVariables false
set_option linter.unusedSimpArgs false
namespace Go.Proofs.Ytdocbpiocinllaa
open Go Ev

/-! ### One term taken out -/
def lastA (L : List Int) (x : Int) (n : Nat) : Int := (List.range n).foldl (fun (t : Int) (k : Nat) => if L.getD k 0 = x then (k : Int) else t) (-1)
theorem lastA_succ (L : List Int) (x : Int) (n : Nat) : lastA L x (n + 1) = if L.getD n 0 = x then (n : Int) else lastA L x n := by
  unfold lastA
  rw [List.range_succ, List.foldl_append]
  rfl
theorem lastA_spec (L : List Int) (x : Int) : ∀ n : Nat, (lastA L x n = -1 ∧ ∀ k, k < n → L.getD k 0 ≠ x) ∨ ∃ k : Nat, k < n ∧ L.getD k 0 = x ∧ lastA L x n = k
  | 0 => .inl ⟨rfl, fun k hk => by omega⟩
  | n + 1 => by
    rw [lastA_succ]
    by_cases h : L.getD n 0 = x
    · rw [if_pos h]; exact .inr ⟨n, by omega, h, rfl⟩
    · rw [if_neg h]
      rcases lastA_spec L x n with ⟨h1, h2⟩ | ⟨k, h1, h2, h3⟩
      · refine .inl ⟨h1, fun k hk => ?_⟩
        by_cases hkn : k = n
        · subst hkn; exact h
        · exact h2 k (by omega)
      · exact .inr ⟨k, by omega, h2, h3⟩
def rmL (L : List Int) (x : Int) : Option (List Int) := if lastA L x L.length < 0 then none else some (L.eraseIdx (lastA L x L.length).toNat)
theorem getD_at (L : List Int) {k : Nat} (h : k < L.length) : L.getD k 0 = L[k] := by simp [List.getD, h]
theorem rmL_none {L : List Int} {x : Int} (h : rmL L x = none) : x ∉ L := by
  unfold rmL at h
  split at h
  · rename_i hn
    rcases lastA_spec L x L.length with ⟨_, h2⟩ | ⟨k, _, _, h3⟩
    · intro hx
      obtain ⟨k, hk, rfl⟩ := List.getElem_of_mem hx
      exact h2 k hk (getD_at L hk)
    · omega
  · cases h
theorem erase_perm {L : List Int} {k : Nat} (h : k < L.length) : (L[k] :: L.eraseIdx k).Perm L := by
  have e : L = L.take k ++ L[k] :: L.drop (k + 1) := by rw [← List.drop_eq_getElem_cons h, List.take_append_drop]
  rw [List.eraseIdx_eq_take_drop_succ]
  refine List.Perm.trans List.perm_middle.symm ?_
  rw [← e]
theorem rmL_some {L L' : List Int} {x : Int} (h : rmL L x = some L') : (x :: L').Perm L := by
  unfold rmL at h
  split at h
  · cases h
  · rename_i hn
    injection h with h
    subst h
    rcases lastA_spec L x L.length with ⟨h1, _⟩ | ⟨k, h1, h2, h3⟩
    · omega
    · rw [h3]
      have e : ((k : Int)).toNat = k := by simp
      rw [e, ← h2, getD_at L h1]
      exact erase_perm h1
def minL : List Int → List Int → Option (List Int)
  | L, [] => some L
  | L, x :: a => match rmL L x with
    | some L' => minL L' a
    | none => none
theorem minL_some : ∀ {a L L' : List Int}, minL L a = some L' → (a ++ L').Perm L
  | [], L, L', h => by simp only [minL, Option.some.injEq] at h; subst h; exact List.Perm.refl _
  | x :: a, L, L', h => by
    simp only [minL] at h
    split at h
    · rename_i L1 h1
      exact ((minL_some h).cons x).trans (rmL_some h1)
    · cases h
theorem minL_none : ∀ {a L : List Int}, minL L a = none → ∃ x ∈ a, L.count x < a.count x
  | [], L, h => by cases h
  | x :: a, L, h => by
    simp only [minL] at h
    split at h
    · rename_i L1 h1
      obtain ⟨y, hy, hc⟩ := minL_none h
      refine ⟨y, List.mem_cons_of_mem _ hy, ?_⟩
      have := (rmL_some h1).count_eq y
      rw [List.count_cons] at this
      rw [List.count_cons]
      omega
    · rename_i h1
      refine ⟨x, List.mem_cons_self, ?_⟩
      have h0 : L.count x = 0 := List.count_eq_zero.2 (rmL_none h1)
      rw [h0, List.count_cons_self]
      omega
theorem minL_len {a L L' : List Int} (h : minL L a = some L') : a.length + L'.length = L.length := by
  have := (minL_some h).length_eq
  rw [List.length_append] at this
  exact this

theorem minus_find (a L : List Int) {i : Nat} (hi : i < a.length) (hL : L.length ≤ lim) : loopL (f_s_l19Minus_r2 (ints a) (ints L) (i : Int)) (-1, 0) = some (.one (lastA L (a.getD i 0) L.length)) := by
  have hl := lim_lt hL
  have key := loop_count (rd := f_s_l19Minus_r2 (ints a) (ints L) (i : Int)) (fun k => (lastA L (a.getD i 0) k, (k : Int))) L.length (a := lastA L (a.getD i 0) L.length) (fun k hk => by
    simp only [f_s_l19Minus_r2, f_s_l19Minus_k2, ints_length, lt_dec hk, br_true, ok_nat hk, ok_nat hi, at_nat, w64_nat (by omega : k < 9223372036854775807), lastA_succ]
    by_cases h : L.getD k 0 = a.getD i 0
    · rw [if_pos h, show (L.getD k 0 == a.getD i 0) = true from by simpa using h]; rfl
    · rw [if_neg h, show (L.getD k 0 == a.getD i 0) = false from by simpa using h]; rfl)
    (by simp only [f_s_l19Minus_r2, f_s_l19Minus_k2, ints_length, lt_dec_self, br_false]) 0 (Nat.zero_le _)
  exact key
theorem ints_append (A B : List Int) : ints (A ++ B) = ints A ++ ints B := by simp [ints]
theorem ints_nil : ints [] = [] := rfl
theorem minus_cut {R : Type} (L : List Int) {k : Nat} (hk : k < L.length) (hL : L.length ≤ lim) (K : List Sc → Option R) :
    br (decide (0 ≤ (0 : Int)) && (decide ((0 : Int) ≤ (k : Int)) && decide ((k : Int) ≤ ((ints L).length : Int))))
        (br (decide (([] : List Sc).length + (sliceA (ints L) 0 (k : Int)).length ≤ lim))
          (br (decide (0 ≤ (w64 ((k : Int) + 1))) && (decide ((w64 ((k : Int) + 1)) ≤ ((ints L).length : Int)) && decide (((ints L).length : Int) ≤ ((ints L).length : Int))))
            (br (decide (([] ++ (sliceA (ints L) 0 (k : Int))).length + (sliceA (ints L) (w64 ((k : Int) + 1)) ((ints L).length : Int)).length ≤ lim))
              (K (([] ++ (sliceA (ints L) 0 (k : Int))) ++ (sliceA (ints L) (w64 ((k : Int) + 1)) ((ints L).length : Int))))
              none)
            none)
          none)
        none = K (ints (L.eraseIdx k)) := by
  have hl := lim_lt hL
  have e1 : sliceA (ints L) 0 (k : Int) = ints (L.take k) := by
    simp [sliceA, ints, List.map_take]
  have e2 : sliceA (ints L) ((k + 1 : Nat) : Int) (L.length : Int) = ints (L.drop (k + 1)) := by
    simp only [sliceA, Int.toNat_natCast]
    unfold ints
    rw [List.take_of_length_le (by simp), List.map_drop]
  have l1 : (ints (L.take k)).length = k := by rw [ints_length, List.length_take]; omega
  have l2 : (ints (L.drop (k + 1))).length = L.length - (k + 1) := by rw [ints_length, List.length_drop]
  simp only [ints_length, w64_nat (by omega : k < 9223372036854775807), e1, e2, List.nil_append, List.length_nil, l1, l2]
  rw [show (decide (0 ≤ (0 : Int)) && (decide ((0 : Int) ≤ (k : Int)) && decide ((k : Int) ≤ (L.length : Int)))) = true from by simp; omega]
  rw [show decide (0 + k ≤ lim) = true from by simp; omega]
  rw [show (decide (0 ≤ ((k + 1 : Nat) : Int)) && (decide (((k + 1 : Nat) : Int) ≤ (L.length : Int)) && decide ((L.length : Int) ≤ (L.length : Int)))) = true from by simp; omega]
  rw [show decide (k + (L.length - (k + 1)) ≤ lim) = true from by simp; omega]
  simp only [br_true]
  rw [← ints_append, List.eraseIdx_eq_take_drop_succ]
theorem minus_loop (a : List Int) (ha : a.length ≤ lim) : ∀ (d : Nat) (i : Nat) (L : List Int), i + d = a.length → L.length ≤ lim → loopL (f_s_l19Minus_r0 (ints a)) (ints L, (i : Int)) = match minL L (a.drop i) with
    | some L' => some (.one (ints L', (a.length : Int)))
    | none => some (.two [])
  | 0, i, L, hi, hL => by
    have hi : i = a.length := by omega
    subst hi
    rw [List.drop_length]
    exact loopL_one (by simp only [f_s_l19Minus_r0, f_s_l19Minus_k0, ints_length, lt_dec_self, br_false])
  | d + 1, i, L, hi, hL => by
    have hal := lim_lt ha
    have hlt : i < a.length := by omega
    have hdr : a.drop i = a.getD i 0 :: a.drop (i + 1) := by rw [List.drop_eq_getElem_cons hlt, getD_at a hlt]
    rw [hdr]
    simp only [minL]
    have step : f_s_l19Minus_r0 (ints a) (ints L, (i : Int)) = match rmL L (a.getD i 0) with
        | some L' => some (.again (ints L', ((i + 1 : Nat) : Int)))
        | none => some (.two []) := by
      unfold f_s_l19Minus_r0 f_s_l19Minus_k0
      rw [show decide ((i : Int) < ((ints a).length : Int)) = true from by rw [ints_length]; exact lt_dec hlt, br_true, minus_find a L hlt hL, bl1_one]
      unfold rmL
      rcases lastA_spec L (a.getD i 0) L.length with ⟨h1, _⟩ | ⟨k, h1, h2, h3⟩
      · rw [h1]; rfl
      · rw [h3]
        have hn : ¬ ((k : Int) < 0) := by omega
        rw [if_neg hn, show decide ((k : Int) < 0) = false from by simp, br_false]
        rw [minus_cut L h1 hL fun x => some (Ro.again (x, w64 ((i : Int) + 1)))]
        simp only [Int.toNat_natCast, w64_nat (by omega : i < 9223372036854775807)]
    cases hr : rmL L (a.getD i 0) with
    | none => rw [hr] at step; exact loopL_two step
    | some L' =>
      rw [hr] at step
      rw [loopL_again step]
      have := (rmL_some hr).length_eq
      simp only [List.length_cons] at this
      exact minus_loop a ha d (i + 1) L' (by omega) (by omega)
theorem Minus_eq (L a : List Int) (hL : L.length ≤ lim) (ha : a.length ≤ lim) : f_s_l19Minus (ints L) (ints a) = some (match minL L a with
    | some L' => (ints L', true)
    | none => ([], false)) := by
  have key := minus_loop a ha a.length 0 L (by omega) hL
  rw [List.drop_zero] at key
  have e0 : (((0 : Nat) : Int)) = 0 := rfl
  rw [e0] at key
  simp only [f_s_l19Minus, f_s_l19Minus_k, List.nil_append, List.length_nil, ints_length]
  rw [show decide (0 + L.length ≤ lim) = true from by simp; omega]
  simp only [br_true, key]
  cases minL L a with
  | some L' => rfl
  | none => rfl
end Go.Proofs.Ytdocbpiocinllaa
