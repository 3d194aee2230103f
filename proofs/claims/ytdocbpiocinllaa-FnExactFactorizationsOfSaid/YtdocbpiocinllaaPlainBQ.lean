/-
  PlainBQ: the factorizations of spec, by a plain recursion; how many there are.
-/
import Derived.Test.YtdocbpiocinllaaPlainBP
set_option linter.unusedVariables false
set_option linter.unusedSimpArgs false
namespace Go.Proofs.Ytdocbpiocinllaa
open Go Ev

/-- The ways to write L by the atoms A from the i-th on (n: a bound on their number). -/
def facS (A : List (List Int)) : Nat → List Int → Nat → List (List (List Int))
  | 0, _, _ => []
  | n + 1, L, i => if L.length = 0 then [[]] else (List.range' i (A.length - i)).flatMap fun j => match minL L (A.getD j []) with
    | some L' => (facS A n L' j).map fun f => A.getD j [] :: f
    | none => []
def wtA (a : List Int) : Nat := 7 ^ (7 - a.length)
/-- What is wanted of the atoms. -/
structure AT (A : List (List Int)) : Prop where
  pos : ∀ a ∈ A, 1 ≤ a.length
  le : ∀ a ∈ A, a.length ≤ 7
  len : A.length ≤ 48
  kraft : (A.map wtA).sum ≤ 7 ^ 7
theorem getD_mem {α : Type} {A : List α} {d : α} {j : Nat} (h : j < A.length) : A.getD j d ∈ A := by simp [List.getD, h]

def facG (A : List (List Int)) (n : Nat) (L : List Int) (j : Nat) : List (List (List Int)) := match minL L (A.getD j []) with
  | some L' => (facS A n L' j).map fun f => A.getD j [] :: f
  | none => []
theorem facS_succ (A : List (List Int)) (n : Nat) (L : List Int) (i : Nat) : facS A (n + 1) L i = if L.length = 0 then [[]] else (List.range' i (A.length - i)).flatMap (facG A n L) := rfl

theorem facS_deep {A : List (List Int)} : ∀ {n : Nat} {L : List Int} {i : Nat} {f : List (List Int)}, f ∈ facS A n L i → f.length ≤ n
  | 0, _, _, _, h => by simp [facS] at h
  | n + 1, L, i, f, h => by
    rw [facS_succ] at h
    split at h
    · simp only [List.mem_singleton] at h; subst h; simp
    · obtain ⟨j, _, hf⟩ := List.mem_flatMap.1 h
      unfold facG at hf
      split at hf
      · obtain ⟨f', hf', rfl⟩ := List.mem_map.1 hf
        have := facS_deep hf'
        simp only [List.length_cons]; omega
      · cases hf
theorem sum_drop (A : List (List Int)) (i : Nat) : ((A.drop i).map wtA).sum ≤ (A.map wtA).sum := by
  have : A.map wtA = (A.take i).map wtA ++ (A.drop i).map wtA := by rw [← List.map_append, List.take_append_drop]
  rw [this, List.sum_append]
  omega
theorem kraft_step {A : List (List Int)} {F : Nat → List (List (List Int))} {c : Nat} (h : ∀ j, j < A.length → (F j).length * 7 ^ 7 ≤ wtA (A.getD j []) * c) : ∀ (m i : Nat), i + m = A.length → ((List.range' i m).flatMap F).length * 7 ^ 7 ≤ ((A.drop i).map wtA).sum * c
  | 0, i, hi => by simp
  | m + 1, i, hi => by
    have hlt : i < A.length := by omega
    rw [List.range'_succ, List.flatMap_cons, List.length_append, List.drop_eq_getElem_cons hlt, List.map_cons, List.sum_cons, Nat.add_mul, Nat.add_mul]
    have h1 := h i hlt
    rw [show A.getD i [] = A[i] by simp [List.getD, hlt]] at h1
    exact Nat.add_le_add h1 (kraft_step h m (i + 1) (by omega))
theorem facS_len {A : List (List Int)} (hA : AT A) : ∀ (n : Nat) (L : List Int) (i : Nat), (facS A n L i).length ≤ 7 ^ L.length
  | 0, L, i => by simp [facS]
  | n + 1, L, i => by
    rw [facS_succ]
    split
    · rename_i h0; rw [h0]; simp
    · by_cases hi : i ≤ A.length
      · have key := kraft_step (A := A) (F := facG A n L) (c := 7 ^ L.length) (fun j hj => by
          unfold facG
          split
          · rename_i L' hm
            rw [List.length_map]
            have h1 := facS_len hA n L' j
            have h2 := minL_len hm
            have h3 := hA.le _ (getD_mem (d := []) hj)
            have e : 7 ^ 7 * 7 ^ L'.length = wtA (A.getD j []) * 7 ^ L.length := by
              unfold wtA
              rw [← Nat.pow_add, ← Nat.pow_add]
              congr 1
              omega
            calc (facS A n L' j).length * 7 ^ 7 ≤ 7 ^ L'.length * 7 ^ 7 := Nat.mul_le_mul_right _ h1
              _ = wtA (A.getD j []) * 7 ^ L.length := by rw [Nat.mul_comm]; exact e
              _ ≤ _ := Nat.le_refl _
          · simp) (A.length - i) i (by omega)
        have h4 : ((A.drop i).map wtA).sum * 7 ^ L.length ≤ 7 ^ 7 * 7 ^ L.length := Nat.mul_le_mul_right _ (Nat.le_trans (sum_drop A i) hA.kraft)
        have h5 := Nat.le_trans key h4
        rw [Nat.mul_comm (7 ^ 7)] at h5
        exact Nat.le_of_mul_le_mul_right h5 (Nat.pow_pos (by decide))
      · rw [show A.length - i = 0 by omega]
        simp

def encF (fs : List (List (List Int))) : List Sc := fs.map fun f => .l (lz f)
theorem encF_len (fs : List (List (List Int))) : (encF fs).length = fs.length := by simp [encF]
theorem encF_append (A B : List (List (List Int))) : encF (A ++ B) = encF A ++ encF B := by simp [encF]
theorem lsN_encF (fs : List (List (List Int))) (k : Nat) : lsN (encF fs) k = lz (fs.getD k []) := by
  unfold lsN encF
  simp only [List.getD, List.getElem?_map]
  cases fs[k]? <;> rfl
theorem lsN_lz (A : List (List Int)) (k : Nat) : lsN (lz A) k = ints (A.getD k []) := by
  unfold lsN lz
  simp only [List.getD, List.getElem?_map]
  cases A[k]? <;> rfl
theorem lsI_lz (A : List (List Int)) (k : Nat) : lsI (lz A) (k : Int) = ints (A.getD k []) := by
  show lsN (lz A) ((k : Int)).toNat = _
  rw [Int.toNat_natCast, lsN_lz]

theorem factor_in {A : List (List Int)} (hA : AT A) (self : (List Sc × List Sc × Int) → Option (List Sc)) (t1 : List Sc) {j : Nat} (hj : j < A.length) (T fs : List (List (List Int))) (hT : T.length + fs.length ≤ lim) (hf : ∀ f ∈ fs, f.length ≤ 1000) :
    loopL (f_s_l19Factor_r2 self (lz A) t1 (j : Int)) (encF T, encF fs, 0) = some (.one (encF (T ++ fs.map fun f => A.getD j [] :: f))) := by
  have hl := lim_lt hT
  have ha := hA.le _ (getD_mem (d := []) hj)
  have key := loop_count (rd := f_s_l19Factor_r2 self (lz A) t1 (j : Int)) (fun k => (encF (T ++ (fs.take k).map fun f => A.getD j [] :: f), encF fs, (k : Int))) fs.length (a := encF (T ++ fs.map fun f => A.getD j [] :: f)) (fun k hk => by
    have hfk := hf _ (getD_mem (d := []) hk)
    have e1 : (lz (fs.getD k [])).length = (fs.getD k []).length := lz_len _
    have e2 : (encF (T ++ (fs.take k).map fun f => A.getD j [] :: f)).length = T.length + k := by
      rw [encF_len, List.length_append, List.length_map, List.length_take]; omega
    simp only [f_s_l19Factor_r2, f_s_l19Factor_k2, encF_len, lt_dec hk, br_true, inRange_nat, lz_len, decide_eq_true hk, decide_eq_true hj, lsI_lz, Int.toNat_natCast, lsN_encF, List.nil_append, List.length_nil, ints_length, List.length_cons, w64_nat (by omega : k < 9223372036854775807)]
    rw [show decide (0 + (A.getD j []).length ≤ lim) = true from decide_eq_true (by unfold lim; omega)]
    rw [show decide (0 + 1 + (fs.getD k []).length ≤ lim) = true from decide_eq_true (by unfold lim; omega)]
    simp only [br_true]
    rw [show decide ((T ++ (fs.take k).map fun f => A.getD j [] :: f).length + (0 + 1) ≤ lim) = true from decide_eq_true (by rw [← encF_len, e2]; omega)]
    simp only [br_true]
    congr 2
    have e3 : fs.take (k + 1) = fs.take k ++ [fs.getD k []] := by
      rw [List.take_succ_eq_append_getElem hk]
      simp [List.getD, hk]
    rw [e3, List.map_append, ← List.append_assoc, encF_append (T ++ (fs.take k).map fun f => A.getD j [] :: f)]
    rfl)
    (by simp only [f_s_l19Factor_r2, f_s_l19Factor_k2, encF_len, lt_dec_self, br_false, List.take_length]) 0 (Nat.zero_le _)
  simpa using key
theorem flat_le {F : Nat → List (List (List Int))} (i : Nat) : ∀ {t m : Nat}, t ≤ m → ((List.range' i t).flatMap F).length ≤ ((List.range' i m).flatMap F).length := by
  intro t m h
  obtain ⟨d, rfl⟩ : ∃ d, m = t + d := ⟨m - t, by omega⟩
  rw [← List.range'_append_1, List.flatMap_append, List.length_append]
  omega
theorem flat_succ {F : Nat → List (List (List Int))} (i t : Nat) : (List.range' i (t + 1)).flatMap F = (List.range' i t).flatMap F ++ F (i + t) := by
  rw [← List.range'_append_1, List.flatMap_append]
  simp
theorem factor_loop {A : List (List Int)} (hA : AT A) (self : (List Sc × List Sc × Int) → Option (List Sc)) (n : Nat) (hn : n ≤ 900) {L : List Int} (hL : L.length ≤ 12) (h0 : L.length ≠ 0) {i : Nat} (hi : i ≤ A.length)
    (hs : ∀ (L' : List Int) (j : Nat), L'.length < L.length → j < A.length → self (lz A, ints L', (j : Int)) = some (encF (facS A n L' j))) :
    loopL (f_s_l19Factor_r0 self (lz A) (ints L)) ([], (i : Int)) = some (.one (encF (facS A (n + 1) L i), (A.length : Int))) := by
  have hA48 := hA.len
  have hlen := facS_len hA (n + 1) L i
  have h12 : 7 ^ L.length ≤ 7 ^ 12 := Nat.pow_le_pow_right (by decide) hL
  have hlim : (7 : Nat) ^ 12 ≤ lim := by decide
  have hLl : L.length ≤ lim := by unfold lim; omega
  rw [facS_succ, if_neg h0] at hlen ⊢
  have key := loop_count (rd := f_s_l19Factor_r0 self (lz A) (ints L)) (fun t => (encF ((List.range' i t).flatMap (facG A n L)), ((i + t : Nat) : Int))) (A.length - i) (a := (encF ((List.range' i (A.length - i)).flatMap (facG A n L)), (A.length : Int))) (fun t ht => by
    have hj : i + t < A.length := by omega
    have ha := hA.le _ (getD_mem (d := []) hj)
    have hpos := hA.pos _ (getD_mem (d := []) hj)
    simp only [f_s_l19Factor_r0, f_s_l19Factor_k0, lz_len, lt_dec hj, br_true, inRange_nat, decide_eq_true hj, lsI_lz, Minus_eq L (A.getD (i + t) []) hLl (by unfold lim; omega), bo_some, w64_nat (by omega : i + t < 9223372036854775807)]
    rw [flat_succ]
    cases hm : minL L (A.getD (i + t) []) with
    | none =>
      have e : facG A n L (i + t) = [] := by unfold facG; rw [hm]
      rw [e, List.append_nil]
      rfl
    | some L' =>
      have e : facG A n L (i + t) = (facS A n L' (i + t)).map fun f => A.getD (i + t) [] :: f := by unfold facG; rw [hm]
      have hlt : L'.length < L.length := by have := minL_len hm; omega
      simp only [Bool.not_true, br_false, hs L' (i + t) hlt hj, bo_some]
      have hb : ((List.range' i t).flatMap (facG A n L)).length + (facS A n L' (i + t)).length ≤ lim := by
        have h1 := flat_le (F := facG A n L) i (t := t + 1) (m := A.length - i) (by omega)
        rw [flat_succ, List.length_append, e, List.length_map] at h1
        omega
      rw [factor_in hA self (ints L) hj _ _ hb (fun f hf => Nat.le_trans (facS_deep hf) (by omega))]
      simp only [bl1_one, e]
      rfl)
    (by
      have e : i + (A.length - i) = A.length := by omega
      simp only [e, f_s_l19Factor_r0, f_s_l19Factor_k0, lz_len, lt_dec_self, br_false]) 0 (Nat.zero_le _)
  have e0 : encF ([] : List (List (List Int))) = [] := rfl
  simp only [List.range'_zero, List.flatMap_nil, e0, Nat.add_zero] at key
  exact key
theorem factor_n {A : List (List Int)} (hA : AT A) : ∀ (n : Nat), n ≤ 900 → ∀ (L : List Int) (i : Nat), L.length < n → L.length ≤ 12 → i ≤ A.length → f_s_l19Factor_n n (lz A, ints L, (i : Int)) = some (encF (facS A n L i))
  | 0, _, L, i, h, _, _ => by omega
  | n + 1, hn, L, i, h, hL, hi => by
    show f_s_l19Factor_k (f_s_l19Factor_n n) (lz A) (ints L) (i : Int) some = _
    unfold f_s_l19Factor_k
    by_cases h0 : L.length = 0
    · have : L = [] := List.eq_nil_of_length_eq_zero h0
      subst this
      rfl
    · have e : (((ints L).length : Int) == 0) = false := by rw [ints_length]; simp; exact fun hh => h0 (by rw [hh]; rfl)
      rw [e, br_false, factor_loop hA (f_s_l19Factor_n n) n (by omega) hL h0 hi (fun L' j h1 h2 => factor_n hA n (by omega) L' j (by omega) (by omega) (by omega))]
      rfl
theorem Factor_eq {A : List (List Int)} (hA : AT A) {L : List Int} (hL : L.length ≤ 12) : f_s_l19Factor (lz A) (ints L) 0 = some (encF (facS A 13 L 0)) := by
  have := factor_n hA 13 (by decide) L 0 (by omega) hL (Nat.zero_le _)
  exact (Ev.Le.lim (q := 13) f_s_l19Factor_n_up (fun n a => Ev.Le.refl _)).of _ this
end Go.Proofs.Ytdocbpiocinllaa
