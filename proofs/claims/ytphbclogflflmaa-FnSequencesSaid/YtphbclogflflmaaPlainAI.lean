/-
  PlainAI: FormatSequence.
-/
import Derived.Test.YtphbclogflflmaaPlainN
import Derived.Test.YtphbclogflflmaaPlainC
import Derived.WalkKit
import Derived.Laws.Strings
set_option linter.unusedVariables false
set_option linter.unusedSimpArgs false
namespace Go.Proofs.Ytphbclogflflmaa
open Go Ev

/-- A number below 24, written. -/
def fmtN (n : Nat) : ByteArray := if n < 10 then ByteArray.mk #[UInt8.ofNat (48 + n)] else ByteArray.mk #[UInt8.ofNat (48 + n / 10), UInt8.ofNat (48 + n % 10)]
theorem fmtN_size (n : Nat) : 1 ≤ (fmtN n).size ∧ (fmtN n).size ≤ 2 := by
  unfold fmtN
  split
  · exact ⟨Nat.le_refl 1, (by decide : 1 ≤ 2)⟩
  · exact ⟨(by decide : 1 ≤ 2), Nat.le_refl 2⟩
theorem s_fmt_eq : ∀ n : Nat, n < 24 → f_s_FormatInt (n : Int) = some (fmtN n) := by
  have key : ∀ n : Nat, n < 24 → n ≠ 0 → loopL (f_s_FormatInt_r0 false) ((n : Int), ByteArray.empty) = some (.one (fmtN n)) := by
    intro n hn h0
    exact match n, hn, h0 with
    | 0, _, h => absurd rfl h
    | 1, _, _ => loopL_of (n := 4) (by kernel_rfl)
    | 2, _, _ => loopL_of (n := 4) (by kernel_rfl)
    | 3, _, _ => loopL_of (n := 4) (by kernel_rfl)
    | 4, _, _ => loopL_of (n := 4) (by kernel_rfl)
    | 5, _, _ => loopL_of (n := 4) (by kernel_rfl)
    | 6, _, _ => loopL_of (n := 4) (by kernel_rfl)
    | 7, _, _ => loopL_of (n := 4) (by kernel_rfl)
    | 8, _, _ => loopL_of (n := 4) (by kernel_rfl)
    | 9, _, _ => loopL_of (n := 4) (by kernel_rfl)
    | 10, _, _ => loopL_of (n := 4) (by kernel_rfl)
    | 11, _, _ => loopL_of (n := 4) (by kernel_rfl)
    | 12, _, _ => loopL_of (n := 4) (by kernel_rfl)
    | 13, _, _ => loopL_of (n := 4) (by kernel_rfl)
    | 14, _, _ => loopL_of (n := 4) (by kernel_rfl)
    | 15, _, _ => loopL_of (n := 4) (by kernel_rfl)
    | 16, _, _ => loopL_of (n := 4) (by kernel_rfl)
    | 17, _, _ => loopL_of (n := 4) (by kernel_rfl)
    | 18, _, _ => loopL_of (n := 4) (by kernel_rfl)
    | 19, _, _ => loopL_of (n := 4) (by kernel_rfl)
    | 20, _, _ => loopL_of (n := 4) (by kernel_rfl)
    | 21, _, _ => loopL_of (n := 4) (by kernel_rfl)
    | 22, _, _ => loopL_of (n := 4) (by kernel_rfl)
    | 23, _, _ => loopL_of (n := 4) (by kernel_rfl)
    | n + 24, h, _ => by omega
  intro n hn
  have d : decide ((n : Int) < 0) = false := neg_dec n
  simp only [f_s_FormatInt, f_s_FormatInt_k, d, br_false]
  by_cases h0 : n = 0
  · subst h0; rfl
  · have e : ((n : Int) == 0) = false := by
      have : ¬ ((n : Int) = 0) := by omega
      simpa using this
    rw [e, br_false, key n hn h0]
    rfl
theorem i_fmt_of {n : Nat} {D E : List Sc} (h0 : n ≠ 0) (hl : D.length ≤ 2) (h1 : loopN (f_i_FormatInt_r0 (n : Int)) 4 ([], (n : Int)) = some (.one D)) (h2 : loopN f_i_FormatInt_r2 4 (D, 0, w64 ((D.length : Int) - 1)) = some (.one E)) (h3 : allU E = true) (h4 : bytesOf E = fmtN n) :
    f_i_FormatInt (n : Int) = some (fmtN n) := by
  have e : ((n : Int) == 0) = false := by
    have : ¬ ((n : Int) = 0) := by omega
    simpa using this
  simp only [f_i_FormatInt, f_i_FormatInt_k, e, br_false, loopL_of h1, bl1_one, neg_dec, loopL_of h2, h3, br_true, h4]
theorem i_fmt_eq : ∀ n : Nat, n < 24 → f_i_FormatInt (n : Int) = some (fmtN n)
  | 0, _ => rfl
  | 1, _ => i_fmt_of (n := 1) (D := [Sc.n .u8 49]) (E := [Sc.n .u8 49]) (by decide) (by decide) (by kernel_rfl) (by kernel_rfl) (by kernel_rfl) (by kernel_rfl)
  | 2, _ => i_fmt_of (n := 2) (D := [Sc.n .u8 50]) (E := [Sc.n .u8 50]) (by decide) (by decide) (by kernel_rfl) (by kernel_rfl) (by kernel_rfl) (by kernel_rfl)
  | 3, _ => i_fmt_of (n := 3) (D := [Sc.n .u8 51]) (E := [Sc.n .u8 51]) (by decide) (by decide) (by kernel_rfl) (by kernel_rfl) (by kernel_rfl) (by kernel_rfl)
  | 4, _ => i_fmt_of (n := 4) (D := [Sc.n .u8 52]) (E := [Sc.n .u8 52]) (by decide) (by decide) (by kernel_rfl) (by kernel_rfl) (by kernel_rfl) (by kernel_rfl)
  | 5, _ => i_fmt_of (n := 5) (D := [Sc.n .u8 53]) (E := [Sc.n .u8 53]) (by decide) (by decide) (by kernel_rfl) (by kernel_rfl) (by kernel_rfl) (by kernel_rfl)
  | 6, _ => i_fmt_of (n := 6) (D := [Sc.n .u8 54]) (E := [Sc.n .u8 54]) (by decide) (by decide) (by kernel_rfl) (by kernel_rfl) (by kernel_rfl) (by kernel_rfl)
  | 7, _ => i_fmt_of (n := 7) (D := [Sc.n .u8 55]) (E := [Sc.n .u8 55]) (by decide) (by decide) (by kernel_rfl) (by kernel_rfl) (by kernel_rfl) (by kernel_rfl)
  | 8, _ => i_fmt_of (n := 8) (D := [Sc.n .u8 56]) (E := [Sc.n .u8 56]) (by decide) (by decide) (by kernel_rfl) (by kernel_rfl) (by kernel_rfl) (by kernel_rfl)
  | 9, _ => i_fmt_of (n := 9) (D := [Sc.n .u8 57]) (E := [Sc.n .u8 57]) (by decide) (by decide) (by kernel_rfl) (by kernel_rfl) (by kernel_rfl) (by kernel_rfl)
  | 10, _ => i_fmt_of (n := 10) (D := [Sc.n .u8 48, Sc.n .u8 49]) (E := [Sc.n .u8 49, Sc.n .u8 48]) (by decide) (by decide) (by kernel_rfl) (by kernel_rfl) (by kernel_rfl) (by kernel_rfl)
  | 11, _ => i_fmt_of (n := 11) (D := [Sc.n .u8 49, Sc.n .u8 49]) (E := [Sc.n .u8 49, Sc.n .u8 49]) (by decide) (by decide) (by kernel_rfl) (by kernel_rfl) (by kernel_rfl) (by kernel_rfl)
  | 12, _ => i_fmt_of (n := 12) (D := [Sc.n .u8 50, Sc.n .u8 49]) (E := [Sc.n .u8 49, Sc.n .u8 50]) (by decide) (by decide) (by kernel_rfl) (by kernel_rfl) (by kernel_rfl) (by kernel_rfl)
  | 13, _ => i_fmt_of (n := 13) (D := [Sc.n .u8 51, Sc.n .u8 49]) (E := [Sc.n .u8 49, Sc.n .u8 51]) (by decide) (by decide) (by kernel_rfl) (by kernel_rfl) (by kernel_rfl) (by kernel_rfl)
  | 14, _ => i_fmt_of (n := 14) (D := [Sc.n .u8 52, Sc.n .u8 49]) (E := [Sc.n .u8 49, Sc.n .u8 52]) (by decide) (by decide) (by kernel_rfl) (by kernel_rfl) (by kernel_rfl) (by kernel_rfl)
  | 15, _ => i_fmt_of (n := 15) (D := [Sc.n .u8 53, Sc.n .u8 49]) (E := [Sc.n .u8 49, Sc.n .u8 53]) (by decide) (by decide) (by kernel_rfl) (by kernel_rfl) (by kernel_rfl) (by kernel_rfl)
  | 16, _ => i_fmt_of (n := 16) (D := [Sc.n .u8 54, Sc.n .u8 49]) (E := [Sc.n .u8 49, Sc.n .u8 54]) (by decide) (by decide) (by kernel_rfl) (by kernel_rfl) (by kernel_rfl) (by kernel_rfl)
  | 17, _ => i_fmt_of (n := 17) (D := [Sc.n .u8 55, Sc.n .u8 49]) (E := [Sc.n .u8 49, Sc.n .u8 55]) (by decide) (by decide) (by kernel_rfl) (by kernel_rfl) (by kernel_rfl) (by kernel_rfl)
  | 18, _ => i_fmt_of (n := 18) (D := [Sc.n .u8 56, Sc.n .u8 49]) (E := [Sc.n .u8 49, Sc.n .u8 56]) (by decide) (by decide) (by kernel_rfl) (by kernel_rfl) (by kernel_rfl) (by kernel_rfl)
  | 19, _ => i_fmt_of (n := 19) (D := [Sc.n .u8 57, Sc.n .u8 49]) (E := [Sc.n .u8 49, Sc.n .u8 57]) (by decide) (by decide) (by kernel_rfl) (by kernel_rfl) (by kernel_rfl) (by kernel_rfl)
  | 20, _ => i_fmt_of (n := 20) (D := [Sc.n .u8 48, Sc.n .u8 50]) (E := [Sc.n .u8 50, Sc.n .u8 48]) (by decide) (by decide) (by kernel_rfl) (by kernel_rfl) (by kernel_rfl) (by kernel_rfl)
  | 21, _ => i_fmt_of (n := 21) (D := [Sc.n .u8 49, Sc.n .u8 50]) (E := [Sc.n .u8 50, Sc.n .u8 49]) (by decide) (by decide) (by kernel_rfl) (by kernel_rfl) (by kernel_rfl) (by kernel_rfl)
  | 22, _ => i_fmt_of (n := 22) (D := [Sc.n .u8 50, Sc.n .u8 50]) (E := [Sc.n .u8 50, Sc.n .u8 50]) (by decide) (by decide) (by kernel_rfl) (by kernel_rfl) (by kernel_rfl) (by kernel_rfl)
  | 23, _ => i_fmt_of (n := 23) (D := [Sc.n .u8 51, Sc.n .u8 50]) (E := [Sc.n .u8 50, Sc.n .u8 51]) (by decide) (by decide) (by kernel_rfl) (by kernel_rfl) (by kernel_rfl) (by kernel_rfl)
  | n + 24, h => by omega
/-! ### Sequences -/
abbrev spB : ByteArray := ByteArray.mk #[32]
abbrev caB : ByteArray := ByteArray.mk #[94]
def cntN (l : List Nat) (x : Nat) : Nat := l.countP fun y => decide (y = x)
theorem cnt_le (l : List Nat) (x : Nat) : cntN l x ≤ l.length := List.countP_le_length
def tokN (l : List Nat) (x : Nat) : ByteArray := if 1 < cntN l x then (fmtN x ++ caB) ++ fmtN (cntN l x) else fmtN x
theorem tok_size (l : List Nat) (x : Nat) : 1 ≤ (tokN l x).size ∧ (tokN l x).size ≤ 5 := by
  have h1 := fmtN_size x
  have h2 := fmtN_size (cntN l x)
  have h3 : caB.size = 1 := rfl
  unfold tokN
  split
  · simp only [ByteArray.size_append]; omega
  · omega
def toksN (l : List Nat) : Nat → List ByteArray
  | 0 => []
  | k + 1 => if 0 < k ∧ l.getD k 0 = l.getD (k - 1) 0 then toksN l k else toksN l k ++ [tokN l (l.getD k 0)]
theorem toks_mem (l : List Nat) : ∀ k, ∀ t ∈ toksN l k, 1 ≤ t.size ∧ t.size ≤ 5
  | 0, t, h => by cases h
  | k + 1, t, h => by
    unfold toksN at h
    split at h
    · exact toks_mem l k t h
    · rcases List.mem_append.1 h with h | h
      · exact toks_mem l k t h
      · rw [List.mem_singleton.1 h]; exact tok_size l _
theorem toks_len (l : List Nat) : ∀ k, (toksN l k).length ≤ k
  | 0 => Nat.le_refl _
  | k + 1 => by
    have := toks_len l k
    unfold toksN
    split
    · omega
    · rw [List.length_append, List.length_singleton]; omega
def glueN (ts : List ByteArray) : ByteArray := match ts with
  | [] => ByteArray.empty
  | t :: r => r.foldl (fun s u => (s ++ spB) ++ u) t
theorem glue_snoc (ts : List ByteArray) (t : ByteArray) : glueN (ts ++ [t]) = if ts.length = 0 then t else (glueN ts ++ spB) ++ t := by
  cases ts with
  | nil => rfl
  | cons u r =>
    rw [if_neg (by simp), List.cons_append]
    unfold glueN
    simp only [List.foldl_append, List.foldl_cons, List.foldl_nil]
theorem glue_size : ∀ (ts : List ByteArray), (∀ t ∈ ts, 1 ≤ t.size ∧ t.size ≤ 5) → (glueN ts).size ≤ 6 * ts.length ∧ ((glueN ts).size = 0 ↔ ts.length = 0) := by
  intro ts h
  cases ts with
  | nil => exact ⟨Nat.le_refl _, by simp [glueN]⟩
  | cons t r =>
    have key : ∀ (r : List ByteArray) (s : ByteArray), (∀ t ∈ r, 1 ≤ t.size ∧ t.size ≤ 5) → 1 ≤ s.size → 1 ≤ (r.foldl (fun s u => (s ++ spB) ++ u) s).size ∧ (r.foldl (fun s u => (s ++ spB) ++ u) s).size ≤ s.size + 6 * r.length := by
      intro r
      induction r with
      | nil => intro s _ hs; exact ⟨hs, by simp⟩
      | cons u r ih =>
        intro s hr hs
        have hu := hr u (by simp)
        have h3 : spB.size = 1 := rfl
        have := ih ((s ++ spB) ++ u) (fun t ht => hr t (by simp [ht])) (by simp only [ByteArray.size_append]; omega)
        rw [List.foldl_cons]
        simp only [ByteArray.size_append] at this
        simp only [List.length_cons]
        omega
    have ht := h t (by simp)
    have := key r t (fun u hu => h u (by simp [hu])) ht.1
    have e : glueN (t :: r) = r.foldl (fun s u => (s ++ spB) ++ u) t := rfl
    rw [e]
    simp only [List.length_cons]
    omega
theorem emp_test (b : ByteArray) : (b.toList == ByteArray.empty.toList) = decide (b.size = 0) := by
  rw [ByteArray.toList_eq, ByteArray.toList_eq]
  have e : ByteArray.empty.data.toList = [] := rfl
  rw [e, Bool.eq_iff_iff]
  simp only [beq_iff_eq, decide_eq_true_eq]
  constructor
  · intro h
    have : b.data.toList.length = 0 := by rw [h]; rfl
    simpa using this
  · intro h
    apply List.eq_nil_of_length_eq_zero
    simpa using h
theorem okB {a b : ByteArray} (h : a.size + b.size ≤ 1000) : decide (a.size + b.size ≤ lim) = true := decide_eq_true (Nat.le_trans h (by decide))
theorem mult_nat (l : List Nat) (x : Nat) (h : l.length ≤ 12) : (natsI l).foldl (multF (x : Int)) 0 = ((cntN l x : Nat) : Int) := by
  have := multF_count (x : Int) (natsI l) 0 (by rw [natsI_length]; omega)
  rw [show ((0 : Nat) : Int) = 0 from rfl] at this
  rw [this, Nat.zero_add]
  congr 1
  unfold natsI cntN
  rw [List.countP_map]
  congr 1
  funext y
  simp only [Function.comp]
  by_cases e : y = x
  · rw [decide_eq_true e]; exact decide_eq_true (by omega)
  · rw [decide_eq_false e]; exact decide_eq_false (by omega)
theorem gt1 (c : Nat) : decide (((c : Nat) : Int) > 1) = decide (1 < c) := by
  by_cases h : 1 < c
  · rw [decide_eq_true h]; exact decide_eq_true (by omega)
  · rw [decide_eq_false h]; exact decide_eq_false (by omega)
theorem w64_pred {k : Nat} (h1 : 1 ≤ k) (h2 : k ≤ 1000) : w64 ((k : Int) - 1) = ((k - 1 : Nat) : Int) := by
  rw [show (k : Int) - 1 = ((k - 1 : Nat) : Int) by omega]
  exact w64_cast (by omega)
theorem s_seq_step {g l : List Nat} (v : VS g l) (hs : isSeq (natsI g) (natsI l) = true) {k : Nat} (hk : k < l.length) : f_s_FormatSequence_r0 (ints (natsI l)) (ints (natsI g)) (glueN (toksN l k), (k : Int)) = some (.again (glueN (toksN l (k + 1)), ((k + 1 : Nat) : Int))) := by
  have h12 := v.len
  have h24 := v.grp.ord
  have hlimL : (natsI l).length ≤ lim := by rw [natsI_length]; exact v.lim
  have hx := v.at hk
  have hc := cnt_le l (l.getD k 0)
  obtain ⟨g1, g2⟩ := glue_size (toksN l k) (toks_mem l k)
  have hl := toks_len l k
  have ef : f_s_FormatInt ((l.getD k 0 : Nat) : Int) = some (fmtN (l.getD k 0)) := s_fmt_eq _ (by omega)
  have em : f_s_FormatInt ((cntN l (l.getD k 0) : Nat) : Int) = some (fmtN (cntN l (l.getD k 0))) := s_fmt_eq _ (by omega)
  have emu : f_s_MultiplicityIn (ints (natsI l)) ((l.getD k 0 : Nat) : Int) = some ((cntN l (l.getD k 0) : Nat) : Int) := by rw [s_MultiplicityIn_eq _ _ hlimL, mult_nat l _ h12]
  have z1 := fmtN_size (l.getD k 0)
  have z2 := fmtN_size (cntN l (l.getD k 0))
  have z3 : (ByteArray.mk #[32]).size = 1 := rfl
  have z4 : (ByteArray.mk #[94]).size = 1 := rfl
  have hsz : (glueN (toksN l k)).size ≤ 72 := by omega
  have e0 : (!((glueN (toksN l k)).toList == ByteArray.empty.toList)) = !decide ((toksN l k).length = 0) := by
    rw [emp_test]
    congr 1
    by_cases h : (toksN l k).length = 0
    · rw [decide_eq_true h, decide_eq_true (g2.2 h)]
    · rw [decide_eq_false h, decide_eq_false (fun e => h (g2.1 e))]
  have et : tokN l (l.getD k 0) = if 1 < cntN l (l.getD k 0) then (fmtN (l.getD k 0) ++ caB) ++ fmtN (cntN l (l.getD k 0)) else fmtN (l.getD k 0) := rfl
  generalize hF : fmtN (l.getD k 0) = F at *
  generalize hM : fmtN (cntN l (l.getD k 0)) = M at *
  generalize hS : glueN (toksN l k) = S at *
  have a1 : decide (S.size + (ByteArray.mk #[32]).size ≤ lim) = true := okB (by omega)
  have a2 : decide ((S ++ ByteArray.mk #[32]).size + F.size ≤ lim) = true := okB (by simp only [ByteArray.size_append]; omega)
  have a3 : decide (((S ++ ByteArray.mk #[32]) ++ F).size + (ByteArray.mk #[94]).size ≤ lim) = true := okB (by simp only [ByteArray.size_append]; omega)
  have a4 : decide ((((S ++ ByteArray.mk #[32]) ++ F) ++ ByteArray.mk #[94]).size + M.size ≤ lim) = true := okB (by simp only [ByteArray.size_append]; omega)
  have b2 : decide (S.size + F.size ≤ lim) = true := okB (by omega)
  have b3 : decide ((S ++ F).size + (ByteArray.mk #[94]).size ≤ lim) = true := okB (by simp only [ByteArray.size_append]; omega)
  have b4 : decide (((S ++ F) ++ ByteArray.mk #[94]).size + M.size ≤ lim) = true := okB (by simp only [ByteArray.size_append]; omega)
  -- what is written, when something is written
  have put : (if (toksN l k).length = 0 then (if 1 < cntN l (l.getD k 0) then ((S ++ F) ++ ByteArray.mk #[94]) ++ M else S ++ F) else (if 1 < cntN l (l.getD k 0) then (((S ++ ByteArray.mk #[32]) ++ F) ++ ByteArray.mk #[94]) ++ M else (S ++ ByteArray.mk #[32]) ++ F)) = glueN (toksN l k ++ [tokN l (l.getD k 0)]) := by
    rw [glue_snoc, et, hS]
    by_cases h : (toksN l k).length = 0
    · have hnil : toksN l k = [] := List.eq_nil_of_length_eq_zero h
      have hE : S = ByteArray.empty := by rw [← hS, hnil]; rfl
      rw [if_pos h, if_pos h, hE]
      split <;> simp only [ByteArray.empty_append, ByteArray.append_assoc]
    · rw [if_neg h, if_neg h]
      split <;> simp only [ByteArray.append_assoc]
  have one : (toksN l (k + 1)) = if 0 < k ∧ l.getD k 0 = l.getD (k - 1) 0 then toksN l k else toksN l k ++ [tokN l (l.getD k 0)] := rfl
  by_cases hk0 : 0 < k
  · have d0 : decide ((k : Int) > 0) = true := decide_eq_true (by omega)
    by_cases hq : l.getD k 0 = l.getD (k - 1) 0
    · rw [one, if_pos ⟨hk0, hq⟩, hS]
      simp only [f_s_FormatSequence_r0, f_s_FormatSequence_k0, ints_length, natsI_length, lt_dec hk, BEq.rfl, br_true, s_IsSequence_eq _ _ v.grp.lim hlimL, hs, bo_some, d0, ok_natsI hk, w64_pred (show 1 ≤ k by omega) (by omega), ok_natsI (show k - 1 < l.length by omega), at_natsI, eq_nat_dec, decide_eq_true hq, w64_nat (by omega : k < 9223372036854775807)]
    · rw [one, if_neg (fun h => hq h.2), ← put]
      simp only [f_s_FormatSequence_r0, f_s_FormatSequence_k0, ints_length, natsI_length, lt_dec hk, BEq.rfl, br_true, s_IsSequence_eq _ _ v.grp.lim hlimL, hs, bo_some, d0, ok_natsI hk, w64_pred (show 1 ≤ k by omega) (by omega), ok_natsI (show k - 1 < l.length by omega), at_natsI, eq_nat_dec, decide_eq_false hq, br_false, e0, a1, a2, a3, a4, b2, b3, b4, ef, em, emu, gt1, w64_nat (by omega : k < 9223372036854775807)]
      by_cases h : (toksN l k).length = 0 <;> by_cases h1 : 1 < cntN l (l.getD k 0) <;> simp only [h, h1, decide_true, decide_false, Bool.not_true, Bool.not_false, br_true, br_false, if_true, if_false]
  · obtain rfl : k = 0 := by omega
    have d0 : decide (((0 : Nat) : Int) > 0) = false := rfl
    have bf : (false == true) = false := rfl
    rw [one, if_neg (fun h => hk0 h.1), ← put]
    simp only [f_s_FormatSequence_r0, f_s_FormatSequence_k0, ints_length, natsI_length, lt_dec hk, BEq.rfl, br_true, s_IsSequence_eq _ _ v.grp.lim hlimL, hs, bo_some, d0, bf, br_false, ok_natsI hk, at_natsI, e0, a1, a2, a3, a4, b2, b3, b4, ef, em, emu, gt1, w64_nat (by omega : 0 < 9223372036854775807)]
    by_cases h : (toksN l 0).length = 0 <;> by_cases h1 : 1 < cntN l (l.getD 0 0) <;> simp only [h, h1, decide_true, decide_false, Bool.not_true, Bool.not_false, br_true, br_false, if_true, if_false]
def strs (ts : List ByteArray) : List Sc := ts.map Sc.s
theorem strs_len (ts : List ByteArray) : (strs ts).length = ts.length := by simp [strs]
theorem strs_snoc (ts : List ByteArray) (t : ByteArray) : strs ts ++ [Sc.s t] = strs (ts ++ [t]) := by simp [strs]
theorem strs_ok {ts : List ByteArray} {k : Nat} (h : k < ts.length) : okZ (.s ByteArray.empty) (strs ts) (k : Int) = true := by
  unfold okZ
  rw [in_nat (by rw [strs_len]; exact h), Bool.true_and, Int.toNat_natCast]
  simp [strs, List.getD, List.getElem?_eq_getElem h, sameKind]
theorem strs_at {ts : List ByteArray} {k : Nat} (h : k < ts.length) : atU (strs ts) (k : Int) = ts[k] := by
  unfold atU
  rw [Int.toNat_natCast]
  simp [strs, List.getD, List.getElem?_eq_getElem h, strOf]
theorem i_seq_step {g l : List Nat} (v : VS g l) (n : Int) (hn : n = (l.length : Int)) {k : Nat} (hk : k < l.length) : f_i_FormatSequence_r0 (ints (natsI l)) (ints (natsI l)) n (strs (toksN l k), (k : Int)) = some (.again (strs (toksN l (k + 1)), ((k + 1 : Nat) : Int))) := by
  subst hn
  have h12 := v.len
  have h24 := v.grp.ord
  have hlimL : (natsI l).length ≤ lim := by rw [natsI_length]; exact v.lim
  have hx := v.at hk
  have hc := cnt_le l (l.getD k 0)
  have hl := toks_len l k
  have ef : f_i_FormatInt ((l.getD k 0 : Nat) : Int) = some (fmtN (l.getD k 0)) := i_fmt_eq _ (by omega)
  have em : f_i_FormatInt ((cntN l (l.getD k 0) : Nat) : Int) = some (fmtN (cntN l (l.getD k 0))) := i_fmt_eq _ (by omega)
  have emu : f_i_MultiplicityIn (ints (natsI l)) ((l.getD k 0 : Nat) : Int) = some ((cntN l (l.getD k 0) : Nat) : Int) := by rw [i_MultiplicityIn_eq _ _ hlimL, mult_nat l _ h12]
  have z1 := fmtN_size (l.getD k 0)
  have z2 := fmtN_size (cntN l (l.getD k 0))
  have z4 : (ByteArray.mk #[94]).size = 1 := rfl
  have et : tokN l (l.getD k 0) = if 1 < cntN l (l.getD k 0) then (fmtN (l.getD k 0) ++ caB) ++ fmtN (cntN l (l.getD k 0)) else fmtN (l.getD k 0) := rfl
  generalize hF : fmtN (l.getD k 0) = F at *
  generalize hM : fmtN (cntN l (l.getD k 0)) = M at *
  have b3 : decide (F.size + (ByteArray.mk #[94]).size ≤ lim) = true := okB (by omega)
  have b4 : decide ((F ++ ByteArray.mk #[94]).size + M.size ≤ lim) = true := okB (by simp only [ByteArray.size_append]; omega)
  have c1 : ∀ t : ByteArray, decide ((toksN l k).length + [Sc.s t].length ≤ lim) = true := fun t => decide_eq_true (Nat.le_trans (show (toksN l k).length + 1 ≤ 13 by omega) (by decide))
  have put : (if 1 < cntN l (l.getD k 0) then strs (toksN l k ++ [(F ++ ByteArray.mk #[94]) ++ M]) else strs (toksN l k ++ [F])) = strs (toksN l k ++ [tokN l (l.getD k 0)]) := by
    rw [et]
    split <;> rfl
  have one : (toksN l (k + 1)) = if 0 < k ∧ l.getD k 0 = l.getD (k - 1) 0 then toksN l k else toksN l k ++ [tokN l (l.getD k 0)] := rfl
  by_cases hk0 : 0 < k
  · have d0 : decide ((k : Int) > 0) = true := decide_eq_true (by omega)
    by_cases hq : l.getD k 0 = l.getD (k - 1) 0
    · rw [one, if_pos ⟨hk0, hq⟩]
      simp only [f_i_FormatSequence_r0, f_i_FormatSequence_k0, lt_dec hk, BEq.rfl, br_true, d0, ok_natsI hk, w64_pred (show 1 ≤ k by omega) (by omega), ok_natsI (show k - 1 < l.length by omega), at_natsI, eq_nat_dec, decide_eq_true hq.symm, w64_nat (by omega : k < 9223372036854775807)]
    · rw [one, if_neg (fun h => hq h.2), ← put]
      simp only [f_i_FormatSequence_r0, f_i_FormatSequence_k0, lt_dec hk, BEq.rfl, br_true, d0, ok_natsI hk, w64_pred (show 1 ≤ k by omega) (by omega), ok_natsI (show k - 1 < l.length by omega), at_natsI, eq_nat_dec, decide_eq_false (fun h : l.getD (k - 1) 0 = l.getD k 0 => hq h.symm), br_false, ef, em, emu, bo_some, gt1, b3, b4, strs_len, c1, strs_snoc, w64_nat (by omega : k < 9223372036854775807)]
      by_cases h1 : 1 < cntN l (l.getD k 0) <;> simp only [h1, decide_true, decide_false, br_true, br_false, if_true, if_false]
  · obtain rfl : k = 0 := by omega
    have d0 : decide (((0 : Nat) : Int) > 0) = false := rfl
    have bf : (false == true) = false := rfl
    rw [one, if_neg (fun h => hk0 h.1), ← put]
    simp only [f_i_FormatSequence_r0, f_i_FormatSequence_k0, lt_dec hk, d0, bf, br_false, br_true, ok_natsI hk, at_natsI, ef, em, emu, bo_some, gt1, b3, b4, strs_len, c1, strs_snoc, w64_nat (by omega : 0 < 9223372036854775807)]
    by_cases h1 : 1 < cntN l (l.getD 0 0) <;> simp only [h1, decide_true, decide_false, br_true, br_false, if_true, if_false]
theorem i_glued_eq {ts : List ByteArray} (ht : ∀ t ∈ ts, 1 ≤ t.size ∧ t.size ≤ 5) (hlen : ts.length ≤ 12) : f_i_glued (strs ts) (ByteArray.mk #[32]) = some (glueN ts) := by
  have key := loop_count (rd := f_i_glued_r0 (ByteArray.mk #[32]) (strs ts) (ts.length : Int)) (fun k => (glueN (ts.take k), (k : Int))) ts.length (a := glueN (ts.take ts.length)) (fun k hk => by
    have hsub : ∀ t ∈ ts.take k, 1 ≤ t.size ∧ t.size ≤ 5 := fun t h => ht t (List.mem_of_mem_take h)
    obtain ⟨g1, _⟩ := glue_size (ts.take k) hsub
    have hl : (ts.take k).length = k := by rw [List.length_take]; omega
    have htk := ht ts[k] (List.getElem_mem hk)
    have z3 : (ByteArray.mk #[32]).size = 1 := rfl
    have e1 : ts.take (k + 1) = ts.take k ++ [ts[k]] := List.take_succ_eq_append_getElem hk
    rw [e1, glue_snoc, hl]
    have a1 : decide ((glueN (ts.take k)).size + (ByteArray.mk #[32]).size ≤ lim) = true := okB (by omega)
    have a2 : decide ((glueN (ts.take k) ++ ByteArray.mk #[32]).size + ts[k].size ≤ lim) = true := okB (by simp only [ByteArray.size_append]; omega)
    have a3 : decide ((glueN (ts.take k)).size + ts[k].size ≤ lim) = true := okB (by omega)
    by_cases h0 : k = 0
    · subst h0
      have d0 : decide (((0 : Nat) : Int) > 0) = false := rfl
      have eE : glueN (ts.take 0) = ByteArray.empty := rfl
      rw [if_pos rfl]
      simp only [f_i_glued_r0, f_i_glued_k0, lt_dec hk, br_true, strs_ok hk, strs_at hk, d0, br_false, a3, w64_nat (by omega : 0 < 9223372036854775807)]
      rw [eE, ByteArray.empty_append]
    · have d0 : decide ((k : Int) > 0) = true := decide_eq_true (by omega)
      rw [if_neg h0]
      simp only [f_i_glued_r0, f_i_glued_k0, lt_dec hk, br_true, strs_ok hk, strs_at hk, d0, a1, a2, w64_nat (by omega : k < 9223372036854775807)]) (by
    simp only [f_i_glued_r0, f_i_glued_k0, lt_dec_self, br_false]) 0 (Nat.zero_le _)
  rw [List.take_length] at key
  have key : loopL (f_i_glued_r0 (ByteArray.mk #[32]) (strs ts) (ts.length : Int)) (ByteArray.empty, 0) = some (.one (glueN ts)) := key
  simp only [f_i_glued, f_i_glued_k, strs_len, key, bl1_one]
theorem FormatSequence_both (G L : List Int) (h : G.length ≤ lim) (hL : L.length ≤ lim) : ∃ r, f_s_FormatSequence (ints G) (ints L) = some r ∧ f_i_FormatSequence (ints G) (ints L) = some r := by
  cases hs : isSeq G L with
  | false =>
    refine ⟨ByteArray.empty, ?_, ?_⟩
    · have q : ∃ z, loopL (f_s_FormatSequence_r0 (ints L) (ints G)) (ByteArray.empty, 0) = some (.one (ByteArray.empty, z)) := by
        refine ⟨0, loopL_one ?_⟩
        simp only [f_s_FormatSequence_r0, f_s_FormatSequence_k0, ints_length, s_IsSequence_eq G L h hL, hs, bo_some, br_false]
        cases decide ((0 : Int) < (L.length : Int)) == true <;> rfl
      obtain ⟨z, q⟩ := q
      have e : (ByteArray.empty.toList == ByteArray.empty.toList) = true := by rw [emp_test]; rfl
      simp only [f_s_FormatSequence, f_s_FormatSequence_k, q, bl1_one, e, s_IsSequence_eq G L h hL, hs, bo_some]
      rfl
    · simp only [f_i_FormatSequence, f_i_FormatSequence_k, i_IsSequence_eq G L h hL, hs, bo_some]
      rfl
  | true =>
    obtain ⟨g, l, rfl, rfl, v⟩ := nat_of_isSeq hs
    have h12 := v.len
    have k1 := loop_count (rd := f_s_FormatSequence_r0 (ints (natsI l)) (ints (natsI g))) (fun k => (glueN (toksN l k), (k : Int))) l.length (a := (glueN (toksN l l.length), (l.length : Int))) (fun k hk => s_seq_step v hs hk) (by
      have bf : (false == true) = false := rfl
      simp only [f_s_FormatSequence_r0, f_s_FormatSequence_k0, ints_length, natsI_length, lt_dec_self, bf, br_false]) 0 (Nat.zero_le _)
    have k1 : loopL (f_s_FormatSequence_r0 (ints (natsI l)) (ints (natsI g))) (ByteArray.empty, 0) = _ := k1
    have k2 := loop_count (rd := f_i_FormatSequence_r0 (ints (natsI l)) (ints (natsI l)) (l.length : Int)) (fun k => (strs (toksN l k), (k : Int))) l.length (a := (strs (toksN l l.length), (l.length : Int))) (fun k hk => i_seq_step v _ rfl hk) (by
      simp only [f_i_FormatSequence_r0, f_i_FormatSequence_k0, lt_dec_self, br_false]) 0 (Nat.zero_le _)
    have k2 : loopL (f_i_FormatSequence_r0 (ints (natsI l)) (ints (natsI l)) (l.length : Int)) ([], 0) = _ := k2
    have hm := toks_mem l l.length
    obtain ⟨g1, g2⟩ := glue_size (toksN l l.length) hm
    have hgl := i_glued_eq hm (Nat.le_trans (toks_len l l.length) h12)
    simp only [f_s_FormatSequence, f_s_FormatSequence_k, f_i_FormatSequence, f_i_FormatSequence_k, s_IsSequence_eq _ _ h hL, i_IsSequence_eq _ _ h hL, hs, bo_some, k1, k2, bl1_one, emp_test, ints_length, natsI_length, hgl]
    by_cases h0 : l.length = 0
    · have e1 : toksN l l.length = [] := by rw [h0]; rfl
      have e2 : decide ((glueN (toksN l l.length)).size = 0) = true := decide_eq_true (g2.2 (by rw [e1]; rfl))
      have e3 : ((l.length : Int) == 0) = true := by rw [h0]; rfl
      rw [e2, e3]
      exact ⟨_, rfl, rfl⟩
    · have hne : (toksN l l.length).length ≠ 0 := by
        have key : ∀ k, 0 < k → (toksN l k).length ≠ 0 := by
          intro k
          induction k with
          | zero => intro h; omega
          | succ k ih =>
            intro _
            unfold toksN
            split
            · rename_i hc
              exact ih hc.1
            · rw [List.length_append, List.length_singleton]; omega
        exact key l.length (by omega)
      have e2 : decide ((glueN (toksN l l.length)).size = 0) = false := decide_eq_false fun e => hne (g2.1 e)
      have e3 : ((l.length : Int) == 0) = false := by
        have : ¬ ((l.length : Int) = 0) := by omega
        simpa using this
      rw [e2, e3]
      exact ⟨_, rfl, rfl⟩
end Go.Proofs.Ytphbclogflflmaa
