/-
  PlainB: groups (IsGroup, OrderOf, elements); MiddleThird, ImageOfMap, IsSequence.
-/
import Derived.Test.YtdocbpiocinllaaPlainA
set_option linter.unusedVariables false
set_option linter.unusedSimpArgs false
namespace Go.Proofs.Ytdocbpiocinllaa
open Go Ev

section
variable {T A B : Type}
/-- A loop that counts to n and folds. -/
theorem loop_upto {rd : T × Int → Option (Ro (T × Int) A B)} (n : Nat) (f : T → Nat → T) (g : T → A) (t0 : T)
    (h : ∀ (k : Nat) t, k < n → rd (t, (k : Int)) = some (.again (f t k, ((k + 1 : Nat) : Int))))
    (he : ∀ t, rd (t, (n : Int)) = some (.one (g t))) : loopL rd (t0, 0) = some (.one (g ((List.range n).foldl f t0))) := by
  have key := loop_count (rd := rd) (fun k => ((List.range k).foldl f t0, (k : Int))) n (a := g ((List.range n).foldl f t0)) (fun k hk => by
    show rd ((List.range k).foldl f t0, (k : Int)) = _
    rw [h k _ hk, List.range_succ, List.foldl_append]
    rfl) (he _) 0 (Nat.zero_le _)
  simpa using key
/-- A loop over a list that folds and may stop. -/
theorem loop_foldx {rd : T × Int → Option (Ro (T × Int) A B)} (L : List Int) (f : T → Int → T) (p : Nat → Int → Bool) (g : T → A) (b : B) (t0 : T)
    (h : ∀ (k : Nat) t, k < L.length → rd (t, (k : Int)) = if p k (L.getD k 0) then some (.two b) else some (.again (f t (L.getD k 0), ((k + 1 : Nat) : Int))))
    (he : ∀ t, rd (t, (L.length : Int)) = some (.one (g t))) :
    loopL rd (t0, 0) = if (List.range L.length).any (fun k => p k (L.getD k 0)) then some (.two b) else some (.one (g (L.foldl f t0))) := by
  have key := loop_find (rd := rd) (fun k => ((L.take k).foldl f t0, (k : Int))) L.length (fun k => p k (L.getD k 0)) (fun _ => b) (a := g (L.foldl f t0)) (fun k hk => by
    show rd ((L.take k).foldl f t0, (k : Int)) = _
    rw [h k _ hk]
    have : (L.take (k + 1)).foldl f t0 = f ((L.take k).foldl f t0) (L.getD k 0) := by
      rw [List.take_succ_eq_append_getElem hk, List.foldl_append]
      simp [List.getD, List.getElem?_eq_getElem hk]
    rw [this]) (by show rd ((L.take L.length).foldl f t0, (L.length : Int)) = _; rw [he, List.take_length])
  simp only [List.take_zero, List.foldl_nil] at key
  have e0 : (((0 : Nat) : Int)) = 0 := rfl
  rw [e0] at key
  rw [key]
  cases hf : (List.range L.length).find? (fun k => p k (L.getD k 0)) with
  | none =>
    rw [List.find?_eq_none] at hf
    have : (List.range L.length).any (fun k => p k (L.getD k 0)) = false := by
      rw [List.any_eq_false]
      exact hf
    rw [this]
    rfl
  | some k =>
    have h1 := List.mem_of_find?_eq_some hf
    have h2 := List.find?_some hf
    have : (List.range L.length).any (fun k => p k (L.getD k 0)) = true := List.any_eq_true.2 ⟨k, h1, h2⟩
    rw [this]
    rfl
end

theorem range_any (L : List Int) (p : Int → Bool) : (List.range L.length).any (fun k => p (L.getD k 0)) = L.any p := by
  rw [Bool.eq_iff_iff, List.any_eq_true, List.any_eq_true]
  constructor
  · rintro ⟨k, hk, hp⟩
    have hk' : k < L.length := List.mem_range.1 hk
    refine ⟨L[k], List.getElem_mem hk', ?_⟩
    simpa [List.getD, List.getElem?_eq_getElem hk'] using hp
  · rintro ⟨x, hx, hp⟩
    obtain ⟨k, hk, rfl⟩ := List.getElem_of_mem hx
    exact ⟨k, List.mem_range.2 hk, by simpa [List.getD, List.getElem?_eq_getElem hk] using hp⟩

/-! ### Groups -/
def inB (x lo hi : Int) : Bool := decide (x ≥ lo) && decide (x ≤ hi)
theorem s_l1In_eq (x lo hi : Int) : f_s_l1In x lo hi = some (inB x lo hi) := by
  simp only [f_s_l1In, f_s_l1In_k, inB]
  cases decide (x ≥ lo) <;> rfl
theorem i_within_eq (x lo hi : Int) : f_i_within x lo hi = some (inB x lo hi) := by
  simp only [f_i_within, f_i_within_k, inB]
  cases decide (x ≥ lo) <;> rfl

def prodW (G : List Int) : Int := G.foldl (fun n o => w64 (n * o)) 1
def isG (G : List Int) : Bool := decide (G.length ≤ 3) && (G.all (fun o => inB o 2 24) && decide (prodW G ≤ 24))
theorem s_IsGroup_eq (G : List Int) (h : G.length ≤ lim) : f_s_IsGroup (ints G) = some (isG G) := by
  have hl := lim_lt h
  have key := loop_foldx (rd := f_s_IsGroup_r0 (ints G)) G (fun n o => w64 (n * o)) (fun k o => !inB o 2 24 || decide (k > 2)) id () 1 (fun k t hk => by
    simp only [f_s_IsGroup_r0, f_s_IsGroup_k0, ints_length, lt_dec hk, ok_nat hk, at_nat, br_true, w64_nat (by omega : k < 9223372036854775807), s_l1In_eq, bo_some]
    generalize inB (G.getD k 0) 2 24 = t1
    by_cases e : k > 2 <;> cases t1 <;> simp [br_eq, e] <;> omega)
    (fun t => by simp only [f_s_IsGroup_r0, f_s_IsGroup_k0, ints_length, lt_dec_self, br_false, id])
  simp only [f_s_IsGroup, f_s_IsGroup_k, key]
  have e : (List.range G.length).any (fun k => !inB (G.getD k 0) 2 24 || decide (k > 2)) = (G.any (fun o => !inB o 2 24) || decide (G.length > 3)) := by
    rw [← range_any G (fun o => !inB o 2 24), Bool.eq_iff_iff, Bool.or_eq_true, List.any_eq_true, List.any_eq_true, decide_eq_true_eq]
    constructor
    · rintro ⟨k, hk, hp⟩
      rw [Bool.or_eq_true, decide_eq_true_eq] at hp
      rcases hp with hp | hp
      · exact .inl ⟨k, hk, hp⟩
      · have := List.mem_range.1 hk
        exact .inr (by omega)
    · rintro (⟨k, hk, hp⟩ | hp)
      · exact ⟨k, hk, by rw [hp]; rfl⟩
      · exact ⟨3, List.mem_range.2 (by omega), by simp⟩
  rw [e]
  have e2 : G.all (fun o => inB o 2 24) = !G.any (fun o => !inB o 2 24) := by rw [List.all_eq_not_any_not]
  unfold isG
  rw [e2]
  unfold prodW
  by_cases h3 : G.length ≤ 3
  · have : ¬ G.length > 3 := by omega
    cases G.any (fun o => !inB o 2 24) <;> simp [h3, this, bl_one, bl_two]
  · have : G.length > 3 := by omega
    cases G.any (fun o => !inB o 2 24) <;> simp [h3, this, bl_one, bl_two]
theorem i_IsGroup_eq (G : List Int) (h : G.length ≤ lim) : f_i_IsGroup (ints G) = some (isG G) := by
  have hl := lim_lt h
  have key := loop_foldx (rd := f_i_IsGroup_r0 (ints G) (G.length : Int)) G (fun n o => w64 (n * o)) (fun _ o => !inB o 2 24) id () 1 (fun k t hk => by
    simp only [f_i_IsGroup_r0, f_i_IsGroup_k0, ints_length, lt_dec hk, ok_nat hk, at_nat, br_true, w64_nat (by omega : k < 9223372036854775807), i_within_eq, bo_some]
    cases inB (G.getD k 0) 2 24 <;> rfl)
    (fun t => by simp only [f_i_IsGroup_r0, f_i_IsGroup_k0, ints_length, lt_dec_self, br_false, id])
  simp only [f_i_IsGroup, f_i_IsGroup_k, ints_length, key]
  rw [range_any G (fun o => !inB o 2 24)]
  have e2 : G.all (fun o => inB o 2 24) = !G.any (fun o => !inB o 2 24) := by rw [List.all_eq_not_any_not]
  unfold isG
  rw [e2]
  unfold prodW
  by_cases h3 : G.length ≤ 3
  · have h4 : decide ((G.length : Int) > 3) = false := by simp; omega
    rw [h4]
    cases G.any (fun o => !inB o 2 24) <;> simp [h3, bl_one, bl_two, br_false]
  · have h4 : decide ((G.length : Int) > 3) = true := by simp; omega
    rw [h4]
    simp [h3, br_true]

theorem s_l2Order_eq (G : List Int) (h : G.length ≤ lim) : f_s_l2Order (ints G) = some (prodW G) := by
  have hl := lim_lt h
  have key := loop_fold (rd := f_s_l2Order_r0 (ints G)) G (fun n o => w64 (n * o)) id 1 (fun k t hk => by
    simp only [f_s_l2Order_r0, f_s_l2Order_k0, ints_length, lt_dec hk, ok_nat hk, at_nat, br_true, w64_nat (by omega : k < 9223372036854775807)])
    (fun t => by simp only [f_s_l2Order_r0, f_s_l2Order_k0, ints_length, lt_dec_self, br_false, id])
  simp only [f_s_l2Order, f_s_l2Order_k, key, bl1_one, id, prodW]
def ordG (G : List Int) : Int := if isG G then prodW G else 0
theorem s_OrderOf_eq (G : List Int) (h : G.length ≤ lim) : f_s_OrderOf (ints G) = some (ordG G) := by
  simp only [f_s_OrderOf, f_s_OrderOf_k, s_IsGroup_eq G h, bo_some, s_l2Order_eq G h, ordG]
  cases isG G <;> rfl
theorem i_OrderOf_eq (G : List Int) (h : G.length ≤ lim) : f_i_OrderOf (ints G) = some (ordG G) := by
  have hl := lim_lt h
  have key := loop_fold (rd := f_i_OrderOf_r0 (ints G) (G.length : Int)) G (fun n o => w64 (n * o)) id 1 (fun k t hk => by
    simp only [f_i_OrderOf_r0, f_i_OrderOf_k0, ints_length, lt_dec hk, ok_nat hk, at_nat, br_true, w64_nat (by omega : k < 9223372036854775807)])
    (fun t => by simp only [f_i_OrderOf_r0, f_i_OrderOf_k0, ints_length, lt_dec_self, br_false, id])
  simp only [f_i_OrderOf, f_i_OrderOf_k, i_IsGroup_eq G h, bo_some, ordG, ints_length, key, bl1_one]
  cases isG G <;> rfl

theorem isG_spec {G : List Int} (h : isG G = true) : G.length ≤ 3 ∧ (∀ o ∈ G, 2 ≤ o ∧ o ≤ 24) ∧ prodW G ≤ 24 := by
  unfold isG at h
  simp only [Bool.and_eq_true, decide_eq_true_eq, List.all_eq_true, inB] at h
  exact ⟨h.1, fun o ho => h.2.1 o ho, h.2.2⟩
theorem prodW_pos {G : List Int} (h : isG G = true) : 1 ≤ prodW G := by
  obtain ⟨h1, h2, _⟩ := isG_spec h
  have w : ∀ x : Int, 1 ≤ x → x ≤ 20000 → w64 x = x := fun x a b => w64_in (by omega) (by omega)
  match G, h1, h2 with
  | [], _, _ => decide
  | [a], _, h2 =>
    have ha := h2 a (by simp)
    simp only [prodW, List.foldl, Int.one_mul]
    rw [w a (by omega) (by omega)]
    omega
  | [a, b], _, h2 =>
    have ha := h2 a (by simp)
    have hb := h2 b (by simp)
    simp only [prodW, List.foldl, Int.one_mul]
    have hab : 1 ≤ a * b := Int.le_trans (by decide : (1 : Int) ≤ 2 * 2) (Int.mul_le_mul ha.1 hb.1 (by decide) (by omega))
    have hab2 : a * b ≤ 24 * 24 := Int.mul_le_mul ha.2 hb.2 (by omega) (by decide)
    rw [w a (by omega) (by omega), w (a * b) hab (by omega)]
    exact hab
  | [a, b, c], _, h2 =>
    have ha := h2 a (by simp)
    have hb := h2 b (by simp)
    have hc := h2 c (by simp)
    simp only [prodW, List.foldl, Int.one_mul]
    have hab : 1 ≤ a * b := Int.le_trans (by decide : (1 : Int) ≤ 2 * 2) (Int.mul_le_mul ha.1 hb.1 (by decide) (by omega))
    have hab2 : a * b ≤ 24 * 24 := Int.mul_le_mul ha.2 hb.2 (by omega) (by decide)
    have habc : 1 ≤ a * b * c := Int.le_trans (by decide : (1 : Int) ≤ 1 * 2) (Int.mul_le_mul hab hc.1 (by decide) (by omega))
    have habc2 : a * b * c ≤ 24 * 24 * 24 := Int.mul_le_mul hab2 hc.2 (by omega) (by decide)
    rw [w a (by omega) (by omega), w (a * b) hab (by omega), w _ habc (by omega)]
    exact habc
  | _ :: _ :: _ :: _ :: _, h1, _ => simp at h1
theorem ordG_range (G : List Int) : 0 ≤ ordG G ∧ ordG G ≤ 24 := by
  unfold ordG
  cases h : isG G with
  | false => simp
  | true =>
    have h1 := prodW_pos h
    have h2 := (isG_spec h).2.2
    simp only [if_true]
    omega

def hasG (G : List Int) (x : Int) : Bool := decide (x ≥ 0) && decide (x < ordG G)
theorem s_l2Is_eq (G : List Int) (x : Int) (h : G.length ≤ lim) : f_s_l2Is (ints G) x = some (hasG G x) := by
  simp only [f_s_l2Is, f_s_l2Is_k, s_OrderOf_eq G h, bo_some, hasG]
  cases decide (x ≥ 0) <;> rfl
theorem i_has_eq (G : List Int) (x : Int) (h : G.length ≤ lim) : f_i_Group_has (ints G) x = some (hasG G x) := by
  simp only [f_i_Group_has, f_i_Group_has_k, i_OrderOf_eq G h, bo_some, i_within_eq, hasG, inB]
  have h1 := ordG_range G
  rw [w64_in (by omega) (by omega)]
  have : decide (x ≤ ordG G - 1) = decide (x < ordG G) := by
    rw [decide_eq_decide]
    omega
  rw [this]
theorem hasG_spec {G : List Int} {x : Int} (h : hasG G x = true) : 0 ≤ x ∧ x < 24 ∧ x < ordG G := by
  unfold hasG at h
  simp only [Bool.and_eq_true, decide_eq_true_eq] at h
  have := ordG_range G
  omega

/-- The way into a law with one group. -/
theorem sz_gate {G : List Int} (h : G.length ≤ 1048576) : ∃ r, f_l_szGroup (ints G) 1048576 = some r ∧ decide (r < 0) = false := by
  have := szGroup_eq G 1048576 (Nat.le_refl _) (by omega)
  rw [if_pos h] at this
  exact ⟨_, this, by simp⟩
theorem sz_shut {G : List Int} (h : ¬ G.length ≤ 1048576) (hb : G.length ≤ 9223372036854775807) : ∃ r, f_l_szGroup (ints G) 1048576 = some r ∧ decide (r < 0) = true := by
  have := szGroup_eq G 1048576 (Nat.le_refl _) hb
  rw [if_neg h] at this
  exact ⟨_, this, by simp⟩

/-! ### MiddleThird -/
def thirdF (n : Int) (a : Int) (k : Nat) : Int := if n < w64 (3 * (k : Int)) ∧ w64 (3 * (k : Int)) ≤ w64 (2 * n) then or64 a (shl64 1 (k : Int)) else a
/-! ### ImageOfMap -/
def imgF (a x : Int) : Int := or64 a (shl64 1 x)
end Go.Proofs.Ytdocbpiocinllaa
