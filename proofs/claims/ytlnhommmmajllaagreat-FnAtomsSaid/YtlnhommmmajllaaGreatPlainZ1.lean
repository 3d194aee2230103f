/-
  The plain side, joined.
-/
import Derived.Test.YtlnhommmmajllaaGreatShal
import Derived.Test.YtlnhommmmajllaaGreatFuel
import Derived.WalkKit
import Derived.Test.YtlnhommmmajllaaGreatVSort
import Derived.Test.YtlnhommmmajllaaGreatVCompact
import Derived.Test.YtlnhommmmajllaaGreatVOpen
set_option linter.unusedVariables false
set_option linter.unusedSimpArgs false
namespace Go.Proofs.YtlnhommmmajllaaGreat
open Go Ev
section
variable {S A B : Type} {rd : S → Option (Ro S A B)}
theorem loop_count (st : Nat → S) (n : Nat) {a : A} (h : ∀ k, k < n → rd (st k) = some (.again (st (k + 1)))) (he : rd (st n) = some (.one a)) (k : Nat) (hk : k ≤ n) : loopL rd (st k) = some (.one a) := by
  obtain ⟨d, rfl⟩ : ∃ d, n = k + d := ⟨n - k, by omega⟩
  clear hk
  induction d generalizing k with
  | zero => exact loopL_one he
  | succ d ih =>
    rw [loopL_again (h k (by omega))]
    have e : k + 1 + d = k + (d + 1) := by omega
    exact ih (k + 1) (by rw [e]; exact h) (by rw [e]; exact he)
theorem loop_find (st : Nat → S) (n : Nat) (p : Nat → Bool) (two : Nat → B) {a : A} (h : ∀ k, k < n → rd (st k) = if p k then some (.two (two k)) else some (.again (st (k + 1)))) (he : rd (st n) = some (.one a)) :
    loopL rd (st 0) = match (List.range n).find? p with
      | some k => some (.two (two k))
      | none => some (.one a) := by
  have key : ∀ d k, k + d = n → loopL rd (st k) = match (List.range' k d).find? p with
      | some k => some (.two (two k))
      | none => some (.one a) := by
    intro d
    induction d with
    | zero => intro k hk; rw [show k = n by omega]; exact loopL_one he
    | succ d ih =>
      intro k hk
      rw [List.range'_succ, List.find?_cons]
      have := h k (by omega)
      cases hp : p k with
      | true => rw [hp] at this; exact loopL_two this
      | false =>
        rw [hp] at this
        rw [loopL_again this]
        exact ih (k + 1) (by omega)
  rw [List.range_eq_range']
  exact key n 0 (by omega)
end
theorem w64_nat {k : Nat} (h : k < 9223372036854775807) : w64 ((k : Int) + 1) = ((k + 1 : Nat) : Int) := by
  rw [w64_in] <;> omega
theorem lim_lt {n : Nat} (h : n ≤ lim) : n < 9223372036854775807 := by unfold lim at h; omega
section
variable {T A B : Type}
theorem loop_fold {rd : T × Int → Option (Ro (T × Int) A B)} (L : List Int) (f : T → Int → T) (g : T → A) (t0 : T)
    (h : ∀ (k : Nat) t, k < L.length → rd (t, (k : Int)) = some (.again (f t (L.getD k 0), ((k + 1 : Nat) : Int))))
    (he : ∀ t, rd (t, (L.length : Int)) = some (.one (g t))) : loopL rd (t0, 0) = some (.one (g (L.foldl f t0))) := by
  have key := loop_count (rd := rd) (fun k => ((L.take k).foldl f t0, (k : Int))) L.length (a := g (L.foldl f t0)) (fun k hk => by
    show rd ((L.take k).foldl f t0, (k : Int)) = _
    rw [h k _ hk]
    have : (L.take (k + 1)).foldl f t0 = f ((L.take k).foldl f t0) (L.getD k 0) := by
      rw [List.take_succ_eq_append_getElem hk, List.foldl_append]
      simp [List.getD, List.getElem?_eq_getElem hk]
    rw [this]) (by show rd ((L.take L.length).foldl f t0, (L.length : Int)) = _; rw [he, List.take_length]) 0 (Nat.zero_le _)
  simpa using key
end
theorem br_eq {α : Type} (t : Bool) (x y : α) : br t x y = if t = true then x else y := by cases t <;> rfl
theorem lt_dec {k n : Nat} (h : k < n) : decide ((k : Int) < (n : Int)) = true := by simpa using h
theorem lt_dec_self (n : Nat) : decide ((n : Int) < (n : Int)) = false := by simp
theorem ok_nat {L : List Int} {k : Nat} (h : k < L.length) : okAt (ints L) (k : Int) = true := by rw [okAt_ints, inRange_nat]; simpa using h
theorem at_nat (L : List Int) (k : Nat) : atI (ints L) (k : Int) = L.getD k 0 := by rw [atI_ints]; simp
section
variable {T A B : Type}
theorem loop_upto {rd : T × Int → Option (Ro (T × Int) A B)} (n : Nat) (f : T → Nat → T) (g : T → A) (t0 : T)
    (h : ∀ (k : Nat) t, k < n → rd (t, (k : Int)) = some (.again (f t k, ((k + 1 : Nat) : Int))))
    (he : ∀ t, rd (t, (n : Int)) = some (.one (g t))) : loopL rd (t0, 0) = some (.one (g ((List.range n).foldl f t0))) := by
  have key := loop_count (rd := rd) (fun k => ((List.range k).foldl f t0, (k : Int))) n (a := g ((List.range n).foldl f t0)) (fun k hk => by
    show rd ((List.range k).foldl f t0, (k : Int)) = _
    rw [h k _ hk, List.range_succ, List.foldl_append]
    rfl) (he _) 0 (Nat.zero_le _)
  simpa using key
theorem loop_foldx {rd : T × Int → Option (Ro (T × Int) A B)} (L : List Int) (f : T → Int → T) (p : Nat → Int → Bool) (g : T → A) (b : B) (t0 : T)
    (h : ∀ (k : Nat) t, k < L.length → rd (t, (k : Int)) = if p k (L.getD k 0) then some (.two b) else some (.again (f t (L.getD k 0), ((k + 1 : Nat) : Int))))
    (he : ∀ t, rd (t, (L.length : Int)) = some (.one (g t))) :
    loopL rd (t0, 0) = if (List.range L.length).any (fun k => p k (L.getD k 0)) then some (.two b) else some (.one (g (L.foldl f t0))) := by
  have key := loop_find (rd := rd) (fun k => ((L.take k).foldl f t0, (k : Int))) L.length (fun k => p k (L.getD k 0)) (fun _ => b) (a := g (L.foldl f t0)) (fun k hk => by
    show rd ((L.take k).foldl f t0, (k : Int)) = _
    rw [h k _ hk]
    have : (L.take (k + 1)).foldl f t0 = f ((L.take k).foldl f t0) (L.getD k 0) := by
      rw [List.take_succ_eq_append_getElem hk, List.foldl_append]
      simp [List.getD, List.getElem?_eq_getElem hk]
    rw [this]) (by show rd ((L.take L.length).foldl f t0, (L.length : Int)) = _; rw [he, List.take_length])
  simp only [List.take_zero, List.foldl_nil] at key
  have e0 : (((0 : Nat) : Int)) = 0 := rfl
  rw [e0] at key
  rw [key]
  cases hf : (List.range L.length).find? (fun k => p k (L.getD k 0)) with
  | none =>
    rw [List.find?_eq_none] at hf
    have : (List.range L.length).any (fun k => p k (L.getD k 0)) = false := by
      rw [List.any_eq_false]
      exact hf
    rw [this]
    rfl
  | some k =>
    have h1 := List.mem_of_find?_eq_some hf
    have h2 := List.find?_some hf
    have : (List.range L.length).any (fun k => p k (L.getD k 0)) = true := List.any_eq_true.2 ⟨k, h1, h2⟩
    rw [this]
    rfl
end
theorem range_any (L : List Int) (p : Int → Bool) : (List.range L.length).any (fun k => p (L.getD k 0)) = L.any p := by
  rw [Bool.eq_iff_iff, List.any_eq_true, List.any_eq_true]
  constructor
  · rintro ⟨k, hk, hp⟩
    have hk' : k < L.length := List.mem_range.1 hk
    refine ⟨L[k], List.getElem_mem hk', ?_⟩
    simpa [List.getD, List.getElem?_eq_getElem hk'] using hp
  · rintro ⟨x, hx, hp⟩
    obtain ⟨k, hk, rfl⟩ := List.getElem_of_mem hx
    exact ⟨k, List.mem_range.2 hk, by simpa [List.getD, List.getElem?_eq_getElem hk] using hp⟩
def inB (x lo hi : Int) : Bool := decide (x ≥ lo) && decide (x ≤ hi)
theorem s_l1In_eq (x lo hi : Int) : fCu x lo hi = some (inB x lo hi) := by
  simp only [fCu, fCu_k, inB]
  cases decide (x ≥ lo) <;> rfl
theorem i_within_eq (x lo hi : Int) : fCm x lo hi = some (inB x lo hi) := by
  simp only [fCm, fCm_k, inB]
  cases decide (x ≥ lo) <;> rfl
def prodW (G : List Int) : Int := G.foldl (fun n o => w64 (n * o)) 1
def isG (G : List Int) : Bool := decide (G.length ≤ 3) && (G.all (fun o => inB o 2 24) && decide (prodW G ≤ 24))
theorem s_IsGroup_eq (G : List Int) (h : G.length ≤ lim) : fCd (ints G) = some (isG G) := by
  have hl := lim_lt h
  have key := loop_foldx (rd := fCd_r0 (ints G)) G (fun n o => w64 (n * o)) (fun k o => !inB o 2 24 || decide (k > 2)) id () 1 (fun k t hk => by
    simp only [fCd_r0, fCd_k0, ints_length, lt_dec hk, ok_nat hk, at_nat, br_true, w64_nat (by omega : k < 9223372036854775807), s_l1In_eq, bo_some]
    generalize inB (G.getD k 0) 2 24 = t1
    by_cases e : k > 2 <;> cases t1 <;> simp [br_eq, e] <;> omega)
    (fun t => by simp only [fCd_r0, fCd_k0, ints_length, lt_dec_self, br_false, id])
  simp only [fCd, fCd_k, key]
  have e : (List.range G.length).any (fun k => !inB (G.getD k 0) 2 24 || decide (k > 2)) = (G.any (fun o => !inB o 2 24) || decide (G.length > 3)) := by
    rw [← range_any G (fun o => !inB o 2 24), Bool.eq_iff_iff, Bool.or_eq_true, List.any_eq_true, List.any_eq_true, decide_eq_true_eq]
    constructor
    · rintro ⟨k, hk, hp⟩
      rw [Bool.or_eq_true, decide_eq_true_eq] at hp
      rcases hp with hp | hp
      · exact .inl ⟨k, hk, hp⟩
      · have := List.mem_range.1 hk
        exact .inr (by omega)
    · rintro (⟨k, hk, hp⟩ | hp)
      · exact ⟨k, hk, by rw [hp]; rfl⟩
      · exact ⟨3, List.mem_range.2 (by omega), by simp⟩
  rw [e]
  have e2 : G.all (fun o => inB o 2 24) = !G.any (fun o => !inB o 2 24) := by rw [List.all_eq_not_any_not]
  unfold isG
  rw [e2]
  unfold prodW
  by_cases h3 : G.length ≤ 3
  · have : ¬ G.length > 3 := by omega
    cases G.any (fun o => !inB o 2 24) <;> simp [h3, this, bl_one, bl_two]
  · have : G.length > 3 := by omega
    cases G.any (fun o => !inB o 2 24) <;> simp [h3, this, bl_one, bl_two]
theorem i_IsGroup_eq (G : List Int) (h : G.length ≤ lim) : fBz (ints G) = some (isG G) := by
  have hl := lim_lt h
  have key := loop_foldx (rd := fBz_r0 (ints G) (G.length : Int)) G (fun n o => w64 (n * o)) (fun _ o => !inB o 2 24) id () 1 (fun k t hk => by
    simp only [fBz_r0, fBz_k0, ints_length, lt_dec hk, ok_nat hk, at_nat, br_true, w64_nat (by omega : k < 9223372036854775807), i_within_eq, bo_some]
    cases inB (G.getD k 0) 2 24 <;> rfl)
    (fun t => by simp only [fBz_r0, fBz_k0, ints_length, lt_dec_self, br_false, id])
  simp only [fBz, fBz_k, ints_length, key]
  rw [range_any G (fun o => !inB o 2 24)]
  have e2 : G.all (fun o => inB o 2 24) = !G.any (fun o => !inB o 2 24) := by rw [List.all_eq_not_any_not]
  unfold isG
  rw [e2]
  unfold prodW
  by_cases h3 : G.length ≤ 3
  · have h4 : decide ((G.length : Int) > 3) = false := by simp; omega
    rw [h4]
    cases G.any (fun o => !inB o 2 24) <;> simp [h3, bl_one, bl_two, br_false]
  · have h4 : decide ((G.length : Int) > 3) = true := by simp; omega
    rw [h4]
    simp [h3, br_true]
theorem s_l2Order_eq (G : List Int) (h : G.length ≤ lim) : fCh (ints G) = some (prodW G) := by
  have hl := lim_lt h
  have key := loop_fold (rd := fCh_r0 (ints G)) G (fun n o => w64 (n * o)) id 1 (fun k t hk => by
    simp only [fCh_r0, fCh_k0, ints_length, lt_dec hk, ok_nat hk, at_nat, br_true, w64_nat (by omega : k < 9223372036854775807)])
    (fun t => by simp only [fCh_r0, fCh_k0, ints_length, lt_dec_self, br_false, id])
  simp only [fCh, fCh_k, key, bl1_one, id, prodW]
def ordG (G : List Int) : Int := if isG G then prodW G else 0
theorem s_OrderOf_eq (G : List Int) (h : G.length ≤ lim) : fCe (ints G) = some (ordG G) := by
  simp only [fCe, fCe_k, s_IsGroup_eq G h, bo_some, s_l2Order_eq G h, ordG]
  cases isG G <;> rfl
theorem i_OrderOf_eq (G : List Int) (h : G.length ≤ lim) : fCa (ints G) = some (ordG G) := by
  have hl := lim_lt h
  have key := loop_fold (rd := fCa_r0 (ints G) (G.length : Int)) G (fun n o => w64 (n * o)) id 1 (fun k t hk => by
    simp only [fCa_r0, fCa_k0, ints_length, lt_dec hk, ok_nat hk, at_nat, br_true, w64_nat (by omega : k < 9223372036854775807)])
    (fun t => by simp only [fCa_r0, fCa_k0, ints_length, lt_dec_self, br_false, id])
  simp only [fCa, fCa_k, i_IsGroup_eq G h, bo_some, ordG, ints_length, key, bl1_one]
  cases isG G <;> rfl
theorem isG_spec {G : List Int} (h : isG G = true) : G.length ≤ 3 ∧ (∀ o ∈ G, 2 ≤ o ∧ o ≤ 24) ∧ prodW G ≤ 24 := by
  unfold isG at h
  simp only [Bool.and_eq_true, decide_eq_true_eq, List.all_eq_true, inB] at h
  exact ⟨h.1, fun o ho => h.2.1 o ho, h.2.2⟩
theorem prodW_pos {G : List Int} (h : isG G = true) : 1 ≤ prodW G := by
  obtain ⟨h1, h2, _⟩ := isG_spec h
  have w : ∀ x : Int, 1 ≤ x → x ≤ 20000 → w64 x = x := fun x a b => w64_in (by omega) (by omega)
  match G, h1, h2 with
  | [], _, _ => decide
  | [a], _, h2 =>
    have ha := h2 a (by simp)
    simp only [prodW, List.foldl, Int.one_mul]
    rw [w a (by omega) (by omega)]
    omega
  | [a, b], _, h2 =>
    have ha := h2 a (by simp)
    have hb := h2 b (by simp)
    simp only [prodW, List.foldl, Int.one_mul]
    have hab : 1 ≤ a * b := Int.le_trans (by decide : (1 : Int) ≤ 2 * 2) (Int.mul_le_mul ha.1 hb.1 (by decide) (by omega))
    have hab2 : a * b ≤ 24 * 24 := Int.mul_le_mul ha.2 hb.2 (by omega) (by decide)
    rw [w a (by omega) (by omega), w (a * b) hab (by omega)]
    exact hab
  | [a, b, c], _, h2 =>
    have ha := h2 a (by simp)
    have hb := h2 b (by simp)
    have hc := h2 c (by simp)
    simp only [prodW, List.foldl, Int.one_mul]
    have hab : 1 ≤ a * b := Int.le_trans (by decide : (1 : Int) ≤ 2 * 2) (Int.mul_le_mul ha.1 hb.1 (by decide) (by omega))
    have hab2 : a * b ≤ 24 * 24 := Int.mul_le_mul ha.2 hb.2 (by omega) (by decide)
    have habc : 1 ≤ a * b * c := Int.le_trans (by decide : (1 : Int) ≤ 1 * 2) (Int.mul_le_mul hab hc.1 (by decide) (by omega))
    have habc2 : a * b * c ≤ 24 * 24 * 24 := Int.mul_le_mul hab2 hc.2 (by omega) (by decide)
    rw [w a (by omega) (by omega), w (a * b) hab (by omega), w _ habc (by omega)]
    exact habc
  | _ :: _ :: _ :: _ :: _, h1, _ => simp at h1
theorem ordG_range (G : List Int) : 0 ≤ ordG G ∧ ordG G ≤ 24 := by
  unfold ordG
  cases h : isG G with
  | false => simp
  | true =>
    have h1 := prodW_pos h
    have h2 := (isG_spec h).2.2
    simp only [if_true]
    omega
def hasG (G : List Int) (x : Int) : Bool := decide (x ≥ 0) && decide (x < ordG G)
theorem s_l2Is_eq (G : List Int) (x : Int) (h : G.length ≤ lim) : fCv (ints G) x = some (hasG G x) := by
  simp only [fCv, fCv_k, s_OrderOf_eq G h, bo_some, hasG]
  cases decide (x ≥ 0) <;> rfl
theorem i_has_eq (G : List Int) (x : Int) (h : G.length ≤ lim) : fBg (ints G) x = some (hasG G x) := by
  simp only [fBg, fBg_k, i_OrderOf_eq G h, bo_some, i_within_eq, hasG, inB]
  have h1 := ordG_range G
  rw [w64_in (by omega) (by omega)]
  have : decide (x ≤ ordG G - 1) = decide (x < ordG G) := by
    rw [decide_eq_decide]
    omega
  rw [this]
def lz (Z : List (List Int)) : List Sc := Z.map fun a => .l (ints a)
def atomsT : List (List Int × List (List Int)) := [
([], [[0]]),
  ([2], [[0], [1, 1]]),
  ([3], [[0], [1, 2], [1, 1, 1], [2, 2, 2]]),
  ([4], [[0], [1, 3], [2, 2], [1, 1, 2], [2, 3, 3], [1, 1, 1, 1], [3, 3, 3, 3]]),
  ([5], [[0], [1, 4], [2, 3], [1, 1, 3], [1, 2, 2], [2, 4, 4], [3, 3, 4], [1, 1, 1, 2], [1, 3, 3, 3], [2, 2, 2, 4], [3, 4, 4, 4], [1, 1, 1, 1, 1], [2, 2, 2, 2, 2], [3, 3, 3, 3, 3], [4, 4, 4, 4, 4]]),
  ([6], [[0], [1, 5], [2, 4], [3, 3], [1, 1, 4], [1, 2, 3], [2, 2, 2], [2, 5, 5], [3, 4, 5], [4, 4, 4], [1, 1, 1, 3], [1, 1, 2, 2], [1, 3, 4, 4], [2, 2, 3, 5], [3, 5, 5, 5], [4, 4, 5, 5], [1, 1, 1, 1, 2], [4, 5, 5, 5, 5], [1, 1, 1, 1, 1, 1], [5, 5, 5, 5, 5, 5]]),
  ([7], [[0], [1, 6], [2, 5], [3, 4], [1, 1, 5], [1, 2, 4], [1, 3, 3], [2, 2, 3], [2, 6, 6], [3, 5, 6], [4, 4, 6], [4, 5, 5], [1, 1, 1, 4], [1, 1, 2, 3], [1, 2, 2, 2], [1, 3, 5, 5], [1, 4, 4, 5], [2, 2, 4, 6], [2, 3, 3, 6], [2, 4, 4, 4], [3, 3, 3, 5], [3, 6, 6, 6], [4, 5, 6, 6], [5, 5, 5, 6], [1, 1, 1, 1, 3], [1, 1, 1, 2, 2], [1, 1, 4, 4, 4], [1, 5, 5, 5, 5], [2, 2, 2, 2, 6], [2, 2, 2, 4, 4], [2, 3, 3, 3, 3], [3, 3, 3, 6, 6], [3, 3, 5, 5, 5], [4, 4, 4, 4, 5], [4, 6, 6, 6, 6], [5, 5, 6, 6, 6], [1, 1, 1, 1, 1, 2], [1, 4, 4, 4, 4, 4], [2, 2, 2, 2, 2, 4], [3, 3, 3, 3, 3, 6], [3, 5, 5, 5, 5, 5], [5, 6, 6, 6, 6, 6], [1, 1, 1, 1, 1, 1, 1], [2, 2, 2, 2, 2, 2, 2], [3, 3, 3, 3, 3, 3, 3], [4, 4, 4, 4, 4, 4, 4], [5, 5, 5, 5, 5, 5, 5], [6, 6, 6, 6, 6, 6, 6]]),
  ([2, 2], [[0], [1, 1], [2, 2], [3, 3], [1, 2, 3]]),
  ([2, 3], [[0], [1, 1], [2, 4], [3, 5], [1, 2, 5], [1, 3, 4], [2, 2, 2], [2, 3, 3], [4, 4, 4], [4, 5, 5], [1, 2, 2, 3], [1, 3, 3, 3], [1, 4, 4, 5], [1, 5, 5, 5], [2, 2, 5, 5], [3, 3, 4, 4], [2, 5, 5, 5, 5], [3, 3, 3, 3, 4], [3, 3, 3, 3, 3, 3], [5, 5, 5, 5, 5, 5]]),
  ([3, 2], [[0], [1, 2], [3, 3], [4, 5], [1, 1, 1], [1, 3, 5], [1, 4, 4], [2, 2, 2], [2, 3, 4], [2, 5, 5], [1, 1, 3, 4], [1, 1, 5, 5], [2, 2, 3, 5], [2, 2, 4, 4], [3, 4, 4, 4], [3, 5, 5, 5], [1, 5, 5, 5, 5], [2, 4, 4, 4, 4], [4, 4, 4, 4, 4, 4], [5, 5, 5, 5, 5, 5]])]
def atomsG (G : List Int) : List (List Int) := match atomsT.find? (fun x => decide (x.1 = G)) with
  | some x => x.2
  | none => []
theorem s_atoms0 : fCc_Q 200 (ints []) = some (lz (atomsG []), true) := by kernel_rfl
theorem i_atoms0 : fBy_Q 200 (ints []) = some (lz (atomsG []), true) := by kernel_rfl
theorem s_atoms1 : fCc_Q 200 (ints [2]) = some (lz (atomsG [2]), true) := by kernel_rfl
theorem i_atoms1 : fBy_Q 200 (ints [2]) = some (lz (atomsG [2]), true) := by kernel_rfl
theorem s_atoms2 : fCc_Q 200 (ints [3]) = some (lz (atomsG [3]), true) := by kernel_rfl
theorem i_atoms2 : fBy_Q 200 (ints [3]) = some (lz (atomsG [3]), true) := by kernel_rfl
theorem s_atoms3 : fCc_Q 200 (ints [4]) = some (lz (atomsG [4]), true) := by kernel_rfl
theorem i_atoms3 : fBy_Q 200 (ints [4]) = some (lz (atomsG [4]), true) := by kernel_rfl
theorem s_atoms4 : fCc_Q 200 (ints [5]) = some (lz (atomsG [5]), true) := by kernel_rfl
theorem i_atoms4 : fBy_Q 200 (ints [5]) = some (lz (atomsG [5]), true) := by kernel_rfl
theorem s_atoms5 : fCc_Q 200 (ints [6]) = some (lz (atomsG [6]), true) := by kernel_rfl
theorem i_atoms5 : fBy_Q 200 (ints [6]) = some (lz (atomsG [6]), true) := by kernel_rfl
theorem s_atoms6 : fCc_Q 200 (ints [7]) = some (lz (atomsG [7]), true) := by kernel_rfl
theorem i_atoms6 : fBy_Q 200 (ints [7]) = some (lz (atomsG [7]), true) := by kernel_rfl
theorem s_atoms7 : fCc_Q 200 (ints [2, 2]) = some (lz (atomsG [2, 2]), true) := by kernel_rfl
theorem i_atoms7 : fBy_Q 200 (ints [2, 2]) = some (lz (atomsG [2, 2]), true) := by kernel_rfl
theorem s_atoms8 : fCc_Q 200 (ints [2, 3]) = some (lz (atomsG [2, 3]), true) := by kernel_rfl
theorem i_atoms8 : fBy_Q 200 (ints [2, 3]) = some (lz (atomsG [2, 3]), true) := by kernel_rfl
theorem s_atoms9 : fCc_Q 200 (ints [3, 2]) = some (lz (atomsG [3, 2]), true) := by kernel_rfl
theorem i_atoms9 : fBy_Q 200 (ints [3, 2]) = some (lz (atomsG [3, 2]), true) := by kernel_rfl
def smallG (G : List Int) : Bool := isG G && decide (prodW G ≤ 7)
def tens : List (List Int) := atomsT.map (·.1)
def rng : List Int := (List.range 23).map fun (i : Nat) => (i : Int) + 2
theorem in_rng {x : Int} (h : inB x 2 24 = true) : x ∈ rng := by
  simp only [inB, Bool.and_eq_true, decide_eq_true_eq] at h
  unfold rng
  exact List.mem_map.2 ⟨(x - 2).toNat, List.mem_range.2 (by omega), by omega⟩
def okT (G : List Int) : Bool := !decide (prodW G ≤ 7) || tens.any fun x => decide (x = G)
theorem okT1 : rng.all (fun a => okT [a]) = true := by kernel_rfl
theorem okT2 : rng.all (fun a => rng.all fun b => okT [a, b]) = true := by kernel_rfl
theorem okT3 : rng.all (fun a => rng.all fun b => rng.all fun c => okT [a, b, c]) = true := by kernel_rfl
theorem small_in {G : List Int} (h : smallG G = true) : G ∈ tens := by
  simp only [smallG, isG, Bool.and_eq_true, decide_eq_true_eq, List.all_eq_true] at h
  obtain ⟨⟨h1, h2, _⟩, h3⟩ := h
  have fin : ∀ {G : List Int}, prodW G ≤ 7 → okT G = true → G ∈ tens := by
    intro G h3 h4
    simp only [okT, h3, decide_true, Bool.not_true, Bool.false_or, List.any_eq_true, decide_eq_true_eq] at h4
    obtain ⟨x, hx, rfl⟩ := h4
    exact hx
  refine fin h3 ?_
  match G, h1, h2 with
  | [], _, _ => rfl
  | [a], _, h2 => exact List.all_eq_true.1 okT1 a (in_rng (h2 a (by simp)))
  | [a, b], _, h2 => exact List.all_eq_true.1 (List.all_eq_true.1 okT2 a (in_rng (h2 a (by simp)))) b (in_rng (h2 b (by simp)))
  | [a, b, c], _, h2 => exact List.all_eq_true.1 (List.all_eq_true.1 (List.all_eq_true.1 okT3 a (in_rng (h2 a (by simp)))) b (in_rng (h2 b (by simp)))) c (in_rng (h2 c (by simp)))
  | _ :: _ :: _ :: _ :: _, h1, _ => simp only [List.length_cons] at h1; omega
def atomsA (G : List Int) : List (List Int) := if smallG G then atomsG G else []
theorem s_AtomsOf_eq (G : List Int) (h : G.length ≤ lim) : fCc (ints G) = some (lz (atomsA G), smallG G) := by
  cases hs : smallG G with
  | true =>
    have := small_in hs
    unfold atomsA
    rw [if_pos hs]
    simp only [tens, atomsT, List.map_cons, List.map_nil, List.mem_cons, List.not_mem_nil, or_false] at this
    rcases this with rfl | rfl | rfl | rfl | rfl | rfl | rfl | rfl | rfl | rfl
    · exact (fCc_le 200 _).of _ s_atoms0
    · exact (fCc_le 200 _).of _ s_atoms1
    · exact (fCc_le 200 _).of _ s_atoms2
    · exact (fCc_le 200 _).of _ s_atoms3
    · exact (fCc_le 200 _).of _ s_atoms4
    · exact (fCc_le 200 _).of _ s_atoms5
    · exact (fCc_le 200 _).of _ s_atoms6
    · exact (fCc_le 200 _).of _ s_atoms7
    · exact (fCc_le 200 _).of _ s_atoms8
    · exact (fCc_le 200 _).of _ s_atoms9
  | false =>
    unfold atomsA
    rw [if_neg (by rw [hs]; simp)]
    simp only [fCc, fCc_k, s_IsGroup_eq G h, bo_some, s_l2Order_eq G h]
    unfold smallG at hs
    cases hg : isG G with
    | false => rfl
    | true =>
      rw [hg, Bool.true_and, decide_eq_false_iff_not] at hs
      have : decide (prodW G > 7) = true := decide_eq_true (by omega)
      rw [this]
      rfl
theorem i_AtomsOf_eq (G : List Int) (h : G.length ≤ lim) : fBy (ints G) = some (lz (atomsA G), smallG G) := by
  cases hs : smallG G with
  | true =>
    have := small_in hs
    unfold atomsA
    rw [if_pos hs]
    simp only [tens, atomsT, List.map_cons, List.map_nil, List.mem_cons, List.not_mem_nil, or_false] at this
    rcases this with rfl | rfl | rfl | rfl | rfl | rfl | rfl | rfl | rfl | rfl
    · exact (fBy_le 200 _).of _ i_atoms0
    · exact (fBy_le 200 _).of _ i_atoms1
    · exact (fBy_le 200 _).of _ i_atoms2
    · exact (fBy_le 200 _).of _ i_atoms3
    · exact (fBy_le 200 _).of _ i_atoms4
    · exact (fBy_le 200 _).of _ i_atoms5
    · exact (fBy_le 200 _).of _ i_atoms6
    · exact (fBy_le 200 _).of _ i_atoms7
    · exact (fBy_le 200 _).of _ i_atoms8
    · exact (fBy_le 200 _).of _ i_atoms9
  | false =>
    unfold atomsA
    rw [if_neg (by rw [hs]; simp)]
    simp only [fBy, fBy_k, i_IsGroup_eq G h, bo_some, i_OrderOf_eq G h]
    unfold smallG at hs
    cases hg : isG G with
    | false => rfl
    | true =>
      rw [hg, Bool.true_and, decide_eq_false_iff_not] at hs
      have : decide (ordG G > 7) = true := decide_eq_true (by unfold ordG; rw [if_pos hg]; omega)
      rw [this]
      rfl
theorem atomsG_len : atomsT.all (fun x => decide (x.2.length ≤ 48)) = true := by kernel_rfl
theorem atomsA_len (G : List Int) : (atomsA G).length ≤ 48 := by
  unfold atomsA atomsG
  split
  · split
    · rename_i x hx
      have := List.all_eq_true.1 atomsG_len x (List.mem_of_find?_eq_some hx)
      simpa using this
    · simp
  · simp
theorem lz_len (Z : List (List Int)) : (lz Z).length = Z.length := by simp [lz]
def cntF (L : List Sc) (n : Int) (t : Int) (k : Nat) : Int := if ((lstOf (L.getD k (.l []))).length : Int) = n then w64 (t + 1) else t
theorem CountAtoms_val (G : List Int) (n : Int) (h : G.length ≤ lim) : ∃ r, fAx (ints G) n = some r ∧ fAv (ints G) n = some r ∧ (smallG G = true → r = (List.range (lz (atomsA G)).length).foldl (cntF (lz (atomsA G)) n) 0) := by
  have hA := atomsA_len G
  generalize hL : lz (atomsA G) = L
  have hl : L.length ≤ 48 := by rw [← hL, lz_len]; exact hA
  have k1 := loop_upto (rd := fAx_r0 n L) L.length (cntF L n) id 0 (fun k t hk => by
    have e : (((lsI L (k : Int)).length : Int) == n) = decide (((lstOf (L.getD k (.l []))).length : Int) = n) := rfl
    simp only [fAx_r0, fAx_k0, lt_dec hk, br_true, inRange_nat, decide_eq_true hk, w64_nat (by omega : k < 9223372036854775807), e, cntF]
    generalize lstOf (L.getD k (.l [])) = z
    by_cases hc : (z.length : Int) = n <;> simp [hc, br_true, br_false])
    (fun t => by simp only [fAx_r0, fAx_k0, lt_dec_self, br_false, id])
  have k2 := loop_count (rd := fAv_r0 n (L.length : Int)) (fun k => (L, (List.range k).foldl (cntF L n) 0, (k : Int))) L.length (a := (L, (List.range L.length).foldl (cntF L n) 0)) (fun k hk => by
    have e : (((lsN L (k : Int).toNat).length : Int) == n) = decide (((lstOf (L.getD k (.l []))).length : Int) = n) := rfl
    simp only [fAv_r0, fAv_k0, lt_dec hk, br_true, inRange_nat, decide_eq_true hk, w64_nat (by omega : k < 9223372036854775807), e]
    rw [List.range_succ, List.foldl_append]
    simp only [List.foldl_cons, List.foldl_nil]
    generalize (List.range k).foldl (cntF L n) 0 = t
    unfold cntF
    generalize lstOf (L.getD k (.l [])) = z
    by_cases hc : (z.length : Int) = n <;> simp [hc, br_true, br_false])
    (by simp only [fAv_r0, fAv_k0, lt_dec_self, br_false]) 0 (Nat.zero_le _)
  simp only [List.range_zero, List.foldl_nil] at k2
  have e0 : (((0 : Nat) : Int)) = 0 := rfl
  rw [e0] at k2
  simp only [fAx, fAx_k, fAv, fAv_k, s_AtomsOf_eq G h, i_AtomsOf_eq G h, bo_some, hL]
  cases smallG G with
  | false => exact ⟨_, rfl, rfl, fun hh => (by cases hh)⟩
  | true => simp only [Bool.not_true, br_false, k1, k2, bl1_one, id]; exact ⟨_, rfl, rfl, fun _ => rfl⟩
theorem CountAtoms_both (G : List Int) (n : Int) (h : G.length ≤ lim) : ∃ r, fAx (ints G) n = some r ∧ fAv (ints G) n = some r := by
  obtain ⟨r, h1, h2, _⟩ := CountAtoms_val G n h
  exact ⟨r, h1, h2⟩
section
variable {S A B : Type} {rd : S → Option (Ro S A B)}
theorem loop_any (st : Nat → S) (n : Nat) (p : Nat → Bool) {a : A} {b : B} (h : ∀ k, k < n → rd (st k) = if p k then some (.two b) else some (.again (st (k + 1)))) (he : rd (st n) = some (.one a)) :
    loopL rd (st 0) = if (List.range n).any p then some (.two b) else some (.one a) := by
  rw [loop_find st n p (fun _ => b) h he]
  cases hf : (List.range n).find? p with
  | none =>
    rw [List.find?_eq_none] at hf
    have : (List.range n).any p = false := List.any_eq_false.2 hf
    rw [this]
    rfl
  | some k =>
    have : (List.range n).any p = true := List.any_eq_true.2 ⟨k, List.mem_of_find?_eq_some hf, List.find?_some hf⟩
    rw [this]
    rfl
end
theorem any_congr_iff {n m : Nat} {p q : Nat → Bool} (h : (∃ k, k < n ∧ p k = true) ↔ (∃ k, k < m ∧ q k = true)) : (List.range n).any p = (List.range m).any q := by
  rw [Bool.eq_iff_iff, List.any_eq_true, List.any_eq_true]
  simpa [List.mem_range] using h
def downAt (L : List Int) (k : Nat) : Bool := decide (k > 0) && decide (L.getD k 0 < L.getD (k - 1) 0)
def sortedB (L : List Int) : Bool := !(List.range L.length).any (downAt L)
def isSeq (G L : List Int) : Bool := !L.any (fun x => !hasG G x) && (isG G && (decide (L.length ≤ 12) && sortedB L))
theorem cmp_Less_eq (x y : Int) : fCj x y = some (decide (x < y)) := by
  simp [fCj, fCj_k, fBx, fBx_k, bo_some, br_eq]
theorem IsSorted_eq (L : List Int) (h : L.length ≤ lim) : fAj (ints L) = some (sortedB L) := by
  have hl := lim_lt h
  simp only [fAj, fAj_k, ints_length]
  cases hn : L.length with
  | zero =>
    have : L = [] := List.length_eq_zero_iff.1 hn
    subst this
    have key : loopL (fAj_r0 (ints [])) (w64 (((0 : Nat) : Int) - 1)) = some (.one ()) := loopL_one (by
      have e : w64 (((0 : Nat) : Int) - 1) = -1 := by decide
      rw [e]
      rfl)
    rw [key]
    rfl
  | succ n =>
    have e0 : w64 (((n + 1 : Nat) : Int) - 1) = ((n - 0 : Nat) : Int) := by rw [w64_in] <;> omega
    have key := loop_any (rd := fAj_r0 (ints L)) (fun j => ((n - j : Nat) : Int)) n (fun j => downAt L (n - j)) (a := ()) (b := ()) (fun j hj => by
      have e1 : decide (((n - j : Nat) : Int) > 0) = true := by simp; omega
      have e2 : w64 (((n - j : Nat) : Int) - 1) = ((n - j - 1 : Nat) : Int) := by rw [w64_in] <;> omega
      have e3 : n - (j + 1) = n - j - 1 := by omega
      have e4 : decide (n - j > 0) = true := by simp; omega
      simp only [fAj_r0, fAj_k0, e1, e2, ok_nat (by omega : n - j < L.length), ok_nat (by omega : n - j - 1 < L.length), at_nat, br_true, cmp_Less_eq, bo_some, downAt, e4, Bool.true_and, br_eq, e3, if_true])
      (by simp [fAj_r0, fAj_k0, br_eq])
    rw [e0, key]
    have e5 : (List.range n).any (fun j => downAt L (n - j)) = (List.range L.length).any (downAt L) := by
      refine any_congr_iff ⟨fun ⟨j, hj, hp⟩ => ⟨n - j, by omega, hp⟩, fun ⟨k, hk, hp⟩ => ⟨n - k, ?_, ?_⟩⟩
      · have : k > 0 := by
          unfold downAt at hp
          simp only [Bool.and_eq_true, decide_eq_true_eq] at hp
          exact hp.1
        omega
      · rw [show n - (n - k) = k by omega]; exact hp
    rw [e5]
    unfold sortedB
    cases (List.range L.length).any (downAt L) <;> rfl
theorem s_IsSequence_eq (G L : List Int) (h : G.length ≤ lim) (hL : L.length ≤ lim) : fAz (ints G) (ints L) = some (isSeq G L) := by
  have hl := lim_lt hL
  have key := loop_any (rd := fAz_r0 (ints L) (ints G)) (fun k => (k : Int)) L.length (fun k => !hasG G (L.getD k 0) || downAt L k) (a := ()) (b := ()) (fun k hk => by
    simp only [fAz_r0, fAz_k0, ints_length, lt_dec hk, ok_nat hk, at_nat, br_true, w64_nat (by omega : k < 9223372036854775807), s_l2Is_eq G _ h, bo_some]
    cases hasG G (L.getD k 0) with
    | false => rfl
    | true =>
      by_cases hk0 : k > 0
      · have e1 : decide ((k : Int) > 0) = true := by simp; omega
        have e2 : w64 ((k : Int) - 1) = ((k - 1 : Nat) : Int) := by rw [w64_in] <;> omega
        have e3 : decide (k > 0) = true := by simpa using hk0
        simp only [e1, e2, ok_nat (by omega : k - 1 < L.length), at_nat, downAt, e3, br_eq, Bool.not_true, Bool.false_or, Bool.true_and]
        simp
      · have e1 : decide ((k : Int) > 0) = false := by simp; omega
        have e3 : decide (k > 0) = false := by simpa using hk0
        simp only [e1, downAt, e3]
        rfl)
    (by simp only [fAz_r0, fAz_k0, ints_length, lt_dec_self, br_false])
  rw [show (((0 : Nat)) : Int) = 0 from rfl] at key
  simp only [fAz, fAz_k, key, s_IsGroup_eq G h, bo_some, ints_length]
  have e : (List.range L.length).any (fun k => !hasG G (L.getD k 0) || downAt L k) = (L.any (fun x => !hasG G x) || (List.range L.length).any (downAt L)) := by
    rw [← range_any L (fun x => !hasG G x), Bool.eq_iff_iff]
    simp only [Bool.or_eq_true, List.any_eq_true]
    constructor
    · rintro ⟨k, hk, hp | hp⟩
      · exact .inl ⟨k, hk, hp⟩
      · exact .inr ⟨k, hk, hp⟩
    · rintro (⟨k, hk, hp⟩ | ⟨k, hk, hp⟩)
      · exact ⟨k, hk, .inl hp⟩
      · exact ⟨k, hk, .inr hp⟩
  rw [e]
  unfold isSeq sortedB
  have e12 : decide ((L.length : Int) ≤ 12) = decide (L.length ≤ 12) := by rw [decide_eq_decide]; omega
  rw [e12]
  cases L.any (fun x => !hasG G x) <;> cases (List.range L.length).any (downAt L) <;> cases isG G <;> simp [bl_one, bl_two, br_eq]
theorem i_IsSequence_eq (G L : List Int) (h : G.length ≤ lim) (hL : L.length ≤ lim) : fAw (ints G) (ints L) = some (isSeq G L) := by
  have hl := lim_lt hL
  have key := loop_any (rd := fAw_r0 (ints L) (ints G) (ints L) (L.length : Int)) (fun k => (k : Int)) L.length (fun k => !hasG G (L.getD k 0)) (a := ()) (b := ()) (fun k hk => by
    simp only [fAw_r0, fAw_k0, lt_dec hk, ok_nat hk, at_nat, br_true, w64_nat (by omega : k < 9223372036854775807), i_has_eq G _ h, bo_some]
    cases hasG G (L.getD k 0) <;> rfl)
    (by simp only [fAw_r0, fAw_k0, lt_dec_self, br_false])
  rw [show (((0 : Nat)) : Int) = 0 from rfl, range_any L (fun x => !hasG G x)] at key
  simp only [fAw, fAw_k, ints_length, key, i_IsGroup_eq G h, IsSorted_eq L hL, bo_some]
  unfold isSeq
  have e12 : decide ((L.length : Int) ≤ 12) = decide (L.length ≤ 12) := by rw [decide_eq_decide]; omega
  rw [e12]
  cases L.any (fun x => !hasG G x) <;> cases sortedB L <;> cases isG G <;> cases decide (L.length ≤ 12) <;> rfl
theorem w64_cast {n : Nat} (h : n < 9223372036854775808) : w64 (n : Int) = n := w64_in (by omega) (by omega)
theorem ofInt_cast {n : Nat} (h : n < 9223372036854775808) : (BitVec.ofInt 64 (n : Int)).toNat = n := by
  simp [BitVec.toNat_ofInt]
  omega
theorem wrap_cast {n : Nat} (h : n < 9223372036854775808) : IntKind.i64.wrap (n : Int) = n := w64_cast h
theorem and64_nat {a b : Nat} (ha : a < 9223372036854775808) (hb : b < 9223372036854775808) : and64 (a : Int) (b : Int) = ((a &&& b : Nat) : Int) := by
  have : (BitVec.ofInt 64 (a : Int) &&& BitVec.ofInt 64 (b : Int)).toNat = a &&& b := by rw [BitVec.toNat_and, ofInt_cast ha, ofInt_cast hb]
  show IntKind.i64.wrap ((BitVec.ofInt 64 (a : Int) &&& BitVec.ofInt 64 (b : Int)).toNat : Int) = _
  rw [this, wrap_cast (Nat.lt_of_le_of_lt Nat.and_le_left ha)]
theorem or64_nat {a b : Nat} (ha : a < 9223372036854775808) (hb : b < 9223372036854775808) : or64 (a : Int) (b : Int) = ((a ||| b : Nat) : Int) := by
  have : (BitVec.ofInt 64 (a : Int) ||| BitVec.ofInt 64 (b : Int)).toNat = a ||| b := by rw [BitVec.toNat_or, ofInt_cast ha, ofInt_cast hb]
  show IntKind.i64.wrap ((BitVec.ofInt 64 (a : Int) ||| BitVec.ofInt 64 (b : Int)).toNat : Int) = _
  rw [this, wrap_cast (Nat.or_lt_two_pow (n := 63) ha hb)]
theorem shl64_nat {a k : Nat} (hk : k ≤ 63) (h : a * 2 ^ k < 9223372036854775808) : shl64 (a : Int) (k : Int) = ((a * 2 ^ k : Nat) : Int) := by
  unfold shl64
  have e : min (k : Int).toNat IntKind.i64.bits = k := by
    rw [Int.toNat_natCast]
    exact Nat.min_eq_left (by show k ≤ 64; omega)
  rw [e, show ((a : Int) * 2 ^ k) = ((a * 2 ^ k : Nat) : Int) by push_cast; rfl]
  exact w64_cast h
theorem shl1_nat {k : Nat} (h : k ≤ 62) : shl64 1 (k : Int) = ((2 ^ k : Nat) : Int) := by
  have h2 : 2 ^ k ≤ 2 ^ 62 := Nat.pow_le_pow_right (by decide) h
  have := shl64_nat (a := 1) (k := k) (by omega) (by omega)
  simpa using this
theorem shr64_nat {a k : Nat} (ha : a < 9223372036854775808) : shr64 (a : Int) (k : Int) = ((a >>> k : Nat) : Int) := by
  unfold shr64
  rw [Int.toNat_natCast]
  have h2 : (2 : Int) ^ (min k IntKind.i64.bits) = ((2 ^ (min k 64) : Nat) : Int) := by push_cast; rfl
  rw [h2, Int.fdiv_eq_ediv_of_nonneg _ (Int.natCast_nonneg _), ← Int.natCast_ediv, Nat.shiftRight_eq_div_pow]
  congr 1
  by_cases hk : k ≤ 64
  · rw [Nat.min_eq_left hk]
  · rw [Nat.min_eq_right (by omega), Nat.div_eq_of_lt (by have : (9223372036854775808 : Nat) ≤ 2 ^ 64 := by decide
                                                          omega), Nat.div_eq_of_lt]
    have : (2 : Nat) ^ 64 ≤ 2 ^ k := Nat.pow_le_pow_right (by decide) (by omega)
    have h3 : (9223372036854775808 : Nat) ≤ 2 ^ 64 := by decide
    omega
theorem bit_test {a k : Nat} (ha : a < 9223372036854775808) : (and64 (shr64 (a : Int) (k : Int)) 1 == 1) = a.testBit k := by
  rw [shr64_nat ha, show (1 : Int) = ((1 : Nat) : Int) from rfl, and64_nat (Nat.lt_of_le_of_lt (Nat.shiftRight_le a k) ha) (by decide)]
  rw [Bool.eq_iff_iff]
  simp only [Nat.testBit, bne_iff_ne, beq_iff_eq]
  rw [Nat.and_comm 1]
  have : (a >>> k) &&& 1 = (a >>> k) % 2 := Nat.and_one_is_mod _
  rw [this]
  omega
theorem bit_test0 {a : Nat} (ha : a < 9223372036854775808) : (and64 (a : Int) 1 == 1) = a.testBit 0 := by
  have := bit_test (a := a) (k := 0) ha
  rw [shr64_nat ha] at this
  simpa using this
def elems (a : Nat) : List Nat := (List.range 63).filter fun x => a.testBit x
theorem mem_elems {a x : Nat} (ha : a < 9223372036854775808) : x ∈ elems a ↔ a.testBit x = true := by
  unfold elems
  simp only [List.mem_filter, List.mem_range, and_iff_right_iff_imp]
  intro h
  rcases Nat.lt_or_ge x 63 with hx | hx
  · exact hx
  · have : a < 2 ^ x := Nat.lt_of_lt_of_le ha (by have : (2:Nat) ^ 63 ≤ 2 ^ x := Nat.pow_le_pow_right (by decide) hx
                                                  exact this)
    rw [Nat.testBit_lt_two_pow this] at h
    cases h
def orAll (f : Nat → Nat) (l : List Nat) : Nat := l.foldl (fun o y => o ||| f y) 0
theorem orFold_test (f : Nat → Nat) (l : List Nat) (o z : Nat) : (l.foldl (fun o y => o ||| f y) o).testBit z = (o.testBit z || l.any fun y => (f y).testBit z) := by
  induction l generalizing o with
  | nil => simp
  | cons y l ih => simp only [List.foldl_cons, ih, Nat.testBit_or, List.any_cons, Bool.or_assoc]
theorem orAll_test (f : Nat → Nat) (l : List Nat) (z : Nat) : (orAll f l).testBit z = l.any fun y => (f y).testBit z := by
  unfold orAll
  rw [orFold_test]
  simp
theorem pow_test {k z : Nat} : (2 ^ k).testBit z = decide (k = z) := Nat.testBit_two_pow
theorem orFold_lt {f : Nat → Nat} {n : Nat} : ∀ {l : List Nat} {o : Nat}, o < 2 ^ n → (∀ y ∈ l, f y < 2 ^ n) → l.foldl (fun o y => o ||| f y) o < 2 ^ n
  | [], _, ho, _ => ho
  | y :: l, o, ho, h => orFold_lt (l := l) (Nat.or_lt_two_pow ho (h y (by simp))) fun z hz => h z (by simp [hz])
def natsI (L : List Nat) : List Int := L.map fun (n : Nat) => (n : Int)
theorem natsI_length (L : List Nat) : (natsI L).length = L.length := by simp [natsI]
theorem natsI_getD (L : List Nat) (k : Nat) : (natsI L).getD k 0 = ((L.getD k 0 : Nat) : Int) := by
  unfold natsI
  simp only [List.getD, List.getElem?_map]
  cases L[k]? <;> rfl
def ordN : List Nat → Nat
  | [] => 1
  | n :: r => n * ordN r
structure VG (G : List Nat) : Prop where
  len : G.length ≤ 3
  each : ∀ n ∈ G, 2 ≤ n ∧ n ≤ 24
  ord : ordN G ≤ 24
theorem prodW_nat (G : List Nat) (hlen : G.length ≤ 3) (he : ∀ n ∈ G, 2 ≤ n ∧ n ≤ 24) : prodW (natsI G) = (ordN G : Nat) := by
  have w : ∀ x : Nat, x ≤ 20000 → w64 (x : Int) = x := fun x a => w64_cast (by omega)
  match G, hlen, he with
  | [], _, _ => rfl
  | [a], _, h2 =>
    have ha := h2 a (by simp)
    simp only [prodW, natsI, List.map, List.foldl, Int.one_mul, ordN, Nat.mul_one]
    exact w a (by omega)
  | [a, b], _, h2 =>
    have ha := h2 a (by simp)
    have hb := h2 b (by simp)
    simp only [prodW, natsI, List.map, List.foldl, Int.one_mul, ordN, Nat.mul_one]
    have hab2 : a * b ≤ 24 * 24 := Nat.mul_le_mul ha.2 hb.2
    rw [w a (by omega), ← Int.natCast_mul, w (a * b) (by omega)]
  | [a, b, c], _, h2 =>
    have ha := h2 a (by simp)
    have hb := h2 b (by simp)
    have hc := h2 c (by simp)
    simp only [prodW, natsI, List.map, List.foldl, Int.one_mul, ordN, Nat.mul_one]
    have hab2 : a * b ≤ 24 * 24 := Nat.mul_le_mul ha.2 hb.2
    have habc2 : a * b * c ≤ 24 * 24 * 24 := Nat.mul_le_mul hab2 hc.2
    rw [w a (by omega), ← Int.natCast_mul, w (a * b) (by omega), ← Int.natCast_mul, w _ (by omega), Nat.mul_assoc]
  | _ :: _ :: _ :: _ :: _, h1, _ => simp at h1
theorem nat_of_isG {G : List Int} (h : isG G = true) : ∃ g, G = natsI g ∧ VG g := by
  obtain ⟨h1, h2, h3⟩ := isG_spec h
  have e : G = natsI (G.map Int.toNat) := by
    unfold natsI
    rw [List.map_map]
    conv => lhs; rw [← List.map_id G]
    refine List.map_congr_left fun x hx => ?_
    have := h2 x hx
    show x = ((x.toNat : Nat) : Int)
    omega
  have he : ∀ n ∈ G.map Int.toNat, 2 ≤ n ∧ n ≤ 24 := by
    intro n hn
    obtain ⟨x, hx, rfl⟩ := List.mem_map.1 hn
    have := h2 x hx
    omega
  have hl : (G.map Int.toNat).length ≤ 3 := by simpa using h1
  refine ⟨G.map Int.toNat, e, hl, he, ?_⟩
  have := prodW_nat _ hl he
  rw [← e] at this
  omega
theorem VG.isG {g : List Nat} (h : VG g) : isG (natsI g) = true := by
  unfold Go.Proofs.YtlnhommmmajllaaGreat.isG
  have := prodW_nat g h.len h.each
  have h3 := h.ord
  simp only [natsI_length, Bool.and_eq_true, decide_eq_true_eq, List.all_eq_true, this]
  refine ⟨h.len, fun x hx => ?_, by omega⟩
  unfold natsI at hx
  obtain ⟨n, hn, rfl⟩ := List.mem_map.1 hx
  have := h.each n hn
  simp only [inB, Bool.and_eq_true, decide_eq_true_eq]
  omega
theorem VG.ordG {g : List Nat} (h : VG g) : ordG (natsI g) = (ordN g : Nat) := by
  unfold Go.Proofs.YtlnhommmmajllaaGreat.ordG
  rw [h.isG, if_pos rfl, prodW_nat g h.len h.each]
theorem VG.lim {g : List Nat} (h : VG g) : (natsI g).length ≤ lim := by
  rw [natsI_length]
  exact Nat.le_trans h.len (by decide)
theorem ordN_pos {g : List Nat} (h : ∀ n ∈ g, 2 ≤ n ∧ n ≤ 24) : 1 ≤ ordN g := by
  induction g with
  | nil => exact Nat.le_refl _
  | cons n r ih =>
    have := ih fun m hm => h m (by simp [hm])
    have hn := h n (by simp)
    show 1 ≤ n * ordN r
    exact Nat.mul_pos (by omega) this
theorem VG.has {g : List Nat} (h : VG g) (x : Int) : hasG (natsI g) x = true ↔ ∃ n : Nat, x = n ∧ n < ordN g := by
  unfold hasG
  rw [h.ordG]
  simp only [Bool.and_eq_true, decide_eq_true_eq]
  constructor
  · rintro ⟨h1, h2⟩
    exact ⟨x.toNat, by omega, by omega⟩
  · rintro ⟨n, rfl, h2⟩
    omega
def addN : List Nat → Nat → Nat → Nat
  | [], _, _ => 0
  | n :: r, x, y => (x % n + y % n) % n + n * addN r (x / n) (y / n)
theorem addN_comm (g : List Nat) (x y : Nat) : addN g x y = addN g y x := by
  induction g generalizing x y with
  | nil => rfl
  | cons n r ih => simp only [addN, ih (x / n) (y / n), Nat.add_comm (x % n) (y % n)]
theorem addN_lt {g : List Nat} (h : ∀ n ∈ g, 2 ≤ n ∧ n ≤ 24) (x y : Nat) : addN g x y < ordN g := by
  induction g generalizing x y with
  | nil => exact Nat.lt_succ_self 0
  | cons n r ih =>
    have hn := h n (by simp)
    have hr := ih (fun m hm => h m (by simp [hm])) (x / n) (y / n)
    have h1 : (x % n + y % n) % n < n := Nat.mod_lt _ (by omega)
    show (x % n + y % n) % n + n * addN r (x / n) (y / n) < n * ordN r
    have h2 : n * (addN r (x / n) (y / n) + 1) ≤ n * ordN r := Nat.mul_le_mul_left n hr
    rw [Nat.mul_add] at h2
    omega
theorem tmod_nat (x n : Nat) : (x : Int).tmod (n : Int) = ((x % n : Nat) : Int) := rfl
theorem tdiv_nat (x n : Nat) : (x : Int).tdiv (n : Int) = ((x / n : Nat) : Int) := rfl
theorem add_round {n x y z u : Nat} (hn : 2 ≤ n ∧ n ≤ 24) (hx : x < 4611686018427387904) (hy : y < 4611686018427387904) (hz : z < u) (hu : u * n ≤ 1000000) :
    w64 ((x : Int).tdiv (n : Int)) = ((x / n : Nat) : Int) ∧ w64 ((y : Int).tdiv (n : Int)) = ((y / n : Nat) : Int) ∧ w64 ((u : Int) * (n : Int)) = ((u * n : Nat) : Int) ∧
    w64 ((z : Int) + w64 ((w64 ((x : Int).tmod (n : Int) + (y : Int).tmod (n : Int))).tmod (n : Int) * (u : Int))) = ((z + (x % n + y % n) % n * u : Nat) : Int) ∧ z + (x % n + y % n) % n * u < u * n := by
  have h1 : x % n < n := Nat.mod_lt _ (by omega)
  have h2 : y % n < n := Nat.mod_lt _ (by omega)
  have h3 : (x % n + y % n) % n < n := Nat.mod_lt _ (by omega)
  have h4 : ((x % n + y % n) % n + 1) * u ≤ n * u := Nat.mul_le_mul_right u h3
  have h5 : n * u = u * n := Nat.mul_comm n u
  have h6 : ((x % n + y % n) % n + 1) * u = (x % n + y % n) % n * u + u := by rw [Nat.add_mul, Nat.one_mul]
  refine ⟨?_, ?_, ?_, ?_, ?_⟩
  · rw [tdiv_nat, w64_cast (Nat.lt_of_le_of_lt (Nat.div_le_self x n) (by omega))]
  · rw [tdiv_nat, w64_cast (Nat.lt_of_le_of_lt (Nat.div_le_self y n) (by omega))]
  · rw [← Int.natCast_mul, w64_cast (by omega)]
  · rw [tmod_nat, tmod_nat, ← Int.natCast_add, w64_cast (by omega), tmod_nat, ← Int.natCast_mul, w64_cast (by omega), ← Int.natCast_add, w64_cast (by omega)]
  · omega
theorem drop_cons {G : List Nat} {k n : Nat} {r : List Nat} (h : G.drop k = n :: r) : k < G.length ∧ G.getD k 0 = n ∧ G.drop (k + 1) = r := drop_facts h 0
theorem drop_nil {G : List Nat} {k : Nat} (h : G.drop k = []) (hk : k ≤ G.length) : k = G.length := by
  have := List.drop_eq_nil_iff.1 h
  omega
theorem s_l2Add_eq {g : List Nat} (hg : VG g) {x y : Nat} (hx : x < 4611686018427387904) (hy : y < 4611686018427387904) : fCr (ints (natsI g)) (x : Int) (y : Int) = some ((addN g x y : Nat) : Int) := by
  have key : ∀ (r : List Nat) (k x y z u : Nat), g.drop k = r → k ≤ g.length → x < 4611686018427387904 → y < 4611686018427387904 → z < u → u * ordN r ≤ 1000000 →
      loopL (fCr_r0 (ints (natsI g))) ((x : Int), (y : Int), (z : Int), (u : Int), (k : Int)) = some (.one (((z + u * addN r x y : Nat)) : Int)) := by
    intro r
    induction r with
    | nil =>
      intro k x y z u hd hk hx hy hz hu
      have := drop_nil hd hk
      subst this
      refine loopL_one ?_
      simp only [fCr_r0, fCr_k0, ints_length, natsI_length, lt_dec_self, br_false, addN, Nat.mul_zero, Nat.add_zero]
    | cons n r ih =>
      intro k x y z u hd hk hx hy hz hu
      obtain ⟨hkl, hn, hd'⟩ := drop_cons hd
      have hne := hg.each n (by rw [← hn]; simp [List.getD, List.getElem?_eq_getElem hkl])
      have hor : 1 ≤ ordN r := ordN_pos fun m hm => hg.each m (by rw [← hd'] at hm; exact List.mem_of_mem_drop hm)
      have hu' : u * n * ordN r ≤ 1000000 := by rw [Nat.mul_assoc]; exact hu
      have hu2 : u * n ≤ 1000000 := Nat.le_trans (Nat.le_mul_of_pos_right _ hor) hu'
      obtain ⟨a1, a2, a3, a4, a5⟩ := add_round hne hx hy hz hu2
      have hkl' : k < (natsI g).length := by rw [natsI_length]; exact hkl
      have hat : atI (ints (natsI g)) (k : Int) = (n : Int) := by rw [at_nat, natsI_getD, hn]
      have hn0 : ((n : Int) == 0) = false := by
        have : ¬ ((n : Int) = 0) := by omega
        simpa using this
      rw [loopL_again (s' := (((x / n : Nat) : Int), ((y / n : Nat) : Int), ((z + (x % n + y % n) % n * u : Nat) : Int), ((u * n : Nat) : Int), ((k + 1 : Nat) : Int))) (by
        have hg3 := hg.len
        simp only [fCr_r0, fCr_k0, ints_length, natsI_length, lt_dec hkl, ok_nat hkl', hat, hn0, br_true, br_false, a1, a2, a3, a4, w64_nat (by omega : k < 9223372036854775807)])]
      rw [ih (k + 1) (x / n) (y / n) _ (u * n) hd' hkl (Nat.lt_of_le_of_lt (Nat.div_le_self x n) hx) (Nat.lt_of_le_of_lt (Nat.div_le_self y n) hy) a5 hu']
      congr 3
      simp only [addN, Nat.mul_add, Nat.mul_assoc, Nat.mul_comm u ((x % n + y % n) % n), Nat.add_assoc]
  have := key g 0 x y 0 1 rfl (Nat.zero_le _) hx hy (by decide) (by have := hg.ord; omega)
  simp only [fCr, fCr_k]
  have e0 : ((0 : Nat) : Int) = 0 := rfl
  have e1 : ((1 : Nat) : Int) = 1 := rfl
  rw [e0, e1] at this
  rw [this, bl1_one]
  simp
theorem i_add_eq {g : List Nat} (hg : VG g) {x y : Nat} (hx : x < 4611686018427387904) (hy : y < 4611686018427387904) : fBf (ints (natsI g)) (x : Int) (y : Int) = some ((addN g x y : Nat) : Int) := by
  have key : ∀ (r : List Nat) (k x y z u : Nat), g.drop k = r → k ≤ g.length → x < 4611686018427387904 → y < 4611686018427387904 → z < u → u * ordN r ≤ 1000000 →
      loopL (fBf_r0 (ints (natsI g)) (g.length : Int)) ((x : Int), (y : Int), (z : Int), (u : Int), (k : Int)) = some (.one (((z + u * addN r x y : Nat)) : Int)) := by
    intro r
    induction r with
    | nil =>
      intro k x y z u hd hk hx hy hz hu
      have := drop_nil hd hk
      subst this
      refine loopL_one ?_
      simp only [fBf_r0, fBf_k0, lt_dec_self, br_false, addN, Nat.mul_zero, Nat.add_zero]
    | cons n r ih =>
      intro k x y z u hd hk hx hy hz hu
      obtain ⟨hkl, hn, hd'⟩ := drop_cons hd
      have hne := hg.each n (by rw [← hn]; simp [List.getD, List.getElem?_eq_getElem hkl])
      have hor : 1 ≤ ordN r := ordN_pos fun m hm => hg.each m (by rw [← hd'] at hm; exact List.mem_of_mem_drop hm)
      have hu' : u * n * ordN r ≤ 1000000 := by rw [Nat.mul_assoc]; exact hu
      have hu2 : u * n ≤ 1000000 := Nat.le_trans (Nat.le_mul_of_pos_right _ hor) hu'
      obtain ⟨a1, a2, a3, a4, a5⟩ := add_round hne hx hy hz hu2
      have hkl' : k < (natsI g).length := by rw [natsI_length]; exact hkl
      have hat : atI (ints (natsI g)) (k : Int) = (n : Int) := by rw [at_nat, natsI_getD, hn]
      have hn0 : ((n : Int) == 0) = false := by
        have : ¬ ((n : Int) = 0) := by omega
        simpa using this
      rw [loopL_again (s' := (((x / n : Nat) : Int), ((y / n : Nat) : Int), ((z + (x % n + y % n) % n * u : Nat) : Int), ((u * n : Nat) : Int), ((k + 1 : Nat) : Int))) (by
        have hg3 := hg.len
        simp only [fBf_r0, fBf_k0, lt_dec hkl, ok_nat hkl', hat, hn0, br_true, br_false, a1, a2, a3, a4, w64_nat (by omega : k < 9223372036854775807)])]
      rw [ih (k + 1) (x / n) (y / n) _ (u * n) hd' hkl (Nat.lt_of_le_of_lt (Nat.div_le_self x n) hx) (Nat.lt_of_le_of_lt (Nat.div_le_self y n) hy) a5 hu']
      congr 3
      simp only [addN, Nat.mul_add, Nat.mul_assoc, Nat.mul_comm u ((x % n + y % n) % n), Nat.add_assoc]
  have := key g 0 x y 0 1 rfl (Nat.zero_le _) hx hy (by decide) (by have := hg.ord; omega)
  simp only [fBf, fBf_k, ints_length, natsI_length]
  have e0 : ((0 : Nat) : Int) = 0 := rfl
  have e1 : ((1 : Nat) : Int) = 1 := rfl
  rw [e0, e1] at this
  rw [this, bl1_one]
  simp
theorem loop_foldN {S T A B : Type} {rd : S → Option (Ro S A B)} (l : List Nat) (mk : T → Int → S) (f : T → Nat → T) (gg : T → A) (P : T → Prop) (t0 : T) (h0 : P t0)
    (h : ∀ (k : Nat) t, k < l.length → P t → rd (mk t (k : Int)) = some (.again (mk (f t (l.getD k 0)) ((k + 1 : Nat) : Int))))
    (hP : ∀ (k : Nat) t, k < l.length → P t → P (f t (l.getD k 0)))
    (he : ∀ t, P t → rd (mk t (l.length : Int)) = some (.one (gg t))) : loopL rd (mk t0 0) = some (.one (gg (l.foldl f t0))) ∧ P (l.foldl f t0) := by
  have step : ∀ k, k < l.length → (l.take (k + 1)).foldl f t0 = f ((l.take k).foldl f t0) (l.getD k 0) := by
    intro k hk
    rw [List.take_succ_eq_append_getElem hk, List.foldl_append]
    simp [List.getD, List.getElem?_eq_getElem hk]
  have inv : ∀ k, k ≤ l.length → P ((l.take k).foldl f t0) := by
    intro k
    induction k with
    | zero => intro _; exact h0
    | succ k ih => intro hk; rw [step k hk]; exact hP k _ hk (ih (by omega))
  have key := loop_count (rd := rd) (fun k => mk ((l.take k).foldl f t0) (k : Int)) l.length (a := gg (l.foldl f t0)) (fun k hk => by
    show rd (mk ((l.take k).foldl f t0) (k : Int)) = _
    rw [h k _ hk (inv k (by omega)), step k hk]) (by
      have := inv l.length (Nat.le_refl _)
      show rd (mk ((l.take l.length).foldl f t0) (l.length : Int)) = _
      rw [he _ this, List.take_length]) 0 (Nat.zero_le _)
  refine ⟨by simpa using key, ?_⟩
  have := inv l.length (Nat.le_refl _)
  rwa [List.take_length] at this
structure VS (g l : List Nat) : Prop where
  grp : VG g
  each : ∀ x ∈ l, x < ordN g
  len : l.length ≤ 12
theorem nats_of_has {G L : List Int} {g : List Nat} (hg : G = natsI g) (v : VG g) (h : L.any (fun x => !hasG G x) = false) : ∃ l, L = natsI l ∧ ∀ x ∈ l, x < ordN g := by
  rw [List.any_eq_false] at h
  have h' : ∀ x ∈ L, hasG (natsI g) x = true := fun x hx => by
    have := h x hx
    rw [hg] at this
    simpa using this
  refine ⟨L.map Int.toNat, ?_, fun n hn => ?_⟩
  · unfold natsI
    rw [List.map_map]
    conv => lhs; rw [← List.map_id L]
    refine List.map_congr_left fun x hx => ?_
    obtain ⟨n, rfl, _⟩ := (v.has x).1 (h' x hx)
    simp
  · obtain ⟨x, hx, rfl⟩ := List.mem_map.1 hn
    obtain ⟨n, rfl, hl⟩ := (v.has x).1 (h' x hx)
    simpa using hl
theorem nat_of_isSeq {G L : List Int} (h : isSeq G L = true) : ∃ g l, G = natsI g ∧ L = natsI l ∧ VS g l := by
  unfold isSeq at h
  simp only [Bool.and_eq_true, Bool.not_eq_true', decide_eq_true_eq] at h
  obtain ⟨h1, h2, h3, _⟩ := h
  obtain ⟨g, rfl, v⟩ := nat_of_isG h2
  obtain ⟨l, rfl, hl⟩ := nats_of_has rfl v h1
  exact ⟨g, l, rfl, rfl, v, hl, by simpa [natsI_length] using h3⟩
theorem VS.at {g l : List Nat} (v : VS g l) {k : Nat} (hk : k < l.length) : l.getD k 0 < ordN g := v.each _ (by simp [List.getD, List.getElem?_eq_getElem hk])
theorem ok_natsI {l : List Nat} {k : Nat} (h : k < l.length) : okAt (ints (natsI l)) (k : Int) = true := ok_nat (by rw [natsI_length]; exact h)
theorem at_natsI (l : List Nat) (k : Nat) : atI (ints (natsI l)) (k : Int) = ((l.getD k 0 : Nat) : Int) := by rw [at_nat, natsI_getD]
def totN (g l : List Nat) : Nat := l.foldl (addN g) 0
theorem totN_lt {g l : List Nat} (v : VG g) : totN g l < ordN g := by
  have key : ∀ (l : List Nat) (z : Nat), z < ordN g → l.foldl (addN g) z < ordN g := by
    intro l
    induction l with
    | nil => intro z hz; exact hz
    | cons x l ih => intro z hz; exact ih _ (addN_lt v.each z x)
  exact key l 0 (ordN_pos v.each)
theorem s_l16Sum_eq {g l : List Nat} (v : VG g) (hl : ∀ x ∈ l, x < ordN g) (hlen : l.length ≤ lim) : fCo (ints (natsI g)) (ints (natsI l)) = some ((totN g l : Nat) : Int) := by
  have h24 := v.ord
  have hll := lim_lt hlen
  have key := loop_foldN (rd := fCo_r0 (ints (natsI l)) (ints (natsI g))) l (fun (t : Nat) i => ((t : Int), i)) (addN g) (fun t => (t : Int)) (fun t => t < 24) 0 (by decide) (fun k t hk ht => by
    have hx : l.getD k 0 < ordN g := hl _ (by simp [List.getD, List.getElem?_eq_getElem hk])
    simp only [fCo_r0, fCo_k0, ints_length, natsI_length, lt_dec hk, ok_natsI hk, at_natsI, br_true, s_l2Add_eq v (by omega : t < 4611686018427387904) (by omega : l.getD k 0 < 4611686018427387904), bo_some, w64_nat (by omega : k < 9223372036854775807)])
    (fun k t hk ht => Nat.lt_of_lt_of_le (addN_lt v.each _ _) h24)
    (fun t ht => by simp only [fCo_r0, fCo_k0, ints_length, natsI_length, lt_dec_self, br_false])
  simp only [fCo, fCo_k]
  have := key.1
  rw [show ((0 : Nat) : Int) = 0 from rfl] at this
  rw [this, bl1_one]
  rfl
theorem i_total_eq {g l : List Nat} (v : VG g) (hl : ∀ x ∈ l, x < ordN g) (hlen : l.length ≤ lim) : fAs (ints (natsI g)) (ints (natsI l)) = some ((totN g l : Nat) : Int) := by
  have h24 := v.ord
  have hll := lim_lt hlen
  have key := loop_foldN (rd := fAs_r0 (ints (natsI g)) (ints (natsI l)) (l.length : Int)) l (fun (t : Nat) i => ((t : Int), i)) (addN g) (fun t => (t : Int)) (fun t => t < 24) 0 (by decide) (fun k t hk ht => by
    have hx : l.getD k 0 < ordN g := hl _ (by simp [List.getD, List.getElem?_eq_getElem hk])
    simp only [fAs_r0, fAs_k0, lt_dec hk, ok_natsI hk, at_natsI, br_true, i_add_eq v (by omega : t < 4611686018427387904) (by omega : l.getD k 0 < 4611686018427387904), bo_some, w64_nat (by omega : k < 9223372036854775807)])
    (fun k t hk ht => Nat.lt_of_lt_of_le (addN_lt v.each _ _) h24)
    (fun t ht => by simp only [fAs_r0, fAs_k0, lt_dec_self, br_false])
  simp only [fAs, fAs_k, ints_length, natsI_length]
  have := key.1
  rw [show ((0 : Nat) : Int) = 0 from rfl] at this
  rw [this, bl1_one]
  rfl
theorem VS.lim {g l : List Nat} (v : VS g l) : l.length ≤ Ev.lim := Nat.le_trans v.len (by decide)
theorem IsZeroSum_both (G L : List Int) (h : G.length ≤ lim) (hL : L.length ≤ lim) : ∃ r, fBk (ints G) (ints L) = some r ∧ fBh (ints G) (ints L) = some r := by
  simp only [fBk, fBk_k, fBh, fBh_k, s_IsSequence_eq G L h hL, i_IsSequence_eq G L h hL, bo_some]
  cases hs : isSeq G L with
  | false => exact ⟨_, rfl, rfl⟩
  | true =>
    obtain ⟨g, l, rfl, rfl, v⟩ := nat_of_isSeq hs
    simp only [s_l16Sum_eq v.grp v.each v.lim, i_total_eq v.grp v.each v.lim, bo_some]
    exact ⟨_, rfl, rfl⟩
def lastA (L : List Int) (x : Int) (n : Nat) : Int := (List.range n).foldl (fun (t : Int) (k : Nat) => if L.getD k 0 = x then (k : Int) else t) (-1)
theorem lastA_succ (L : List Int) (x : Int) (n : Nat) : lastA L x (n + 1) = if L.getD n 0 = x then (n : Int) else lastA L x n := by
  unfold lastA
  rw [List.range_succ, List.foldl_append]
  rfl
theorem lastA_spec (L : List Int) (x : Int) : ∀ n : Nat, (lastA L x n = -1 ∧ ∀ k, k < n → L.getD k 0 ≠ x) ∨ ∃ k : Nat, k < n ∧ L.getD k 0 = x ∧ lastA L x n = k
  | 0 => .inl ⟨rfl, fun k hk => by omega⟩
  | n + 1 => by
    rw [lastA_succ]
    by_cases h : L.getD n 0 = x
    · rw [if_pos h]; exact .inr ⟨n, by omega, h, rfl⟩
    · rw [if_neg h]
      rcases lastA_spec L x n with ⟨h1, h2⟩ | ⟨k, h1, h2, h3⟩
      · refine .inl ⟨h1, fun k hk => ?_⟩
        by_cases hkn : k = n
        · subst hkn; exact h
        · exact h2 k (by omega)
      · exact .inr ⟨k, by omega, h2, h3⟩
def rmL (L : List Int) (x : Int) : Option (List Int) := if lastA L x L.length < 0 then none else some (L.eraseIdx (lastA L x L.length).toNat)
theorem getD_at (L : List Int) {k : Nat} (h : k < L.length) : L.getD k 0 = L[k] := by simp [List.getD, h]
theorem rmL_none {L : List Int} {x : Int} (h : rmL L x = none) : x ∉ L := by
  unfold rmL at h
  split at h
  · rename_i hn
    rcases lastA_spec L x L.length with ⟨_, h2⟩ | ⟨k, _, _, h3⟩
    · intro hx
      obtain ⟨k, hk, rfl⟩ := List.getElem_of_mem hx
      exact h2 k hk (getD_at L hk)
    · omega
  · cases h
theorem erase_perm {L : List Int} {k : Nat} (h : k < L.length) : (L[k] :: L.eraseIdx k).Perm L := by
  have e : L = L.take k ++ L[k] :: L.drop (k + 1) := by rw [← List.drop_eq_getElem_cons h, List.take_append_drop]
  rw [List.eraseIdx_eq_take_drop_succ]
  refine List.Perm.trans List.perm_middle.symm ?_
  rw [← e]
theorem rmL_some {L L' : List Int} {x : Int} (h : rmL L x = some L') : (x :: L').Perm L := by
  unfold rmL at h
  split at h
  · cases h
  · rename_i hn
    injection h with h
    subst h
    rcases lastA_spec L x L.length with ⟨h1, _⟩ | ⟨k, h1, h2, h3⟩
    · omega
    · rw [h3]
      have e : ((k : Int)).toNat = k := by simp
      rw [e, ← h2, getD_at L h1]
      exact erase_perm h1
def minL : List Int → List Int → Option (List Int)
  | L, [] => some L
  | L, x :: a => match rmL L x with
    | some L' => minL L' a
    | none => none
theorem minL_some : ∀ {a L L' : List Int}, minL L a = some L' → (a ++ L').Perm L
  | [], L, L', h => by simp only [minL, Option.some.injEq] at h; subst h; exact List.Perm.refl _
  | x :: a, L, L', h => by
    simp only [minL] at h
    split at h
    · rename_i L1 h1
      exact ((minL_some h).cons x).trans (rmL_some h1)
    · cases h
theorem minL_none : ∀ {a L : List Int}, minL L a = none → ∃ x ∈ a, L.count x < a.count x
  | [], L, h => by cases h
  | x :: a, L, h => by
    simp only [minL] at h
    split at h
    · rename_i L1 h1
      obtain ⟨y, hy, hc⟩ := minL_none h
      refine ⟨y, List.mem_cons_of_mem _ hy, ?_⟩
      have := (rmL_some h1).count_eq y
      rw [List.count_cons] at this
      rw [List.count_cons]
      omega
    · rename_i h1
      refine ⟨x, List.mem_cons_self, ?_⟩
      have h0 : L.count x = 0 := List.count_eq_zero.2 (rmL_none h1)
      rw [h0, List.count_cons_self]
      omega
theorem minL_len {a L L' : List Int} (h : minL L a = some L') : a.length + L'.length = L.length := by
  have := (minL_some h).length_eq
  rw [List.length_append] at this
  exact this
theorem minus_find (a L : List Int) {i : Nat} (hi : i < a.length) (hL : L.length ≤ lim) : loopL (fBu_r2 (ints a) (ints L) (i : Int)) (-1, 0) = some (.one (lastA L (a.getD i 0) L.length)) := by
  have hl := lim_lt hL
  have key := loop_count (rd := fBu_r2 (ints a) (ints L) (i : Int)) (fun k => (lastA L (a.getD i 0) k, (k : Int))) L.length (a := lastA L (a.getD i 0) L.length) (fun k hk => by
    simp only [fBu_r2, fBu_k2, ints_length, lt_dec hk, br_true, ok_nat hk, ok_nat hi, at_nat, w64_nat (by omega : k < 9223372036854775807), lastA_succ]
    by_cases h : L.getD k 0 = a.getD i 0
    · rw [if_pos h, show (L.getD k 0 == a.getD i 0) = true from by simpa using h]; rfl
    · rw [if_neg h, show (L.getD k 0 == a.getD i 0) = false from by simpa using h]; rfl)
    (by simp only [fBu_r2, fBu_k2, ints_length, lt_dec_self, br_false]) 0 (Nat.zero_le _)
  exact key
theorem ints_app (A B : List Int) : ints (A ++ B) = ints A ++ ints B := by simp [ints]
theorem minus_cut {R : Type} (L : List Int) {k : Nat} (hk : k < L.length) (hL : L.length ≤ lim) (K : List Sc → Option R) :
    br (decide (0 ≤ (0 : Int)) && (decide ((0 : Int) ≤ (k : Int)) && decide ((k : Int) ≤ ((ints L).length : Int))))
        (br (decide (([] : List Sc).length + (sliceA (ints L) 0 (k : Int)).length ≤ lim))
          (br (decide (0 ≤ (w64 ((k : Int) + 1))) && (decide ((w64 ((k : Int) + 1)) ≤ ((ints L).length : Int)) && decide (((ints L).length : Int) ≤ ((ints L).length : Int))))
            (br (decide (([] ++ (sliceA (ints L) 0 (k : Int))).length + (sliceA (ints L) (w64 ((k : Int) + 1)) ((ints L).length : Int)).length ≤ lim))
              (K (([] ++ (sliceA (ints L) 0 (k : Int))) ++ (sliceA (ints L) (w64 ((k : Int) + 1)) ((ints L).length : Int))))
              none)
            none)
          none)
        none = K (ints (L.eraseIdx k)) := by
  have hl := lim_lt hL
  have e1 : sliceA (ints L) 0 (k : Int) = ints (L.take k) := by
    simp [sliceA, ints, List.map_take]
  have e2 : sliceA (ints L) ((k + 1 : Nat) : Int) (L.length : Int) = ints (L.drop (k + 1)) := by
    simp only [sliceA, Int.toNat_natCast]
    unfold ints
    rw [List.take_of_length_le (by simp), List.map_drop]
  have l1 : (ints (L.take k)).length = k := by rw [ints_length, List.length_take]; omega
  have l2 : (ints (L.drop (k + 1))).length = L.length - (k + 1) := by rw [ints_length, List.length_drop]
  simp only [ints_length, w64_nat (by omega : k < 9223372036854775807), e1, e2, List.nil_append, List.length_nil, l1, l2]
  rw [show (decide (0 ≤ (0 : Int)) && (decide ((0 : Int) ≤ (k : Int)) && decide ((k : Int) ≤ (L.length : Int)))) = true from by simp; omega]
  rw [show decide (0 + k ≤ lim) = true from by simp; omega]
  rw [show (decide (0 ≤ ((k + 1 : Nat) : Int)) && (decide (((k + 1 : Nat) : Int) ≤ (L.length : Int)) && decide ((L.length : Int) ≤ (L.length : Int)))) = true from by simp; omega]
  rw [show decide (k + (L.length - (k + 1)) ≤ lim) = true from by simp; omega]
  simp only [br_true]
  rw [← ints_app, List.eraseIdx_eq_take_drop_succ]
theorem minus_loop (a : List Int) (ha : a.length ≤ lim) : ∀ (d : Nat) (i : Nat) (L : List Int), i + d = a.length → L.length ≤ lim → loopL (fBu_r0 (ints a)) (ints L, (i : Int)) = match minL L (a.drop i) with
    | some L' => some (.one (ints L', (a.length : Int)))
    | none => some (.two [])
  | 0, i, L, hi, hL => by
    have hi : i = a.length := by omega
    subst hi
    rw [List.drop_length]
    exact loopL_one (by simp only [fBu_r0, fBu_k0, ints_length, lt_dec_self, br_false])
  | d + 1, i, L, hi, hL => by
    have hal := lim_lt ha
    have hlt : i < a.length := by omega
    have hdr : a.drop i = a.getD i 0 :: a.drop (i + 1) := by rw [List.drop_eq_getElem_cons hlt, getD_at a hlt]
    rw [hdr]
    simp only [minL]
    have step : fBu_r0 (ints a) (ints L, (i : Int)) = match rmL L (a.getD i 0) with
        | some L' => some (.again (ints L', ((i + 1 : Nat) : Int)))
        | none => some (.two []) := by
      unfold fBu_r0 fBu_k0
      rw [show decide ((i : Int) < ((ints a).length : Int)) = true from by rw [ints_length]; exact lt_dec hlt, br_true, minus_find a L hlt hL, bl1_one]
      unfold rmL
      rcases lastA_spec L (a.getD i 0) L.length with ⟨h1, _⟩ | ⟨k, h1, h2, h3⟩
      · rw [h1]; rfl
      · rw [h3]
        have hn : ¬ ((k : Int) < 0) := by omega
        rw [if_neg hn, show decide ((k : Int) < 0) = false from by simp, br_false]
        rw [minus_cut L h1 hL fun x => some (Ro.again (x, w64 ((i : Int) + 1)))]
        simp only [Int.toNat_natCast, w64_nat (by omega : i < 9223372036854775807)]
    cases hr : rmL L (a.getD i 0) with
    | none => rw [hr] at step; exact loopL_two step
    | some L' =>
      rw [hr] at step
      rw [loopL_again step]
      have := (rmL_some hr).length_eq
      simp only [List.length_cons] at this
      exact minus_loop a ha d (i + 1) L' (by omega) (by omega)
theorem Minus_eq (L a : List Int) (hL : L.length ≤ lim) (ha : a.length ≤ lim) : fBu (ints L) (ints a) = some (match minL L a with
    | some L' => (ints L', true)
    | none => ([], false)) := by
  have key := minus_loop a ha a.length 0 L (by omega) hL
  rw [List.drop_zero] at key
  have e0 : (((0 : Nat) : Int)) = 0 := rfl
  rw [e0] at key
  simp only [fBu, fBu_k, List.nil_append, List.length_nil, ints_length]
  rw [show decide (0 + L.length ≤ lim) = true from by simp; omega]
  simp only [br_true, key]
  cases minL L a with
  | some L' => rfl
  | none => rfl
def facS (A : List (List Int)) : Nat → List Int → Nat → List (List (List Int))
  | 0, _, _ => []
  | n + 1, L, i => if L.length = 0 then [[]] else (List.range' i (A.length - i)).flatMap fun j => match minL L (A.getD j []) with
    | some L' => (facS A n L' j).map fun f => A.getD j [] :: f
    | none => []
def wtA (a : List Int) : Nat := 7 ^ (7 - a.length)
structure AT (A : List (List Int)) : Prop where
  pos : ∀ a ∈ A, 1 ≤ a.length
  le : ∀ a ∈ A, a.length ≤ 7
  len : A.length ≤ 48
  kraft : (A.map wtA).sum ≤ 7 ^ 7
theorem getD_mem {α : Type} {A : List α} {d : α} {j : Nat} (h : j < A.length) : A.getD j d ∈ A := by simp [List.getD, h]
def facG (A : List (List Int)) (n : Nat) (L : List Int) (j : Nat) : List (List (List Int)) := match minL L (A.getD j []) with
  | some L' => (facS A n L' j).map fun f => A.getD j [] :: f
  | none => []
theorem facS_succ (A : List (List Int)) (n : Nat) (L : List Int) (i : Nat) : facS A (n + 1) L i = if L.length = 0 then [[]] else (List.range' i (A.length - i)).flatMap (facG A n L) := rfl
theorem facS_deep {A : List (List Int)} : ∀ {n : Nat} {L : List Int} {i : Nat} {f : List (List Int)}, f ∈ facS A n L i → f.length ≤ n
  | 0, _, _, _, h => by simp [facS] at h
  | n + 1, L, i, f, h => by
    rw [facS_succ] at h
    split at h
    · simp only [List.mem_singleton] at h; subst h; simp
    · obtain ⟨j, _, hf⟩ := List.mem_flatMap.1 h
      unfold facG at hf
      split at hf
      · obtain ⟨f', hf', rfl⟩ := List.mem_map.1 hf
        have := facS_deep hf'
        simp only [List.length_cons]; omega
      · cases hf
theorem sum_drop (A : List (List Int)) (i : Nat) : ((A.drop i).map wtA).sum ≤ (A.map wtA).sum := by
  have : A.map wtA = (A.take i).map wtA ++ (A.drop i).map wtA := by rw [← List.map_append, List.take_append_drop]
  rw [this, List.sum_append]
  omega
theorem kraft_step {A : List (List Int)} {F : Nat → List (List (List Int))} {c : Nat} (h : ∀ j, j < A.length → (F j).length * 7 ^ 7 ≤ wtA (A.getD j []) * c) : ∀ (m i : Nat), i + m = A.length → ((List.range' i m).flatMap F).length * 7 ^ 7 ≤ ((A.drop i).map wtA).sum * c
  | 0, i, hi => by simp
  | m + 1, i, hi => by
    have hlt : i < A.length := by omega
    rw [List.range'_succ, List.flatMap_cons, List.length_append, List.drop_eq_getElem_cons hlt, List.map_cons, List.sum_cons, Nat.add_mul, Nat.add_mul]
    have h1 := h i hlt
    rw [show A.getD i [] = A[i] by simp [List.getD, hlt]] at h1
    exact Nat.add_le_add h1 (kraft_step h m (i + 1) (by omega))
theorem facS_len {A : List (List Int)} (hA : AT A) : ∀ (n : Nat) (L : List Int) (i : Nat), (facS A n L i).length ≤ 7 ^ L.length
  | 0, L, i => by simp [facS]
  | n + 1, L, i => by
    rw [facS_succ]
    split
    · rename_i h0; rw [h0]; simp
    · by_cases hi : i ≤ A.length
      · have key := kraft_step (A := A) (F := facG A n L) (c := 7 ^ L.length) (fun j hj => by
          unfold facG
          split
          · rename_i L' hm
            rw [List.length_map]
            have h1 := facS_len hA n L' j
            have h2 := minL_len hm
            have h3 := hA.le _ (getD_mem (d := []) hj)
            have e : 7 ^ 7 * 7 ^ L'.length = wtA (A.getD j []) * 7 ^ L.length := by
              unfold wtA
              rw [← Nat.pow_add, ← Nat.pow_add]
              congr 1
              omega
            calc (facS A n L' j).length * 7 ^ 7 ≤ 7 ^ L'.length * 7 ^ 7 := Nat.mul_le_mul_right _ h1
              _ = wtA (A.getD j []) * 7 ^ L.length := by rw [Nat.mul_comm]; exact e
              _ ≤ _ := Nat.le_refl _
          · simp) (A.length - i) i (by omega)
        have h4 : ((A.drop i).map wtA).sum * 7 ^ L.length ≤ 7 ^ 7 * 7 ^ L.length := Nat.mul_le_mul_right _ (Nat.le_trans (sum_drop A i) hA.kraft)
        have h5 := Nat.le_trans key h4
        rw [Nat.mul_comm (7 ^ 7)] at h5
        exact Nat.le_of_mul_le_mul_right h5 (Nat.pow_pos (by decide))
      · rw [show A.length - i = 0 by omega]
        simp
def encF (fs : List (List (List Int))) : List Sc := fs.map fun f => .l (lz f)
theorem encF_len (fs : List (List (List Int))) : (encF fs).length = fs.length := by simp [encF]
theorem encF_append (A B : List (List (List Int))) : encF (A ++ B) = encF A ++ encF B := by simp [encF]
theorem lsN_encF (fs : List (List (List Int))) (k : Nat) : lsN (encF fs) k = lz (fs.getD k []) := by
  unfold lsN encF
  simp only [List.getD, List.getElem?_map]
  cases fs[k]? <;> rfl
theorem lsN_lz (A : List (List Int)) (k : Nat) : lsN (lz A) k = ints (A.getD k []) := by
  unfold lsN lz
  simp only [List.getD, List.getElem?_map]
  cases A[k]? <;> rfl
theorem lsI_lz (A : List (List Int)) (k : Nat) : lsI (lz A) (k : Int) = ints (A.getD k []) := by
  show lsN (lz A) ((k : Int)).toNat = _
  rw [Int.toNat_natCast, lsN_lz]
theorem factor_in {A : List (List Int)} (hA : AT A) (self : (List Sc × List Sc × Int) → Option (List Sc)) (t1 : List Sc) {j : Nat} (hj : j < A.length) (T fs : List (List (List Int))) (hT : T.length + fs.length ≤ lim) (hf : ∀ f ∈ fs, f.length ≤ 1000) :
    loopL (fBn_r2 self (lz A) t1 (j : Int)) (encF T, encF fs, 0) = some (.one (encF (T ++ fs.map fun f => A.getD j [] :: f))) := by
  have hl := lim_lt hT
  have ha := hA.le _ (getD_mem (d := []) hj)
  have key := loop_count (rd := fBn_r2 self (lz A) t1 (j : Int)) (fun k => (encF (T ++ (fs.take k).map fun f => A.getD j [] :: f), encF fs, (k : Int))) fs.length (a := encF (T ++ fs.map fun f => A.getD j [] :: f)) (fun k hk => by
    have hfk := hf _ (getD_mem (d := []) hk)
    have e1 : (lz (fs.getD k [])).length = (fs.getD k []).length := lz_len _
    have e2 : (encF (T ++ (fs.take k).map fun f => A.getD j [] :: f)).length = T.length + k := by
      rw [encF_len, List.length_append, List.length_map, List.length_take]; omega
    simp only [fBn_r2, fBn_k2, encF_len, lt_dec hk, br_true, inRange_nat, lz_len, decide_eq_true hk, decide_eq_true hj, lsI_lz, Int.toNat_natCast, lsN_encF, List.nil_append, List.length_nil, ints_length, List.length_cons, w64_nat (by omega : k < 9223372036854775807)]
    rw [show decide (0 + (A.getD j []).length ≤ lim) = true from decide_eq_true (by unfold lim; omega)]
    rw [show decide (0 + 1 + (fs.getD k []).length ≤ lim) = true from decide_eq_true (by unfold lim; omega)]
    simp only [br_true]
    rw [show decide ((T ++ (fs.take k).map fun f => A.getD j [] :: f).length + (0 + 1) ≤ lim) = true from decide_eq_true (by rw [← encF_len, e2]; omega)]
    simp only [br_true]
    congr 2
    have e3 : fs.take (k + 1) = fs.take k ++ [fs.getD k []] := by
      rw [List.take_succ_eq_append_getElem hk]
      simp [List.getD, hk]
    rw [e3, List.map_append, ← List.append_assoc, encF_append (T ++ (fs.take k).map fun f => A.getD j [] :: f)]
    rfl)
    (by simp only [fBn_r2, fBn_k2, encF_len, lt_dec_self, br_false, List.take_length]) 0 (Nat.zero_le _)
  simpa using key
theorem flat_le {F : Nat → List (List (List Int))} (i : Nat) : ∀ {t m : Nat}, t ≤ m → ((List.range' i t).flatMap F).length ≤ ((List.range' i m).flatMap F).length := by
  intro t m h
  obtain ⟨d, rfl⟩ : ∃ d, m = t + d := ⟨m - t, by omega⟩
  rw [← List.range'_append_1, List.flatMap_append, List.length_append]
  omega
theorem flat_succ {F : Nat → List (List (List Int))} (i t : Nat) : (List.range' i (t + 1)).flatMap F = (List.range' i t).flatMap F ++ F (i + t) := by
  rw [← List.range'_append_1, List.flatMap_append]
  simp
theorem factor_loop {A : List (List Int)} (hA : AT A) (self : (List Sc × List Sc × Int) → Option (List Sc)) (n : Nat) (hn : n ≤ 900) {L : List Int} (hL : L.length ≤ 12) (h0 : L.length ≠ 0) {i : Nat} (hi : i ≤ A.length)
    (hs : ∀ (L' : List Int) (j : Nat), L'.length < L.length → j < A.length → self (lz A, ints L', (j : Int)) = some (encF (facS A n L' j))) :
    loopL (fBn_r0 self (lz A) (ints L)) ([], (i : Int)) = some (.one (encF (facS A (n + 1) L i), (A.length : Int))) := by
  have hA48 := hA.len
  have hlen := facS_len hA (n + 1) L i
  have h12 : 7 ^ L.length ≤ 7 ^ 12 := Nat.pow_le_pow_right (by decide) hL
  have hlim : (7 : Nat) ^ 12 ≤ lim := by decide
  have hLl : L.length ≤ lim := by unfold lim; omega
  rw [facS_succ, if_neg h0] at hlen ⊢
  have key := loop_count (rd := fBn_r0 self (lz A) (ints L)) (fun t => (encF ((List.range' i t).flatMap (facG A n L)), ((i + t : Nat) : Int))) (A.length - i) (a := (encF ((List.range' i (A.length - i)).flatMap (facG A n L)), (A.length : Int))) (fun t ht => by
    have hj : i + t < A.length := by omega
    have ha := hA.le _ (getD_mem (d := []) hj)
    have hpos := hA.pos _ (getD_mem (d := []) hj)
    simp only [fBn_r0, fBn_k0, lz_len, lt_dec hj, br_true, inRange_nat, decide_eq_true hj, lsI_lz, Minus_eq L (A.getD (i + t) []) hLl (by unfold lim; omega), bo_some, w64_nat (by omega : i + t < 9223372036854775807)]
    rw [flat_succ]
    cases hm : minL L (A.getD (i + t) []) with
    | none =>
      have e : facG A n L (i + t) = [] := by unfold facG; rw [hm]
      rw [e, List.append_nil]
      rfl
    | some L' =>
      have e : facG A n L (i + t) = (facS A n L' (i + t)).map fun f => A.getD (i + t) [] :: f := by unfold facG; rw [hm]
      have hlt : L'.length < L.length := by have := minL_len hm; omega
      simp only [Bool.not_true, br_false, hs L' (i + t) hlt hj, bo_some]
      have hb : ((List.range' i t).flatMap (facG A n L)).length + (facS A n L' (i + t)).length ≤ lim := by
        have h1 := flat_le (F := facG A n L) i (t := t + 1) (m := A.length - i) (by omega)
        rw [flat_succ, List.length_append, e, List.length_map] at h1
        omega
      rw [factor_in hA self (ints L) hj _ _ hb (fun f hf => Nat.le_trans (facS_deep hf) (by omega))]
      simp only [bl1_one, e]
      rfl)
    (by
      have e : i + (A.length - i) = A.length := by omega
      simp only [e, fBn_r0, fBn_k0, lz_len, lt_dec_self, br_false]) 0 (Nat.zero_le _)
  have e0 : encF ([] : List (List (List Int))) = [] := rfl
  simp only [List.range'_zero, List.flatMap_nil, e0, Nat.add_zero] at key
  exact key
theorem factor_n {A : List (List Int)} (hA : AT A) : ∀ (n : Nat), n ≤ 900 → ∀ (L : List Int) (i : Nat), L.length < n → L.length ≤ 12 → i ≤ A.length → fBn_n n (lz A, ints L, (i : Int)) = some (encF (facS A n L i))
  | 0, _, L, i, h, _, _ => by omega
  | n + 1, hn, L, i, h, hL, hi => by
    show fBn_k (fBn_n n) (lz A) (ints L) (i : Int) some = _
    unfold fBn_k
    by_cases h0 : L.length = 0
    · have : L = [] := List.eq_nil_of_length_eq_zero h0
      subst this
      rfl
    · have e : (((ints L).length : Int) == 0) = false := by rw [ints_length]; simp; exact fun hh => h0 (by rw [hh]; rfl)
      rw [e, br_false, factor_loop hA (fBn_n n) n (by omega) hL h0 hi (fun L' j h1 h2 => factor_n hA n (by omega) L' j (by omega) (by omega) (by omega))]
      rfl
theorem Factor_eq {A : List (List Int)} (hA : AT A) {L : List Int} (hL : L.length ≤ 12) : fBn (lz A) (ints L) 0 = some (encF (facS A 13 L 0)) := by
  have := factor_n hA 13 (by decide) L 0 (by omega) hL (Nat.zero_le _)
  exact (Ev.Le.lim (q := 13) fBn_n_up (fun n a => Ev.Le.refl _)).of _ this
def arr (N : Nat) (F : Nat → Int) : List Int := (List.range N).map F
theorem arr_len (N : Nat) (F : Nat → Int) : (arr N F).length = N := by simp [arr]
theorem arr_get {N x : Nat} (F : Nat → Int) (h : x < N) : (arr N F).getD x 0 = F x := by simp [arr, List.getD, h]
theorem arr_set {N j : Nat} (F : Nat → Int) (h : j < N) (v : Int) : (ints (arr N F)).set j (Sc.n .i64 v) = ints (arr N fun y => if y = j then v else F y) := by
  apply List.ext_getElem?
  intro i
  unfold ints arr
  rw [List.getElem?_set]
  by_cases hi : j = i
  · subst hi
    simp [h]
  · rw [if_neg hi]
    simp only [List.getElem?_map]
    by_cases hN : i < N
    · rw [List.getElem?_range hN]
      simp [Ne.symm hi]
    · rw [List.getElem?_eq_none (by simp; omega)]
      rfl
def InR (N : Nat) (a : List Int) : Prop := ∀ x ∈ a, ∃ y : Nat, x = y ∧ y < N
theorem InR.tail {N : Nat} {x : Int} {a : List Int} (h : InR N (x :: a)) : InR N a := fun y hy => h y (List.mem_cons_of_mem _ hy)
def tkF (k : Int) (s : (Nat → Int) × Bool) (x : Int) : (Nat → Int) × Bool := (fun y => if y = x.toNat then s.1 x.toNat - k else s.1 y, s.2 && decide (s.1 x.toNat - k ≥ 0))
theorem tk_val {N : Nat} (k : Int) : ∀ (a : List Int) (s : (Nat → Int) × Bool) (y : Nat), InR N a → (a.foldl (tkF k) s).1 y = s.1 y - k * (a.count (y : Int) : Nat)
  | [], s, y, _ => by simp
  | x :: a, s, y, h => by
    obtain ⟨z, rfl, hz⟩ := h x List.mem_cons_self
    rw [List.foldl_cons, tk_val k a _ y h.tail, List.count_cons]
    simp only [tkF, Int.toNat_natCast]
    by_cases hy : y = z
    · subst hy
      rw [if_pos rfl, if_pos (by simp)]
      rw [Int.natCast_add, Int.mul_add]
      simp only [Int.natCast_one, Int.mul_one]
      omega
    · rw [if_neg hy, if_neg (by simp; omega)]
      simp
theorem tk_fl {N : Nat} : ∀ (a : List Int) (s : (Nat → Int) × Bool), InR N a → ((a.foldl (tkF 1) s).2 = true ↔ s.2 = true ∧ ∀ x ∈ a, s.1 x.toNat - (a.count x : Nat) ≥ 0)
  | [], s, _ => by simp
  | x :: a, s, h => by
    obtain ⟨z, rfl, hz⟩ := h x List.mem_cons_self
    rw [List.foldl_cons, tk_fl a _ h.tail]
    simp only [tkF, Int.toNat_natCast, Bool.and_eq_true, decide_eq_true_eq]
    constructor
    · rintro ⟨⟨h1, h2⟩, h3⟩
      refine ⟨h1, fun y hy => ?_⟩
      by_cases hya : y ∈ a
      · have := h3 y hya
        obtain ⟨y', rfl, _⟩ := h.tail y hya
        rw [List.count_cons]
        simp only [Int.toNat_natCast] at this ⊢
        by_cases he : y' = z
        · subst he
          rw [if_pos rfl] at this
          rw [if_pos (by simp)]
          omega
        · rw [if_neg he] at this
          rw [if_neg (by simp; omega)]
          omega
      · have hyz : y = (z : Int) := by
          rcases List.mem_cons.1 hy with hy | hy
          · exact hy
          · exact absurd hy hya
        subst hyz
        rw [List.count_cons_self, List.count_eq_zero.2 hya]
        simp only [Int.toNat_natCast]
        omega
    · rintro ⟨h1, h2⟩
      have hz0 := h2 (z : Int) List.mem_cons_self
      rw [List.count_cons_self] at hz0
      simp only [Int.toNat_natCast] at hz0
      refine ⟨⟨h1, by omega⟩, fun y hy => ?_⟩
      have := h2 y (List.mem_cons_of_mem _ hy)
      obtain ⟨y', rfl, _⟩ := h.tail y hy
      rw [List.count_cons] at this
      simp only [Int.toNat_natCast] at this ⊢
      by_cases he : y' = z
      · subst he
        rw [if_pos rfl]
        rw [if_pos (by simp)] at this
        omega
      · rw [if_neg he]
        rw [if_neg (by simp; omega)] at this
        omega
theorem take_eq {N : Nat} {a : List Int} {k : Int} {F : Nat → Int} (hk : k = 1 ∨ k = -1) (ha : InR N a) (hal : a.length ≤ 7) (hF : ∀ y, -100 ≤ F y ∧ F y ≤ 100) :
    fAb (ints a) k (ints (arr N F)) = some ((a.foldl (tkF k) (F, true)).2, ints (arr N (a.foldl (tkF k) (F, true)).1)) := by
  have key := loop_count (rd := fAb_r0 k (ints a) (a.length : Int)) (fun t => (ints (arr N ((a.take t).foldl (tkF k) (F, true)).1), ((a.take t).foldl (tkF k) (F, true)).2, (t : Int))) a.length (a := (ints (arr N (a.foldl (tkF k) (F, true)).1), (a.foldl (tkF k) (F, true)).2)) (fun t ht => by
    have hx : a.getD t 0 ∈ a := getD_mem ht
    obtain ⟨z, hz, hzN⟩ := ha _ hx
    have hb : -107 ≤ ((a.take t).foldl (tkF k) (F, true)).1 z ∧ ((a.take t).foldl (tkF k) (F, true)).1 z ≤ 107 := by
      rw [tk_val k (a.take t) (F, true) z (fun y hy => ha y (List.mem_of_mem_take hy))]
      show -107 ≤ F z - k * _ ∧ F z - k * _ ≤ 107
      have h1 := hF z
      have h2 : (a.take t).count (z : Int) ≤ 7 := Nat.le_trans List.count_le_length (by rw [List.length_take]; omega)
      generalize (a.take t).count (z : Int) = c at h2 ⊢
      rcases hk with rfl | rfl
      · constructor <;> omega
      · constructor <;> omega
    have e3 : a.take (t + 1) = a.take t ++ [a.getD t 0] := by
      rw [List.take_succ_eq_append_getElem ht]
      simp [List.getD, ht]
    rw [e3, List.foldl_append]
    generalize (a.take t).foldl (tkF k) (F, true) = s at hb ⊢
    obtain ⟨F', fl⟩ := s
    simp only at hb
    have hw : w64 (F' z - k) = F' z - k := by rcases hk with rfl | rfl <;> exact w64_in (by omega) (by omega)
    simp only [fAb_r0, fAb_k0, lt_dec ht, br_true, ok_nat ht, at_nat, hz, inRange_nat, ints_length, arr_len, decide_eq_true hzN, kAt_ints, atN_ints, Int.toNat_natCast, arr_get F' hzN, hw, arr_set F' hzN, w64_nat (by omega : t < 9223372036854775807), List.foldl_cons, List.foldl_nil, tkF, arr_get (fun y => if y = z then F' z - k else F' y) hzN, if_pos]
    cases fl with
    | true => simp [br_true]
    | false => simp [br_false])
    (by simp only [fAb_r0, fAb_k0, lt_dec_self, br_false, List.take_length]) 0 (Nat.zero_le _)
  simp only [List.take_zero, List.foldl_nil] at key
  have e0 : (((0 : Nat) : Int)) = 0 := rfl
  rw [e0] at key
  simp only [fAb, fAb_k, ints_length, key, bl1_one]
def cntZ (L : List Int) (y : Nat) : Int := (L.count (y : Int) : Nat)
theorem arr_congr {N : Nat} {F G : Nat → Int} (h : ∀ y, y < N → F y = G y) : arr N F = arr N G := by
  unfold arr
  exact List.map_congr_left fun y hy => h y (List.mem_range.1 hy)
theorem take_fits {N : Nat} {a L L' : List Int} (ha : InR N a) (hal : a.length ≤ 7) (hL : L.length ≤ 12) (hm : minL L a = some L') : fAb (ints a) 1 (ints (arr N (cntZ L))) = some (true, ints (arr N (cntZ L'))) := by
  have hp := minL_some hm
  have hc : ∀ x : Int, L.count x = a.count x + L'.count x := fun x => by rw [← hp.count_eq x, List.count_append]
  rw [take_eq (.inl rfl) ha hal (fun y => by
    have : L.count (y : Int) ≤ 12 := Nat.le_trans List.count_le_length hL
    unfold cntZ; omega)]
  have h1 : (a.foldl (tkF 1) (cntZ L, true)).2 = true := (tk_fl a _ ha).2 ⟨rfl, fun x hx => by
    obtain ⟨y, rfl, _⟩ := ha x hx
    have := hc (y : Int)
    unfold cntZ
    simp only [Int.toNat_natCast]
    omega⟩
  rw [h1, arr_congr (G := cntZ L') fun y hy => by
    rw [tk_val 1 a _ y ha]
    have := hc (y : Int)
    unfold cntZ
    simp only
    omega]
theorem take_not {N : Nat} {a L : List Int} (ha : InR N a) (hal : a.length ≤ 7) (hL : L.length ≤ 12) (hm : minL L a = none) : fAb (ints a) 1 (ints (arr N (cntZ L))) = some (false, ints (arr N fun y => cntZ L y - (a.count (y : Int) : Nat))) := by
  obtain ⟨x, hx, hlt⟩ := minL_none hm
  rw [take_eq (.inl rfl) ha hal (fun y => by
    have : L.count (y : Int) ≤ 12 := Nat.le_trans List.count_le_length hL
    unfold cntZ; omega)]
  have h1 : (a.foldl (tkF 1) (cntZ L, true)).2 = false := by
    cases hq : (a.foldl (tkF 1) (cntZ L, true)).2 with
    | false => rfl
    | true =>
      have := ((tk_fl a _ ha).1 hq).2 x hx
      obtain ⟨y, rfl, _⟩ := ha x hx
      unfold cntZ at this
      simp only [Int.toNat_natCast] at this
      omega
  rw [h1, arr_congr (G := fun y => cntZ L y - (a.count (y : Int) : Nat)) fun y hy => by
    rw [tk_val 1 a _ y ha]
    simp]
theorem take_back {N : Nat} {a : List Int} {F G : Nat → Int} (ha : InR N a) (hal : a.length ≤ 7) (hF : ∀ y, -100 ≤ F y ∧ F y ≤ 100) (hG : ∀ y, y < N → G y = F y + (a.count (y : Int) : Nat)) : ∃ fl, fAb (ints a) (-1) (ints (arr N F)) = some (fl, ints (arr N G)) := by
  have := take_eq (.inr rfl) ha hal hF
  rw [arr_congr (F := (a.foldl (tkF (-1)) (F, true)).1) (G := G) fun y hy => by
    rw [tk_val (-1) a _ y ha, hG y hy]
    simp only
    omega] at this
  exact ⟨_, this⟩
theorem copy_eq {L : List Sc} (h : L.length ≤ lim) : fBs L = some L := by
  simp only [fBs, fBs_k, List.nil_append, List.length_nil, Nat.zero_add, decide_eq_true h, br_true]
def pickA (A : List (List Int)) (ix : List Nat) : List (List Int) := ix.map fun j => A.getD j []
theorem lz_append (X Y : List (List Int)) : lz (X ++ Y) = lz X ++ lz Y := by simp [lz]
theorem pick_loop {A : List (List Int)} (hA : AT A) (self : (Int × Int × List Sc × List Sc × List Sc × List Sc) → Option (List Sc × List Sc × List Sc)) {ix : List Nat} (hx : ∀ j ∈ ix, j < A.length) (hl : ix.length ≤ 1000) (v1 v4 : List Sc) :
    loopL (fAc_r0 self (ints (natsI ix)) (ix.length : Int)) (lz A, v1, v4, [], 0) = some (.one (lz A, v1, v4, lz (pickA A ix))) := by
  have key := loop_count (rd := fAc_r0 self (ints (natsI ix)) (ix.length : Int)) (fun k => (lz A, v1, v4, lz (pickA A (ix.take k)), (k : Int))) ix.length (a := (lz A, v1, v4, lz (pickA A ix))) (fun k hk => by
    have hj : ix.getD k 0 < A.length := hx _ (getD_mem hk)
    have ha := hA.le _ (getD_mem (d := []) hj)
    have e3 : ix.take (k + 1) = ix.take k ++ [ix.getD k 0] := by
      rw [List.take_succ_eq_append_getElem hk]
      simp [List.getD, hk]
    have e4 : (lz (pickA A (ix.take k))).length = k := by rw [lz_len, pickA, List.length_map, List.length_take]; omega
    simp only [fAc_r0, fAc_k0, lt_dec hk, br_true, ok_natsI hk, at_natsI, inRange_nat, lz_len, decide_eq_true hj, Int.toNat_natCast, lsN_lz, w64_nat (by omega : k < 9223372036854775807)]
    rw [copy_eq (by rw [ints_length]; unfold lim; omega), bo_some]
    rw [show decide ((pickA A (ix.take k)).length + [Sc.l (ints (A.getD (ix.getD k 0) []))].length ≤ lim) = true from decide_eq_true (by rw [← lz_len, e4]; simp only [List.length_cons, List.length_nil]; unfold lim; omega)]
    rw [br_true, e3]
    unfold pickA
    rw [List.map_append, lz_append]
    rfl)
    (by simp only [fAc_r0, fAc_k0, lt_dec_self, br_false, List.take_length]) 0 (Nat.zero_le _)
  have e0 : lz (pickA A []) = [] := rfl
  simp only [List.take_zero, e0] at key
  exact key
def AtIn (N : Nat) (A : List (List Int)) : Prop := ∀ a ∈ A, InR N a
theorem try_loop {A : List (List Int)} (hA : AT A) {N : Nat} (hN : AtIn N A) (self : (Int × Int × List Sc × List Sc × List Sc × List Sc) → Option (List Sc × List Sc × List Sc)) (n : Nat) {L : List Int} (hL : L.length ≤ 12) (h0 : L.length ≠ 0) {i : Nat} (hi : i ≤ A.length) {ix : List Nat} (hxl : ix.length ≤ 900) (T : List (List (List Int)))
    (hT : T.length + (facS A (n + 1) L i).length ≤ lim)
    (hs : ∀ (L' : List Int) (j : Nat) (T' : List (List (List Int))), L'.length < L.length → j < A.length → T'.length + (facS A n L' j).length ≤ lim →
      self ((j : Int), (L'.length : Int), ints (natsI (ix ++ [j])), lz A, encF T', ints (arr N (cntZ L'))) = some (lz A, encF (T' ++ (facS A n L' j).map fun f => pickA A (ix ++ [j]) ++ f), ints (arr N (cntZ L')))) :
    loopL (fAc_r2 self (L.length : Int) (ints (natsI ix))) (lz A, encF T, ints (arr N (cntZ L)), (i : Int)) = some (.one (lz A, encF (T ++ (facS A (n + 1) L i).map fun f => pickA A ix ++ f), ints (arr N (cntZ L)))) := by
  have hA48 := hA.len
  rw [facS_succ, if_neg h0] at hT ⊢
  have key := loop_count (rd := fAc_r2 self (L.length : Int) (ints (natsI ix))) (fun t => (lz A, encF (T ++ ((List.range' i t).flatMap (facG A n L)).map fun f => pickA A ix ++ f), ints (arr N (cntZ L)), ((i + t : Nat) : Int))) (A.length - i)
    (a := (lz A, encF (T ++ ((List.range' i (A.length - i)).flatMap (facG A n L)).map fun f => pickA A ix ++ f), ints (arr N (cntZ L)))) (fun t ht => by
    have hj : i + t < A.length := by omega
    have hmem := getD_mem (d := []) hj
    have ha := hA.le _ hmem
    have hpos := hA.pos _ hmem
    have hin := hN _ hmem
    simp only [fAc_r2, fAc_k2, lz_len, lt_dec hj, br_true, inRange_nat, decide_eq_true hj, Int.toNat_natCast, lsN_lz, w64_nat (by omega : i + t < 9223372036854775807)]
    rw [flat_succ]
    cases hm : minL L (A.getD (i + t) []) with
    | none =>
      have e : facG A n L (i + t) = [] := by unfold facG; rw [hm]
      obtain ⟨fl, hb⟩ := take_back (F := fun y => cntZ L y - ((A.getD (i + t) []).count (y : Int) : Nat)) (G := cntZ L) hin ha (fun y => by
        have h1 : L.count (y : Int) ≤ 12 := Nat.le_trans List.count_le_length hL
        have h2 : (A.getD (i + t) []).count (y : Int) ≤ 7 := Nat.le_trans List.count_le_length ha
        unfold cntZ
        omega) (fun y _ => by omega)
      rw [e, List.append_nil, take_not hin ha hL hm, bo_some]
      simp only [br_false]
      rw [hb, bo_some]
      rfl
    | some L' =>
      have e : facG A n L (i + t) = (facS A n L' (i + t)).map fun f => A.getD (i + t) [] :: f := by unfold facG; rw [hm]
      have hlen := minL_len hm
      have hc : ∀ x : Int, L.count x = (A.getD (i + t) []).count x + L'.count x := fun x => by rw [← (minL_some hm).count_eq x, List.count_append]
      have hb2 : (T ++ ((List.range' i t).flatMap (facG A n L)).map fun f => pickA A ix ++ f).length + (facS A n L' (i + t)).length ≤ lim := by
        have h1 := flat_le (F := facG A n L) i (t := t + 1) (m := A.length - i) (by omega)
        rw [flat_succ, List.length_append, e, List.length_map] at h1
        rw [List.length_append, List.length_map]
        omega
      obtain ⟨fl, hb⟩ := take_back (F := cntZ L') (G := cntZ L) hin ha (fun y => by
        have h1 : L'.count (y : Int) ≤ 12 := Nat.le_trans List.count_le_length (by omega)
        unfold cntZ
        omega) (fun y _ => by have := hc (y : Int); unfold cntZ; omega)
      rw [take_fits hin ha hL hm, bo_some]
      simp only [br_true]
      rw [copy_eq (by rw [ints_length, natsI_length]; unfold lim; omega), bo_some]
      rw [show decide ((ints (natsI ix)).length + [(Sc.n .i64 ((i + t : Nat) : Int))].length ≤ lim) = true from decide_eq_true (by rw [ints_length, natsI_length]; simp only [List.length_cons, List.length_nil]; unfold lim; omega), br_true]
      have e5 : w64 ((L.length : Int) - ((ints (A.getD (i + t) [])).length : Int)) = (L'.length : Int) := by
        rw [ints_length, w64_in (by omega) (by omega)]; omega
      have e6 : ints (natsI ix) ++ [(Sc.n .i64 ((i + t : Nat) : Int))] = ints (natsI (ix ++ [i + t])) := by simp [ints, natsI]
      rw [e5, e6, hs L' (i + t) _ (by omega) hj hb2, bo_some]
      simp only [lz_len, inRange_nat, decide_eq_true hj, br_true, lsN_lz, Int.toNat_natCast]
      rw [hb, bo_some, e]
      congr 4
      rw [List.map_append, List.map_map, ← List.append_assoc]
      congr 2
      unfold pickA
      apply List.map_congr_left
      intro f _
      simp)
    (by
      have e : i + (A.length - i) = A.length := by omega
      simp only [e, fAc_r2, fAc_k2, lz_len, lt_dec_self, br_false]) 0 (Nat.zero_le _)
  simp only [List.range'_zero, List.flatMap_nil, List.map_nil, List.append_nil, Nat.add_zero] at key
  exact key
theorem try_n {A : List (List Int)} (hA : AT A) {N : Nat} (hN : AtIn N A) : ∀ (n : Nat) (L : List Int) (i : Nat) (ix : List Nat) (T : List (List (List Int))), L.length < n → L.length ≤ 12 → i ≤ A.length → ix.length + n ≤ 900 → (∀ j ∈ ix, j < A.length) → T.length + (facS A n L i).length ≤ lim →
    fAc_n n ((i : Int), (L.length : Int), ints (natsI ix), lz A, encF T, ints (arr N (cntZ L))) = some (lz A, encF (T ++ (facS A n L i).map fun f => pickA A ix ++ f), ints (arr N (cntZ L)))
  | 0, L, i, ix, T, h, _, _, _, _, _ => by omega
  | n + 1, L, i, ix, T, h, hL, hi, hn, hx, hT => by
    show fAc_k (fAc_n n) (i : Int) (L.length : Int) (ints (natsI ix)) (lz A) (encF T) (ints (arr N (cntZ L))) some = _
    unfold fAc_k
    by_cases h0 : L.length = 0
    · have e0 : ((L.length : Int) == 0) = true := by rw [h0]; rfl
      have e1 : facS A (n + 1) L i = [[]] := by rw [facS_succ, if_pos h0]
      rw [e1] at hT ⊢
      have hl : (ints (natsI ix)).length = ix.length := by rw [ints_length, natsI_length]
      rw [e0, br_true, hl, pick_loop hA (fAc_n n) hx (by omega) (encF T) _, bl1_one]
      simp only [List.map_cons, List.map_nil, List.append_nil]
      rw [show decide ((encF T).length + [Sc.l (lz (pickA A ix))].length ≤ lim) = true from decide_eq_true (by rw [encF_len]; simpa using hT), br_true, encF_append]
      rfl
    · have e0 : ((L.length : Int) == 0) = false := by simp; exact fun hh => h0 (by rw [hh]; rfl)
      rw [e0, br_false, try_loop hA hN (fAc_n n) n hL h0 hi (by omega) T hT (fun L' j T' h1 h2 h3 => try_n hA hN n L' j (ix ++ [j]) T' (by omega) (by omega) (by omega) (by simp; omega) (fun j' hj' => by
        rcases List.mem_append.1 hj' with hj' | hj'
        · exact hx j' hj'
        · simp only [List.mem_singleton] at hj'; omega) h3), bl1_one]
theorem Try_eq {A : List (List Int)} (hA : AT A) {N : Nat} (hN : AtIn N A) {L : List Int} (hL : L.length ≤ 12) : fAc 0 (L.length : Int) [] (lz A) [] (ints (arr N (cntZ L))) = some (lz A, encF (facS A 13 L 0), ints (arr N (cntZ L))) := by
  have h1 := facS_len hA 13 L 0
  have h2 : 7 ^ L.length ≤ 7 ^ 12 := Nat.pow_le_pow_right (by decide) hL
  have h3 : (7 : Nat) ^ 12 ≤ lim := by decide
  have := try_n hA hN 13 L 0 [] [] (by omega) hL (Nat.zero_le _) (by simp) (by simp) (by simp only [List.length_nil]; omega)
  have := (Ev.Le.lim (q := 13) fAc_n_up (fun n a => Ev.Le.refl _)).of _ this
  have e1 : ([] ++ (facS A 13 L 0).map fun f => pickA A [] ++ f) = facS A 13 L 0 := by simp [pickA]
  rw [e1] at this
  exact this
def okRow (x : List Int × List (List Int)) : Bool := x.2.all (fun a => decide (1 ≤ a.length) && (decide (a.length ≤ 7) && a.all fun y => decide (0 ≤ y) && decide (y < prodW x.1))) && (decide (x.2.length ≤ 48) && decide ((x.2.map wtA).sum ≤ 7 ^ 7))
theorem okRows : atomsT.all okRow = true := by kernel_rfl
theorem atomsG_row {G : List Int} (h : smallG G = true) : (G, atomsG G) ∈ atomsT := by
  have hin := small_in h
  unfold atomsG
  cases hf : atomsT.find? (fun x => decide (x.1 = G)) with
  | some x =>
    have h1 := List.find?_some hf
    have h2 : x.1 = G := by simpa using h1
    have h3 := List.mem_of_find?_eq_some hf
    subst h2
    exact h3
  | none =>
    rw [List.find?_eq_none] at hf
    obtain ⟨x, hx, rfl⟩ := List.mem_map.1 hin
    exact absurd (hf x hx) (by simp)
theorem atoms_AT {G : List Int} (h : smallG G = true) : AT (atomsG G) ∧ AtIn (prodW G).toNat (atomsG G) := by
  have := List.all_eq_true.1 okRows _ (atomsG_row h)
  simp only [okRow, Bool.and_eq_true, decide_eq_true_eq, List.all_eq_true] at this
  obtain ⟨h1, h2, h3⟩ := this
  refine ⟨⟨fun a ha => (h1 a ha).1, fun a ha => (h1 a ha).2.1, h2, h3⟩, fun a ha x hx => ?_⟩
  obtain ⟨h4, h5⟩ := (h1 a ha).2.2 x hx
  exact ⟨x.toNat, by omega, by omega⟩
theorem zs_seq {G L : List Int} (h : G.length ≤ lim) (hL : L.length ≤ lim) (hz : fBk (ints G) (ints L) = some true) : isSeq G L = true := by
  simp only [fBk, fBk_k, s_IsSequence_eq G L h hL, bo_some] at hz
  cases hs : isSeq G L with
  | true => rfl
  | false => rw [hs] at hz; cases hz
theorem cnt_loop {N : Nat} {L : List Int} (hin : InR N L) (hL : L.length ≤ 12) (v0 v1 : List Sc) : loopL (fAe_r0 (ints L) (ints L) (L.length : Int)) (v0, v1, ints (arr N fun _ => 0), 0) = some (.one (v0, v1, ints (arr N (cntZ L)))) := by
  have key := loop_count (rd := fAe_r0 (ints L) (ints L) (L.length : Int)) (fun k => (v0, v1, ints (arr N (cntZ (L.take k))), (k : Int))) L.length (a := (v0, v1, ints (arr N (cntZ L)))) (fun k hk => by
    obtain ⟨z, hz, hzN⟩ := hin _ (getD_mem (d := 0) hk)
    have e3 : L.take (k + 1) = L.take k ++ [L.getD k 0] := by
      rw [List.take_succ_eq_append_getElem hk]
      simp [List.getD, hk]
    have hb : (L.take k).count (z : Int) ≤ 12 := Nat.le_trans List.count_le_length (by rw [List.length_take]; omega)
    have hw : w64 (cntZ (L.take k) z + 1) = cntZ (L.take k) z + 1 := by unfold cntZ; exact w64_in (by omega) (by omega)
    simp only [fAe_r0, fAe_k0, lt_dec hk, br_true, ok_nat hk, at_nat, hz, inRange_nat, ints_length, arr_len, decide_eq_true hzN, kAt_ints, atN_ints, Int.toNat_natCast, arr_get _ hzN, hw, arr_set _ hzN, w64_nat (by omega : k < 9223372036854775807)]
    rw [e3, hz]
    rw [arr_congr (F := fun y => if y = z then cntZ (L.take k) z + 1 else cntZ (L.take k) y) (G := cntZ (L.take k ++ [(z : Int)])) fun y hy => by
      unfold cntZ
      rw [List.count_append, List.count_singleton]
      by_cases hyz : y = z
      · subst hyz; rw [if_pos rfl, if_pos (by simp)]; omega
      · rw [if_neg hyz, if_neg (by simp; omega)]; omega])
    (by simp only [fAe_r0, fAe_k0, lt_dec_self, br_false, List.take_length]) 0 (Nat.zero_le _)
  have e0 : arr N (cntZ (L.take 0)) = arr N fun _ => 0 := arr_congr fun y _ => by simp [cntZ]
  rw [e0] at key
  exact key
theorem rep_arr (N : Nat) : List.replicate N (Sc.n .i64 0) = ints (arr N fun _ => 0) := by
  unfold ints arr
  rw [List.map_map]
  apply List.ext_getElem?
  intro j
  by_cases hj : j < N
  · rw [List.getElem?_replicate, if_pos hj, List.getElem?_map, List.getElem?_range hj]; rfl
  · rw [List.getElem?_replicate, if_neg hj, List.getElem?_eq_none (by simp; omega)]
theorem facS_le {A : List (List Int)} (hA : AT A) : ∀ {n : Nat} {L : List Int} {i : Nat} {f : List (List Int)}, f ∈ facS A n L i → ∀ a ∈ f, a.length ≤ 7
  | 0, _, _, _, h => by simp [facS] at h
  | n + 1, L, i, f, h => by
    rw [facS_succ] at h
    split at h
    · simp only [List.mem_singleton] at h; subst h; intro a ha; cases ha
    · obtain ⟨j, hj, hf⟩ := List.mem_flatMap.1 h
      unfold facG at hf
      split at hf
      · obtain ⟨f', hf', rfl⟩ := List.mem_map.1 hf
        intro a ha
        rcases List.mem_cons.1 ha with rfl | ha
        · by_cases hjl : j < A.length
          · exact hA.le _ (getD_mem hjl)
          · have : A.getD j [] = [] := by simp [List.getD, hjl]
            rw [this]; exact Nat.zero_le _
        · exact facS_le hA hf' a ha
      · cases hf
theorem Factorizations_both3 (G L : List Int) (h : G.length ≤ lim) (hL : L.length ≤ lim) : ∃ (fs : List (List (List Int))) (ok : Bool), fAf (ints G) (ints L) = some (encF fs, ok) ∧ fAe (ints G) (ints L) = some (encF fs, ok) ∧ (ok = false → fs = []) ∧ fs.length ≤ 7 ^ 12 ∧ (∀ f ∈ fs, f.length ≤ 13) ∧ (∀ f ∈ fs, ∀ a ∈ f, a.length ≤ 7) ∧ (ok = true → fs = facS (atomsG G) 13 L 0 ∧ smallG G = true ∧ L.length ≤ 10 ∧ fBk (ints G) (ints L) = some true) := by
  have no : ∀ P Q : Prop, ∃ (fs : List (List (List Int))) (ok : Bool), some (([] : List Sc), false) = some (encF fs, ok) ∧ some (([] : List Sc), false) = some (encF fs, ok) ∧ (ok = false → fs = []) ∧ fs.length ≤ 7 ^ 12 ∧ (∀ f ∈ fs, f.length ≤ 13) ∧ (∀ f ∈ fs, ∀ a ∈ f, a.length ≤ 7) ∧ (ok = true → fs = facS (atomsG G) 13 L 0 ∧ P ∧ L.length ≤ 10 ∧ Q) := fun P Q => ⟨[], false, rfl, rfl, fun _ => rfl, by simp, by simp, by simp, fun hh => (by cases hh)⟩
  obtain ⟨z, z1, z2⟩ := IsZeroSum_both G L h hL
  unfold fAf fAf_k fAe fAe_k
  rw [s_AtomsOf_eq G h, i_AtomsOf_eq G h, bo_some, bo_some]
  cases hs : smallG G with
  | false => exact no _ _
  | true =>
    rw [z1, z2, bo_some, bo_some]
    cases z with
    | false => exact no _ _
    | true =>
      simp only [Bool.not_true, br_true, BEq.rfl, ints_length]
      by_cases h10 : L.length > 10
      · rw [show decide ((L.length : Int) > 10) = true from by simp; omega]
        exact no _ _
      · rw [show decide ((L.length : Int) > 10) = false from by simp; omega]
        obtain ⟨hA, hN⟩ := atoms_AT hs
        have hAe : atomsA G = atomsG G := by unfold atomsA; rw [if_pos hs]
        have hg : isG G = true := by unfold smallG at hs; exact (Bool.and_eq_true _ _ ▸ hs).1
        have ho : ordG G = prodW G := by unfold ordG; rw [if_pos hg]
        have hr := ordG_range G
        rw [ho] at hr
        have hin : InR (prodW G).toNat L := by
          obtain ⟨g, l, rfl, rfl, v⟩ := nat_of_isSeq (zs_seq h hL z1)
          intro x hx
          unfold natsI at hx
          obtain ⟨y, hy, rfl⟩ := List.mem_map.1 hx
          refine ⟨y, rfl, ?_⟩
          have h1 := v.each y hy
          have h2 := v.grp.ordG
          rw [ho] at h2
          rw [h2]
          simpa using h1
        simp only [br_false, i_OrderOf_eq G h, bo_some, ho, hAe, Factor_eq hA (show L.length ≤ 12 by omega)]
        rw [show (decide (0 ≤ prodW G) && (decide (prodW G ≤ prodW G) && decide (prodW G ≤ (lim : Int)))) = true from by simp only [Bool.and_eq_true, decide_eq_true_eq]; unfold lim; omega, br_true, rep_arr, cnt_loop hin (by omega), bl1_one]
        simp only [Try_eq hA hN (show L.length ≤ 12 by omega), bo_some]
        refine ⟨facS (atomsG G) 13 L 0, true, rfl, rfl, fun hh => (by cases hh), ?_, fun f hf => facS_deep hf, fun f hf => facS_le hA hf, fun _ => ⟨rfl, trivial, by omega, trivial⟩⟩
        exact Nat.le_trans (facS_len hA 13 L 0) (Nat.pow_le_pow_right (by decide) (by omega))
def elemsFrom (a k : Nat) : List Nat := (List.range' k (63 - k)).filter fun x => a.testBit x
theorem elemsFrom_zero (a : Nat) : elemsFrom a 0 = elems a := by
  unfold elemsFrom elems
  rw [List.range_eq_range']
theorem elemsFrom_step (a k : Nat) (hk : k < 63) : elemsFrom a k = if a.testBit k then k :: elemsFrom a (k + 1) else elemsFrom a (k + 1) := by
  unfold elemsFrom
  rw [show 63 - k = (63 - (k + 1)) + 1 by omega, List.range'_succ, List.filter_cons]
theorem shr_zero_bits {a k x : Nat} (h : a >>> k = 0) (hx : k ≤ x) : a.testBit x = false := by
  have : a.testBit x = (a >>> k).testBit (x - k) := by
    rw [Nat.testBit_shiftRight]
    congr 1
    omega
  rw [this, h]
  simp
theorem elemsFrom_nil {a k : Nat} (h : a >>> k = 0) : elemsFrom a k = [] := by
  unfold elemsFrom
  rw [List.filter_eq_nil_iff]
  intro x hx
  have := List.mem_range'_1.1 hx
  rw [shr_zero_bits h this.1]
  decide
theorem shr_pos_lt {a k : Nat} (ha : a < 9223372036854775808) (h : a >>> k ≠ 0) : k < 63 := by
  rcases Nat.lt_or_ge k 63 with hk | hk
  · exact hk
  · exfalso
    apply h
    rw [Nat.shiftRight_eq_div_pow]
    apply Nat.div_eq_of_lt
    have : (2 : Nat) ^ 63 ≤ 2 ^ k := Nat.pow_le_pow_right (by decide) hk
    have h2 : (2 : Nat) ^ 63 = 9223372036854775808 := by decide
    omega
theorem elems_len (a : Nat) : (elems a).length ≤ 63 := by
  unfold elems
  exact Nat.le_trans (List.length_filter_le _ _) (by simp)
theorem ints_cast_snoc (l : List Nat) (k : Nat) : ints (natsI l) ++ [Sc.n .i64 (k : Int)] = ints (natsI (l ++ [k])) := by
  simp [ints, natsI]
theorem ne_zero_dec {n : Nat} : ((n : Int) != 0) = decide (n ≠ 0) := by
  by_cases h : n = 0
  · subst h; rfl
  · have : ¬ ((n : Int) = 0) := by omega
    simp [h, this]
theorem neg_dec (n : Nat) : decide ((n : Int) < 0) = false := by simp
theorem s_l3List_eq {a : Nat} (ha : a < 9223372036854775808) : fCp (a : Int) = some (ints (natsI (elems a))) := by
  have key : ∀ d k (out : List Nat), d + k = 63 → out.length ≤ k → loopL fCp_r0 (ints (natsI out), (k : Int), ((a >>> k : Nat) : Int)) = some (.one (ints (natsI (out ++ elemsFrom a k)))) := by
    intro d
    induction d with
    | zero =>
      intro k out hk hlen
      have h0 : a >>> k = 0 := by
        by_cases h : a >>> k = 0
        · exact h
        · have := shr_pos_lt ha h; omega
      refine loopL_one ?_
      simp only [fCp_r0, fCp_k0, h0, elemsFrom_nil h0, List.append_nil]
      rfl
    | succ d ih =>
      intro k out hk hlen
      by_cases h0 : a >>> k = 0
      · refine loopL_one ?_
        simp only [fCp_r0, fCp_k0, h0, elemsFrom_nil h0, List.append_nil]
        rfl
      · have e1 : decide (((a >>> k : Nat) : Int) > 0) = true := by
          rw [decide_eq_true_eq]
          have : 0 < a >>> k := Nat.pos_of_ne_zero h0
          omega
        have hs : a >>> k < 9223372036854775808 := Nat.lt_of_le_of_lt (Nat.shiftRight_le a k) ha
        have e2 : shr64 ((a >>> k : Nat) : Int) 1 = ((a >>> (k + 1) : Nat) : Int) := by
          have := shr64_nat (a := a >>> k) (k := 1) hs
          rw [show ((1 : Nat) : Int) = 1 from rfl] at this
          rw [this, ← Nat.shiftRight_add]
        have e3 : (a >>> k).testBit 0 = a.testBit k := by rw [Nat.testBit_shiftRight, Nat.add_zero]
        have hlim : decide ((ints (natsI out)).length + [Sc.n .i64 (k : Int)].length ≤ lim) = true := by
          simp only [ints_length, natsI_length, List.length_singleton, decide_eq_true_eq]
          exact Nat.le_trans (by omega : out.length + 1 ≤ 64) (by decide)
        rw [elemsFrom_step a k (by omega)]
        cases ht : a.testBit k with
        | true =>
          rw [loopL_again (s' := (ints (natsI (out ++ [k])), ((k + 1 : Nat) : Int), ((a >>> (k + 1) : Nat) : Int))) (by
            simp only [fCp_r0, fCp_k0, e1, br_true, bit_test0 hs, e3, ht, hlim, ints_cast_snoc, w64_nat (by omega : k < 9223372036854775807), e2])]
          rw [ih (k + 1) (out ++ [k]) (by omega) (by simp; omega)]
          simp
        | false =>
          rw [loopL_again (s' := (ints (natsI out), ((k + 1 : Nat) : Int), ((a >>> (k + 1) : Nat) : Int))) (by
            simp only [fCp_r0, fCp_k0, e1, br_true, br_false, bit_test0 hs, e3, ht, w64_nat (by omega : k < 9223372036854775807), e2])]
          rw [ih (k + 1) out (by omega) (by omega)]
          simp
  have := key 63 0 [] rfl (Nat.le_refl _)
  simp only [fCp, fCp_k]
  have e0 : (ints (natsI []), ((0 : Nat) : Int), ((a >>> 0 : Nat) : Int)) = (([] : List Sc), (0 : Int), (a : Int)) := by simp [ints, natsI]
  rw [e0] at this
  rw [this, bl1_one, elemsFrom_zero]
  rfl
def shiftN (g : List Nat) (a x : Nat) : Nat := orAll (fun y => 2 ^ addN g x y) (elems a)
theorem two_pow_lt {k n : Nat} (h : k < n) : 2 ^ k < 2 ^ n := Nat.pow_lt_pow_right (by decide) h
theorem shiftN_lt {g : List Nat} (v : VG g) (a x : Nat) : shiftN g a x < 2 ^ ordN g :=
  orFold_lt (Nat.two_pow_pos _) fun y _ => two_pow_lt (addN_lt v.each x y)
theorem pow24 {g : List Nat} (v : VG g) {a : Nat} (h : a < 2 ^ ordN g) : a < 16777216 :=
  Nat.lt_of_lt_of_le h (Nat.pow_le_pow_right (by decide) v.ord)
theorem elems_lt {a n x : Nat} (h : a < 2 ^ n) (hx : x ∈ elems a) : x < n := by
  unfold elems at hx
  have h2 := (List.mem_filter.1 hx).2
  rcases Nat.lt_or_ge x n with hl | hl
  · exact hl
  · have : a < 2 ^ x := Nat.lt_of_lt_of_le h (Nat.pow_le_pow_right (by decide) hl)
    rw [Nat.testBit_lt_two_pow this] at h2
    cases h2
theorem or_pow {g : List Nat} (v : VG g) {o k : Nat} (ho : o < 2 ^ ordN g) (hk : k < ordN g) : or64 (o : Int) (shl64 1 (k : Int)) = ((o ||| 2 ^ k : Nat) : Int) := by
  have h24 := v.ord
  rw [shl1_nat (by omega), or64_nat (Nat.lt_trans (pow24 v ho) (by decide)) (Nat.lt_trans (pow24 v (two_pow_lt hk)) (by decide))]
theorem or_lt {g : List Nat} {o p : Nat} (ho : o < 2 ^ ordN g) (hp : p < 2 ^ ordN g) : o ||| p < 2 ^ ordN g := Nat.or_lt_two_pow ho hp
theorem in_nat {k n : Nat} (h : k < n) : inRange (k : Int) n = true := by rw [inRange_nat]; simpa using h
theorem atN_natsI (l : List Nat) (k : Nat) : atN (ints (natsI l)) k = ((l.getD k 0 : Nat) : Int) := by rw [atN_ints, natsI_getD]
theorem elems_lim (a : Nat) : (elems a).length ≤ 9223372036854775806 := Nat.le_trans (elems_len a) (by decide)
theorem elems_at {a n k : Nat} (h : a < 2 ^ n) (hk : k < (elems a).length) : (elems a).getD k 0 < n := elems_lt h (by simp [List.getD, List.getElem?_eq_getElem hk])
theorem s_l3Shift_eq {g : List Nat} (v : VG g) {a x : Nat} (ha : a < 2 ^ ordN g) (hx : x < ordN g) : fCi (ints (natsI g)) (a : Int) (x : Int) = some ((shiftN g a x : Nat) : Int) := by
  have h24 := v.ord
  have ha' : a < 9223372036854775808 := Nat.lt_trans (pow24 v ha) (by decide)
  have hlim := elems_lim a
  have key := loop_foldN (rd := fCi_r0 (x : Int) (ints (natsI g))) (elems a) (fun (t : Nat) i => ((t : Int), ints (natsI (elems a)), i)) (fun o y => o ||| 2 ^ addN g x y) (fun t => (t : Int)) (fun t => t < 2 ^ ordN g) 0 (Nat.two_pow_pos _) (fun k t hk ht => by
    have hy := elems_at ha hk
    have hadd := addN_lt v.each x ((elems a).getD k 0)
    simp only [fCi_r0, fCi_k0, ints_length, natsI_length, lt_dec hk, in_nat hk, Int.toNat_natCast, kAt_ints, atN_natsI, br_true, s_l2Add_eq v (by omega : (elems a).getD k 0 < 4611686018427387904) (by omega : x < 4611686018427387904), bo_some, neg_dec, br_false, addN_comm g ((elems a).getD k 0) x, or_pow v ht hadd, w64_nat (by omega : k < 9223372036854775807)])
    (fun k t hk ht => or_lt ht (two_pow_lt (addN_lt v.each _ _)))
    (fun t ht => by simp only [fCi_r0, fCi_k0, ints_length, natsI_length, lt_dec_self, br_false])
  simp only [fCi, fCi_k, s_l3List_eq ha', bo_some]
  have := key.1
  rw [show ((0 : Nat) : Int) = 0 from rfl] at this
  rw [this, bl1_one]
  rfl
theorem shiftN_test (g : List Nat) (a x z : Nat) : (shiftN g a x).testBit z = (elems a).any fun y => decide (addN g x y = z) := by
  unfold shiftN
  rw [orAll_test]
  simp only [pow_test]
theorem or_or {g : List Nat} (v : VG g) {o p : Nat} (ho : o < 2 ^ ordN g) (hp : p < 2 ^ ordN g) : or64 (o : Int) (p : Int) = ((o ||| p : Nat) : Int) :=
  or64_nat (Nat.lt_trans (pow24 v ho) (by decide)) (Nat.lt_trans (pow24 v hp) (by decide))
def subF (g : List Nat) (o x : Nat) : Nat := (o ||| shiftN g o x) ||| 2 ^ x
def subsN (g l : List Nat) : Nat := l.foldl (subF g) 0
theorem subF_lt {g : List Nat} (v : VG g) {o x : Nat} (ho : o < 2 ^ ordN g) (hx : x < ordN g) : subF g o x < 2 ^ ordN g := or_lt (or_lt ho (shiftN_lt v o x)) (two_pow_lt hx)
theorem s_l16Subsums_eq {g l : List Nat} (v : VG g) (hl : ∀ x ∈ l, x < ordN g) (hlen : l.length ≤ lim) : fBb (ints (natsI g)) (ints (natsI l)) = some ((subsN g l : Nat) : Int) ∧ subsN g l < 2 ^ ordN g := by
  have hll := lim_lt hlen
  have hat : ∀ k, k < l.length → l.getD k 0 < ordN g := fun k hk => hl _ (by simp [List.getD, List.getElem?_eq_getElem hk])
  have key := loop_foldN (rd := fBb_r0 (ints (natsI l)) (ints (natsI g))) l (fun (t : Nat) i => ((t : Int), i)) (subF g) (fun t => (t : Int)) (fun t => t < 2 ^ ordN g) 0 (Nat.two_pow_pos _) (fun k t hk ht => by
    have hx := hat k hk
    simp only [fBb_r0, fBb_k0, ints_length, natsI_length, lt_dec hk, ok_natsI hk, at_natsI, br_true, s_l3Shift_eq v ht hx, bo_some, neg_dec, br_false, or_or v ht (shiftN_lt v t _), or_pow v (or_lt ht (shiftN_lt v t _)) hx, w64_nat (by omega : k < 9223372036854775807)]
    rfl)
    (fun k t hk ht => subF_lt v ht (hat k hk))
    (fun t ht => by simp only [fBb_r0, fBb_k0, ints_length, natsI_length, lt_dec_self, br_false])
  simp only [fBb, fBb_k]
  have := key.1
  rw [show ((0 : Nat) : Int) = 0 from rfl] at this
  rw [this, bl1_one]
  exact ⟨rfl, key.2⟩
theorem and_one_zero {a : Nat} (ha : a < 9223372036854775808) : (and64 (a : Int) 1 == 0) = !a.testBit 0 := by
  rw [show (1 : Int) = ((1 : Nat) : Int) from rfl, and64_nat ha (by decide), Nat.and_one_is_mod, Nat.testBit_zero]
  rcases Nat.mod_two_eq_zero_or_one a with h | h <;> rw [h] <;> rfl
theorem i_in_eq {a k : Nat} (ha : a < 9223372036854775808) : fCz (a : Int) (k : Int) = some (a.testBit k) := by
  simp only [fCz, fCz_k, neg_dec, br_false, bit_test ha]
def pcn : Nat → Nat → Nat
  | 0, _ => 0
  | n + 1, a => a % 2 + pcn n (a / 2)
theorem filter_len (n a : Nat) : ((List.range n).filter fun x => a.testBit x).length = pcn n a := by
  induction n generalizing a with
  | zero => rfl
  | succ n ih =>
    rw [List.range_succ_eq_map, List.filter_cons, List.filter_map, pcn, ← ih (a / 2)]
    have e : ((fun x => a.testBit x) ∘ Nat.succ) = fun x => (a / 2).testBit x := by
      funext x
      simp only [Function.comp_apply, Nat.succ_eq_add_one, Nat.testBit_div_two]
    rw [e, Nat.testBit_zero]
    rcases Nat.mod_two_eq_zero_or_one a with h | h
    · simp [h]
    · simp [h]; omega
def popN (a : Nat) : Nat := pcn 63 a
theorem pcn_le (n a : Nat) : pcn n a ≤ n := by
  induction n generalizing a with
  | zero => exact Nat.le_refl _
  | succ n ih => have := ih (a / 2); show a % 2 + pcn n (a / 2) ≤ n + 1; omega
theorem pcn_zero (n : Nat) : pcn n 0 = 0 := by
  induction n with
  | zero => rfl
  | succ n ih => simpa [pcn] using ih
theorem pcn_small : ∀ (d n a : Nat), a < 2 ^ d → d ≤ n → pcn n a = pcn d a := by
  intro d
  induction d with
  | zero =>
    intro n a ha _
    have h0 : a = 0 := by simpa using ha
    subst h0
    rw [pcn_zero, pcn_zero]
  | succ d ih =>
    intro n a ha hn
    obtain ⟨m, rfl⟩ : ∃ m, n = m + 1 := ⟨n - 1, by omega⟩
    rw [Nat.pow_succ] at ha
    show a % 2 + pcn m (a / 2) = a % 2 + pcn d (a / 2)
    rw [ih m (a / 2) (by omega) (by omega)]
theorem set_i64 {g : List Nat} (v : VG g) {a : Nat} (h : a < 2 ^ ordN g) : a < 9223372036854775808 := Nat.lt_trans (pow24 v h) (by decide)
def subL (L : List Int) (c n : Nat) : List Int := ((List.range n).filter fun i => c.testBit i).map fun i => L.getD i 0
theorem subL_succ (L : List Int) (c n : Nat) : subL L c (n + 1) = if c.testBit n then subL L c n ++ [L.getD n 0] else subL L c n := by
  unfold subL
  rw [List.range_succ, List.filter_append]
  cases h : c.testBit n <;> simp [h]
theorem subL_length (L : List Int) (c n : Nat) : (subL L c n).length ≤ n := by
  unfold subL
  rw [List.length_map]
  exact Nat.le_trans (List.length_filter_le _ _) (by simp)
theorem pcn_smallM : ∀ (d n a : Nat), a < 2 ^ d → d ≤ n → pcn n a = pcn d a := by
  intro d
  induction d with
  | zero =>
    intro n a ha _
    have h0 : a = 0 := by simpa using ha
    subst h0
    rw [pcn_zero, pcn_zero]
  | succ d ih =>
    intro n a ha hn
    obtain ⟨m, rfl⟩ : ∃ m, n = m + 1 := ⟨n - 1, by omega⟩
    rw [Nat.pow_succ] at ha
    show a % 2 + pcn m (a / 2) = a % 2 + pcn d (a / 2)
    rw [ih m (a / 2) (by omega) (by omega)]
theorem app_lim {A : List Int} {x : Int} {n : Nat} (h : A.length ≤ n) (hn : n ≤ 1000) : decide ((ints A).length + [Sc.n .i64 x].length ≤ lim) = true := by
  rw [ints_length]
  simp only [List.length_cons, List.length_nil, decide_eq_true_eq]
  unfold lim
  omega
theorem i_part_eq {L : List Int} {c : Nat} (hL : L.length ≤ 12) (hc : c < 9223372036854775808) : fCt (ints L) (c : Int) = some (ints (subL L c L.length)) := by
  have key := loop_count (rd := fCt_r0 (c : Int) (ints L) (L.length : Int)) (fun i => (ints (subL L c i), (i : Int))) L.length (a := ints (subL L c L.length)) (fun i hi => by
      simp only [fCt_r0, fCt_k0, ints_length, lt_dec hi, ok_nat hi, i_in_eq hc, bo_some, br_true, subL_succ]
      have e1 := app_lim (x := L.getD i 0) (subL_length L c i) (by omega)
      rw [ints_length] at e1
      cases hb : c.testBit i with
      | true =>
        simp only [br_true, at_nat, e1, if_true, ints_snoc, w64_nat (show i < 9223372036854775807 by omega)]
      | false => simp only [br_false, w64_nat (show i < 9223372036854775807 by omega)]; rfl) (by
      simp only [fCt_r0, fCt_k0, lt_dec_self, br_false]) 0 (Nat.zero_le _)
  have e0 : (ints (subL L c 0), ((0 : Nat) : Int)) = (([] : List Sc), (0 : Int)) := rfl
  rw [e0] at key
  simp only [fCt, fCt_k, ints_length, key, bl1_one]
theorem eq_nat_decM (a b : Nat) : ((a : Int) == (b : Int)) = decide (a = b) := by
  by_cases h : a = b
  · simp [h]
  · have : ¬ ((a : Int) = (b : Int)) := by omega
    simp [h, this]
theorem rev_ind {P : List Nat → Prop} (h0 : P []) (h1 : ∀ l x, P l → P (l ++ [x])) (l : List Nat) : P l := by
  have key : ∀ l : List Nat, P l.reverse := by
    intro l
    induction l with
    | nil => exact h0
    | cons x l ih => rw [List.reverse_cons]; exact h1 _ x ih
  have := key l.reverse
  rwa [List.reverse_reverse] at this
theorem ints_natsI_set (l : List Nat) (k y : Nat) : (ints (natsI l)).set k (Sc.n .i64 (y : Int)) = ints (natsI (l.set k y)) := by
  rw [ints_set]
  unfold natsI
  rw [List.map_set]
theorem take_snoc (l : List Nat) {k : Nat} (h : k < l.length) : l.take (k + 1) = l.take k ++ [l.getD k 0] := by
  rw [List.take_succ_eq_append_getElem h]
  simp [List.getD, List.getElem?_eq_getElem h]
theorem gcd_next (x y : Nat) : Nat.gcd x y = Nat.gcd y (x % y) := by rw [Nat.gcd_comm x y, Nat.gcd_rec y x, Nat.gcd_comm]
theorem i_gcd_loop : ∀ (y x : Nat), loopL fCw_r0 ((x : Int), (y : Int)) = some (.one ((Nat.gcd x y : Nat) : Int)) := by
  intro y
  induction y using Nat.strongRecOn with
  | _ y ih =>
    intro x
    by_cases h : y = 0
    · subst h
      exact loopL_one (by simp only [fCw_r0, fCw_k0, ne_zero_dec, Nat.gcd_zero_right]; rfl)
    · have e0 : ((y : Int) == 0) = false := by
        have : ¬ ((y : Int) = 0) := by omega
        simpa using this
      have e1 : decide (y ≠ 0) = true := by simpa using h
      rw [loopL_again (s' := ((y : Int), ((x % y : Nat) : Int))) (by simp only [fCw_r0, fCw_k0, ne_zero_dec, e0, e1, br_true, br_false, tmod_nat]), ih (x % y) (Nat.mod_lt _ (by omega)) y, ← gcd_next]
theorem i_gcd_eq (x y : Nat) : fCw (x : Int) (y : Int) = some ((Nat.gcd x y : Nat) : Int) := by
  simp only [fCw, fCw_k, i_gcd_loop, bl1_one]
theorem s_gcd_loop : ∀ (y x : Nat), loopL fBa_r0 ((x : Int), (y : Int)) = some (.one ((Nat.gcd x y : Nat) : Int)) := by
  intro y
  induction y using Nat.strongRecOn with
  | _ y ih =>
    intro x
    by_cases h : y = 0
    · subst h
      exact loopL_one (by simp only [fBa_r0, fBa_k0, Nat.gcd_zero_right]; rfl)
    · have e0 : ((y : Int) == 0) = false := by
        have : ¬ ((y : Int) = 0) := by omega
        simpa using this
      have e1 : decide ((y : Int) > 0) = true := by simp; omega
      rw [loopL_again (s' := ((y : Int), ((x % y : Nat) : Int))) (by simp only [fBa_r0, fBa_k0, e0, e1, br_true, br_false, tmod_nat]), ih (x % y) (Nat.mod_lt _ (by omega)) y, ← gcd_next]
theorem s_l11Divisor_eq (x y : Nat) : fBa (x : Int) (y : Int) = some ((Nat.gcd x y : Nat) : Int) := by
  simp only [fBa, fBa_k, s_gcd_loop, bl1_one]
def upTo24 : List Nat := List.range' 2 23
def allG : List (List Nat) := [] :: (upTo24.map (fun a => [a]) ++ (upTo24.flatMap fun a => (upTo24.filter fun b => Nat.ble (a * b) 24).map fun b => [a, b]) ++
  (upTo24.flatMap fun a => (upTo24.filter fun b => Nat.ble (a * b) 24).flatMap fun b => (upTo24.filter fun c => Nat.ble (a * (b * c)) 24).map fun c => [a, b, c]))
theorem mem_upTo {n : Nat} (h : 2 ≤ n ∧ n ≤ 24) : n ∈ upTo24 := List.mem_range'_1.2 (by omega)
theorem VG.mem {g : List Nat} (v : VG g) : g ∈ allG := by
  obtain ⟨h1, h2, h3⟩ := v
  match g, h1, h2, h3 with
  | [], _, _, _ => exact List.mem_cons_self
  | [a], _, h2, _ =>
    refine List.mem_cons_of_mem _ (List.mem_append_left _ (List.mem_append_left _ ?_))
    exact List.mem_map.2 ⟨a, mem_upTo (h2 a (by simp)), rfl⟩
  | [a, b], _, h2, h3 =>
    simp only [ordN, Nat.mul_one] at h3
    refine List.mem_cons_of_mem _ (List.mem_append_left _ (List.mem_append_right _ ?_))
    exact List.mem_flatMap.2 ⟨a, mem_upTo (h2 a (by simp)), List.mem_map.2 ⟨b, List.mem_filter.2 ⟨mem_upTo (h2 b (by simp)), Nat.ble_eq_true_of_le h3⟩, rfl⟩⟩
  | [a, b, c], _, h2, h3 =>
    simp only [ordN, Nat.mul_one] at h3
    have hc := h2 c (by simp)
    have hab : a * b ≤ 24 := by
      have : a * b * 1 ≤ a * b * c := Nat.mul_le_mul_left _ (by omega)
      rw [Nat.mul_assoc a b c] at this
      omega
    refine List.mem_cons_of_mem _ (List.mem_append_right _ ?_)
    exact List.mem_flatMap.2 ⟨a, mem_upTo (h2 a (by simp)), List.mem_flatMap.2 ⟨b, List.mem_filter.2 ⟨mem_upTo (h2 b (by simp)), Nat.ble_eq_true_of_le hab⟩, List.mem_map.2 ⟨c, List.mem_filter.2 ⟨mem_upTo hc, Nat.ble_eq_true_of_le h3⟩, rfl⟩⟩⟩
  | _ :: _ :: _ :: _ :: _, h1, _, _ => simp at h1
def stepI (i : Nat) (L : List Nat) (k : Nat) : List Nat := (L.set i (L.getD i 0 / Nat.gcd (L.getD i 0) (L.getD k 0) * L.getD k 0)).set k (Nat.gcd (L.getD i 0) (L.getD k 0))
def innD (st : Nat → List Nat → Nat → List Nat) (i j : Nat) (L : List Nat) : List Nat := (List.range' (i + 1) j).foldl (st i) L
def outD (st : Nat → List Nat → Nat → List Nat) (n i : Nat) (L : List Nat) : List Nat := (List.range i).foldl (fun L i => innD st i (n - (i + 1)) L) L
def goodD (n : Nat) (L : List Nat) : Bool := Nat.beq L.length n && L.all fun x => Nat.ble 1 x && Nat.ble x 24
def chkD (st : Nat → List Nat → Nat → List Nat) (g : List Nat) : Bool := (List.range (g.length + 1)).all fun i => (List.range (g.length + 1)).all fun j => goodD g.length (innD st i (min j (g.length - (i + 1))) (outD st g.length i g))
def sumD (L : List Nat) : Nat := L.foldl (fun n o => n + o - 1) 1
theorem goodD_spec {n : Nat} {L : List Nat} (h : goodD n L = true) : L.length = n ∧ ∀ k, k < n → 1 ≤ L.getD k 0 ∧ L.getD k 0 ≤ 24 := by
  unfold goodD at h
  rw [Bool.and_eq_true] at h
  have hl : L.length = n := Nat.eq_of_beq_eq_true h.1
  refine ⟨hl, fun k hk => ?_⟩
  have hk' : k < L.length := by omega
  have := List.all_eq_true.1 h.2 (L[k]) (List.getElem_mem hk')
  rw [Bool.and_eq_true] at this
  have e : L.getD k 0 = L[k] := by simp [List.getD, List.getElem?_eq_getElem hk']
  rw [e]
  exact ⟨Nat.le_of_ble_eq_true this.1, Nat.le_of_ble_eq_true this.2⟩
theorem chkD_spec {st : Nat → List Nat → Nat → List Nat} {g : List Nat} (h : chkD st g = true) {i j : Nat} (hi : i ≤ g.length) (hj : j ≤ g.length - (i + 1)) : goodD g.length (innD st i j (outD st g.length i g)) = true := by
  unfold chkD at h
  have h1 := List.all_eq_true.1 h i (List.mem_range.2 (by omega))
  have h2 := List.all_eq_true.1 h1 j (List.mem_range.2 (by omega))
  rwa [Nat.min_eq_left hj] at h2
theorem innD_succ (st : Nat → List Nat → Nat → List Nat) (i j : Nat) (L : List Nat) : innD st i (j + 1) L = st i (innD st i j L) (i + 1 + j) := by
  unfold innD
  rw [List.range'_concat, List.foldl_append]
  simp
theorem outD_succ (st : Nat → List Nat → Nat → List Nat) (n i : Nat) (L : List Nat) : outD st n (i + 1) L = innD st i (n - (i + 1)) (outD st n i L) := by
  unfold outD
  rw [List.range_succ, List.foldl_append]
  rfl
theorem quot24 {a b : Nat} (ha : 1 ≤ a ∧ a ≤ 24) (hb : 1 ≤ b ∧ b ≤ 24) : ((((Nat.gcd a b : Nat) : Int) == 0) = false) ∧ w64 (w64 ((a : Int).tdiv ((Nat.gcd a b : Nat) : Int)) * (b : Int)) = ((a / Nat.gcd a b * b : Nat) : Int) := by
  have hg : 0 < Nat.gcd a b := Nat.gcd_pos_of_pos_left b (by omega)
  have h1 : a / Nat.gcd a b ≤ 24 := Nat.le_trans (Nat.div_le_self _ _) ha.2
  have h2 : a / Nat.gcd a b * b ≤ 24 * 24 := Nat.mul_le_mul h1 hb.2
  constructor
  · have : ¬ (((Nat.gcd a b : Nat) : Int) = 0) := by omega
    simpa using this
  · rw [tdiv_nat, w64_cast (by omega), ← Int.natCast_mul, w64_cast (by omega)]
theorem ints_len_nat {L : List Nat} {n : Nat} (h : L.length = n) : (ints (natsI L)).length = n := by rw [ints_length, natsI_length, h]
theorem sumD_range (L : List Nat) (h : ∀ k, k < L.length → 1 ≤ L.getD k 0 ∧ L.getD k 0 ≤ 24) : 1 ≤ sumD L ∧ sumD L ≤ 1 + 24 * L.length := by
  have key : ∀ (L : List Nat) (n : Nat), 1 ≤ n → (∀ x ∈ L, 1 ≤ x ∧ x ≤ 24) → 1 ≤ L.foldl (fun n o => n + o - 1) n ∧ L.foldl (fun n o => n + o - 1) n ≤ n + 24 * L.length := by
    intro L
    induction L with
    | nil => intro n hn _; exact ⟨hn, Nat.le_refl _⟩
    | cons x L ih =>
      intro n hn h
      have hx := h x (by simp)
      have := ih (n + x - 1) (by omega) fun y hy => h y (by simp [hy])
      simp only [List.foldl_cons, List.length_cons]
      omega
  refine key L 1 (Nat.le_refl _) fun x hx => ?_
  obtain ⟨k, hk, rfl⟩ := List.getElem_of_mem hx
  have := h k hk
  simpa [List.getD, List.getElem?_eq_getElem hk] using this
theorem take_getD {L : List Nat} {j k : Nat} (h : j < k) : (L.take k).getD j 0 = L.getD j 0 := by
  simp [List.getD, List.getElem?_take, h]
theorem sumD_snoc {L : List Nat} {k : Nat} (h : k < L.length) : sumD (L.take (k + 1)) = sumD (L.take k) + L.getD k 0 - 1 := by
  unfold sumD
  rw [take_snoc L h, List.foldl_append]
  rfl
theorem i_dav2 {n i : Nat} {L : List Nat} (hn : n ≤ 3) (hi : i < n) (hg : ∀ j, j ≤ n - (i + 1) → goodD n (innD stepI i j L) = true) :
    ∀ x y : Int, loopL (fAg_r2 (i : Int) x y) (ints (natsI L), ((i + 1 : Nat) : Int)) = some (.one (ints (natsI (innD stepI i (n - (i + 1)) L)))) := by
  intro x y
  have key := loop_count (rd := fAg_r2 (i : Int) x y) (fun j => (ints (natsI (innD stepI i j L)), ((i + 1 + j : Nat) : Int))) (n - (i + 1)) (a := ints (natsI (innD stepI i (n - (i + 1)) L))) (fun j hj => by
      obtain ⟨hlen, hx⟩ := goodD_spec (hg j (by omega))
      have ha := hx i hi
      have hb := hx (i + 1 + j) (by omega)
      obtain ⟨q1, q2⟩ := quot24 ha hb
      have hk : i + 1 + j < n := by omega
      rw [innD_succ]
      generalize innD stepI i j L = M at *
      have el : ∀ y : Nat, (ints (natsI (M.set i y))).length = n := fun y => ints_len_nat (by rw [List.length_set]; exact hlen)
      simp only [fAg_r2, fAg_k2, ints_len_nat hlen, lt_dec hk, in_nat hi, in_nat hk, Int.toNat_natCast, kAt_ints, atN_natsI, i_gcd_eq, bo_some, q1, q2, el, br_true, br_false, w64_nat (by omega : i + 1 + j < 9223372036854775807), ints_natsI_set]
      rfl)
    (by
      obtain ⟨hlen, _⟩ := goodD_spec (hg (n - (i + 1)) (Nat.le_refl _))
      have e : i + 1 + (n - (i + 1)) = n := by omega
      simp only [fAg_r2, fAg_k2, ints_len_nat hlen, e, lt_dec_self, br_false]) 0 (Nat.zero_le _)
  exact key
theorem i_DavenportBound_eq {g : List Nat} (v : VG g) (hc : chkD stepI g = true) : fAg (ints (natsI g)) = some ((sumD (outD stepI g.length g.length g) : Nat) : Int) := by
  have h3 := v.len
  have key := loop_count (rd := fAg_r0 (g.length : Int)) (fun i => (ints (natsI (outD stepI g.length i g)), (i : Int))) g.length (a := (ints (natsI (outD stepI g.length g.length g)), (g.length : Int))) (fun i hi => by
      obtain ⟨hlen, _⟩ := goodD_spec (chkD_spec hc (i := i) (j := 0) (by omega) (by omega))
      have hlen' : (outD stepI g.length i g).length = g.length := hlen
      have e := i_dav2 (L := outD stepI g.length i g) h3 hi (fun j hj => chkD_spec hc (by omega) hj)
      rw [← outD_succ] at e
      simp only [fAg_r0, fAg_k0, ints_len_nat hlen', lt_dec hi, br_true, w64_nat (by omega : i < 9223372036854775807), e, bl1_one])
    (by
      obtain ⟨hlen, _⟩ := goodD_spec (chkD_spec hc (i := g.length) (j := 0) (Nat.le_refl _) (by omega))
      have hlen' : (outD stepI g.length g.length g).length = g.length := hlen
      simp only [fAg_r0, fAg_k0, ints_len_nat hlen', lt_dec_self, br_false]) 0 (Nat.zero_le _)
  obtain ⟨hlen, hx⟩ := goodD_spec (chkD_spec hc (i := g.length) (j := 0) (Nat.le_refl _) (by omega))
  have hlen' : (outD stepI g.length g.length g).length = g.length := hlen
  have hx' : ∀ k, k < g.length → 1 ≤ (outD stepI g.length g.length g).getD k 0 ∧ (outD stepI g.length g.length g).getD k 0 ≤ 24 := hx
  generalize outD stepI g.length g.length g = O at *
  have key2 := loop_count (rd := fAg_r4 (O.length : Int)) (fun k => (ints (natsI O), ((sumD (O.take k) : Nat) : Int), (k : Int))) O.length (a := (ints (natsI O), ((sumD (O.take O.length) : Nat) : Int))) (fun k hk => by
      have hb := hx' k (by omega)
      have hs := sumD_range (O.take k) fun j hj => by
        have hj' : j < k := by simp at hj; omega
        have := hx' j (by omega)
        rwa [take_getD hj']
      have hlt : (O.take k).length ≤ 3 := by simp; omega
      have e : w64 (w64 (((sumD (O.take k) : Nat) : Int) + ((O.getD k 0 : Nat) : Int)) - 1) = ((sumD (O.take (k + 1)) : Nat) : Int) := by
        rw [sumD_snoc hk, ← Int.natCast_add, w64_cast (by omega), w64_in (by omega) (by omega)]
        omega
      simp only [fAg_r4, fAg_k4, ints_length, natsI_length, lt_dec hk, in_nat hk, Int.toNat_natCast, kAt_ints, atN_natsI, br_true, e, w64_nat (by omega : k < 9223372036854775807)])
    (by simp only [fAg_r4, fAg_k4, ints_length, natsI_length, lt_dec_self, br_false]) 0 (Nat.zero_le _)
  rw [List.take_length] at key2
  have e0 : ints (natsI (outD stepI g.length 0 g)) = [] ++ ints (natsI g) := rfl
  have e1 : ((sumD (O.take 0) : Nat) : Int) = 1 := rfl
  simp only [e0] at key
  simp only [e1] at key2
  rw [show ((0 : Nat) : Int) = 0 from rfl] at key key2
  have e2 : decide (([] : List Sc).length + (ints (natsI g)).length ≤ lim) = true := by
    rw [ints_length, natsI_length, decide_eq_true_eq]
    exact Nat.le_trans (by simp; omega : ([] : List Sc).length + g.length ≤ 3) (by decide)
  have hG := i_IsGroup_eq (natsI g) v.lim
  have hcp : fBs (ints (natsI g)) = some ([] ++ ints (natsI g)) := by simp only [fBs, fBs_k, e2, br_true]
  have el : (([] ++ ints (natsI g)).length : Int) = (g.length : Int) := by rw [List.nil_append, ints_length, natsI_length]
  simp only [fAg, fAg_k, hG, v.isG, bo_some, Bool.not_true, br_false, hcp, el, key, bl1_one]
  rw [show ((ints (natsI O)).length : Int) = (O.length : Int) by rw [ints_length, natsI_length], key2]
  rfl
def insN (x : Nat) (l : List Nat) : List Nat := l.takeWhile (fun y => decide (y ≤ x)) ++ x :: l.dropWhile (fun y => decide (y ≤ x))
theorem ins_perm (x : Nat) (l : List Nat) : (insN x l).Perm (x :: l) := by
  unfold insN
  refine List.perm_middle.trans (List.Perm.cons x ?_)
  rw [List.takeWhile_append_dropWhile]
theorem nums_ints (zs : List Int) : nums (ints zs) = zs ∧ allI (ints zs) = true := by
  constructor
  · unfold nums ints
    rw [List.map_map]
    conv => rhs; rw [← List.map_id zs]
    rfl
  · unfold allI ints
    rw [List.all_map, List.all_eq_true]
    intro x _
    rfl
theorem ins_split {x : Nat} {l : List Nat} (h : l.Pairwise (· ≤ ·)) : ∃ t d, l = t ++ d ∧ insN x l = t ++ x :: d ∧ (∀ y ∈ t, y ≤ x) ∧ ∀ y ∈ d, x < y := by
  refine ⟨l.takeWhile (fun y => decide (y ≤ x)), l.dropWhile (fun y => decide (y ≤ x)), List.takeWhile_append_dropWhile.symm, rfl, fun y hy => ?_, ?_⟩
  · have := List.all_takeWhile (p := fun y => decide (y ≤ x)) (l := l)
    exact of_decide_eq_true (List.all_eq_true.1 this y hy)
  · induction l with
    | nil => intro y hy; cases hy
    | cons z l ih =>
      obtain ⟨h1, h2⟩ := List.pairwise_cons.1 h
      by_cases hz : z ≤ x
      · rw [List.dropWhile_cons_of_pos (by simpa using hz)]
        exact ih h2
      · rw [List.dropWhile_cons_of_neg (by simpa using hz)]
        intro y hy
        rcases List.mem_cons.1 hy with rfl | hy
        · omega
        · have := h1 y hy; omega
theorem getD_memN {l : List Nat} {k : Nat} (h : k < l.length) : l.getD k 0 ∈ l := by simp [List.getD, List.getElem?_eq_getElem h]
theorem s_l5Put_eq {x : Nat} {l : List Nat} (h : l.Pairwise (· ≤ ·)) (hx : x ∉ l) (hlen : l.length ≤ 1000) : fCs (ints (natsI l)) (x : Int) = some (ints (natsI (insN x l))) := by
  obtain ⟨t, d, e, ei, ht, hd⟩ := ins_split (x := x) h
  have hl : l.length = t.length + d.length := by rw [e, List.length_append]
  have hw : ∀ k : Nat, 1 ≤ k → k ≤ l.length → w64 ((k : Int) - 1) = ((k - 1 : Nat) : Int) := fun k h1 h2 => by
    rw [show (k : Int) - 1 = ((k - 1 : Nat) : Int) by omega]
    exact w64_cast (by omega)
  have key := loop_count (rd := fCs_r0 (ints (natsI l)) (x : Int)) (fun j => ((l.length - j : Nat) : Int)) d.length (a := ((t.length : Nat) : Int)) (fun j hj => by
    have d0 : decide (((l.length - j : Nat) : Int) > 0) = true := decide_eq_true (by omega)
    have hat : l.getD (l.length - j - 1) 0 ∈ d := by
      rw [e]
      have : (t ++ d).getD ((t ++ d).length - j - 1) 0 = d.getD (d.length - j - 1) 0 := by
        simp only [List.getD, List.length_append]
        rw [List.getElem?_append_right (by omega), show t.length + d.length - j - 1 - t.length = d.length - j - 1 by omega]
      rw [this]
      exact getD_memN (by omega)
    have dg : decide (((l.getD (l.length - j - 1) 0 : Nat) : Int) > (x : Int)) = true := decide_eq_true (by have := hd _ hat; omega)
    simp only [fCs_r0, fCs_k0, d0, BEq.rfl, br_true, hw (l.length - j) (by omega) (by omega), ok_natsI (show l.length - j - 1 < l.length by omega), at_natsI, dg]
    rw [show l.length - (j + 1) = l.length - j - 1 by omega]) (by
    rw [show l.length - d.length = t.length by omega]
    by_cases h0 : t.length = 0
    · have d0 : decide (((t.length : Nat) : Int) > 0) = false := decide_eq_false (by omega)
      have bf : (false == true) = false := rfl
      simp only [fCs_r0, fCs_k0, d0, bf, br_false]
    · have d0 : decide (((t.length : Nat) : Int) > 0) = true := decide_eq_true (by omega)
      have hat : l.getD (t.length - 1) 0 ∈ t := by
        rw [e]
        have : (t ++ d).getD (t.length - 1) 0 = t.getD (t.length - 1) 0 := by
          simp only [List.getD]
          rw [List.getElem?_append_left (by omega)]
        rw [this]
        exact getD_memN (by omega)
      have dg : decide (((l.getD (t.length - 1) 0 : Nat) : Int) > (x : Int)) = false := decide_eq_false (by have := ht _ hat; omega)
      simp only [fCs_r0, fCs_k0, d0, BEq.rfl, br_true, hw t.length (by omega) (by omega), ok_natsI (show t.length - 1 < l.length by omega), at_natsI, dg, br_false]) 0 (Nat.zero_le _)
  simp only [Nat.sub_zero] at key
  have z0 : sliceA (ints (natsI l)) 0 ((t.length : Nat) : Int) = ints (natsI t) := by
    rw [e]
    simp [sliceA, ints, natsI]
  have z1 : sliceA (ints (natsI l)) ((t.length : Nat) : Int) (l.length : Int) = ints (natsI d) := by
    unfold sliceA
    rw [Int.toNat_natCast, Int.toNat_natCast, List.take_of_length_le (by rw [ints_length, natsI_length]; exact Nat.le_refl _), e]
    simp [ints, natsI]
  have c1 : (decide (0 ≤ (0 : Int)) && (decide ((0 : Int) ≤ ((t.length : Nat) : Int)) && decide (((t.length : Nat) : Int) ≤ (l.length : Int)))) = true := by
    simp only [Bool.and_eq_true, decide_eq_true_eq]; omega
  have c2 : (decide (0 ≤ ((t.length : Nat) : Int)) && (decide (((t.length : Nat) : Int) ≤ (l.length : Int)) && decide ((l.length : Int) ≤ (l.length : Int)))) = true := by
    simp only [Bool.and_eq_true, decide_eq_true_eq]; omega
  have c3 : decide (([] : List Sc).length + t.length ≤ lim) = true := by
    rw [List.length_nil, Nat.zero_add]
    exact decide_eq_true (Nat.le_trans (show t.length ≤ 1000 by omega) (by decide))
  have c4 : decide (t.length + [Sc.n .i64 (x : Int)].length ≤ lim) = true := by
    rw [List.length_singleton]
    exact decide_eq_true (Nat.le_trans (show t.length + 1 ≤ 1001 by omega) (by decide))
  have c5 : decide ((t ++ [x]).length + d.length ≤ lim) = true := by
    rw [List.length_append, List.length_singleton]
    exact decide_eq_true (Nat.le_trans (show t.length + 1 + d.length ≤ 1001 by omega) (by decide))
  have ap : ∀ A B : List Nat, ints (natsI A) ++ ints (natsI B) = ints (natsI (A ++ B)) := fun A B => by simp only [ints, natsI, List.map_append]
  have fin : t ++ [x] ++ d = insN x l := by rw [ei, List.append_assoc]; rfl
  simp only [fCs, fCs_k, ints_length, natsI_length, key, bl1_one]
  by_cases h0 : t.length = 0
  · have d0 : decide (((t.length : Nat) : Int) > 0) = false := decide_eq_false (by omega)
    have bf : (false == true) = false := rfl
    simp only [d0, bf, br_false, c1, c2, br_true, z0, z1, ints_length, natsI_length, c3, List.nil_append, c4, ints_cast_snoc, c5, ap, fin]
  · have d0 : decide (((t.length : Nat) : Int) > 0) = true := decide_eq_true (by omega)
    have hat : l.getD (t.length - 1) 0 ∈ l := getD_memN (by omega)
    have de : (((l.getD (t.length - 1) 0 : Nat) : Int) == (x : Int)) = false := by
      rw [eq_nat_decM]
      exact decide_eq_false fun h => hx (by rw [← h]; exact hat)
    simp only [d0, BEq.rfl, br_true, hw t.length (by omega) (by omega), ok_natsI (show t.length - 1 < l.length by omega), at_natsI, de, br_false, c1, c2, z0, z1, ints_length, natsI_length, c3, List.nil_append, c4, ints_cast_snoc, c5, ap, fin]
theorem s_l5Put_mem {x : Nat} {l : List Nat} (h : l.Pairwise (· ≤ ·)) (hx : x ∈ l) (hlen : l.length ≤ 1000) : fCs (ints (natsI l)) (x : Int) = some (ints (natsI l)) := by
  obtain ⟨t, d, e, ei, ht, hd⟩ := ins_split (x := x) h
  have hl : l.length = t.length + d.length := by rw [e, List.length_append]
  have hw : ∀ k : Nat, 1 ≤ k → k ≤ l.length → w64 ((k : Int) - 1) = ((k - 1 : Nat) : Int) := fun k h1 h2 => by
    rw [show (k : Int) - 1 = ((k - 1 : Nat) : Int) by omega]
    exact w64_cast (by omega)
  have key := loop_count (rd := fCs_r0 (ints (natsI l)) (x : Int)) (fun j => ((l.length - j : Nat) : Int)) d.length (a := ((t.length : Nat) : Int)) (fun j hj => by
    have d0 : decide (((l.length - j : Nat) : Int) > 0) = true := decide_eq_true (by omega)
    have hat : l.getD (l.length - j - 1) 0 ∈ d := by
      rw [e]
      have : (t ++ d).getD ((t ++ d).length - j - 1) 0 = d.getD (d.length - j - 1) 0 := by
        simp only [List.getD, List.length_append]
        rw [List.getElem?_append_right (by omega), show t.length + d.length - j - 1 - t.length = d.length - j - 1 by omega]
      rw [this]
      exact getD_memN (by omega)
    have dg : decide (((l.getD (l.length - j - 1) 0 : Nat) : Int) > (x : Int)) = true := decide_eq_true (by have := hd _ hat; omega)
    simp only [fCs_r0, fCs_k0, d0, BEq.rfl, br_true, hw (l.length - j) (by omega) (by omega), ok_natsI (show l.length - j - 1 < l.length by omega), at_natsI, dg]
    rw [show l.length - (j + 1) = l.length - j - 1 by omega]) (by
    rw [show l.length - d.length = t.length by omega]
    by_cases h0 : t.length = 0
    · have d0 : decide (((t.length : Nat) : Int) > 0) = false := decide_eq_false (by omega)
      have bf : (false == true) = false := rfl
      simp only [fCs_r0, fCs_k0, d0, bf, br_false]
    · have d0 : decide (((t.length : Nat) : Int) > 0) = true := decide_eq_true (by omega)
      have hat : l.getD (t.length - 1) 0 ∈ t := by
        rw [e]
        have : (t ++ d).getD (t.length - 1) 0 = t.getD (t.length - 1) 0 := by
          simp only [List.getD]
          rw [List.getElem?_append_left (by omega)]
        rw [this]
        exact getD_memN (by omega)
      have dg : decide (((l.getD (t.length - 1) 0 : Nat) : Int) > (x : Int)) = false := decide_eq_false (by have := ht _ hat; omega)
      simp only [fCs_r0, fCs_k0, d0, BEq.rfl, br_true, hw t.length (by omega) (by omega), ok_natsI (show t.length - 1 < l.length by omega), at_natsI, dg, br_false]) 0 (Nat.zero_le _)
  simp only [Nat.sub_zero] at key
  have ht0 : t.length ≠ 0 := fun hh => by
    rw [List.length_eq_zero_iff] at hh
    subst hh
    rw [e, List.nil_append] at hx
    exact absurd (hd x hx) (by omega)
  have hat : l.getD (t.length - 1) 0 = x := by
    have hi : t.length - 1 < t.length := by omega
    have e1 : l.getD (t.length - 1) 0 = t[t.length - 1] := by
      rw [e]
      simp only [List.getD]
      rw [List.getElem?_append_left hi, List.getElem?_eq_getElem hi]
      rfl
    rw [e1]
    have hle : t[t.length - 1] ≤ x := ht _ (List.getElem_mem hi)
    have hxt : x ∈ t := by
      rw [e] at hx
      rcases List.mem_append.1 hx with h1 | h1
      · exact h1
      · exact absurd (hd x h1) (by omega)
    obtain ⟨j, hj, hjx⟩ := List.getElem_of_mem hxt
    rw [e] at h
    have hp := (List.pairwise_append.1 h).1
    by_cases hjl : j = t.length - 1
    · subst hjl; exact hjx
    · have := List.pairwise_iff_getElem.1 hp j (t.length - 1) hj hi (by omega)
      omega
  have d0 : decide (((t.length : Nat) : Int) > 0) = true := decide_eq_true (by omega)
  simp only [fCs, fCs_k, ints_length, natsI_length, key, bl1_one, d0, BEq.rfl, br_true, hw t.length (by omega) (by omega), ok_natsI (show t.length - 1 < l.length by omega), at_natsI, hat]
def putN (x : Nat) (l : List Nat) : List Nat := if x ∈ l then l else insN x l
theorem put_mem {x : Nat} {l : List Nat} (y : Nat) : y ∈ putN x l ↔ y = x ∨ y ∈ l := by
  unfold putN
  by_cases h : x ∈ l
  · rw [if_pos h]; exact ⟨Or.inr, fun hh => hh.elim (fun e => e ▸ h) id⟩
  · rw [if_neg h, (ins_perm x l).mem_iff, List.mem_cons]
theorem put_sorted {x : Nat} {l : List Nat} (h : l.Pairwise (· < ·)) : (putN x l).Pairwise (· < ·) := by
  unfold putN
  by_cases hx : x ∈ l
  · rw [if_pos hx]; exact h
  · rw [if_neg hx]
    obtain ⟨t, d, e, ei, ht, hd⟩ := ins_split (x := x) (h.imp fun h => Nat.le_of_lt h)
    rw [ei]
    rw [e] at h hx
    rw [List.pairwise_append] at h ⊢
    refine ⟨h.1, List.pairwise_cons.2 ⟨fun y hy => hd y hy, h.2.1⟩, fun a ha b hb => ?_⟩
    rcases List.mem_cons.1 hb with rfl | hb
    · have h1 := ht a ha
      have h2 : a ≠ b := fun hh => hx (hh ▸ List.mem_append.2 (Or.inl ha))
      omega
    · exact h.2.2 a ha b hb
def putAll (l : List Nat) : List Nat := l.foldl (fun o x => putN x o) []
theorem putAll_step (l : List Nat) (x : Nat) : putAll (l ++ [x]) = putN x (putAll l) := by simp [putAll]
theorem putAll_ok (l : List Nat) : (putAll l).Pairwise (· < ·) ∧ ∀ y, y ∈ putAll l ↔ y ∈ l := by
  have aux : ∀ (l o : List Nat), o.Pairwise (· < ·) → (l.foldl (fun o x => putN x o) o).Pairwise (· < ·) ∧ ∀ y, y ∈ l.foldl (fun o x => putN x o) o ↔ y ∈ o ∨ y ∈ l := by
    intro l
    induction l with
    | nil => intro o h; exact ⟨h, fun y => by simp⟩
    | cons a l ih =>
      intro o h
      obtain ⟨h1, h2⟩ := ih (putN a o) (put_sorted h)
      refine ⟨h1, fun y => ?_⟩
      rw [List.foldl_cons, h2, put_mem, List.mem_cons, or_assoc, or_left_comm]
  obtain ⟨h1, h2⟩ := aux l [] List.Pairwise.nil
  exact ⟨h1, fun y => by unfold putAll; rw [h2]; simp⟩
theorem strict_len : ∀ (n : Nat) (l : List Nat), l.Pairwise (· < ·) → (∀ y ∈ l, y < n) → l.length ≤ n := by
  intro n l h hb
  have hn : l.Nodup := h.imp fun h => Nat.ne_of_lt h
  have := hn.length_le_of_subset (l₂ := List.range n) fun y hy => List.mem_range.2 (hb y hy)
  simpa using this
theorem strict_eq {a b : List Int} (ha : a.Pairwise (· < ·)) (hb : b.Pairwise (· < ·)) (h : ∀ y, y ∈ a ↔ y ∈ b) : a = b := by
  refine List.Perm.eq_of_pairwise (le := fun a b : Int => a < b) (fun a b _ _ h1 h2 => by omega) ha hb ?_
  exact (List.perm_ext_iff_of_nodup (ha.imp fun h => by omega) (hb.imp fun h => by omega)).2 h
theorem compact_ok {zs : List Int} (h : zs.Pairwise (· ≤ ·)) : (Lib.compact zs).Pairwise (· < ·) ∧ ∀ y, y ∈ Lib.compact zs ↔ y ∈ zs := by
  have at_ : ∀ j (hj : j < zs.length), zs.toArray[j]! = zs[j] := fun j hj => by simp [hj]
  have aux : ∀ m, m ≤ zs.length → (Lib.compactUpTo zs.toArray m).Pairwise (· < ·) ∧ ∀ y, y ∈ Lib.compactUpTo zs.toArray m ↔ y ∈ zs.take m := by
    intro m
    induction m with
    | zero => intro _; simp [Lib.compactUpTo]
    | succ m ih =>
      intro hm
      obtain ⟨h1, h2⟩ := ih (by omega)
      have hm' : m < zs.length := by omega
      have et : zs.take (m + 1) = zs.take m ++ [zs[m]] := List.take_succ_eq_append_getElem hm'
      rw [Lib.compactUpTo_succ, et]
      by_cases hk : Lib.keeps zs.toArray m = true
      · rw [if_pos hk, at_ m hm']
        refine ⟨List.pairwise_append.2 ⟨h1, List.pairwise_singleton _ _, fun a ha b hb => ?_⟩, fun y => by simp only [List.mem_append, h2]⟩
        rw [List.mem_singleton] at hb
        subst hb
        have ha := (h2 a).1 ha
        obtain ⟨j, hj, rfl⟩ := List.getElem_of_mem ha
        have hj' : j < m := by rw [List.length_take] at hj; omega
        rw [List.getElem_take]
        unfold Lib.keeps at hk
        have hk := of_decide_eq_true hk
        rw [at_ m hm', at_ (m - 1) (by omega)] at hk
        have hne : zs[m] ≠ zs[m - 1] := hk.resolve_left (by omega)
        have h3 : zs[m - 1] ≤ zs[m] := List.pairwise_iff_getElem.1 h (m - 1) m (by omega) hm' (by omega)
        have h4 : zs[j] ≤ zs[m - 1] := by
          by_cases hjm : j = m - 1
          · subst hjm; exact Int.le_refl _
          · exact List.pairwise_iff_getElem.1 h j (m - 1) (by omega) (by omega) (by omega)
        omega
      · rw [if_neg hk, List.append_nil]
        refine ⟨h1, fun y => ?_⟩
        rw [h2, List.mem_append, List.mem_singleton]
        refine ⟨Or.inl, fun hh => hh.elim id fun e => ?_⟩
        subst e
        unfold Lib.keeps at hk
        have hk : ¬ (m = 0 ∨ zs.toArray[m]! ≠ zs.toArray[m - 1]!) := by simpa using hk
        have h0 : m ≠ 0 := fun h => hk (Or.inl h)
        have he : zs.toArray[m]! = zs.toArray[m - 1]! := Classical.byContradiction fun h => hk (Or.inr h)
        rw [at_ m hm', at_ (m - 1) (by omega)] at he
        rw [he]
        have : (zs.take m)[m - 1]'(by rw [List.length_take]; omega) = zs[m - 1] := List.getElem_take
        rw [← this]
        exact List.getElem_mem _
  obtain ⟨h1, h2⟩ := aux zs.length (Nat.le_refl _)
  exact ⟨h1, fun y => by rw [show Lib.compact zs = Lib.compactUpTo zs.toArray zs.length from rfl, h2, List.take_length]⟩
theorem sortZ_ok (zs : List Int) : (sortZ zs).Pairwise (· ≤ ·) ∧ (sortZ zs).Perm zs := by
  refine ⟨?_, List.mergeSort_perm _ _⟩
  have := List.pairwise_mergeSort (le := fun x y : Int => decide (x ≤ y)) (fun a b c h1 h2 => by simp only [decide_eq_true_eq] at *; omega) (fun a b => by simp only [Bool.or_eq_true, decide_eq_true_eq]; omega) zs
  exact this.imp fun h => of_decide_eq_true h
theorem compact_sort (l : List Nat) : Lib.compact (sortZ (natsI l)) = natsI (putAll l) := by
  obtain ⟨s1, s2⟩ := sortZ_ok (natsI l)
  obtain ⟨c1, c2⟩ := compact_ok s1
  obtain ⟨p1, p2⟩ := putAll_ok l
  refine strict_eq c1 ?_ fun y => ?_
  · unfold natsI
    rw [List.pairwise_map]
    exact p1.imp fun h => by omega
  · rw [c2, s2.mem_iff]
    unfold natsI
    simp only [List.mem_map, p2]
theorem s_put {l : List Nat} (h : l.Pairwise (· < ·)) (x : Nat) (hlen : l.length ≤ 1000) : fCs (ints (natsI l)) (x : Int) = some (ints (natsI (putN x l))) := by
  unfold putN
  by_cases hx : x ∈ l
  · rw [if_pos hx]; exact s_l5Put_mem (h.imp fun h => Nat.le_of_lt h) hx hlen
  · rw [if_neg hx]; exact s_l5Put_eq (h.imp fun h => Nat.le_of_lt h) hx hlen
theorem Lengths_of {G L : List Int} {fs : List (List (List Int))} {ok : Bool} (e1 : fAf (ints G) (ints L) = some (encF fs, ok)) (e2 : fAe (ints G) (ints L) = some (encF fs, ok)) (hok : ok = false → fs = []) (hlen : fs.length ≤ 7 ^ 12) (hf : ∀ f ∈ fs, f.length ≤ 13) :
    ∃ n : List Nat, fBl (ints G) (ints L) = some (ints (natsI n)) ∧ fBi (ints G) (ints L) = some (ints (natsI n)) ∧ n.Pairwise (· < ·) ∧ n.length ≤ 14 ∧ (∀ y ∈ n, y < 14) ∧ ∀ y, y ∈ n ↔ y ∈ fs.map List.length := by
  have h7 : (7 : Nat) ^ 12 ≤ lim := by decide
  have hl : fs.length ≤ lim := by omega
  have hb : ∀ y ∈ fs.map List.length, y < 14 := fun y hy => by
    obtain ⟨f, hf', rfl⟩ := List.mem_map.1 hy
    have := hf f hf'
    omega
  have hput : ∀ l : List Nat, (∀ y ∈ l, y < 14) → (putAll l).length ≤ 14 := fun l hl => strict_len 14 _ (putAll_ok l).1 fun y hy => hl y (((putAll_ok l).2 y).1 hy)
  have take1 : ∀ k, k < fs.length → (fs.map List.length).take (k + 1) = (fs.map List.length).take k ++ [(fs.getD k []).length] := fun k hk => by
    rw [List.take_succ_eq_append_getElem (by rw [List.length_map]; exact hk)]
    simp [List.getD, hk]
  have l2 : lim < 9223372036854775807 := by decide
  have ks := loop_count (rd := fBl_r0 ok) (fun k => (ints (natsI (putAll ((fs.map List.length).take k))), encF fs, (k : Int))) fs.length (a := ints (natsI (putAll (fs.map List.length)))) (fun k hk => by
    have ho : ok = true := by
      cases ok with
      | true => rfl
      | false => rw [hok rfl] at hk; exact absurd hk (by simp)
    have hp := s_put (putAll_ok ((fs.map List.length).take k)).1 (fs.getD k []).length (Nat.le_trans (hput _ fun y hy => hb y (List.mem_of_mem_take hy)) (by decide))
    simp only [fBl_r0, fBl_k0, encF_len, lt_dec hk, BEq.rfl, ho, br_true, inRange_nat, decide_eq_true hk, Int.toNat_natCast, lsN_encF, lz_len, hp, bo_some, w64_nat (by omega : k < 9223372036854775807)]
    rw [take1 k hk, putAll_step])
    (by
      have bf : (false == true) = false := rfl
      simp only [fBl_r0, fBl_k0, encF_len, lt_dec_self, bf, br_false]
      rw [List.take_of_length_le (by rw [List.length_map]; exact Nat.le_refl _)]) 0 (Nat.zero_le _)
  have ki := loop_count (rd := fBi_r0 (fs.length : Int)) (fun k => (ints (natsI ((fs.map List.length).take k)), encF fs, (k : Int))) fs.length (a := (ints (natsI (fs.map List.length)), encF fs)) (fun k hk => by
    have hll : decide ((ints (natsI ((fs.map List.length).take k))).length + [Sc.n .i64 (((fs.getD k []).length : Nat) : Int)].length ≤ lim) = true := decide_eq_true (by
      rw [ints_length, natsI_length, List.length_take, List.length_map, List.length_singleton]; omega)
    simp only [fBi_r0, fBi_k0, encF_len, lt_dec hk, br_true, inRange_nat, decide_eq_true hk, Int.toNat_natCast, lsN_encF, lz_len, hll, w64_nat (by omega : k < 9223372036854775807)]
    rw [take1 k hk]
    simp [natsI, ints])
    (by
      simp only [fBi_r0, fBi_k0, encF_len, lt_dec_self, br_false]
      rw [List.take_of_length_le (by rw [List.length_map]; exact Nat.le_refl _)]) 0 (Nat.zero_le _)
  have es : fBr (ints (natsI (fs.map List.length))) = some (ints (sortZ (natsI (fs.map List.length)))) := by
    unfold fBr sortSc
    rw [(nums_ints _).1, (nums_ints _).2, ints_length, natsI_length, List.length_map, decide_eq_true hl]
    rfl
  have ec : fAq (ints (sortZ (natsI (fs.map List.length)))) = some (ints (natsI (putAll (fs.map List.length)))) := by
    unfold fAq compactSc
    rw [(nums_ints _).1, (nums_ints _).2, ints_length, (sortZ_ok _).2.length_eq, natsI_length, List.length_map, decide_eq_true hl, compact_sort]
    rfl
  refine ⟨putAll (fs.map List.length), ?_, ?_, (putAll_ok _).1, hput _ hb, fun y hy => hb y (((putAll_ok _).2 y).1 hy), (putAll_ok _).2⟩
  · unfold fBl fBl_k
    rw [e1, bo_some]
    have k0 : loopL (fBl_r0 ok) ([], encF fs, 0) = some (.one (ints (natsI (putAll (fs.map List.length))))) := ks
    simp only [k0, bl1_one]
  · unfold fBi fBi_k
    rw [e2, bo_some]
    have k0 : loopL (fBi_r0 (fs.length : Int)) ([], encF fs, 0) = some (.one (ints (natsI (fs.map List.length)), encF fs)) := ki
    simp only [encF_len, k0, bl1_one, es, bo_some, ec]
section
variable {R A B S D : Type}
def Le (a b : Option R) : Prop := ∀ r, a = some r → b = some r
theorem Le.no {b : Option R} : Le none b := fun _ h => by cases h
theorem Le.br {t : Bool} {a b a' b' : Option R} (h : Le a a') (h' : Le b b') : Le (Ev.br t a b) (Ev.br t a' b') := by cases t <;> assumption
theorem Le.bo {o o' : Option A} {d : A} {k k' : A → Option R} (h : Le o o') (hk : ∀ a, Le (k a) (k' a)) : Le (Ev.bo o d k) (Ev.bo o' d k') := by
  cases o with
  | none => exact Le.no
  | some x => rw [h x rfl]; exact hk x
end
section
variable {S A B : Type} {rd : S → Option (Ro S A B)}
end
theorem eq_nat_dec (a b : Nat) : ((a : Int) == (b : Int)) = decide (a = b) := by
  rw [Bool.eq_iff_iff]
  simp only [beq_iff_eq, decide_eq_true_eq]
  omega
def negN : List Nat → Nat → Nat
  | [], _ => 0
  | n :: r, x => (n - x % n) % n + n * negN r (x / n)
theorem negN_lt {g : List Nat} (h : ∀ n ∈ g, 2 ≤ n ∧ n ≤ 24) (x : Nat) : negN g x < ordN g := by
  induction g generalizing x with
  | nil => exact Nat.lt_succ_self 0
  | cons n r ih =>
    have hn := h n (by simp)
    have hr := ih (fun m hm => h m (by simp [hm])) (x / n)
    have h1 : (n - x % n) % n < n := Nat.mod_lt _ (by omega)
    show (n - x % n) % n + n * negN r (x / n) < n * ordN r
    have h2 : n * (negN r (x / n) + 1) ≤ n * ordN r := Nat.mul_le_mul_left n hr
    rw [Nat.mul_add] at h2
    omega
theorem neg_round {n x z u : Nat} (hn : 2 ≤ n ∧ n ≤ 24) (hx : x < 4611686018427387904) (hz : z < u) (hu : u * n ≤ 1000000) :
    w64 ((x : Int).tdiv (n : Int)) = ((x / n : Nat) : Int) ∧ w64 ((u : Int) * (n : Int)) = ((u * n : Nat) : Int) ∧
    w64 ((z : Int) + w64 ((w64 ((n : Int) - (x : Int).tmod (n : Int))).tmod (n : Int) * (u : Int))) = ((z + (n - x % n) % n * u : Nat) : Int) ∧ z + (n - x % n) % n * u < u * n := by
  have h1 : x % n < n := Nat.mod_lt _ (by omega)
  have h3 : (n - x % n) % n < n := Nat.mod_lt _ (by omega)
  have h4 : ((n - x % n) % n + 1) * u ≤ n * u := Nat.mul_le_mul_right u h3
  have h5 : n * u = u * n := Nat.mul_comm n u
  have h6 : ((n - x % n) % n + 1) * u = (n - x % n) % n * u + u := by rw [Nat.add_mul, Nat.one_mul]
  have h7 : (n : Int) - ((x % n : Nat) : Int) = ((n - x % n : Nat) : Int) := by omega
  refine ⟨?_, ?_, ?_, ?_⟩
  · rw [tdiv_nat, w64_cast (Nat.lt_of_le_of_lt (Nat.div_le_self x n) (by omega))]
  · rw [← Int.natCast_mul, w64_cast (by omega)]
  · rw [tmod_nat, h7, w64_cast (by omega), tmod_nat, ← Int.natCast_mul, w64_cast (by omega), ← Int.natCast_add, w64_cast (by omega)]
  · omega
theorem s_l2Negate_eq {g : List Nat} (hg : VG g) {x : Nat} (hx : x < 4611686018427387904) : fBw (ints (natsI g)) (x : Int) = some ((negN g x : Nat) : Int) := by
  have key : ∀ (r : List Nat) (k x z u : Nat), g.drop k = r → k ≤ g.length → x < 4611686018427387904 → z < u → u * ordN r ≤ 1000000 →
      loopL (fBw_r0 (ints (natsI g))) ((x : Int), (z : Int), (u : Int), (k : Int)) = some (.one (((z + u * negN r x : Nat)) : Int)) := by
    intro r
    induction r with
    | nil =>
      intro k x z u hd hk hx hz hu
      have := drop_nil hd hk
      subst this
      refine loopL_one ?_
      simp only [fBw_r0, fBw_k0, ints_length, natsI_length, lt_dec_self, br_false, negN, Nat.mul_zero, Nat.add_zero]
    | cons n r ih =>
      intro k x z u hd hk hx hz hu
      obtain ⟨hkl, hn, hd'⟩ := drop_cons hd
      have hne := hg.each n (by rw [← hn]; simp [List.getD, List.getElem?_eq_getElem hkl])
      have hor : 1 ≤ ordN r := ordN_pos fun m hm => hg.each m (by rw [← hd'] at hm; exact List.mem_of_mem_drop hm)
      have hu' : u * n * ordN r ≤ 1000000 := by rw [Nat.mul_assoc]; exact hu
      have hu2 : u * n ≤ 1000000 := Nat.le_trans (Nat.le_mul_of_pos_right _ hor) hu'
      obtain ⟨a1, a3, a4, a5⟩ := neg_round hne hx hz hu2
      have hkl' : k < (natsI g).length := by rw [natsI_length]; exact hkl
      have hat : atI (ints (natsI g)) (k : Int) = (n : Int) := by rw [at_nat, natsI_getD, hn]
      have hn0 : ((n : Int) == 0) = false := beq_eq_false_iff_ne.2 (by omega)
      rw [loopL_again (s' := (((x / n : Nat) : Int), ((z + (n - x % n) % n * u : Nat) : Int), ((u * n : Nat) : Int), ((k + 1 : Nat) : Int))) (by
        have hg3 := hg.len
        simp only [fBw_r0, fBw_k0, ints_length, natsI_length, lt_dec hkl, ok_nat hkl', hat, hn0, br_true, br_false, a1, a3, a4, w64_nat (by omega : k < 9223372036854775807)])]
      rw [ih (k + 1) (x / n) _ (u * n) hd' hkl (Nat.lt_of_le_of_lt (Nat.div_le_self x n) hx) a5 hu']
      congr 3
      simp only [negN, Nat.mul_add, Nat.mul_assoc, Nat.mul_comm u ((n - x % n) % n), Nat.add_assoc]
  have := key g 0 x 0 1 rfl (Nat.zero_le _) hx (by decide) (by have := hg.ord; omega)
  simp only [fBw, fBw_k, ints_length, natsI_length]
  have e0 : ((0 : Nat) : Int) = 0 := rfl
  have e1 : ((1 : Nat) : Int) = 1 := rfl
  rw [e0, e1] at this
  rw [this, bl1_one]
  simp
theorem big {n k : Nat} (h : k < n) (hn : n ≤ 24) : k < 4611686018427387904 := by omega
theorem addN_zero : ∀ (g : List Nat) (y : Nat), (∀ n ∈ g, 2 ≤ n ∧ n ≤ 24) → y < ordN g → addN g 0 y = y
  | [], y, _, h => by
    have : y < 1 := h
    simp only [addN]
    omega
  | n :: r, y, hg, h => by
    have hn := hg n (by simp)
    have h : y < n * ordN r := h
    have h1 : y / n < ordN r := Nat.div_lt_of_lt_mul h
    simp only [addN, Nat.zero_mod, Nat.zero_add, Nat.zero_div, Nat.mod_mod]
    rw [addN_zero r (y / n) (fun m hm => hg m (by simp [hm])) h1]
    exact Nat.mod_add_div y n
theorem pcn_none : ∀ (n b : Nat), b < 2 ^ n → pcn n b = 0 → b = 0
  | 0, b, h, _ => by simpa using h
  | n + 1, b, h, h0 => by
    have h0 : b % 2 + pcn n (b / 2) = 0 := h0
    rw [Nat.pow_succ] at h
    have := pcn_none n (b / 2) (by omega) (by omega)
    omega
theorem addN_cons (n : Nat) (r : List Nat) (x y : Nat) : addN (n :: r) x y = (x % n + y % n) % n + n * addN r (x / n) (y / n) := rfl
theorem addN_mod {n : Nat} (r : List Nat) (x y : Nat) (hn : 2 ≤ n) : addN (n :: r) x y % n = (x % n + y % n) % n := by
  rw [addN_cons, Nat.add_mul_mod_self_left, Nat.mod_mod]
theorem addN_div {n : Nat} (r : List Nat) (x y : Nat) (hn : 2 ≤ n) : addN (n :: r) x y / n = addN r (x / n) (y / n) := by
  rw [addN_cons, Nat.add_mul_div_left _ _ (by omega), Nat.div_eq_of_lt (Nat.mod_lt _ (by omega)), Nat.zero_add]
theorem addN_assoc : ∀ (g : List Nat), (∀ n ∈ g, 2 ≤ n ∧ n ≤ 24) → ∀ x y z, addN g (addN g x y) z = addN g x (addN g y z)
  | [], _, _, _, _ => rfl
  | n :: r, h, x, y, z => by
    have hn := (h n (by simp)).1
    rw [addN_cons n r (addN (n :: r) x y) z, addN_cons n r x (addN (n :: r) y z), addN_mod r x y hn, addN_mod r y z hn, addN_div r x y hn, addN_div r y z hn,
      addN_assoc r (fun m hm => h m (by simp [hm]))]
    congr 1
    simp only [Nat.mod_add_mod, Nat.add_mod_mod, Nat.add_assoc]
def insZ (x : Int) (l : List Int) : List Int := l.takeWhile (fun y => decide (y ≤ x)) ++ x :: l.dropWhile (fun y => decide (y ≤ x))
def insAllZ (l : List Int) : List Int := l.foldl (fun o x => insZ x o) []
theorem insZ_perm (x : Int) (l : List Int) : (insZ x l).Perm (x :: l) := by
  unfold insZ
  refine List.perm_middle.trans (List.Perm.cons x ?_)
  rw [List.takeWhile_append_dropWhile]
theorem insAllZ_perm_aux : ∀ (l o : List Int), (l.foldl (fun o x => insZ x o) o).Perm (o ++ l)
  | [], o => by simp
  | x :: l, o => by
    refine (insAllZ_perm_aux l (insZ x o)).trans ?_
    refine ((insZ_perm x o).append_right l).trans ?_
    exact List.perm_middle.symm
theorem insAllZ_perm (l : List Int) : (insAllZ l).Perm l := insAllZ_perm_aux l []
theorem insZ_sorted {x : Int} : ∀ {l : List Int}, l.Pairwise (· ≤ ·) → (insZ x l).Pairwise (· ≤ ·)
  | [], _ => by simp [insZ]
  | y :: l, h => by
    obtain ⟨h1, h2⟩ := List.pairwise_cons.1 h
    unfold insZ
    by_cases hy : y ≤ x
    · rw [List.takeWhile_cons_of_pos (by simpa using hy), List.dropWhile_cons_of_pos (by simpa using hy), List.cons_append]
      refine List.pairwise_cons.2 ⟨fun z hz => ?_, insZ_sorted h2⟩
      have := (insZ_perm x l).subset hz
      rcases List.mem_cons.1 this with rfl | hz
      · exact hy
      · exact h1 z hz
    · rw [List.takeWhile_cons_of_neg (by simpa using hy), List.dropWhile_cons_of_neg (by simpa using hy), List.nil_append]
      refine List.pairwise_cons.2 ⟨fun z hz => ?_, h⟩
      rcases List.mem_cons.1 hz with rfl | hz
      · omega
      · have := h1 z hz; omega
theorem insAllZ_sorted_aux : ∀ (l o : List Int), o.Pairwise (· ≤ ·) → (l.foldl (fun o x => insZ x o) o).Pairwise (· ≤ ·)
  | [], o, h => h
  | x :: l, o, h => insAllZ_sorted_aux l _ (insZ_sorted h)
theorem insAllZ_sorted (l : List Int) : (insAllZ l).Pairwise (· ≤ ·) := insAllZ_sorted_aux l [] List.Pairwise.nil
theorem insZ_split {x : Int} {l : List Int} (h : l.Pairwise (· ≤ ·)) : ∃ t d, l = t ++ d ∧ insZ x l = t ++ x :: d ∧ (∀ y ∈ t, y ≤ x) ∧ ∀ y ∈ d, x < y := by
  refine ⟨l.takeWhile (fun y => decide (y ≤ x)), l.dropWhile (fun y => decide (y ≤ x)), List.takeWhile_append_dropWhile.symm, rfl, fun y hy => ?_, ?_⟩
  · have := List.all_takeWhile (p := fun y => decide (y ≤ x)) (l := l)
    exact of_decide_eq_true (List.all_eq_true.1 this y hy)
  · induction l with
    | nil => intro y hy; cases hy
    | cons z l ih =>
      obtain ⟨h1, h2⟩ := List.pairwise_cons.1 h
      by_cases hz : z ≤ x
      · rw [List.dropWhile_cons_of_pos (by simpa using hz)]
        exact ih h2
      · rw [List.dropWhile_cons_of_neg (by simpa using hz)]
        intro y hy
        rcases List.mem_cons.1 hy with rfl | hy
        · omega
        · have := h1 y hy; omega
theorem getD_memZ {l : List Int} {k : Nat} (h : k < l.length) : l.getD k 0 ∈ l := by simp [List.getD, List.getElem?_eq_getElem h]
theorem s_sort_step {L l : List Int} {i : Nat} (hi : i < L.length) (hL : L.length ≤ 12) (h : l.Pairwise (· ≤ ·)) (hlen : l.length ≤ 12) : fCf_r0 (ints L) (ints l, (i : Int)) = some (.again (ints (insZ (L.getD i 0) l), ((i + 1 : Nat) : Int))) := by
  obtain ⟨x, hx⟩ : ∃ x, x = L.getD i 0 := ⟨_, rfl⟩
  obtain ⟨t, d, e, ei, ht, hd⟩ := insZ_split (x := x) h
  have hl : l.length = t.length + d.length := by rw [e, List.length_append]
  have hw : ∀ k : Nat, 1 ≤ k → k ≤ l.length → w64 ((k : Int) - 1) = ((k - 1 : Nat) : Int) := fun k h1 h2 => by
    rw [show (k : Int) - 1 = ((k - 1 : Nat) : Int) by omega]
    exact w64_cast (by omega)
  have hxi : atI (ints L) (i : Int) = x := by rw [at_nat, hx]
  have key := loop_count (rd := fCf_r2 (ints L) (ints l) (i : Int)) (fun j => ((l.length - j : Nat) : Int)) d.length (a := ((t.length : Nat) : Int)) (fun j hj => by
    have d0 : decide (((l.length - j : Nat) : Int) > 0) = true := decide_eq_true (by omega)
    have hat : l.getD (l.length - j - 1) 0 ∈ d := by
      rw [e]
      have : (t ++ d).getD ((t ++ d).length - j - 1) 0 = d.getD (d.length - j - 1) 0 := by
        simp only [List.getD, List.length_append]
        rw [List.getElem?_append_right (by omega), show t.length + d.length - j - 1 - t.length = d.length - j - 1 by omega]
      rw [this]
      exact getD_memZ (by omega)
    have dg : decide (l.getD (l.length - j - 1) 0 > x) = true := decide_eq_true (hd _ hat)
    simp only [fCf_r2, fCf_k2, d0, BEq.rfl, br_true, hw (l.length - j) (by omega) (by omega), ok_nat (show l.length - j - 1 < l.length by omega), ok_nat hi, at_nat, ← hx, in_nat (show l.length - j - 1 < l.length by omega), Int.toNat_natCast, kAt_ints, atN_ints, ints_length, dg]
    rw [show l.length - (j + 1) = l.length - j - 1 by omega]) (by
    rw [show l.length - d.length = t.length by omega]
    by_cases h0 : t.length = 0
    · have d0 : decide (((t.length : Nat) : Int) > 0) = false := decide_eq_false (by omega)
      have bf : (false == true) = false := rfl
      simp only [fCf_r2, fCf_k2, d0, bf, br_false]
    · have d0 : decide (((t.length : Nat) : Int) > 0) = true := decide_eq_true (by omega)
      have hat : l.getD (t.length - 1) 0 ∈ t := by
        rw [e]
        have : (t ++ d).getD (t.length - 1) 0 = t.getD (t.length - 1) 0 := by
          simp only [List.getD]
          rw [List.getElem?_append_left (by omega)]
        rw [this]
        exact getD_memZ (by omega)
      have dg : decide (l.getD (t.length - 1) 0 > x) = false := decide_eq_false (by have := ht _ hat; omega)
      simp only [fCf_r2, fCf_k2, d0, BEq.rfl, br_true, hw t.length (by omega) (by omega), ok_nat (show t.length - 1 < l.length by omega), ok_nat hi, at_nat, ← hx, in_nat (show t.length - 1 < l.length by omega), Int.toNat_natCast, kAt_ints, atN_ints, ints_length, dg, br_false]) 0 (Nat.zero_le _)
  simp only [Nat.sub_zero] at key
  have z0 : sliceA (ints l) 0 ((t.length : Nat) : Int) = ints t := by
    rw [e]
    simp [sliceA, ints]
  have z1 : sliceA (ints l) ((t.length : Nat) : Int) (l.length : Int) = ints d := by
    unfold sliceA
    rw [Int.toNat_natCast, Int.toNat_natCast, List.take_of_length_le (by rw [ints_length]; exact Nat.le_refl _), e]
    simp [ints]
  have c1 : (decide (0 ≤ (0 : Int)) && (decide ((0 : Int) ≤ ((t.length : Nat) : Int)) && decide (((t.length : Nat) : Int) ≤ (l.length : Int)))) = true := by
    simp only [Bool.and_eq_true, decide_eq_true_eq]; omega
  have c2 : (decide (0 ≤ ((t.length : Nat) : Int)) && (decide (((t.length : Nat) : Int) ≤ (l.length : Int)) && decide ((l.length : Int) ≤ (l.length : Int)))) = true := by
    simp only [Bool.and_eq_true, decide_eq_true_eq]; omega
  have c3 : decide (([] : List Sc).length + t.length ≤ lim) = true := by
    rw [List.length_nil, Nat.zero_add]
    exact decide_eq_true (Nat.le_trans (show t.length ≤ 12 by omega) (by decide))
  have c4 : decide (t.length + [Sc.n .i64 x].length ≤ lim) = true := by
    rw [List.length_singleton]
    exact decide_eq_true (Nat.le_trans (show t.length + 1 ≤ 13 by omega) (by decide))
  have c5 : decide ((t ++ [x]).length + d.length ≤ lim) = true := by
    rw [List.length_append, List.length_singleton]
    exact decide_eq_true (Nat.le_trans (show t.length + 1 + d.length ≤ 25 by omega) (by decide))
  have fin : t ++ [x] ++ d = insZ x l := by rw [ei, List.append_assoc]; rfl
  simp only [fCf_r0, fCf_k0, ints_length, lt_dec hi, br_true, key, bl1_one, c1, z0, c3, ok_nat hi, hxi, List.nil_append, c4, ints_snoc, c2, z1, c5, ints_append, fin, ← hx, w64_nat (by omega : i < 9223372036854775807)]
theorem s_l16Sort_eq {L : List Int} (hL : L.length ≤ 12) : fCf (ints L) = some (ints (insAllZ L)) := by
  have step : ∀ k, k < L.length → (L.take (k + 1)).foldl (fun o x => insZ x o) [] = insZ (L.getD k 0) ((L.take k).foldl (fun o x => insZ x o) []) := by
    intro k hk
    rw [List.take_succ_eq_append_getElem hk, List.foldl_append]
    simp [List.getD, List.getElem?_eq_getElem hk]
  have key := loop_count (rd := fCf_r0 (ints L)) (fun k => (ints ((L.take k).foldl (fun o x => insZ x o) []), (k : Int))) L.length (a := (ints ((L.take L.length).foldl (fun o x => insZ x o) []), (L.length : Int))) (fun k hk => by
    have hp : ((L.take k).foldl (fun o x => insZ x o) []).Perm (L.take k) := insAllZ_perm (L.take k)
    rw [step k hk]
    exact s_sort_step hk hL (insAllZ_sorted (L.take k)) (by rw [hp.length_eq, List.length_take]; omega)) (by
    simp only [fCf_r0, fCf_k0, ints_length, lt_dec_self, br_false]) 0 (Nat.zero_le _)
  rw [List.take_length] at key
  have key : loopL (fCf_r0 (ints L)) ([], 0) = some (.one (ints (insAllZ L), (L.length : Int))) := key
  simp only [fCf, fCf_k, key, bl1_one]
def totZ (g : List Nat) (L : List Int) : Nat := totN g (L.map Int.toNat)
def hasA (A : List (List Int)) (l : List Int) : Bool := A.any fun a => a.isSublist l
def chkA (g : List Nat) (A : List (List Int)) : Nat → Nat → List Int → Bool
  | 0, _, _ => false
  | n + 1, m, l => (List.range m).all fun (x : Nat) => hasA A ((x : Int) :: l) || (!(totZ g ((x : Int) :: l)).beq 0 && chkA g A n (x + 1) ((x : Int) :: l))
def davD (g : List Nat) : Nat := sumD (outD stepI g.length g.length g)
def atomOk (G : List Int) (g : List Nat) (a : List Int) : Bool :=
  (totZ g a).beq 0 && (a.length.ble (davD g) && (Nat.ble 2 (a.length + a.count 0) && ((a.length + a.count 0).ble (max 2 (davD g)) && fCk_Q 200 (ints G) (ints a) == some true)))
def rowA (x : List Int × List (List Int)) : Bool :=
  let g := x.1.map Int.toNat
  chkD stepI g && ((davD g).ble 7 && (chkA g x.2 8 (ordN g) [] && x.2.all (atomOk x.1 g)))
theorem rowsA : atomsT.all rowA = true := by kernel_rfl
theorem hasA_spec {A : List (List Int)} {l : List Int} (h : hasA A l = true) : ∃ a ∈ A, a.Sublist l := by
  obtain ⟨a, ha, hs⟩ := List.any_eq_true.1 h
  exact ⟨a, ha, List.isSublist_iff_sublist.1 hs⟩
theorem hasA_cons {A : List (List Int)} {l : List Int} (x : Int) (h : hasA A l = true) : hasA A (x :: l) = true := by
  obtain ⟨a, ha, hs⟩ := List.any_eq_true.1 h
  exact List.any_eq_true.2 ⟨a, ha, List.isSublist_iff_sublist.2 ((List.isSublist_iff_sublist.1 hs).cons x)⟩
def topA (N : Nat) : List Int → Nat
  | [] => N
  | x :: _ => x.toNat + 1
theorem chkA_ok {g : List Nat} {A : List (List Int)} {n0 N : Nat} (h0 : chkA g A n0 N [] = true) : ∀ l : List Int, l.Pairwise (· ≤ ·) → InR N l → hasA A l = true ∨ ((∃ n, chkA g A n (topA N l) l = true) ∧ (l ≠ [] → totZ g l ≠ 0))
  | [], _, _ => .inr ⟨⟨n0, h0⟩, fun h => absurd rfl h⟩
  | x :: l, hp, hr => by
    obtain ⟨hx, hp'⟩ := List.pairwise_cons.1 hp
    rcases chkA_ok h0 l hp' hr.tail with h | ⟨⟨n, hn⟩, _⟩
    · exact .inl (hasA_cons x h)
    · cases n with
      | zero => cases hn
      | succ n =>
        obtain ⟨y, rfl, hy⟩ := hr x List.mem_cons_self
        have hm : y < topA N l := by
          cases l with
          | nil => exact hy
          | cons z l =>
            have h1 : (y : Int) ≤ z := hx z List.mem_cons_self
            show y < z.toNat + 1
            omega
        have := List.all_eq_true.1 hn y (List.mem_range.2 hm)
        rcases Bool.or_eq_true _ _ ▸ this with h | h
        · exact .inl h
        · obtain ⟨h1, h2⟩ := Bool.and_eq_true _ _ ▸ h
          refine .inr ⟨⟨n, h2⟩, fun _ hz => ?_⟩
          rw [hz] at h1
          cases h1
theorem totZ_perm {g : List Nat} (hg : ∀ n ∈ g, 2 ≤ n ∧ n ≤ 24) {l l' : List Int} (h : l.Perm l') : totZ g l = totZ g l' := by
  unfold totZ totN
  refine (h.map Int.toNat).foldl_eq' (fun x _ y _ z => ?_) 0
  rw [addN_assoc g hg, addN_assoc g hg, addN_comm g x y]
theorem totZ_app {g : List Nat} {a b : List Int} (h : totZ g a = 0) : totZ g (a ++ b) = totZ g b := by
  unfold totZ totN at *
  rw [List.map_append, List.foldl_append, h]
theorem minL_sub {a L L' : List Int} {b : List Int} (h : minL L b = some L') (hn : minL L a = none) : minL L' a = none := by
  cases he : minL L' a with
  | none => rfl
  | some L2 =>
    obtain ⟨x, _, hx⟩ := minL_none hn
    have h1 := (minL_some h).count_eq x
    have h2 := (minL_some he).count_eq x
    rw [List.count_append] at h1 h2
    omega
theorem minL_of {a L : List Int} (h : ∀ x, a.count x ≤ L.count x) : minL L a ≠ none := fun hn => by
  obtain ⟨x, _, hx⟩ := minL_none hn
  have := h x
  omega
theorem least_nat {P : Nat → Prop} : ∀ n, P n → ∃ m, m ≤ n ∧ P m ∧ ∀ k, k < m → ¬ P k := by
  intro n
  induction n using Nat.strongRecOn with
  | _ n ih =>
    intro h
    by_cases hk : ∃ k, k < n ∧ P k
    · obtain ⟨k, hk, hp⟩ := hk
      obtain ⟨m, h1, h2, h3⟩ := ih k hk hp
      exact ⟨m, by omega, h2, h3⟩
    · exact ⟨n, Nat.le_refl _, h, fun k hlt hp => hk ⟨k, hlt, hp⟩⟩
theorem facS_ne {A : List (List Int)} {P : List Int → Prop} (hpos : ∀ a ∈ A, 1 ≤ a.length) (ex : ∀ L, P L → L ≠ [] → ∃ a ∈ A, minL L a ≠ none) (hP : ∀ L a L', P L → a ∈ A → minL L a = some L' → P L') : ∀ (n : Nat) (L : List Int) (i : Nat), L.length < n → P L → (∀ k, k < i → minL L (A.getD k []) = none) → facS A n L i ≠ []
  | 0, L, i, h, _, _ => by omega
  | n + 1, L, i, h, hL, hi => by
    rw [facS_succ]
    by_cases h0 : L.length = 0
    · rw [if_pos h0]; simp
    · rw [if_neg h0]
      obtain ⟨a, ha, hm⟩ := ex L hL fun hh => h0 (by rw [hh]; rfl)
      obtain ⟨k, hk, rfl⟩ := List.getElem_of_mem ha
      obtain ⟨j, hjk, hj, hl⟩ := least_nat (P := fun j => minL L (A.getD j []) ≠ none) k (by rw [show A.getD k [] = A[k] by simp [List.getD, hk]]; exact hm)
      have hj' : j < A.length := by omega
      have hij : i ≤ j := Classical.byContradiction fun hh => hj (hi j (by omega))
      cases he : minL L (A.getD j []) with
      | none => exact absurd he hj
      | some L' =>
        have hp := hpos _ (getD_mem (d := []) hj')
        have hlen := minL_len he
        have ih := facS_ne hpos ex hP n L' j (by omega) (hP L _ L' hL (getD_mem hj') he) (fun k hk => minL_sub he (Classical.byContradiction fun hh => hl k hk hh))
        intro hnil
        rw [List.flatMap_eq_nil_iff] at hnil
        have := hnil j (List.mem_range'_1.2 ⟨hij, by omega⟩)
        unfold facG at this
        rw [he] at this
        exact ih (List.map_eq_nil_iff.1 this)
theorem facS_perm {A : List (List Int)} : ∀ {n : Nat} {L : List Int} {i : Nat} {f : List (List Int)}, f ∈ facS A n L i → f.flatten.Perm L ∧ ∀ a ∈ f, a ∈ A
  | 0, _, _, _, h => by simp [facS] at h
  | n + 1, L, i, f, h => by
    rw [facS_succ] at h
    split at h
    · rename_i h0
      simp only [List.mem_singleton] at h; subst h
      rw [List.eq_nil_of_length_eq_zero h0]
      exact ⟨List.Perm.refl _, fun a ha => by cases ha⟩
    · obtain ⟨j, hj, hf⟩ := List.mem_flatMap.1 h
      obtain ⟨h1, h2⟩ := List.mem_range'_1.1 hj
      unfold facG at hf
      split at hf
      · rename_i L' he
        obtain ⟨f', hf', rfl⟩ := List.mem_map.1 hf
        obtain ⟨p1, p2⟩ := facS_perm hf'
        refine ⟨?_, fun a ha => ?_⟩
        · rw [List.flatten_cons]
          exact (p1.append_left _).trans (minL_some he)
        · rcases List.mem_cons.1 ha with rfl | ha
          · exact getD_mem (by omega)
          · exact p2 a ha
      · cases hf
theorem weigh {m : Nat} : ∀ {f : List (List Int)}, (∀ a ∈ f, 2 ≤ a.length + a.count 0 ∧ a.length + a.count 0 ≤ m) → 2 * f.length ≤ f.flatten.length + f.flatten.count 0 ∧ f.flatten.length + f.flatten.count 0 ≤ m * f.length
  | [], _ => by simp
  | a :: f, h => by
    have h1 := h a List.mem_cons_self
    have h2 := weigh (f := f) fun b hb => h b (List.mem_cons_of_mem _ hb)
    have e : m * (f.length + 1) = m * f.length + m := Nat.mul_succ _ _
    rw [List.flatten_cons, List.length_append, List.count_append, List.length_cons]
    omega
theorem atoms_facts {G : List Int} (h : smallG G = true) : ∃ (g : List Nat) (D : Nat), G = natsI g ∧ VG g ∧ D ≤ 7 ∧ fAg (ints G) = some (D : Int) ∧
    (∀ a ∈ atomsG G, totZ g a = 0 ∧ a.length ≤ D ∧ 2 ≤ a.length + a.count 0 ∧ a.length + a.count 0 ≤ max 2 D ∧ fCk (ints G) (ints a) = some true) ∧
    ∀ L, InR (ordN g) L → L ≠ [] → totZ g L = 0 → ∃ a ∈ atomsG G, minL L a ≠ none := by
  have hrow := List.all_eq_true.1 rowsA _ (atomsG_row h)
  have hg : isG G = true := by unfold smallG at h; exact (Bool.and_eq_true _ _ ▸ h).1
  obtain ⟨g, rfl, v⟩ := nat_of_isG hg
  have eg : (natsI g).map Int.toNat = g := by
    unfold natsI
    rw [List.map_map]
    conv => rhs; rw [← List.map_id g]
    exact List.map_congr_left fun x _ => by simp
  simp only [rowA, eg, Bool.and_eq_true, List.all_eq_true, atomOk, Nat.ble_eq, Nat.beq_eq, beq_iff_eq] at hrow
  obtain ⟨h1, h2, h3, h4⟩ := hrow
  refine ⟨g, davD g, rfl, v, h2, i_DavenportBound_eq v h1, fun a ha => ?_, fun L hL h0 hz => ?_⟩
  · obtain ⟨a1, a2, a3, a4, a5⟩ := h4 a ha
    exact ⟨a1, a2, a3, a4, (fCk_le 200 _ _).of _ a5⟩
  · have hp := insAllZ_perm L
    rcases chkA_ok h3 (insAllZ L) (insAllZ_sorted L) (fun x hx => hL x (hp.mem_iff.1 hx)) with hh | ⟨_, hh⟩
    · obtain ⟨a, ha, hs⟩ := hasA_spec hh
      exact ⟨a, ha, minL_of fun x => by have := hs.count_le x; rwa [hp.count_eq x] at this⟩
    · refine absurd ((totZ_perm v.each hp).trans hz) (hh fun hn => h0 ?_)
      rw [hn] at hp
      exact hp.symm.eq_nil
section
variable {α : Type} (enc : α → List Sc) (sz : α → Nat) (mk : Nat → α → α)
def encL (Z : List α) : List Sc := Z.map fun a => .l (enc a)
def szL : List α → Nat
  | [] => 0
  | a :: Z => sz a + szL Z
theorem encL_len (Z : List α) : (encL enc Z).length = Z.length := by simp [encL]
theorem encL_at {Z : List α} {i : Nat} (h : i < Z.length) : lsN (encL enc Z) i = enc Z[i] := by
  unfold lsN encL
  simp [List.getD, h, lstOf]
theorem encL_atI {Z : List α} {i : Nat} (h : i < Z.length) : lsI (encL enc Z) (i : Int) = enc Z[i] := by
  have := encL_at enc h
  unfold lsN at this
  unfold lsI
  rw [Int.toNat_natCast]
  exact this
theorem eq_loop {V : List Sc} {rd : Int → Option (Ro Int Unit Unit)} {f : List Sc → List Sc → Option Bool}
    (hrd : ∀ i, rd i = br (decide (i < (V.length : Int))) (br (inRange i V.length) (br (inRange i V.length) (bo (f (lsI V i) (lsI V i)) false fun r1 => br (!r1) (some (.two ())) (some (.again (w64 (i + 1))))) none) none) (some (.one ())))
    (Z : List α) (hV : V = encL enc Z) (hZ : Z.length < 9223372036854775807) (hf : ∀ a ∈ Z, f (enc a) (enc a) = some true) : loopL rd 0 = some (.one ()) := by
  have hVl : V.length = Z.length := by rw [hV, encL_len]
  have key := loop_count (rd := rd) (fun i => (i : Int)) Z.length (a := ()) (fun i hi => by
    have e2 : lsI V (i : Int) = enc Z[i] := by rw [hV, encL_atI enc hi]
    rw [hrd, hVl, lt_dec hi, br_true, inRange_nat, decide_eq_true hi, br_true, br_true, e2, hf _ (List.getElem_mem hi), bo_some, Bool.not_true, br_false, w64_nat (by omega)])
    (by rw [hrd, hVl, lt_dec_self, br_false]) 0 (Nat.zero_le _)
  exact key
end
def szZ (Z : List (List Int)) : Nat := szL List.length Z
theorem atomsG_sz : atomsT.all (fun x => decide (szZ x.2 ≤ 1000) && x.2.all fun a => decide (a.length ≤ 7)) = true := by kernel_rfl
theorem atomsA_sz (G : List Int) : szZ (atomsA G) ≤ 1000 ∧ ∀ a ∈ atomsA G, a.length ≤ 7 := by
  unfold atomsA atomsG
  split
  · split
    · rename_i x hx
      have := List.all_eq_true.1 atomsG_sz x (List.mem_of_find?_eq_some hx)
      simp only [Bool.and_eq_true, decide_eq_true_eq, List.all_eq_true] at this
      exact this
    · exact ⟨Nat.zero_le _, fun a ha => by cases ha⟩
  · exact ⟨Nat.zero_le _, fun a ha => by cases ha⟩
theorem okZ_bytes {x0 : List Int} {i : Int} (h0 : 0 ≤ i) (h : i < (x0.length : Int)) : okZ (.n .u8 0) (bytesL x0) i = true := by
  obtain ⟨k, rfl⟩ : ∃ k : Nat, i = k := ⟨i.toNat, by omega⟩
  have hk : k < x0.length := by omega
  have h1 : (bytesL x0).getD k (.n .u8 0) = .n .u8 (x0[k]) := by simp [bytesL, List.getD, hk]
  unfold okZ inRange
  rw [Int.toNat_natCast, h1]
  simp [bytesL, hk, sameKind]
theorem bytesL_len (x0 : List Int) : (bytesL x0).length = x0.length := by simp [bytesL]
theorem and255 (a : Int) : 0 ≤ and64 a 255 ∧ and64 a 255 ≤ 255 := by
  have e : (BitVec.ofInt 64 (255 : Int)).toNat = 255 := by decide
  have : (BitVec.ofInt 64 a &&& BitVec.ofInt 64 255).toNat = (BitVec.ofInt 64 a).toNat &&& 255 := by rw [BitVec.toNat_and, e]
  have e2 : and64 a 255 = w64 (((BitVec.ofInt 64 a).toNat &&& 255 : Nat) : Int) := by
    show IntKind.i64.wrap ((BitVec.ofInt 64 a &&& BitVec.ofInt 64 255).toNat : Int) = _
    rw [this]; rfl
  have hle : (BitVec.ofInt 64 a).toNat &&& 255 ≤ 255 := Nat.and_le_right
  rw [e2, w64_in (by omega) (by omega)]
  omega
structure Cur (x0 : List Int) (c : List Sc × Int × Int) : Prop where
  row : c.1 = bytesL x0
  low : 0 ≤ c.2.1
  len : x0.length ≤ 1048576
theorem l1New_ok {x0 : List Int} (hx : x0.length ≤ 1048576) : ∃ c, fCq (bytesL x0) = some c ∧ Cur x0 c := by
  let h0 : Int := w64 (10101 + ((bytesL x0).length : Int))
  let hk : Nat → Int := fun k => Nat.rec h0 (fun k h => and64 (w64 ((w64 ((w64 (h * 131)) + (w64 (sAt (bytesL x0) .u8 (k : Int))))) + 7)) 1073741823) k
  have key := loop_count (rd := fCq_r0 (bytesL x0)) (fun k => (hk k, (k : Int))) (min x0.length 4000) (a := hk (min x0.length 4000)) (fun k hk' => by
    have h1 : k < x0.length := by omega
    have h2 : decide ((k : Int) < ((bytesL x0).length : Int)) = true := by rw [bytesL_len]; exact lt_dec h1
    have h3 : decide ((k : Int) < 4000) = true := decide_eq_true (by omega)
    have h4 := okZ_bytes (x0 := x0) (i := (k : Int)) (by omega) (by omega)
    simp only [fCq_r0, fCq_k0, h2, h3, h4, br_true, BEq.rfl, w64_nat (show k < 9223372036854775807 by omega)]
    rfl) (by
    simp only [fCq_r0, fCq_k0]
    by_cases h : x0.length ≤ 4000
    · have h2 : decide (((min x0.length 4000 : Nat) : Int) < ((bytesL x0).length : Int)) = false := by rw [bytesL_len]; exact decide_eq_false (by omega)
      simp only [h2, br_false, show (false == true) = false from rfl]
    · have h2 : decide (((min x0.length 4000 : Nat) : Int) < ((bytesL x0).length : Int)) = true := by rw [bytesL_len]; exact decide_eq_true (by omega)
      have h3 : decide (((min x0.length 4000 : Nat) : Int) < 4000) = false := decide_eq_false (by omega)
      simp only [h2, h3, br_false, br_true, BEq.rfl]) 0 (Nat.zero_le _)
  refine ⟨(bytesL x0, 0, hk (min x0.length 4000)), ?_, rfl, by simp, hx⟩
  have key' : loopL (fCq_r0 (bytesL x0)) (w64 (10101 + ((bytesL x0).length : Int)), 0) = some (.one (hk (min x0.length 4000))) := key
  simp only [fCq, fCq_k, key', bl1_one]
theorem l1Byte_ok {x0 : List Int} {c : List Sc × Int × Int} (hc : Cur x0 c) : ∃ r c', fBo c.1 c.2.1 c.2.2 = some (r, c') ∧ Cur x0 c' ∧ 0 ≤ r ∧ r ≤ 255 := by
  obtain ⟨b, i, h⟩ := c
  obtain ⟨e, hl, hx⟩ := hc
  dsimp only at e hl ⊢
  subst e
  simp only [fBo, fBo_k]
  by_cases hi : i < (x0.length : Int)
  · have h2 : decide (i < ((bytesL x0).length : Int)) = true := by rw [bytesL_len]; exact decide_eq_true hi
    simp only [h2, okZ_bytes hl hi, br_true]
    refine ⟨_, _, rfl, ⟨rfl, ?_, hx⟩, and255 _⟩
    show 0 ≤ w64 (i + 1)
    rw [w64_in (by omega) (by omega)]
    omega
  · have h2 : decide (i < ((bytesL x0).length : Int)) = false := by rw [bytesL_len]; exact decide_eq_false hi
    simp only [h2, br_false]
    exact ⟨_, _, rfl, ⟨rfl, hl, hx⟩, and255 _⟩
theorem tmod_range {a n : Int} (ha : 0 ≤ a) (hn : 0 < n) : 0 ≤ a.tmod n ∧ a.tmod n < n := ⟨Int.tmod_nonneg n ha, Int.tmod_lt_of_pos a hn⟩
theorem l1Below_ok {x0 : List Int} {c : List Sc × Int × Int} (hc : Cur x0 c) (n : Int) (hn : n ≤ 256) : ∃ r c', fBd n c.1 c.2.1 c.2.2 = some (r, c') ∧ Cur x0 c' ∧ 0 ≤ r ∧ (0 < n → r < n) ∧ (n ≤ 0 → r = 0) := by
  simp only [fBd, fBd_k]
  by_cases h0 : n ≤ 0
  · rw [decide_eq_true h0]
    exact ⟨0, c, rfl, hc, by omega, fun h => h, fun _ => rfl⟩
  · obtain ⟨r, c', e, h', hr⟩ := l1Byte_ok hc
    have hz : (n == 0) = false := beq_eq_false_iff_ne.2 (by omega)
    simp only [decide_eq_false h0, decide_eq_true hn, br_true, br_false, e, bo_some, hz]
    have := tmod_range hr.1 (show 0 < n by omega)
    exact ⟨_, _, rfl, h', this.1, fun _ => this.2, fun h => absurd h h0⟩
theorem l1Once_ok {x0 : List Int} {c : List Sc × Int × Int} (hc : Cur x0 c) (n : Int) (hn : n ≤ 256) : ∃ r c', fBp n c.1 c.2.1 c.2.2 = some (r, c') ∧ Cur x0 c' := by
  obtain ⟨r, c', e, h', _⟩ := l1Below_ok hc n hn
  simp only [fBp, fBp_k, e, bo_some]
  exact ⟨_, _, rfl, h'⟩
theorem l1PickInt_ok {x0 : List Int} {c : List Sc × Int × Int} (hc : Cur x0 c) (L : List Int) (h1 : 0 < L.length) (h2 : L.length ≤ 256) : ∃ k c', fAp (ints L) c.1 c.2.1 c.2.2 = some (L.getD k 0, c') ∧ Cur x0 c' ∧ k < L.length := by
  obtain ⟨r, c', e, h', h0, hr, _⟩ := l1Below_ok hc (L.length : Int) (by omega)
  obtain ⟨k, rfl⟩ : ∃ k : Nat, r = k := ⟨r.toNat, by omega⟩
  have hk : k < L.length := by have := hr (by omega); omega
  simp only [fAp, fAp_k, ints_length, e, bo_some, ok_nat hk, br_true, at_nat]
  exact ⟨k, _, rfl, h', hk⟩
def drawT : List (List Int) := [[], [2], [3], [4], [5], [6], [7], [8], [9], [10], [11], [12], [2, 2], [2, 4], [3, 3], [2, 6], [2, 2, 2], [13], [16], [4, 4], [2, 2, 3], [2, 3], [24]]
theorem drawT_lit : ([Sc.l [], Sc.l [(Sc.n .i64 2)], Sc.l [(Sc.n .i64 3)], Sc.l [(Sc.n .i64 4)], Sc.l [(Sc.n .i64 5)], Sc.l [(Sc.n .i64 6)], Sc.l [(Sc.n .i64 7)], Sc.l [(Sc.n .i64 8)], Sc.l [(Sc.n .i64 9)], Sc.l [(Sc.n .i64 10)], Sc.l [(Sc.n .i64 11)], Sc.l [(Sc.n .i64 12)], Sc.l [(Sc.n .i64 2), (Sc.n .i64 2)], Sc.l [(Sc.n .i64 2), (Sc.n .i64 4)], Sc.l [(Sc.n .i64 3), (Sc.n .i64 3)], Sc.l [(Sc.n .i64 2), (Sc.n .i64 6)], Sc.l [(Sc.n .i64 2), (Sc.n .i64 2), (Sc.n .i64 2)], Sc.l [(Sc.n .i64 13)], Sc.l [(Sc.n .i64 16)], Sc.l [(Sc.n .i64 4), (Sc.n .i64 4)], Sc.l [(Sc.n .i64 2), (Sc.n .i64 2), (Sc.n .i64 3)], Sc.l [(Sc.n .i64 2), (Sc.n .i64 3)], Sc.l [(Sc.n .i64 24)]] : List Sc) = lz drawT := rfl
theorem drawT_at {k : Nat} (h : k < 23) : lsN (lz drawT) k = ints (drawT.getD k []) ∧ (drawT.getD k []).length ≤ 3 := by
  have : ∀ k : Fin 23, (drawT.getD k.1 []).length ≤ 3 := by decide
  refine ⟨?_, this ⟨k, h⟩⟩
  have hk : k < drawT.length := h
  unfold lsN lz
  simp [List.getD, hk, lstOf]
theorem drawT_ok : drawT.all (fun G => isG G) = true := by kernel_rfl
theorem l2Draw_ok {x0 : List Int} {c : List Sc × Int × Int} (hc : Cur x0 c) (most : Int) : ∃ G c', fBq most c.1 c.2.1 c.2.2 = some (ints G, c') ∧ Cur x0 c' ∧ (G ∈ drawT ∧ (prodW G ≤ most ∨ G = [5]) ∧ G.length ≤ 3) := by
  simp only [fBq, fBq_k, drawT_lit]
  obtain ⟨r, c', e, h', h0, hr, _⟩ := l1Below_ok hc ((lz drawT).length : Int) (by decide)
  have hlen : (lz drawT).length = 23 := rfl
  obtain ⟨k, rfl⟩ : ∃ k : Nat, r = k := ⟨r.toNat, by omega⟩
  have hk : k < 23 := by have := hr (by rw [hlen]; decide); rw [hlen] at this; omega
  have hin : inRange (k : Int) (lz drawT).length = true := by rw [hlen, inRange_nat]; simpa using hk
  obtain ⟨eG, hG⟩ := drawT_at hk
  obtain ⟨G, hGe⟩ : ∃ G, drawT.getD k [] = G := ⟨_, rfl⟩
  rw [hGe] at eG hG
  have hmem : G ∈ drawT := by
    rw [← hGe]
    have : k < drawT.length := hk
    rw [List.getD_eq_getElem?_getD, List.getElem?_eq_getElem this]
    exact List.getElem_mem this
  have hlim : G.length ≤ lim := Nat.le_trans hG (by decide)
  simp only [e, bo_some, hin, br_true, Int.toNat_natCast, eG]
  have key := loop_count (rd := fBq_r0 most (ints G)) (fun i => (c'.1, c'.2.1, c'.2.2, [], (G.take i).foldl (fun n o => w64 (n * o)) 1, (i : Int))) G.length (a := (c'.1, c'.2.1, c'.2.2, [], prodW G)) (fun i hi => by
    have e2 : (G.take (i + 1)).foldl (fun n o => w64 (n * o)) 1 = w64 ((G.take i).foldl (fun n o => w64 (n * o)) 1 * G.getD i 0) := by
      rw [List.take_succ_eq_append_getElem hi, List.foldl_append]
      simp [List.getD, List.getElem?_eq_getElem hi]
    simp only [fBq_r0, fBq_k0, ints_length, lt_dec hi, ok_nat hi, at_nat, br_true, w64_nat (show i < 9223372036854775807 by omega), e2]) (by
    simp only [fBq_r0, fBq_k0, ints_length, lt_dec_self, br_false, List.take_length, prodW]) 0 (Nat.zero_le _)
  have key' : loopL (fBq_r0 most (ints G)) (c'.1, c'.2.1, c'.2.2, [], 1, 0) = some (.one (c'.1, c'.2.1, c'.2.2, [], prodW G)) := key
  simp only [key', bl1_one]
  by_cases hm : prodW G > most
  · rw [decide_eq_true hm]
    exact ⟨[5], _, rfl, ⟨h'.row, h'.low, h'.len⟩, by decide, .inr rfl, by decide⟩
  · have hl : decide (([] : List Sc).length + (ints G).length ≤ lim) = true := decide_eq_true (by rw [ints_length]; simpa using hlim)
    simp only [decide_eq_false hm, br_false, hl, br_true, List.nil_append]
    exact ⟨G, _, rfl, ⟨h'.row, h'.low, h'.len⟩, hmem, .inl (by omega), hG⟩
theorem l2Any_ok {x0 : List Int} {c : List Sc × Int × Int} (hc : Cur x0 c) : ∃ G c', fBv c.1 c.2.1 c.2.2 = some (ints G, c') ∧ Cur x0 c' ∧ G.length ≤ 4 := by
  obtain ⟨G, c1, e1, h1, _, _, hG⟩ := l2Draw_ok hc 24
  obtain ⟨r, c2, e2, h2, _⟩ := l1Below_ok h1 16 (by decide)
  have e3 := l1PickInt_ok h2 [0, 1, -1, 25, 9223372036854775807] (by decide) (by decide)
  obtain ⟨k, c3, e3, h3, _⟩ := e3
  have e3' : fAp [(Sc.n .i64 0), (Sc.n .i64 1), (Sc.n .i64 (-1)), (Sc.n .i64 25), (Sc.n .i64 9223372036854775807)] c2.1 c2.2.1 c2.2.2 = _ := e3
  simp only [fBv, fBv_k, e1, bo_some, e2, e3']
  cases (r == 0) with
  | true => exact ⟨[_], _, rfl, ⟨h3.row, h3.low, h3.len⟩, by rw [List.length_singleton]; decide⟩
  | false =>
    cases (r == 1) with
    | true => exact ⟨[2, 2, 2, 2], _, rfl, ⟨h2.row, h2.low, h2.len⟩, by decide⟩
    | false =>
      cases (r == 2) with
      | true => exact ⟨[5, 5], _, rfl, ⟨h2.row, h2.low, h2.len⟩, by decide⟩
      | false => exact ⟨G, _, rfl, ⟨h2.row, h2.low, h2.len⟩, by omega⟩
theorem loop_ex {S A B : Type} {rd : S → Option (Ro S A B)} (P : Nat → S → Prop) (Q : A → Prop) (step : ∀ n s, P (n + 1) s → ∃ s', rd s = some (.again s') ∧ P n s')
    (last : ∀ s, P 0 s → ∃ a, rd s = some (.one a) ∧ Q a) : ∀ n s, P n s → ∃ a, loopL rd s = some (.one a) ∧ Q a
  | 0, s, h => by
    obtain ⟨a, e, q⟩ := last s h
    exact ⟨a, loopL_one e, q⟩
  | n + 1, s, h => by
    obtain ⟨s', e, h'⟩ := step n s h
    obtain ⟨a, e2, q⟩ := loop_ex P Q step last n s' h'
    exact ⟨a, by rw [loopL_again e, e2], q⟩
theorem l19Draw_ok {x0 : List Int} (hx : x0.length ≤ 1048576) : ∃ G L, fCg (bytesL x0) = some (ints G, ints L) ∧ G.length ≤ 4 ∧ L.length ≤ 12 ∧ L.Pairwise (· ≤ ·) := by
  obtain ⟨c, e0, h0⟩ := l1New_ok hx
  obtain ⟨G, c1, e1, h1, hG, _, hGl⟩ := l2Draw_ok h0 7
  have hgG : isG G = true := List.all_eq_true.1 drawT_ok G hG
  obtain ⟨g, rfl, v⟩ := nat_of_isG hgG
  have hord := v.ord
  have hpos := ordN_pos v.each
  have hpw : prodW (natsI g) = (ordN g : Nat) := prodW_nat g v.len v.each
  obtain ⟨n, c2, e2, h2, hn0, hn1, _⟩ := l1Below_ok h1 6 (by decide)
  obtain ⟨n, rfl⟩ : ∃ k : Nat, n = k := ⟨n.toNat, by omega⟩
  have hn : n ≤ 5 := by have := hn1 (by decide); omega
  have hll : ∀ (l : List Nat) (x : Int), l.length ≤ 12 → decide ((ints (natsI l)).length + [Sc.n .i64 x].length ≤ lim) = true := fun l x hl => decide_eq_true (by rw [ints_length, natsI_length, List.length_singleton]; exact Nat.le_trans (show l.length + 1 ≤ 13 by omega) (by decide))
  have happ : ∀ (l : List Nat) (x : Nat), ints (natsI l) ++ [Sc.n .i64 (x : Int)] = ints (natsI (l ++ [x])) := fun l x => by simp [ints, natsI]
  have key := loop_ex (rd := fCg_r0 (ordN g : Nat)) (fun n s => ∃ (d : List Sc × Int × Int) (l : List Nat), s = ([], ints (natsI g), d.1, d.2.1, d.2.2, ints (natsI l), (n : Int)) ∧ Cur x0 d ∧ (∀ x ∈ l, x < ordN g) ∧ l.length + 2 * n ≤ 10)
    (fun a => ∃ (d : List Sc × Int × Int) (l : List Nat), a = ([], ints (natsI g), d.1, d.2.1, d.2.2, ints (natsI l)) ∧ Cur x0 d ∧ (∀ x ∈ l, x < ordN g) ∧ l.length ≤ 10) (fun n s hs => by
      obtain ⟨d, l, rfl, hd, hl, hlen⟩ := hs
      obtain ⟨r, d1, f1, g1, hr0, hr1, _⟩ := l1Below_ok hd (ordN g : Nat) (by omega)
      obtain ⟨x, rfl⟩ : ∃ k : Nat, r = k := ⟨r.toNat, by omega⟩
      have hx1 : x < ordN g := by have := hr1 (by omega); omega
      obtain ⟨b, d2, f2, g2⟩ := l1Once_ok g1 2 (by decide)
      have hpos : decide (((n + 1 : Nat) : Int) > 0) = true := decide_eq_true (by omega)
      have hw : w64 (((n + 1 : Nat) : Int) - 1) = (n : Int) := by rw [show ((n + 1 : Nat) : Int) - 1 = (n : Int) by omega]; exact w64_cast (by omega)
      have hneg := s_l2Negate_eq v (show x < 4611686018427387904 by omega)
      have hnl : negN g x < ordN g := negN_lt v.each x
      have hl1 : ∀ y ∈ l ++ [x], y < ordN g := fun y hy => by
        rcases List.mem_append.1 hy with h | h
        · exact hl y h
        · rw [List.mem_singleton.1 h]; exact hx1
      have hl2 : ∀ y ∈ (l ++ [x]) ++ [negN g x], y < ordN g := fun y hy => by
        rcases List.mem_append.1 hy with h | h
        · exact hl1 y h
        · rw [List.mem_singleton.1 h]; exact hnl
      simp only [fCg_r0, fCg_k0, hpos, br_true, f1, bo_some, hll l x (by omega), f2, happ, hneg, hll (l ++ [x]) (negN g x) (by rw [List.length_append, List.length_singleton]; omega), hw]
      have big : ∃ s', some (Ro.again (([] : List Sc), ints (natsI g), d2.1, d2.2.1, d2.2.2, ints (natsI (l ++ [x])), (n : Int))) = some (Ro.again (A := List Sc × List Sc × List Sc × Int × Int × List Sc) (B := Unit) s') ∧ ∃ (d : List Sc × Int × Int) (l : List Nat), s' = ([], ints (natsI g), d.1, d.2.1, d.2.2, ints (natsI l), (n : Int)) ∧ Cur x0 d ∧ (∀ x ∈ l, x < ordN g) ∧ l.length + 2 * n ≤ 10 :=
        ⟨_, rfl, d2, l ++ [x], rfl, g2, hl1, by rw [List.length_append, List.length_singleton]; omega⟩
      cases b with
      | false => exact big
      | true =>
        simp only [BEq.rfl, br_true]
        cases decide (((ints (natsI (l ++ [x]))).length : Int) < 7) with
        | false => exact big
        | true => exact ⟨_, rfl, d2, (l ++ [x]) ++ [negN g x], rfl, g2, hl2, by simp only [List.length_append, List.length_singleton]; omega⟩)
    (fun s hs => by
      obtain ⟨d, l, rfl, hd, hl, hlen⟩ := hs
      have hpos : decide (((0 : Nat) : Int) > 0) = false := by decide
      simp only [fCg_r0, fCg_k0, hpos, br_false]
      exact ⟨_, rfl, d, l, rfl, hd, hl, by omega⟩) n ([], ints (natsI g), c2.1, c2.2.1, c2.2.2, ints (natsI []), (n : Int)) ⟨c2, [], rfl, h2, fun x hx => (by cases hx), (by simp; omega)⟩
  obtain ⟨a, ek, d, l, rfl, hd, hl, hlen⟩ := key
  have ek' : loopL (fCg_r0 (ordN g : Nat)) ([], ints (natsI g), c2.1, c2.2.1, c2.2.2, [], (n : Int)) = _ := ek
  have hsum := s_l16Sum_eq v hl (Nat.le_trans hlen (by decide))
  have htl := totN_lt v (l := l)
  have hneg := s_l2Negate_eq v (show totN g l < 4611686018427387904 by omega)
  obtain ⟨r, d1, f1, g1, _⟩ := l1Below_ok hd 12 (by decide)
  obtain ⟨k, d2, f2, g2, _⟩ := l1PickInt_ok g1 [-1, 0, 1, 24] (by decide) (by decide)
  have f2' : fAp [(Sc.n .i64 (-1)), (Sc.n .i64 0), (Sc.n .i64 1), (Sc.n .i64 24)] d1.1 d1.2.1 d1.2.2 = _ := f2
  obtain ⟨G2, d3, f3, g3, hG2⟩ := l2Any_ok g1
  generalize hM : natsI (l ++ [negN g (totN g l)]) = M
  have hMl : M.length ≤ 11 := by rw [← hM, natsI_length, List.length_append, List.length_singleton]; omega
  have hM0 : 0 < M.length := by rw [← hM, natsI_length, List.length_append, List.length_singleton]; omega
  have hin : inRange 0 (ints M).length = true := by rw [ints_length, show (0 : Int) = ((0 : Nat) : Int) from rfl, inRange_nat]; exact decide_eq_true hM0
  have hset : ∀ y : Int, (ints M).set (0 : Int).toNat (Sc.n .i64 y) = ints (M.set 0 y) := fun y => by
    unfold ints
    rw [List.map_set]
    rfl
  have done : ∀ (H : List Int) (N : List Int), H.length ≤ 4 → N.length ≤ 12 → ∃ G L, some (ints H, ints (insAllZ N)) = some (ints G, ints L) ∧ G.length ≤ 4 ∧ L.length ≤ 12 ∧ L.Pairwise (· ≤ ·) := fun H N hH hN => ⟨H, insAllZ N, rfl, hH, by rw [(insAllZ_perm N).length_eq]; exact hN, insAllZ_sorted N⟩
  have hgl4 : (natsI g).length ≤ 4 := by have := hGl; omega
  have hso : ∀ y : Int, fCf (ints (M.set 0 y)) = some (ints (insAllZ (M.set 0 y))) := fun y => s_l16Sort_eq (by rw [List.length_set]; omega)
  have hGlim : (natsI g).length ≤ lim := Nat.le_trans hgl4 (by decide)
  simp only [fCg, fCg_k, e0, bo_some, e1, s_l2Order_eq _ hGlim, hpw, e2, ek', bl1_one, hsum, hneg, hll l (negN g (totN g l)) (by omega), br_true, f1, happ, hM, f2', f3, hin, hset, s_l16Sort_eq (L := M) (by omega), hso]
  cases (r == 0) with
  | true => exact done _ _ hgl4 (by rw [List.length_set]; omega)
  | false =>
    cases (r == 1) with
    | true => exact done _ _ hG2 (by omega)
    | false => exact done _ _ hgl4 (by omega)
theorem DrawAtomsOf_ok {x0 : List Int} (hx : x0.length ≤ 1048576) : ∃ G, fAt (bytesL x0) = some (ints G) ∧ G.length ≤ 4 := by
  obtain ⟨c, e0, h0⟩ := l1New_ok hx
  obtain ⟨b, c1, e1, h1⟩ := l1Once_ok h0 8 (by decide)
  obtain ⟨G, c2, e2, _, hG⟩ := l2Any_ok h1
  obtain ⟨G', c3, e3, _, _, _, hG'⟩ := l2Draw_ok h1 6
  simp only [fAt, fAt_k, e0, bo_some, e1, e2, e3]
  cases b with
  | true => exact ⟨G, rfl, hG⟩
  | false => exact ⟨G', rfl, by omega⟩
theorem DrawFactorizationsOf_ok {x0 : List Int} (hx : x0.length ≤ 1048576) : ∃ G L, fAa (bytesL x0) = some (ints G, ints L) ∧ G.length ≤ 4 ∧ L.length ≤ 12 ∧ L.Pairwise (· ≤ ·) := by
  obtain ⟨G, L, e, h⟩ := l19Draw_ok hx
  simp only [fAa, fAa_k, e, bo_some]
  exact ⟨G, L, rfl, h⟩
theorem DrawIsZeroSum_ok {x0 : List Int} (hx : x0.length ≤ 1048576) : ∃ G L, fAi (bytesL x0) = some (ints G, ints L) ∧ G.length ≤ 4 ∧ L.length ≤ 12 := by
  obtain ⟨G, L, e, h1, h2, _⟩ := l19Draw_ok hx
  simp only [fAi, fAi_k, e, bo_some]
  exact ⟨G, L, rfl, h1, h2⟩
theorem DrawCountAtoms_ok {x0 : List Int} (hx : x0.length ≤ 1048576) : ∃ G n, fAh (bytesL x0) = some (ints G, n) ∧ G.length ≤ 4 := by
  obtain ⟨c, e0, h0⟩ := l1New_ok hx
  obtain ⟨G, c1, e1, h1, _, _, hG⟩ := l2Draw_ok h0 7
  obtain ⟨r, c2, e2, _⟩ := l1Below_ok h1 9 (by decide)
  simp only [fAh, fAh_k, fAh_g3, fAh_g3_k, e0, bo_some, e1, e2]
  exact ⟨G, _, rfl, by omega⟩
theorem atomsT_pos : atomsT.all (fun x => decide (0 < x.2.length) && x.2.all fun a => decide (a.length ≤ 7)) = true := by kernel_rfl
theorem atomsA_pos {G : List Int} (h : smallG G = true) : 0 < (atomsA G).length ∧ ∀ a ∈ atomsA G, a.length ≤ 7 := by
  have hin := small_in h
  unfold atomsA
  rw [if_pos h]
  unfold atomsG
  cases hf : atomsT.find? (fun x => decide (x.1 = G)) with
  | some x =>
    have := List.all_eq_true.1 atomsT_pos x (List.mem_of_find?_eq_some hf)
    simp only [Bool.and_eq_true, decide_eq_true_eq, List.all_eq_true] at this
    exact this
  | none =>
    rw [List.find?_eq_none] at hf
    obtain ⟨x, hx, rfl⟩ := List.mem_map.1 hin
    exact absurd (hf x hx) (by simp)
theorem DrawIsAtom_ok {x0 : List Int} (hx : x0.length ≤ 1048576) : ∃ G L, fAy (bytesL x0) = some (ints G, ints L) ∧ G.length ≤ 4 ∧ L.length ≤ 12 := by
  obtain ⟨G, L, e, h1, h2, _⟩ := l19Draw_ok hx
  simp only [fAy, fAy_k, e, bo_some, s_AtomsOf_eq G (Nat.le_trans h1 (by decide))]
  cases hs : smallG G with
  | false => exact ⟨G, L, rfl, h1, h2⟩
  | true =>
    simp only [BEq.rfl, br_true]
    cases (((bytesL x0).length : Int).tmod 2 == 0) with
    | false => exact ⟨G, L, rfl, h1, h2⟩
    | true =>
      obtain ⟨hp, ha⟩ := atomsA_pos hs
      generalize atomsA G = Z at hp ha
      have hz : (((lz Z).length : Int) == 0) = false := beq_eq_false_iff_ne.2 (by rw [lz_len]; omega)
      have hr := tmod_range (a := ((bytesL x0).length : Int)) (n := ((lz Z).length : Int)) (by omega) (by rw [lz_len]; omega)
      obtain ⟨k, hk⟩ : ∃ k : Nat, ((bytesL x0).length : Int).tmod ((lz Z).length : Int) = k := ⟨(((bytesL x0).length : Int).tmod ((lz Z).length : Int)).toNat, by omega⟩
      rw [hk] at hr
      have hkl : k < Z.length := by have := hr.2; rw [lz_len] at this; omega
      have hin : inRange (k : Int) (lz Z).length = true := by rw [lz_len, inRange_nat]; exact decide_eq_true hkl
      have hat : lsI (lz Z) (k : Int) = ints Z[k] := by
        unfold lsI lz
        simp [List.getD, hkl, lstOf]
      simp only [fAy_g4, fAy_g4_k, hz, br_false, hk, hin, br_true, hat, bo_some]
      exact ⟨G, Z[k], rfl, h1, Nat.le_trans (ha _ (List.getElem_mem hkl)) (by decide)⟩
def subN (l : List Nat) (c n : Nat) : List Nat := ((List.range n).filter fun i => c.testBit i).map fun i => l.getD i 0
theorem subN_natsI (l : List Nat) (c n : Nat) : subL (natsI l) c n = natsI (subN l c n) := by
  unfold subL subN
  rw [show natsI (((List.range n).filter fun i => c.testBit i).map fun i => l.getD i 0) = (((List.range n).filter fun i => c.testBit i).map fun i => l.getD i 0).map (fun (x : Nat) => (x : Int)) from rfl, List.map_map]
  exact List.map_congr_left fun i _ => natsI_getD l i
theorem subN_each {g l : List Nat} (v : VS g l) (c : Nat) : ∀ x ∈ subN l c l.length, x < ordN g := by
  intro x hx
  obtain ⟨i, hi, rfl⟩ := List.mem_map.1 hx
  exact v.at (List.mem_range.1 (List.mem_filter.1 hi).1)
theorem subN_length (l : List Nat) (c n : Nat) : (subN l c n).length ≤ n := by
  unfold subN
  rw [List.length_map]
  exact Nat.le_trans (List.length_filter_le _ _) (by simp)
theorem zero_dec (n : Nat) : ((n : Int) == 0) = decide (n = 0) := eq_nat_dec n 0
theorem code_lt {n c : Nat} (hn : n ≤ 12) (hc : c < 2 ^ n) : c < 4096 := Nat.lt_of_lt_of_le hc (Nat.pow_le_pow_right (by decide) hn)
theorem subN_succ (l : List Nat) (c n : Nat) : subN l c (n + 1) = if c.testBit n then subN l c n ++ [l.getD n 0] else subN l c n := by
  unfold subN
  rw [List.range_succ, List.filter_append]
  cases h : c.testBit n <;> simp [h]
theorem subN_add (l : List Nat) (c n : Nat) : subN l (2 ^ n + c) n = subN l c n := by
  unfold subN
  congr 1
  refine List.filter_congr fun i hi => ?_
  exact Nat.testBit_two_pow_add_gt (List.mem_range.1 hi) c
theorem totN_snoc (g l : List Nat) (x : Nat) : totN g (l ++ [x]) = addN g (totN g l) x := by
  unfold totN
  rw [List.foldl_append]
  rfl
theorem subsN_snoc (g l : List Nat) (x : Nat) : subsN g (l ++ [x]) = subF g (subsN g l) x := by
  unfold subsN
  rw [List.foldl_append]
  rfl
theorem subsN_lt {g : List Nat} (v : VG g) : ∀ (l : List Nat) (o : Nat), o < 2 ^ ordN g → (∀ x ∈ l, x < ordN g) → l.foldl (subF g) o < 2 ^ ordN g
  | [], o, ho, _ => ho
  | x :: l, o, ho, h => subsN_lt v l (subF g o x) (subF_lt v ho (h x (by simp))) fun y hy => h y (by simp [hy])
theorem subN_pop (l : List Nat) {c : Nat} (h : c < 2 ^ l.length) (hn : l.length ≤ 63) : (subN l c l.length).length = popN c := by
  unfold subN popN
  rw [List.length_map, filter_len, pcn_smallM l.length 63 c h hn]
theorem sub_erase {α : Type} {s l : List α} (h : s.Sublist l) : s.length < l.length → ∃ i, i < l.length ∧ s.Sublist (l.take i ++ l.drop (i + 1)) := by
  induction h with
  | slnil => intro h; exact absurd h (by simp)
  | @cons s l a h ih => intro _; exact ⟨0, by simp, by simpa using h⟩
  | @cons_cons s l a h ih =>
    intro hl
    obtain ⟨i, hi, hs⟩ := ih (by simpa using hl)
    exact ⟨i + 1, by simpa using hi, by simpa using hs⟩
theorem erase_sub {α : Type} (l : List α) (i : Nat) : (l.take i ++ l.drop (i + 1)).Sublist l := by
  have := List.Sublist.append (List.Sublist.refl (l.take i)) (List.drop_sublist 1 (l.drop i))
  rw [List.take_append_drop, List.drop_drop] at this
  rwa [Nat.add_comm] at this ⊢
theorem erase_len {α : Type} (l : List α) (i : Nat) (h : i < l.length) : (l.take i ++ l.drop (i + 1)).length + 1 = l.length := by
  rw [List.length_append, List.length_take, List.length_drop]
  omega
theorem pcn_full : ∀ (n c : Nat), c < 2 ^ n → (pcn n c = n ↔ c + 1 = 2 ^ n)
  | 0, c, h => by simp at h; subst h; simp [pcn]
  | n + 1, c, h => by
    have h1 := pcn_full n (c / 2) (by rw [Nat.pow_succ] at h; omega)
    have h2 := pcn_le n (c / 2)
    simp only [pcn, Nat.pow_succ] at *
    omega
theorem subs_sub {g : List Nat} (v : VG g) : ∀ (l : List Nat), (∀ x ∈ l, x < ordN g) → ∀ z, ((subsN g l).testBit z = true ↔ ∃ s, s.Sublist l ∧ s ≠ [] ∧ totN g s = z) := by
  intro l
  refine rev_ind (P := fun l => (∀ x ∈ l, x < ordN g) → ∀ z, ((subsN g l).testBit z = true ↔ ∃ s, s.Sublist l ∧ s ≠ [] ∧ totN g s = z)) ?_ ?_ l
  · intro _ z
    constructor
    · intro h; exact absurd h (by simp [subsN])
    · rintro ⟨s, hs, hn, _⟩
      exact absurd (List.sublist_nil.1 hs) hn
  · intro l x ih hl z
    have hl' : ∀ y ∈ l, y < ordN g := fun y hy => hl y (by simp [hy])
    have hx : x < ordN g := hl x (by simp)
    have hlt : subsN g l < 2 ^ ordN g := subsN_lt v l 0 (Nat.two_pow_pos _) hl'
    rw [subsN_snoc]
    unfold subF
    rw [Nat.testBit_or, Nat.testBit_or, Bool.or_eq_true, Bool.or_eq_true, shiftN_test, List.any_eq_true, pow_test, ih hl' z]
    constructor
    · rintro ((⟨s, h1, h2, h3⟩ | ⟨y, hy, hz⟩) | hz)
      · exact ⟨s, h1.trans (List.sublist_append_left _ _), h2, h3⟩
      · rw [mem_elems (set_i64 v hlt)] at hy
        obtain ⟨s, h1, h2, h3⟩ := (ih hl' y).1 hy
        refine ⟨s ++ [x], h1.append (List.Sublist.refl _), by simp, ?_⟩
        rw [totN_snoc, h3, addN_comm]
        exact of_decide_eq_true hz
      · refine ⟨[x], List.sublist_append_right _ _, by simp, ?_⟩
        have : totN g [x] = addN g 0 x := rfl
        rw [this, addN_zero g x v.each hx]
        exact of_decide_eq_true hz
    · rintro ⟨s, h1, h2, h3⟩
      obtain ⟨a, b, rfl, ha, hb⟩ := List.sublist_append_iff.1 h1
      have hb' : b = [] ∨ b = [x] := by
        cases hb with
        | cons _ h => exact .inl (List.sublist_nil.1 h)
        | cons_cons _ h => exact .inr (by rw [List.sublist_nil.1 h])
      rcases hb' with rfl | rfl
      · rw [List.append_nil] at h2 h3
        exact .inl (.inl ⟨a, ha, h2, h3⟩)
      · by_cases he : a = []
        · subst he
          refine .inr (decide_eq_true ?_)
          rw [← h3]
          show x = addN g 0 x
          rw [addN_zero g x v.each hx]
        · refine .inl (.inr ⟨totN g a, (mem_elems (set_i64 v hlt)).2 ((ih hl' _).2 ⟨a, ha, he, rfl⟩), decide_eq_true ?_⟩)
          rw [← h3, totN_snoc, addN_comm]
theorem subN_take (l : List Nat) (c : Nat) : ∀ n, n ≤ l.length → (subN l c n).Sublist (l.take n)
  | 0, _ => by simp [subN]
  | n + 1, h => by
    have ih := subN_take l c n (by omega)
    rw [subN_succ, take_snoc l (by omega)]
    split
    · exact ih.append (List.Sublist.refl _)
    · exact ih.trans (List.sublist_append_left _ _)
theorem subN_sub (l : List Nat) (c : Nat) : (subN l c l.length).Sublist l := by
  have := subN_take l c l.length (Nat.le_refl _)
  rwa [List.take_length] at this
theorem sub_take (l : List Nat) : ∀ n, n ≤ l.length → ∀ s, s.Sublist (l.take n) → ∃ c, c < 2 ^ n ∧ subN l c n = s
  | 0, _, s, h => ⟨0, by simp, by rw [List.take_zero] at h; rw [List.sublist_nil.1 h]; simp [subN]⟩
  | n + 1, hn, s, h => by
    rw [take_snoc l (by omega)] at h
    obtain ⟨a, b, rfl, ha, hb⟩ := List.sublist_append_iff.1 h
    obtain ⟨c, hc, he⟩ := sub_take l n (by omega) a ha
    have hb' : b = [] ∨ b = [l.getD n 0] := by
      cases hb with
      | cons _ h => exact .inl (List.sublist_nil.1 h)
      | cons_cons _ h => exact .inr (by rw [List.sublist_nil.1 h])
    rcases hb' with rfl | rfl
    · refine ⟨c, by rw [Nat.pow_succ]; omega, ?_⟩
      rw [subN_succ, if_neg (by rw [Nat.testBit_lt_two_pow hc]; simp), he, List.append_nil]
    · refine ⟨2 ^ n + c, by rw [Nat.pow_succ]; omega, ?_⟩
      rw [subN_succ, if_pos (by rw [Nat.testBit_two_pow_add_eq, Nat.testBit_lt_two_pow hc]; rfl), subN_add, he]
theorem sub_code (l s : List Nat) (h : s.Sublist l) : ∃ c, c < 2 ^ l.length ∧ subN l c l.length = s := sub_take l l.length (Nat.le_refl _) s (by rwa [List.take_length])
def lackA (g l : List Nat) : Bool := (List.range l.length).any fun i => (subsN g (l.take i ++ l.drop (i + 1))).testBit 0
def lackB (g l : List Nat) : Bool := (List.range (2 ^ l.length - 2)).any fun j => decide (totN g (subN l (j + 1) l.length) = 0)
theorem lack_iff {g l : List Nat} (v : VG g) (hl : ∀ x ∈ l, x < ordN g) : lackA g l = true ↔ ∃ s, s.Sublist l ∧ s ≠ [] ∧ s.length < l.length ∧ totN g s = 0 := by
  unfold lackA
  rw [List.any_eq_true]
  constructor
  · rintro ⟨i, hi, hb⟩
    have hi := List.mem_range.1 hi
    have hsub := erase_sub l i
    obtain ⟨s, h1, h2, h3⟩ := (subs_sub v _ (fun x hx => hl x (hsub.subset hx)) 0).1 hb
    refine ⟨s, h1.trans hsub, h2, ?_, h3⟩
    have := h1.length_le
    have := erase_len l i hi
    omega
  · rintro ⟨s, h1, h2, h3, h4⟩
    obtain ⟨i, hi, hs⟩ := sub_erase h1 h3
    have hsub := erase_sub l i
    exact ⟨i, List.mem_range.2 hi, (subs_sub v _ (fun x hx => hl x (hsub.subset hx)) 0).2 ⟨s, hs, h2, h4⟩⟩
theorem lack_same {g l : List Nat} (v : VS g l) : lackA g l = lackB g l := by
  have hlen := v.len
  rw [Bool.eq_iff_iff, lack_iff v.grp v.each]
  unfold lackB
  rw [List.any_eq_true]
  have hpop : ∀ c, c < 2 ^ l.length → (subN l c l.length).length = pcn l.length c := fun c hc => by
    rw [subN_pop l hc (by omega)]
    exact pcn_small l.length 63 c hc (by omega)
  constructor
  · rintro ⟨s, h1, h2, h3, h4⟩
    obtain ⟨c, hc, rfl⟩ := sub_code l s h1
    have hp := hpop c hc
    have hc0 : c ≠ 0 := by
      rintro rfl
      exact h2 (List.length_eq_zero_iff.1 (by rw [hp, pcn_zero]))
    have hc1 : c + 1 ≠ 2 ^ l.length := fun e => by
      have := (pcn_full _ _ hc).2 e
      omega
    exact ⟨c - 1, List.mem_range.2 (by omega), decide_eq_true (by rw [show c - 1 + 1 = c by omega]; exact h4)⟩
  · rintro ⟨j, hj, hz⟩
    have hj := List.mem_range.1 hj
    have hc : j + 1 < 2 ^ l.length := by omega
    have hp := hpop (j + 1) hc
    refine ⟨subN l (j + 1) l.length, subN_sub l (j + 1), fun e => ?_, ?_, of_decide_eq_true hz⟩
    · rw [e, List.length_nil] at hp
      have := pcn_none _ _ hc hp.symm
      omega
    · have h1 := pcn_le l.length (j + 1)
      have h2 : pcn l.length (j + 1) ≠ l.length := fun e => by
        have := (pcn_full _ _ hc).1 e
        omega
      omega
theorem slice_nat (l : List Nat) (a b : Nat) : sliceA (ints (natsI l)) (a : Int) (b : Int) = ints (natsI ((l.take b).drop a)) := by
  simp only [sliceA, ints, natsI, Int.toNat_natCast, List.map_take, List.map_drop]
theorem ints_natsI_app (l m : List Nat) : ints (natsI l) ++ ints (natsI m) = ints (natsI (l ++ m)) := by
  simp only [ints, natsI, List.map_append]
theorem s_minimal_eq {g l : List Nat} (v : VS g l) : fBc (ints (natsI g)) (ints (natsI l)) = some (!lackA g l) := by
  have hlen := v.len
  have key := loop_any (rd := fBc_r0 (ints (natsI l)) (ints (natsI g))) (fun k => (k : Int)) l.length (fun i => (subsN g (l.take i ++ l.drop (i + 1))).testBit 0) (a := ()) (b := ()) (fun k hk => by
      have hsub := erase_sub l k
      have hE := s_l16Subsums_eq v.grp (l := l.take k ++ l.drop (k + 1)) (fun x hx => v.each x (hsub.subset hx)) (Nat.le_trans hsub.length_le v.lim)
      have c1 : (decide (0 ≤ (0 : Int)) && (decide ((0 : Int) ≤ (k : Int)) && decide ((k : Int) ≤ (l.length : Int)))) = true := by simp; omega
      have c2 : (decide (0 ≤ ((k + 1 : Nat) : Int)) && (decide (((k + 1 : Nat) : Int) ≤ (l.length : Int)) && decide ((l.length : Int) ≤ (l.length : Int)))) = true := by simp; omega
      have z0 : sliceA (ints (natsI l)) 0 (k : Int) = ints (natsI (l.take k)) := by
        have := slice_nat l 0 k
        rwa [List.drop_zero] at this
      have z1 : sliceA (ints (natsI l)) ((k + 1 : Nat) : Int) (l.length : Int) = ints (natsI (l.drop (k + 1))) := by
        have := slice_nat l (k + 1) l.length
        rwa [List.take_length] at this
      have c3 : decide (([] : List Sc).length + (l.take k).length ≤ lim) = true := by
        simp only [List.length_nil, Nat.zero_add, List.length_take]
        exact decide_eq_true (Nat.le_trans (show min k l.length ≤ 12 by omega) (by decide))
      have c4 : decide ((l.take k).length + (l.drop (k + 1)).length ≤ lim) = true := by
        simp only [List.length_take, List.length_drop]
        exact decide_eq_true (Nat.le_trans (show min k l.length + (l.length - (k + 1)) ≤ 24 by omega) (by decide))
      simp only [fBc_r0, fBc_k0, ints_length, natsI_length, lt_dec hk, br_true, c1, w64_nat (by omega : k < 9223372036854775807), c2, z0, z1, c3, List.nil_append, c4, ints_natsI_app, hE.1, bo_some, bit_test0 (set_i64 v.grp hE.2)]
      cases (subsN g (l.take k ++ l.drop (k + 1))).testBit 0 <;> rfl) (by
      simp only [fBc_r0, fBc_k0, ints_length, natsI_length, lt_dec_self, br_false])
  have key : loopL (fBc_r0 (ints (natsI l)) (ints (natsI g))) 0 = if lackA g l then some (.two ()) else some (.one ()) := key
  simp only [fBc, fBc_k, key]
  cases lackA g l <;> rfl
theorem IsZeroSum_cond (G L : List Int) (h : G.length ≤ lim) (hL : L.length ≤ lim) : ∃ r, fBk (ints G) (ints L) = some r ∧ fBh (ints G) (ints L) = some r ∧ (r = true → isSeq G L = true) := by
  simp only [fBk, fBk_k, fBh, fBh_k, s_IsSequence_eq G L h hL, i_IsSequence_eq G L h hL, bo_some]
  cases hs : isSeq G L with
  | false => exact ⟨_, rfl, rfl, fun h => by cases h⟩
  | true =>
    obtain ⟨g, l, rfl, rfl, v⟩ := nat_of_isSeq hs
    simp only [s_l16Sum_eq v.grp v.each v.lim, i_total_eq v.grp v.each v.lim, bo_some]
    exact ⟨_, rfl, rfl, fun _ => trivial⟩
theorem IsAtom_both (G L : List Int) (h : G.length ≤ lim) (hL : L.length ≤ lim) : ∃ r, fCn (ints G) (ints L) = some r ∧ fCk (ints G) (ints L) = some r := by
  obtain ⟨r, e1, e2, hr⟩ := IsZeroSum_cond G L h hL
  simp only [fCn, fCn_k, fCk, fCk_k, e1, e2, bo_some]
  cases r with
  | false => exact ⟨_, rfl, rfl⟩
  | true =>
    obtain ⟨g, l, rfl, rfl, v⟩ := nat_of_isSeq (hr rfl)
    have hlen := v.len
    simp only [ints_length, natsI_length]
    by_cases h0 : l.length = 0
    · rw [h0]; exact ⟨_, rfl, rfl⟩
    · have d0 : ((l.length : Int) == 0) = false := by
        have : ¬ ((l.length : Int) = 0) := by omega
        simpa using this
      have d1 : decide ((l.length : Int) > 0) = true := decide_eq_true (by omega)
      have e3 : w64 ((l.length : Int) - 1) = ((l.length - 1 : Nat) : Int) := by rw [show (l.length : Int) - 1 = ((l.length - 1 : Nat) : Int) by omega]; exact w64_cast (by omega)
      have hsub : (l.take (l.length - 1)).Sublist l := List.take_sublist _ _
      have hE := s_l16Subsums_eq v.grp (l := l.take (l.length - 1)) (fun x hx => v.each x (hsub.subset hx)) (Nat.le_trans hsub.length_le v.lim)
      have z0 : sliceA (ints (natsI l)) 0 ((l.length - 1 : Nat) : Int) = ints (natsI (l.take (l.length - 1))) := by
        have := slice_nat l 0 (l.length - 1)
        rwa [List.drop_zero] at this
      have c1 : (decide (0 ≤ (0 : Int)) && (decide ((0 : Int) ≤ ((l.length - 1 : Nat) : Int)) && decide (((l.length - 1 : Nat) : Int) ≤ (l.length : Int)))) = true := by simp
      obtain ⟨m, hm⟩ : ∃ m, 2 ^ l.length = m + 2 := ⟨2 ^ l.length - 2, by
        have : 2 ^ 1 ≤ 2 ^ l.length := Nat.pow_le_pow_right (by decide) (by omega)
        omega⟩
      have e9 : w64 (shl64 1 (l.length : Int) - 1) = ((m + 1 : Nat) : Int) := by
        rw [shl1_nat (by omega), hm, show ((m + 2 : Nat) : Int) - 1 = ((m + 1 : Nat) : Int) by omega]
        exact w64_cast (by have := code_lt hlen (show m + 1 < 2 ^ l.length by omega); omega)
      have key : loopL (fCk_r0 (ints (natsI l)) (ints (natsI g))) ((0 + 1 : Nat) : Int) = if (List.range m).any (fun j => decide (totN g (subN l (j + 1) l.length) = 0)) then some (.two ()) else some (.one ()) := by
        refine loop_any (rd := fCk_r0 (ints (natsI l)) (ints (natsI g))) (fun j => ((j + 1 : Nat) : Int)) m (fun j => decide (totN g (subN l (j + 1) l.length) = 0)) (fun j hj => ?_) ?_
        · have hc : j + 1 < 2 ^ l.length := by omega
          have hc2 := code_lt hlen hc
          have hp := i_part_eq (L := natsI l) (c := j + 1) (by rw [natsI_length]; exact hlen) (by omega)
          rw [natsI_length, subN_natsI] at hp
          have hj' : decide (((j + 1 : Nat) : Int) < ((m + 1 : Nat) : Int)) = true := decide_eq_true (by omega)
          simp only [fCk_r0, fCk_k0, ints_length, natsI_length, neg_dec, br_false, e9, hj', br_true, hp, bo_some, i_total_eq v.grp (subN_each v (j + 1)) (Nat.le_trans (subN_length _ _ _) v.lim), zero_dec, w64_nat (by omega : j + 1 < 9223372036854775807)]
          cases decide (totN g (subN l (j + 1) l.length) = 0) <;> rfl
        · simp only [fCk_r0, fCk_k0, ints_length, natsI_length, neg_dec, br_false, e9, lt_dec_self]
      have hB : lackB g l = (List.range m).any (fun j => decide (totN g (subN l (j + 1) l.length) = 0)) := by
        unfold lackB
        rw [hm, Nat.add_sub_cancel]
      rw [← hB, ← lack_same v, show ((0 + 1 : Nat) : Int) = 1 from rfl] at key
      simp only [d0, d1, e3, c1, z0, br_true, br_false, hE.1, bo_some, and_one_zero (set_i64 v.grp hE.2), s_minimal_eq v, key]
      cases hb : (subsN g (l.take (l.length - 1))).testBit 0 with
      | false => cases lackA g l <;> exact ⟨_, rfl, rfl⟩
      | true =>
        have : lackA g l = true := by
          rw [lack_iff v.grp v.each]
          obtain ⟨s, h1, h2, h3⟩ := (subs_sub v.grp _ (fun x hx => v.each x (hsub.subset hx)) 0).1 hb
          refine ⟨s, h1.trans hsub, h2, ?_, h3⟩
          have := h1.length_le
          rw [List.length_take] at this
          omega
        rw [this]
        exact ⟨_, rfl, rfl⟩
theorem Elasticity_of {G L : List Int} {n : List Nat} (e1 : fBl (ints G) (ints L) = some (ints (natsI n))) (e2 : fBi (ints G) (ints L) = some (ints (natsI n))) (hp : n.Pairwise (· < ·)) (hn : n.length ≤ 14) (hb : ∀ y ∈ n, y < 14) :
    ∃ r t : Nat, fAn (ints G) (ints L) = some ((r : Int), (t : Int)) ∧ fAl (ints G) (ints L) = some ((r : Int), (t : Int)) ∧ r < 14 ∧ t < 14 ∧ (0 < t → t ≤ r ∧ ∃ c a b, 1 ≤ c ∧ a ∈ n ∧ b ∈ n ∧ a = t * c ∧ b = r * c) := by
  unfold fAn fAn_k fAl fAl_k
  rw [e1, e2, bo_some, bo_some]
  have hlen : (ints (natsI n)).length = n.length := by rw [ints_length, natsI_length]
  have zd : ∀ m : Nat, ((m : Int) == 0) = decide (m = 0) := fun m => eq_nat_decM m 0
  rw [hlen, zd n.length]
  by_cases h0 : n.length = 0
  · rw [decide_eq_true h0]; exact ⟨0, 0, rfl, rfl, by omega, by omega, fun h => absurd h (by omega)⟩
  · rw [decide_eq_false h0, BEq.rfl, br_true, br_true]
    have hz : 0 < n.length := by omega
    have hw : w64 ((n.length : Int) - 1) = ((n.length - 1 : Nat) : Int) := by
      rw [show (n.length : Int) - 1 = ((n.length - 1 : Nat) : Int) by omega]
      exact w64_cast (by omega)
    have o0 : okAt (ints (natsI n)) 0 = true := ok_natsI hz
    have a0 : atI (ints (natsI n)) 0 = ((n.getD 0 0 : Nat) : Int) := at_natsI n 0
    have k0 : kAt (ints (natsI n)) (0 : Int).toNat = true := kAt_ints _ _
    have t0 : atN (ints (natsI n)) (0 : Int).toNat = ((n.getD 0 0 : Nat) : Int) := atN_natsI n 0
    have r0 : inRange 0 n.length = true := by rw [show (0 : Int) = ((0 : Nat) : Int) from rfl, inRange_nat]; exact decide_eq_true hz
    have r1 : inRange ((n.length - 1 : Nat) : Int) n.length = true := by rw [inRange_nat]; exact decide_eq_true (by omega)
    have o1 : okAt (ints (natsI n)) ((n.length - 1 : Nat) : Int) = true := ok_natsI (by omega)
    have ma : n.getD 0 0 ∈ n := getD_memN hz
    have mb : n.getD (n.length - 1) 0 ∈ n := getD_memN (by omega)
    have hab : n.getD 0 0 ≤ n.getD (n.length - 1) 0 := by
      by_cases h1 : n.length = 1
      · rw [h1]; exact Nat.le_refl _
      · have := List.pairwise_iff_getElem.1 hp 0 (n.length - 1) hz (by omega) (by omega)
        rw [show n.getD 0 0 = n[0] by simp [List.getD, hz], show n.getD (n.length - 1) 0 = n[n.length - 1] by simp [List.getD, show n.length - 1 < n.length by omega]]
        omega
    rw [o0, br_true, a0, r0, br_true, k0, br_true, t0, zd (n.getD 0 0)]
    generalize n.getD 0 0 = a at ma hab
    by_cases ha : a = 0
    · rw [decide_eq_true ha]; exact ⟨0, 0, rfl, rfl, by omega, by omega, fun h => absurd h (by omega)⟩
    · rw [decide_eq_false ha]
      simp only [br_false, hw, o1, br_true, at_natsI, r1, Int.toNat_natCast, kAt_ints, atN_natsI]
      generalize n.getD (n.length - 1) 0 = b at mb hab
      have h1 := hb a ma
      have h2 := hb b mb
      have hg : 0 < Nat.gcd b a := Nat.gcd_pos_of_pos_right _ (by omega)
      have hg' : (((Nat.gcd b a : Nat) : Int) == 0) = false := by
        have : ¬ ((Nat.gcd b a : Nat) : Int) = 0 := by omega
        simpa using this
      have q1 : b / Nat.gcd b a ≤ b := Nat.div_le_self _ _
      have q2 : a / Nat.gcd b a ≤ a := Nat.div_le_self _ _
      have d1 : b / Nat.gcd b a * Nat.gcd b a = b := Nat.div_mul_cancel (Nat.gcd_dvd_left b a)
      have d2 : a / Nat.gcd b a * Nat.gcd b a = a := Nat.div_mul_cancel (Nat.gcd_dvd_right b a)
      have w1 : w64 ((b : Int).tdiv ((Nat.gcd b a : Nat) : Int)) = ((b / Nat.gcd b a : Nat) : Int) := by rw [tdiv_nat]; exact w64_cast (by omega)
      have w2 : w64 ((a : Int).tdiv ((Nat.gcd b a : Nat) : Int)) = ((a / Nat.gcd b a : Nat) : Int) := by rw [tdiv_nat]; exact w64_cast (by omega)
      simp only [s_l11Divisor_eq, i_gcd_eq, fCl, fCl_k, bo_some, hg', br_false, w1, w2]
      exact ⟨_, _, rfl, rfl, by omega, by omega, fun _ => ⟨Nat.div_le_div_right hab, Nat.gcd b a, a, b, hg, ma, mb, d2.symm, d1.symm⟩⟩
structure Facts (G L : List Int) (fs : List (List (List Int))) (ok : Bool) (n : List Nat) (r t D : Nat) : Prop where
  s1 : fAf (ints G) (ints L) = some (encF fs, ok)
  i1 : fAe (ints G) (ints L) = some (encF fs, ok)
  ne : ok = true → fs ≠ []
  len : fs.length ≤ 7 ^ 12
  each : ∀ f ∈ fs, f.length ≤ 13
  small : ∀ f ∈ fs, ∀ a ∈ f, a.length ≤ 7
  perm : ∀ f ∈ fs, f.flatten.Perm L
  seq : fs ≠ [] → isSeq G L = true
  s2 : fBl (ints G) (ints L) = some (ints (natsI n))
  i2 : fBi (ints G) (ints L) = some (ints (natsI n))
  nlen : n.length ≤ 14
  mem : ∀ f ∈ fs, f.length ∈ n
  s3 : fAn (ints G) (ints L) = some ((r : Int), (t : Int))
  i3 : fAl (ints G) (ints L) = some ((r : Int), (t : Int))
  rt : r < 14 ∧ t < 14
  el : 0 < t → t ≤ r ∧ D ≤ 7 ∧ fAg (ints G) = some (D : Int) ∧ 2 * r ≤ max 2 D * t
theorem natsI_toNat (l : List Nat) : (natsI l).map Int.toNat = l := by
  unfold natsI
  rw [List.map_map]
  conv => rhs; rw [← List.map_id l]
  exact List.map_congr_left fun x _ => by simp
theorem facts (G L : List Int) (h : G.length ≤ lim) (hL : L.length ≤ lim) : ∃ fs ok n r t D, Facts G L fs ok n r t D := by
  obtain ⟨fs, ok, s1, i1, hok, hlen, each, small, hfs⟩ := Factorizations_both3 G L h hL
  obtain ⟨n, s2, i2, np, nl, nb, nm⟩ := Lengths_of s1 i1 hok hlen each
  obtain ⟨r, t, s3, i3, rb, tb, rt⟩ := Elasticity_of s2 i2 np nl nb
  have mem : ∀ f ∈ fs, f.length ∈ n := fun f hf => (nm _).2 (List.mem_map.2 ⟨f, hf, rfl⟩)
  cases ok with
  | false =>
    have e := hok rfl
    subst e
    have hn : n = [] := List.eq_nil_iff_forall_not_mem.2 fun y hy => by
      have := (nm y).1 hy
      cases this
    refine ⟨[], false, n, r, t, 0, s1, i1, fun hh => (by cases hh), hlen, each, small, fun f hf => (by cases hf), fun hh => absurd rfl hh, s2, i2, nl, mem, s3, i3, ⟨rb, tb⟩, fun ht => ?_⟩
    obtain ⟨_, c, a, b, _, ha, _⟩ := rt ht
    rw [hn] at ha
    cases ha
  | true =>
    obtain ⟨efs, hs, h10, hz⟩ := hfs rfl
    obtain ⟨g, D, rfl, v, hD, eD, hA, hex⟩ := atoms_facts hs
    have hseq := zs_seq h hL hz
    obtain ⟨g', l, hg, rfl, vs⟩ := nat_of_isSeq hseq
    have hgg : g = g' := by rw [← natsI_toNat g, hg, natsI_toNat]
    subst hgg
    have hP : InR (ordN g) (natsI l) ∧ totZ g (natsI l) = 0 := by
      refine ⟨fun x hx => ?_, ?_⟩
      · unfold natsI at hx
        obtain ⟨y, hy, rfl⟩ := List.mem_map.1 hx
        exact ⟨y, rfl, vs.each y hy⟩
      · unfold totZ
        rw [natsI_toNat]
        simp only [fBk, fBk_k, s_IsSequence_eq _ _ h hL, hseq, bo_some, BEq.rfl, br_true, s_l16Sum_eq vs.grp vs.each vs.lim, Option.some.injEq] at hz
        have : ((totN g l : Nat) : Int) = 0 := by simpa using hz
        omega
    have hmemA : ∀ f ∈ fs, ∀ a ∈ f, a ∈ atomsG (natsI g) := fun f hf a ha => by
      rw [efs] at hf
      exact (facS_perm hf).2 a ha
    have perm : ∀ f ∈ fs, f.flatten.Perm (natsI l) := fun f hf => by
      rw [efs] at hf
      exact (facS_perm hf).1
    refine ⟨fs, true, n, r, t, D, s1, i1, fun _ => ?_, hlen, each, small, perm, fun _ => hseq, s2, i2, nl, mem, s3, i3, ⟨rb, tb⟩, fun ht => ?_⟩
    · rw [efs]
      refine facS_ne (P := fun L => InR (ordN g) L ∧ totZ g L = 0) (fun a ha => ?_) (fun L hL h0 => hex L hL.1 h0 hL.2) (fun L a L' hL ha hm => ?_) 13 (natsI l) 0 (by omega) hP fun k hk => absurd hk (by omega)
      · exact (atoms_AT hs).1.pos a ha
      · have hp := minL_some hm
        refine ⟨fun x hx => hL.1 x (hp.mem_iff.1 (List.mem_append_right _ hx)), ?_⟩
        rw [← totZ_app (hA a ha).1, totZ_perm v.each hp]
        exact hL.2
    · obtain ⟨hrt, c, a, b, hc, ha, hb, ea, eb⟩ := rt ht
      refine ⟨hrt, hD, eD, ?_⟩
      obtain ⟨f1, hf1, e1⟩ := List.mem_map.1 ((nm a).1 ha)
      obtain ⟨f2, hf2, e2⟩ := List.mem_map.1 ((nm b).1 hb)
      have w1 := (weigh (m := max 2 D) (f := f1) fun x hx => ⟨(hA x (hmemA f1 hf1 x hx)).2.2.1, (hA x (hmemA f1 hf1 x hx)).2.2.2.1⟩).2
      have w2 := (weigh (m := max 2 D) (f := f2) fun x hx => ⟨(hA x (hmemA f2 hf2 x hx)).2.2.1, (hA x (hmemA f2 hf2 x hx)).2.2.2.1⟩).1
      have p1 := perm f1 hf1
      have p2 := perm f2 hf2
      rw [p1.length_eq, p1.count_eq, e1, ea, ← Nat.mul_assoc] at w1
      rw [p2.length_eq, p2.count_eq, e2, eb, ← Nat.mul_assoc] at w2
      exact Nat.le_of_mul_le_mul_right (Nat.le_trans w2 w1) hc
end Go.Proofs.YtlnhommmmajllaaGreat
