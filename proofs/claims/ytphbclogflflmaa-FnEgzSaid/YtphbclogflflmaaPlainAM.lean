/-
  PlainAM: sums of sublists by their length; among 2n - 1 integers there are n with a sum that n divides (n at most 6).
-/
import Derived.Test.YtphbclogflflmaaPlainT
import Derived.Test.YtphbclogflflmaaPlainAD
set_option linter.unusedVariables false
set_option linter.unusedSimpArgs false
namespace Go.Proofs.Ytphbclogflflmaa
open Go Ev

/-- The sums of parts by their length are the sums of sublists. -/
theorem len_sub {g : List Nat} (v : VG g) : ∀ (l : List Nat), (∀ x ∈ l, x < ordN g) → ∀ k z, ((lenN g l k).testBit z = true ↔ ∃ s, s.Sublist l ∧ s.length = k ∧ totN g s = z) := by
  intro l
  refine rev_ind (P := fun l => (∀ x ∈ l, x < ordN g) → ∀ k z, ((lenN g l k).testBit z = true ↔ ∃ s, s.Sublist l ∧ s.length = k ∧ totN g s = z)) ?_ ?_ l
  · intro _ k z
    have e : lenN g [] k = len0 k := rfl
    rw [e]
    unfold len0
    by_cases hk : k = 0
    · rw [if_pos hk]
      constructor
      · intro h
        refine ⟨[], List.Sublist.refl _, hk.symm, ?_⟩
        have : z = 0 := by
          cases z with
          | zero => rfl
          | succ z => rw [Nat.testBit_succ] at h; simp at h
        rw [this]; rfl
      · rintro ⟨s, hs, _, hz⟩
        rw [List.sublist_nil.1 hs] at hz
        have e0 : totN g [] = 0 := rfl
        rw [← hz, e0]; decide
    · rw [if_neg hk]
      constructor
      · intro h; simp at h
      · rintro ⟨s, hs, hn, _⟩
        rw [List.sublist_nil.1 hs] at hn
        exact absurd hn.symm hk
  · intro l x ih hl k z
    have hl' : ∀ y ∈ l, y < ordN g := fun y hy => hl y (by simp [hy])
    have hx : x < ordN g := hl x (by simp)
    have split : ∀ s, s.Sublist (l ++ [x]) → s.Sublist l ∨ ∃ a, a.Sublist l ∧ s = a ++ [x] := by
      intro s hs
      obtain ⟨a, b, rfl, ha, hb⟩ := List.sublist_append_iff.1 hs
      have hb' : b = [] ∨ b = [x] := by
        cases hb with
        | cons _ h => exact .inl (List.sublist_nil.1 h)
        | cons_cons _ h => exact .inr (by rw [List.sublist_nil.1 h])
      rcases hb' with rfl | rfl
      · left; rwa [List.append_nil]
      · exact .inr ⟨a, ha, rfl⟩
    rw [lenN_snoc]
    unfold lenF
    by_cases hk : k = 0
    · subst hk
      rw [if_pos rfl, ih hl' 0 z]
      constructor
      · rintro ⟨s, h1, h2, h3⟩
        exact ⟨s, h1.trans (List.sublist_append_left _ _), h2, h3⟩
      · rintro ⟨s, h1, h2, h3⟩
        have : s = [] := List.length_eq_zero_iff.1 h2
        subst this
        exact ⟨[], List.nil_sublist _, rfl, h3⟩
    · rw [if_neg hk, Nat.testBit_or, Bool.or_eq_true, shiftN_test, List.any_eq_true, ih hl' k z]
      have hlt : lenN g l (k - 1) < 2 ^ ordN g := lenN_lt v l (k - 1)
      constructor
      · rintro (⟨s, h1, h2, h3⟩ | ⟨y, hy, hz⟩)
        · exact ⟨s, h1.trans (List.sublist_append_left _ _), h2, h3⟩
        · rw [mem_elems (set_i64 v hlt)] at hy
          obtain ⟨s, h1, h2, h3⟩ := (ih hl' (k - 1) y).1 hy
          refine ⟨s ++ [x], h1.append (List.Sublist.refl _), by rw [List.length_append, List.length_singleton]; omega, ?_⟩
          rw [totN_snoc, h3, addN_comm]
          exact of_decide_eq_true hz
      · rintro ⟨s, h1, h2, h3⟩
        rcases split s h1 with h | ⟨a, ha, rfl⟩
        · exact .inl ⟨s, h, h2, h3⟩
        · rw [List.length_append, List.length_singleton] at h2
          refine .inr ⟨totN g a, (mem_elems (set_i64 v hlt)).2 ((ih hl' (k - 1) _).2 ⟨a, ha, by omega, rfl⟩), decide_eq_true ?_⟩
          rw [← h3, totN_snoc, addN_comm]

/-! ### Integers by their rests -/
theorem sum_perm {a b : List Int} (h : a.Perm b) : a.sum = b.sum := by
  induction h with
  | nil => rfl
  | cons x _ ih => rw [List.sum_cons, List.sum_cons, ih]
  | swap x y l => rw [List.sum_cons, List.sum_cons, List.sum_cons, List.sum_cons]; omega
  | trans _ _ h1 h2 => rw [h1, h2]
theorem perm_sub {α : Type} {l l' : List α} (h : l.Perm l') : ∀ s : List α, s.Sublist l → ∃ t : List α, t.Perm s ∧ t.Sublist l' := by
  induction h with
  | nil => intro s hs; exact ⟨s, List.Perm.refl _, hs⟩
  | cons x _ ih =>
    intro s hs
    cases hs with
    | cons _ h => obtain ⟨t, p, q⟩ := ih _ h; exact ⟨t, p, q.cons _⟩
    | cons_cons _ h => obtain ⟨t, p, q⟩ := ih _ h; exact ⟨x :: t, p.cons _, q.cons_cons _⟩
  | swap x y l =>
    intro s hs
    cases hs with
    | cons _ h =>
      cases h with
      | cons _ h => exact ⟨s, List.Perm.refl _, (h.cons _).cons _⟩
      | cons_cons _ h => exact ⟨_, List.Perm.refl _, (h.cons _).cons_cons _⟩
    | cons_cons _ h =>
      cases h with
      | cons _ h => exact ⟨_, List.Perm.refl _, (h.cons_cons _).cons _⟩
      | cons_cons _ h => exact ⟨_, List.Perm.swap _ _ _, (h.cons_cons _).cons_cons _⟩
  | trans _ _ h1 h2 =>
    intro s hs
    obtain ⟨t, p, q⟩ := h1 s hs
    obtain ⟨u, p2, q2⟩ := h2 t q
    exact ⟨u, p2.trans p, q2⟩
def restN (p : Nat) (x : Int) : Nat := (x % (p : Int)).toNat
theorem restN_cast {p : Nat} (hp : 1 ≤ p) (x : Int) : ((restN p x : Nat) : Int) = x % (p : Int) := Int.toNat_of_nonneg (Int.emod_nonneg _ (by omega))
theorem restN_lt {p : Nat} (hp : 1 ≤ p) (x : Int) : restN p x < p := by
  have := restN_cast hp x
  have h2 := Int.emod_lt_of_pos x (show (0 : Int) < p by omega)
  omega
theorem rest_add {p : Nat} (hp : 1 ≤ p) (x y : Int) : addN [p] (restN p x) (restN p y) = restN p (x + y) := by
  have h1 := restN_cast hp x
  have h2 := restN_cast hp y
  have h3 := restN_cast hp (x + y)
  have e : addN [p] (restN p x) (restN p y) = (restN p x % p + restN p y % p) % p + p * 0 := rfl
  rw [e, Nat.mul_zero, Nat.add_zero, ← Nat.add_mod]
  have : (((restN p x + restN p y) % p : Nat) : Int) = ((restN p (x + y) : Nat) : Int) := by
    rw [Int.natCast_emod, Int.natCast_add, h1, h2, h3, ← Int.add_emod]
  omega
theorem rest_tot {p : Nat} (hp : 1 ≤ p) : ∀ (t : List Int) (s : Int), (t.map (restN p)).foldl (addN [p]) (restN p s) = restN p (s + t.sum)
  | [], s => by simp
  | x :: t, s => by rw [List.map_cons, List.foldl_cons, rest_add hp, rest_tot hp t, List.sum_cons, Int.add_assoc]
theorem tot_rest {p : Nat} (hp : 1 ≤ p) (t : List Int) : totN [p] (t.map (restN p)) = restN p t.sum := by
  have := rest_tot hp t 0
  have e : restN p 0 = 0 := by simp [restN]
  rw [e, Int.zero_add] at this
  exact this
theorem asc_of_pairwise : ∀ (l : List Nat) (a : Nat), (∀ x ∈ l, a ≤ x) → l.Pairwise (· ≤ ·) → AscF a l
  | [], _, _, _ => trivial
  | x :: l, a, h1, h2 => by
    obtain ⟨h3, h4⟩ := List.pairwise_cons.1 h2
    exact ⟨h1 x (by simp), asc_of_pairwise l x h3 h4⟩
def chkE (p : Nat) : Bool := chkQ [p] p (2 * p - 1) (rowZ p) 0 && (List.range (2 ^ p)).all fun a => (List.range p).all fun x => Nat.beq (shQ [p] a x) (shiftN [p] a x)
set_option maxRecDepth 100000 in
theorem chkE_all : ([2, 3, 4, 5, 6].all chkE) = true := by decide +kernel
/-- Among 2n - 1 integers there are n with a sum that n divides. -/
theorem egz {p : Nat} (h1 : 1 ≤ p) (h6 : p ≤ 6) (L : List Int) (hL : 2 * p - 1 ≤ L.length) : ∃ t : List Int, t.Sublist L ∧ t.length = p ∧ t.sum % (p : Int) = 0 := by
  by_cases hp1 : p = 1
  · subst hp1
    cases L with
    | nil => simp at hL
    | cons x L => exact ⟨[x], (List.nil_sublist _).cons_cons _, rfl, by omega⟩
  · have v : VG [p] := ⟨by rw [List.length_singleton]; decide, by intro n hn; rw [List.mem_singleton.1 hn]; omega, by simp only [ordN]; omega⟩
    have ho : ordN [p] = p := by simp only [ordN]; omega
    have hc : chkE p = true := by
      refine List.all_eq_true.1 chkE_all p ?_
      have : p = 2 ∨ p = 3 ∨ p = 4 ∨ p = 5 ∨ p = 6 := by omega
      rcases this with rfl | rfl | rfl | rfl | rfl <;> simp
    unfold chkE at hc
    rw [Bool.and_eq_true] at hc
    obtain ⟨c1, c2⟩ := hc
    have hsh : ∀ a, a < 2 ^ ordN [p] → ∀ x, x < ordN [p] → shQ [p] a x = shiftN [p] a x := fun a ha x hx => by
      rw [ho] at ha hx
      exact Nat.eq_of_beq_eq_true (List.all_eq_true.1 (List.all_eq_true.1 c2 a (List.mem_range.2 ha)) x (List.mem_range.2 hx))
    let T := L.take (2 * p - 1)
    let M := T.mergeSort (fun a b => decide (restN p a ≤ restN p b))
    have hM : M.Perm T := List.mergeSort_perm _ _
    have hMs : (M.map (restN p)).Pairwise (· ≤ ·) := by
      rw [List.pairwise_map]
      exact (List.pairwise_mergeSort (fun a b c h1 h2 => by simp only [decide_eq_true_eq] at *; omega) (fun a b => by simp only [Bool.or_eq_true, decide_eq_true_eq]; omega) T).imp fun h => of_decide_eq_true h
    have hTl : T.length = 2 * p - 1 := by show (L.take (2 * p - 1)).length = _; rw [List.length_take]; omega
    have hlt : ∀ x ∈ M.map (restN p), x < ordN [p] := by
      intro x hx
      obtain ⟨y, _, rfl⟩ := List.mem_map.1 hx
      rw [ho]
      exact restN_lt h1 y
    rw [rowZ_eq [p] p] at c1
    have := chk_long v (e := p) h1 hsh (2 * p - 1) 0 [] (M.map (restN p)) (by rw [ho]; exact c1) hlt (asc_of_pairwise _ 0 (fun _ _ => Nat.zero_le _) hMs) (by rw [List.length_map, hM.length_eq, hTl])
    rw [List.nil_append] at this
    obtain ⟨s, hs, hsl, hst⟩ := (len_sub v _ hlt p 0).1 this
    obtain ⟨t, ht, rfl⟩ := List.sublist_map_iff.1 hs
    obtain ⟨u, hu, hus⟩ := perm_sub hM t ht
    rw [List.length_map] at hsl
    rw [tot_rest h1] at hst
    refine ⟨u, hus.trans (List.take_sublist _ _), by rw [hu.length_eq, hsl], ?_⟩
    rw [sum_perm hu, ← restN_cast h1, hst]
    rfl
/-! ### The parts by code -/
theorem subL_addI (l : List Int) (c n : Nat) : subL l (2 ^ n + c) n = subL l c n := by
  unfold subL
  congr 1
  refine List.filter_congr fun i hi => ?_
  rw [Nat.testBit_two_pow_add_gt (List.mem_range.1 hi)]
theorem take_snocI (l : List Int) {k : Nat} (h : k < l.length) : l.take (k + 1) = l.take k ++ [l.getD k 0] := by
  rw [List.take_succ_eq_append_getElem h]
  simp [List.getD, List.getElem?_eq_getElem h]
theorem sub_takeI (l : List Int) : ∀ n, n ≤ l.length → ∀ s, s.Sublist (l.take n) → ∃ c, c < 2 ^ n ∧ subL l c n = s
  | 0, _, s, h => ⟨0, by simp, by rw [List.take_zero] at h; rw [List.sublist_nil.1 h]; simp [subL]⟩
  | n + 1, hn, s, h => by
    rw [take_snocI l (by omega)] at h
    obtain ⟨a, b, rfl, ha, hb⟩ := List.sublist_append_iff.1 h
    obtain ⟨c, hc, he⟩ := sub_takeI l n (by omega) a ha
    have hb' : b = [] ∨ b = [l.getD n 0] := by
      cases hb with
      | cons _ h => exact .inl (List.sublist_nil.1 h)
      | cons_cons _ h => exact .inr (by rw [List.sublist_nil.1 h])
    rcases hb' with rfl | rfl
    · refine ⟨c, by rw [Nat.pow_succ]; omega, ?_⟩
      rw [subL_succ, if_neg (by rw [Nat.testBit_lt_two_pow hc]; simp), he, List.append_nil]
    · refine ⟨2 ^ n + c, by rw [Nat.pow_succ]; omega, ?_⟩
      rw [subL_succ, if_pos (by rw [Nat.testBit_two_pow_add_eq, Nat.testBit_lt_two_pow hc]; rfl), subL_addI, he]
theorem sub_codeI (l s : List Int) (h : s.Sublist l) : ∃ c, c < 2 ^ l.length ∧ subL l c l.length = s := sub_takeI l l.length (Nat.le_refl _) s (by rwa [List.take_length])
theorem sumL_in (A : List Int) : ∀ (s B : Int), B = 1000000 → (∀ x ∈ A, -B ≤ x ∧ x ≤ B) → A.length ≤ 12 → -1000000000 + B * (A.length : Int) ≤ s → s ≤ 1000000000 - B * (A.length : Int) → A.foldl (fun s x => w64 (s + x)) s = s + A.sum := by
  induction A with
  | nil => intro s B _ _ _ _ _; simp
  | cons x A ih =>
    intro s B hB h hl h1 h2
    have hx := h x (by simp)
    have hl' : A.length + 1 ≤ 12 := hl
    have e0 : ((x :: A).length : Int) = (A.length : Int) + 1 := by rw [List.length_cons]; rfl
    rw [e0, hB] at h1 h2
    rw [hB] at hx
    have e1 : w64 (s + x) = s + x := w64_in (by omega) (by omega)
    have e2 := ih (s + x) B hB (fun y hy => h y (by simp [hy])) (by omega) (by rw [hB]; omega) (by rw [hB]; omega)
    rw [List.foldl_cons, e1, e2, List.sum_cons, Int.add_assoc]
end Go.Proofs.Ytphbclogflflmaa
