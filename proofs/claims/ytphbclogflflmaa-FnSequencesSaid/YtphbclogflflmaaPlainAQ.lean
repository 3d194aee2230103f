/-
  PlainAQ: sorted sequences and their sublists; the sums of parts by their length.
-/
import Derived.Test.YtphbclogflflmaaPlainT
set_option linter.unusedVariables false
set_option linter.unusedSimpArgs false
namespace Go.Proofs.Ytphbclogflflmaa
open Go Ev

/-- The sums of parts by their length are the sums of sublists. -/
theorem len_sub {g : List Nat} (v : VG g) : ∀ (l : List Nat), (∀ x ∈ l, x < ordN g) → ∀ k z, ((lenN g l k).testBit z = true ↔ ∃ s, s.Sublist l ∧ s.length = k ∧ totN g s = z) := by
  intro l
  refine rev_ind (P := fun l => (∀ x ∈ l, x < ordN g) → ∀ k z, ((lenN g l k).testBit z = true ↔ ∃ s, s.Sublist l ∧ s.length = k ∧ totN g s = z)) ?_ ?_ l
  · intro _ k z
    have e : lenN g [] k = len0 k := rfl
    rw [e]
    unfold len0
    by_cases hk : k = 0
    · rw [if_pos hk]
      constructor
      · intro h
        refine ⟨[], List.Sublist.refl _, hk.symm, ?_⟩
        have : z = 0 := by
          cases z with
          | zero => rfl
          | succ z => rw [Nat.testBit_succ] at h; simp at h
        rw [this]; rfl
      · rintro ⟨s, hs, _, hz⟩
        rw [List.sublist_nil.1 hs] at hz
        have e0 : totN g [] = 0 := rfl
        rw [← hz, e0]; decide
    · rw [if_neg hk]
      constructor
      · intro h; simp at h
      · rintro ⟨s, hs, hn, _⟩
        rw [List.sublist_nil.1 hs] at hn
        exact absurd hn.symm hk
  · intro l x ih hl k z
    have hl' : ∀ y ∈ l, y < ordN g := fun y hy => hl y (by simp [hy])
    have hx : x < ordN g := hl x (by simp)
    have split : ∀ s, s.Sublist (l ++ [x]) → s.Sublist l ∨ ∃ a, a.Sublist l ∧ s = a ++ [x] := by
      intro s hs
      obtain ⟨a, b, rfl, ha, hb⟩ := List.sublist_append_iff.1 hs
      have hb' : b = [] ∨ b = [x] := by
        cases hb with
        | cons _ h => exact .inl (List.sublist_nil.1 h)
        | cons_cons _ h => exact .inr (by rw [List.sublist_nil.1 h])
      rcases hb' with rfl | rfl
      · left; rwa [List.append_nil]
      · exact .inr ⟨a, ha, rfl⟩
    rw [lenN_snoc]
    unfold lenF
    by_cases hk : k = 0
    · subst hk
      rw [if_pos rfl, ih hl' 0 z]
      constructor
      · rintro ⟨s, h1, h2, h3⟩
        exact ⟨s, h1.trans (List.sublist_append_left _ _), h2, h3⟩
      · rintro ⟨s, h1, h2, h3⟩
        have : s = [] := List.length_eq_zero_iff.1 h2
        subst this
        exact ⟨[], List.nil_sublist _, rfl, h3⟩
    · rw [if_neg hk, Nat.testBit_or, Bool.or_eq_true, shiftN_test, List.any_eq_true, ih hl' k z]
      have hlt : lenN g l (k - 1) < 2 ^ ordN g := lenN_lt v l (k - 1)
      constructor
      · rintro (⟨s, h1, h2, h3⟩ | ⟨y, hy, hz⟩)
        · exact ⟨s, h1.trans (List.sublist_append_left _ _), h2, h3⟩
        · rw [mem_elems (set_i64 v hlt)] at hy
          obtain ⟨s, h1, h2, h3⟩ := (ih hl' (k - 1) y).1 hy
          refine ⟨s ++ [x], h1.append (List.Sublist.refl _), by rw [List.length_append, List.length_singleton]; omega, ?_⟩
          rw [totN_snoc, h3, addN_comm]
          exact of_decide_eq_true hz
      · rintro ⟨s, h1, h2, h3⟩
        rcases split s h1 with h | ⟨a, ha, rfl⟩
        · exact .inl ⟨s, h, h2, h3⟩
        · rw [List.length_append, List.length_singleton] at h2
          refine .inr ⟨totN g a, (mem_elems (set_i64 v hlt)).2 ((ih hl' (k - 1) _).2 ⟨a, ha, by omega, rfl⟩), decide_eq_true ?_⟩
          rw [← h3, totN_snoc, addN_comm]

theorem natsI_inj : ∀ {a b : List Nat}, natsI a = natsI b → a = b := by
  intro a
  induction a with
  | nil => intro b e; cases b with
    | nil => rfl
    | cons y b => cases e
  | cons x a ih => intro b e; cases b with
    | nil => cases e
    | cons y b =>
      simp only [natsI, List.map_cons, List.cons.injEq] at e
      rw [Int.ofNat.inj e.1, ih e.2]
theorem VS_of {g l : List Nat} (hs : isSeq (natsI g) (natsI l) = true) : VS g l := by
  obtain ⟨g', l', e1, e2, v⟩ := nat_of_isSeq hs
  have inj : ∀ {a b : List Nat}, natsI a = natsI b → a = b := by
    intro a
    induction a with
    | nil => intro b e; cases b with
      | nil => rfl
      | cons y b => cases e
    | cons x a ih => intro b e; cases b with
      | nil => cases e
      | cons y b =>
        simp only [natsI, List.map_cons, List.cons.injEq] at e
        rw [Int.ofNat.inj e.1, ih e.2]
  rw [inj e1, inj e2]
  exact v
theorem i_IsZeroFree_eq {g l : List Nat} (hs : isSeq (natsI g) (natsI l) = true) : f_i_IsZeroFree (ints (natsI g)) (ints (natsI l)) = some (!(subsN g l).testBit 0) := by
  have v := VS_of hs
  obtain ⟨z1, hb⟩ := i_subsums_eq v.grp v.each v.lim
  have hb' : subsN g l < 9223372036854775808 := Nat.lt_trans (pow24 v.grp hb) (by decide)
  have z3 := i_in_eq (a := subsN g l) (k := 0) hb'
  rw [show ((0 : Nat) : Int) = 0 from rfl] at z3
  simp only [f_i_IsZeroFree, f_i_IsZeroFree_k, i_IsSequence_eq _ _ v.grp.lim (show (natsI l).length ≤ lim by rw [natsI_length]; exact v.lim), hs, bo_some, z1, z3]
  rfl
/-! ### Sorted -/
def AscF : Nat → List Nat → Prop
  | _, [] => True
  | a, x :: l => a ≤ x ∧ AscF x l
theorem AscF_snoc : ∀ (l : List Nat) (a x : Nat), AscF a l → l.getLastD a ≤ x → AscF a (l ++ [x])
  | [], a, x, _, h => ⟨h, trivial⟩
  | y :: l, a, x, h1, h2 => ⟨h1.1, AscF_snoc l y x h1.2 (by rwa [List.getLastD_cons] at h2)⟩
theorem Asc_at : ∀ (l : List Nat) (a : Nat), AscF a l → ∀ k, k < l.length → (if k = 0 then a else l.getD (k - 1) 0) ≤ l.getD k 0
  | x :: l, a, h, 0, _ => by simpa using h.1
  | x :: l, a, h, k + 1, hk => by
    have := Asc_at l x h.2 k (by simpa using hk)
    rw [if_neg (by omega), Nat.add_sub_cancel]
    cases k with
    | zero => simpa using this
    | succ k =>
      rw [if_neg (by omega), Nat.add_sub_cancel] at this
      simpa using this
theorem seq_of_asc {g l : List Nat} (v : VG g) (hl : ∀ x ∈ l, x < ordN g) (h12 : l.length ≤ 12) (ha : AscF 0 l) : isSeq (natsI g) (natsI l) = true := by
  unfold isSeq
  rw [Bool.and_eq_true, Bool.and_eq_true, Bool.and_eq_true, v.isG, natsI_length]
  refine ⟨?_, rfl, decide_eq_true h12, ?_⟩
  · rw [Bool.not_eq_true', List.any_eq_false]
    intro x hx
    obtain ⟨n, hn, rfl⟩ := List.mem_map.1 hx
    have := (v.has (n : Int)).2 ⟨n, rfl, hl n hn⟩
    simp [this]
  · unfold sortedB
    rw [Bool.not_eq_true', List.any_eq_false]
    intro k hk
    have hk : k < l.length := by rw [natsI_length] at hk; exact List.mem_range.1 hk
    have := Asc_at l 0 ha k hk
    unfold downAt
    rw [natsI_getD, natsI_getD]
    by_cases h0 : k = 0
    · subst h0; simp
    · rw [if_neg h0] at this
      have hd : decide (((l.getD k 0 : Nat) : Int) < ((l.getD (k - 1) 0 : Nat) : Int)) = false := decide_eq_false (by omega)
      rw [hd, Bool.and_false]
      simp
/-! ### Sorted sequences -/
theorem asc_of_at : ∀ (l : List Nat) (a : Nat), (∀ k, k < l.length → (if k = 0 then a else l.getD (k - 1) 0) ≤ l.getD k 0) → AscF a l
  | [], _, _ => trivial
  | x :: l, a, h => by
    refine ⟨by simpa using h 0 (by simp), asc_of_at l x fun k hk => ?_⟩
    have := h (k + 1) (by simpa using hk)
    rw [if_neg (by omega), Nat.add_sub_cancel] at this
    cases k with
    | zero => simpa using this
    | succ k => rw [if_neg (by omega), Nat.add_sub_cancel]; simpa using this
theorem asc_of_seq {G : List Int} {l : List Nat} (hs : isSeq G (natsI l) = true) : AscF 0 l := by
  unfold isSeq at hs
  simp only [Bool.and_eq_true] at hs
  have hb := hs.2.2.2
  unfold sortedB at hb
  rw [Bool.not_eq_true', List.any_eq_false] at hb
  refine asc_of_at l 0 fun k hk => ?_
  by_cases h0 : k = 0
  · rw [if_pos h0]; exact Nat.zero_le _
  · rw [if_neg h0]
    have := hb k (List.mem_range.2 (by rw [natsI_length]; exact hk))
    unfold downAt at this
    rw [natsI_getD, natsI_getD, decide_eq_true (show k > 0 by omega), Bool.true_and, decide_eq_true_eq] at this
    omega
theorem asc_weak : ∀ (l : List Nat) (a b : Nat), a ≤ b → AscF b l → AscF a l
  | [], _, _, _, _ => trivial
  | x :: l, a, b, h, hl => ⟨Nat.le_trans h hl.1, hl.2⟩
theorem asc_sub {s l : List Nat} (h : s.Sublist l) : ∀ a, AscF a l → AscF a s := by
  induction h with
  | slnil => intro a h; exact h
  | cons x _ ih => intro a h; exact ih a (asc_weak _ a x h.1 h.2)
  | cons_cons x _ ih => intro a h; exact ⟨h.1, ih x h.2⟩
theorem seq_sub {g l s : List Nat} (v : VS g l) (hs : isSeq (natsI g) (natsI l) = true) (h : s.Sublist l) : isSeq (natsI g) (natsI s) = true :=
  seq_of_asc v.grp (fun x hx => v.each x (h.subset hx)) (Nat.le_trans h.length_le v.len) (asc_sub h 0 (asc_of_seq hs))
theorem vs_sub {g l s : List Nat} (v : VS g l) (h : s.Sublist l) : VS g s := ⟨v.grp, fun x hx => v.each x (h.subset hx), Nat.le_trans h.length_le v.len⟩
theorem i_IsZeroSum_eq {g l : List Nat} (v : VS g l) (hs : isSeq (natsI g) (natsI l) = true) : f_i_IsZeroSum (ints (natsI g)) (ints (natsI l)) = some (decide (totN g l = 0)) := by
  simp only [f_i_IsZeroSum, f_i_IsZeroSum_k, i_IsSequence_eq _ _ v.grp.lim (show (natsI l).length ≤ lim by rw [natsI_length]; exact v.lim), hs, bo_some, BEq.rfl, br_true, i_total_eq v.grp v.each v.lim, zero_dec]
end Go.Proofs.Ytphbclogflflmaa
